/- Parts of the proof of SweepLess: lemmas, each with its own conditions. -/
import Derived.Lib.AtoiTie
import Derived.Lib.RowBridge
import Derived.Test.YtpmfecnajoojeaaGreatDoorY6
import Derived.Test.YtpmfecnajoojeaaGreatDoorY5
set_option maxHeartbeats 64000000
open List renaming length_cons → q7Z, length_nil → q8Z, cons_append → q9Z, nil_append → qaZ, replicate → qbZ, length_append → qdZ, length_drop → qkZ, length_map → r7Z, nodup_cons → rdZ
open Nat renaming le_refl → qnZ, zero_le → qqZ
open Bool renaming and_eq_true → qrZ, false_eq_true → qsZ
open Int renaming tmod_eq_emod_of_nonneg → rrZ
namespace Go.Proofs.YtpmfecnajoojeaaGreatDoor
open _root_.Go.Proofs.Tryz renaming prog → Pz
set_option maxRecDepth 100000
section
open Go
mutual
def awB(rn:List Nat):AV→AV→Bool
 | .top,_=>true
 | .bool b,.bool b'=>b==b'
 | .int k n,.int k' n'=>k==k'&&n==n'
 | .str s,.str s'=>s==s'
 | .ptr b o,.ptr b' o'=>rn[b]? == some b'&&o==o'
 | .nilp,.nilp=>true
 | .slice b o l sz c,.slice b' o' l' sz' c'=>rn[b]? == some b'&&(o==o'&&(l==l'&&(sz==sz'&&(!c || c'))))
 | .sl b o l sz c,.slice b' o' l' sz' c'=>rn[b]? == some b'&&(o==o'&&(l==l'&&(sz==sz'&&(!c || c'))))
 | .sl b o l sz c,.sl b' o' l' sz' c'=>rn[b]? == some b'&&(o==o'&&(l==l'&&(sz==sz'&&(!c || c'))))
 | .sl _ _ l _ _,.nils=>l==0
 | .nils,.nils=>true
 | .map b,.map b'=>rn[b]? == some b'
 | .nilm,.nilm=>true
 | .func f xs ys,.func f' xs' ys'=>f==f'&&(awsB rn xs xs'&&awsB rn ys ys')
 | .yld b,.yld b'=>rn[b]? == some b'
 | .nilf,.nilf=>true
 | .agg l,.agg l'=>awsB rn l l'
 | .tuple l,.tuple l'=>awsB rn l l'
 | _,_=>false
def awsB(rn:List Nat):List AV→List AV→Bool
 | [],[]=>true
 | x::xs,y::ys=>awB rn x y&&awsB rn xs ys
 | _,_=>false
end
mutual
theorem awB_ok{rn:List Nat}:∀(x y:AV),awB rn x y=true→AW rn x y
 | .top,_,_=>by simp[AW]
 | .bool b,y,h=>by cases y <;> simp_all [awB,AW]
 | .int k n,y,h=>by cases y <;> simp_all [awB,AW]
 | .str s,y,h=>by cases y <;> simp_all [awB,AW]
 | .ptr b o,y,h=>by cases y <;> simp_all [awB,AW]
 | .nilp,y,h=>by cases y <;> simp_all [awB,AW]
 | .slice b o l sz c,y,h=>by
   cases y <;> simp only[awB,qsZ,qrZ,beq_iff_eq,Bool.or_eq_true,Bool.not_eq_true']at h
   simp only[AW];obtain⟨h1,h2,h3,h4,h5⟩:=h
   exact⟨h1,h2,h3,h4,fun hc=>by rcases h5 with h5 | h5 <;> simp_all⟩
 | .sl b o l sz c,y,h=>by
   cases y <;> simp only[awB,qsZ,qrZ,beq_iff_eq,Bool.or_eq_true,Bool.not_eq_true']at h
   · simp only[AW]
     obtain⟨h1,h2,h3,h4,h5⟩:=h
     exact⟨h1,h2,h3,h4,fun hc=>by rcases h5 with h5 | h5 <;> simp_all⟩
   · simp only[AW]
     obtain⟨h1,h2,h3,h4,h5⟩:=h
     exact⟨h1,h2,h3,h4,fun hc=>by rcases h5 with h5 | h5 <;> simp_all⟩
   · simpa only[AW] using h
 | .nils,y,h=>by cases y <;> simp_all [awB,AW]
 | .map b,y,h=>by cases y <;> simp_all [awB,AW]
 | .nilm,y,h=>by cases y <;> simp_all [awB,AW]
 | .func f xs ys,y,h=>by
   cases y <;> simp only[awB,qsZ,qrZ,beq_iff_eq]at h
   simp only[AW];exact⟨h.1,awsB_ok _ _ h.2.1,awsB_ok _ _ h.2.2⟩
 | .yld b,y,h=>by cases y <;> simp_all [awB,AW]
 | .nilf,y,h=>by cases y <;> simp_all [awB,AW]
 | .agg l,y,h=>by
   cases y <;> simp only[awB,qsZ]at h
   simp only[AW];exact awsB_ok _ _ h
 | .tuple l,y,h=>by
   cases y <;> simp only[awB,qsZ]at h
   simp only[AW];exact awsB_ok _ _ h
theorem awsB_ok{rn:List Nat}:∀(xs ys:List AV),awsB rn xs ys=true→AWs rn xs ys
 | [],ys,h=>by cases ys <;> simp_all [awsB,AWs]
 | x::xs,ys,h=>by
   cases ys <;> simp only[awsB,qsZ,qrZ]at h
   simp only[AWs];exact⟨awB_ok _ _ h.1,awsB_ok _ _ h.2⟩
end
def ablB(rn:List Nat):ABlk→ABlk→Bool
 | .dead,_=>true
 | .cells o l,.cells o' l'=>(!o || o')&&awsB rn l l'
 | .map es,.map es'=>awsB rn (es.map (·.1)) (es'.map (·.1))&&awsB rn (es.map (·.2)) (es'.map (·.2))
 | .pin l,.pin l'=>awsB rn l l'
 | _,_=>false
theorem ablB_ok{rn:List Nat}{x y:ABlk}(h:ablB rn x y=true):AWb rn x y:=by
 cases x <;> cases y <;> simp only[ablB,qsZ,qrZ,Bool.or_eq_true,Bool.not_eq_true']at h
 all_goals simp only[AWb]
 · exact⟨fun ho=>by rcases h.1 with h1 | h1 <;> simp_all,awsB_ok _ _ h.2⟩
 · exact⟨awsB_ok _ _ h.1,awsB_ok _ _ h.2⟩
 · exact awsB_ok _ _ h
def awgB(rn:List Nat)(H:AHeap):AHeap→List Nat→Bool
 | [],[]=>true
 | x::xs,b::bs=>(if b<H.length then ablB rn x (H.getD b .dead) else true)&&awgB rn H xs bs
 | _,_=>false
theorem awgB_ok{rn:List Nat}{H:AHeap}:∀{xs:AHeap} {bs:List Nat},awgB rn H xs bs=true→AWg rn H xs bs
 | [],bs,h=>by cases bs <;> simp_all [awgB,AWg]
 | x::xs,bs,h=>by
   cases bs <;> simp only[awgB,qsZ,qrZ]at h
   simp only[AWg];refine ⟨?_,awgB_ok h.2⟩;split
   · rename_i hb
     have h1:=h.1;rw[if_pos hb]at h1;exact ablB_ok h1
   · trivial
def dupB:List Nat→Bool
 | []=>true
 | x::l=>!l.contains x&&dupB l
theorem dupB_ok:∀{l:List Nat},dupB l=true→l.Nodup
 | [],_=>by simp
 | x::l,h=>by
   simp only[dupB,qrZ,Bool.not_eq_true',List.contains_eq_mem,decide_eq_false_iff_not]at h;exact rdZ.2 ⟨h.1,dupB_ok h.2⟩
def weakB(n:Nat)(rn:List Nat)(F:List AV)(H:AHeap)(Fn:List AV)(Hn:AHeap):Bool :=
 dupB rn&&(rn.take n==List.range n&&(awsB rn Fn F&&awgB rn H Hn rn))
theorem weakB_ok{n:Nat}{rn:List Nat}{F Fn:List AV}{H Hn:AHeap}(h:weakB n rn F H Fn Hn=true):Weak n F H Fn Hn:=by
 simp only[weakB,qrZ,beq_iff_eq]at h;exact Weak.mk' rn (dupB_ok h.1) h.2.1 (awsB_ok _ _ h.2.2.1) (awgB_ok h.2.2.2)
def kretB(P:Program)(rs:List ResultVar)(r:ARes):Bool :=
 match r with
 | some (.ret,F',H')=>(match resA P rs F' H' with | some (.bool true)=>true | _=>false)
 | some (.normal,F',H')=>(match resA P rs F' H' with | some (.bool true)=>true | _=>false)
 | _=>false
theorem Sim.kret{P:Program}{Γ:Gam}(hm:P.follows .mixedOrders=true)(hΓ:GOk P Γ){n:Nat}{c:Code}{F:List AV}{H:AHeap}{rs:List ResultVar}(h:kretB P rs (acodeK P Γ n true c F H)=true) :
   Sim P none ([]:AHeap).length c F H fun x F1 H1=>(x=.normal∨x=.ret)∧∃v1,resA P rs F1 H1=some v1∧Weak ([]:AHeap).length [v1] H1 [.bool true] []:=by
 have key:∀x F' H',acodeK P Γ n true c F H=some (x,F',H')→(x=.normal∨x=.ret)→resA P rs F' H'=some (.bool true)→Sim P none ([]:AHeap).length c F H fun x F1 H1=>(x=.normal∨x=.ret)∧∃v1,resA P rs F1 H1=some v1∧Weak ([]:AHeap).length [v1] H1 [.bool true] []:=by
   intro x F' H' h1 h2 h3
   refine ((acodeK_ok hm hΓ none n true (fun _=>rfl) c F F' H H' x h1).len (qqZ _)).mono ?_
   rintro x1 F1 H1 _ ⟨rfl,rfl,rfl⟩
   exact⟨h2,_,h3,Weak.mk' [] (by decide) rfl (by simp[AWs,AW]) (by simp[AWg])⟩
 unfold kretB at h;split at h
 · rename_i F' H' h1
   split at h
   · rename_i h2;exact key _ _ _ h1 (.inr rfl) h2
   · cases h
 · rename_i F' H' h1
   split at h
   · rename_i h2;exact key _ _ _ h1 (.inl rfl) h2
   · cases h
 · cases h
def acodeN(P:Program)(Γ:Gam)(n:Nat)(q:Bool):Nat→Code→List AV→AHeap→Option (List AV×AHeap)
 | 0,_,F,H=>some (F,H)
 | k+1,.seq x y,F,H=>match acodeK P Γ n q x F H with
   | some (.normal,F',H')=>acodeN P Γ n q k y F' H'
   | _=>none
 | _+1,_,_,_=>none
theorem acodeN_sim{P:Program}{Γ:Gam}(hm:P.follows .mixedOrders=true)(hΓ:GOk P Γ){r:Option Nat}{n0 n:Nat}{Q:AX→List AV→AHeap→Prop}:∀(k:Nat) (c:Code) (F F':List AV) (H H':AHeap),acodeN P Γ n r.isNone k c F H=some (F',H')→n0≤H.length →
   (n0≤H'.length→Sim P r n0 (restC k c) F' H' Q)→Sim P r n0 c F H Q
 | 0,c,F,F',H,H',h,hn,hk=>by
   cases h;exact hk hn
 | k+1,c,F,F',H,H',h,hn,hk=>by
   cases c with
   | seq x y =>
     simp only[acodeN]at h;split at h
     · rename_i F1 H1 h1
       have hr:r.isNone=true→r=none:=by intro e;cases r <;> simp_all
       refine Sim.seq (((acodeK_ok hm hΓ r n r.isNone hr x F F1 H H1 .normal h1).len hn).mono ?_);rintro x1 F2 H2 hl ⟨rfl,rfl,rfl⟩;exact acodeN_sim hm hΓ k y _ F' _ H' h hl hk
     · cases h
   | _=>simp[acodeN]at h
def kendN(n:Nat)(rn:List Nat)(r:Option (List AV×AHeap))(Fn:List AV)(Hn:AHeap):Bool :=
 match r with
 | some (F',H')=>weakB n rn F' H' Fn Hn
 | none=>false
theorem Sim.kmany{P:Program}{Γ:Gam}(hm:P.follows .mixedOrders=true)(hΓ:GOk P Γ){r:Option Nat}{n0 n:Nat}{c:Code}{F Fn:List AV}{H Hn:AHeap}{Q:AX→List AV→AHeap→Prop}(k:Nat)(rn:List Nat)(h:kendN n0 rn (acodeN P Γ n r.isNone k c F H) Fn Hn=true)(hn:n0≤H.length)
   (kk:Sim P r n0 (restC k c) Fn Hn Q):Sim P r n0 c F H Q:=by
 unfold kendN at h;split at h
 · rename_i F' H' h1
   exact acodeN_sim hm hΓ k c F F' H H' h1 hn fun hl=>Sim.weak (weakB_ok h) hl kk
 · cases h
theorem minA_min(k k':IntKind)(x y:Int):minA false (.int k x) (.int k' y)=some (.int k (min x y)):=by
 unfold minA;simp only[qsZ,if_false];congr 2;omega
end
section
open Go Go.Lib
attribute [-simp] drawOk_eq adraw qrun acode aops
def dg(m:Nat):List UInt8:=decDigits m
theorem dg_small{m:Nat}(h:m<10):dg m=[UInt8.ofNat (48+m)]:=decDigits_one h
theorem dg_big{m:Nat}(h:¬m<10):dg m=dg (m / 10)++[UInt8.ofNat (48+m % 10)]:=by
 unfold dg;rw[decDigits,dif_neg h]
theorem dg_length:∀(k m:Nat),m<10 ^ (k+1)→(dg m).length≤k+1
 | 0,m,h=>by rw[dg_small (by omega)];simp
 | k+1,m,h=>by
   by_cases hm:m<10
   · rw[dg_small hm];simp
   · rw[dg_big hm,qdZ]
     have:=dg_length k (m / 10) (by rw[Nat.pow_succ]at h;omega)
     simp only[q7Z,q8Z];omega
def digS(k:Nat):Summ:=pureS fun
 | [.int .i64 (.ofNat m)]=>if m<k∧m≤1000000000000 then some (.str (dg m)) else none
 | _=>none
theorem digits_ct:∀(k m:Nat),m<k→m≤1000000000000→Ct Pz 171 [.int .i64 m] [] (.str (dg m)) []
 | 0,_,h,_=>by omega
 | k+1,m,h,hm=>by
   have hΓ:GOk Pz (gams [(171,digS k)]):=goks_cons (by
     refine sound_pure (enter_of Tryz.func171 rfl (by decide)) fun args v hv=>?_
     split at hv
     · split at hv <;> cases hv
       rename_i hc;exact⟨digits_ct k _ hc.1 hc.2,rfl,rfl⟩
     · cases hv) goks_nil
   obtain⟨c,hc⟩:∃c:Nat,m % 10=c:=⟨_,rfl⟩
   have hc9:c≤9:=by omega
   have e1:(m:Int).tmod 10=c:=by rw[rrZ (by omega)];omega
   have e2:(m:Int).tdiv 10=((m / 10:Nat):Int):=by rw[Int.tdiv_eq_ediv_of_nonneg (by omega)];omega
   have w1:IntKind.i64.wrap (c:Int)=c:=wr_i64 (by omega) (by omega)
   have w2:IntKind.i64.wrap (48+(c:Int))=48+c:=wr_i64 (by omega) (by omega)
   have w3:IntKind.u8.wrap (48+(c:Int))=48+c:=wr_u8 (by omega) (by omega)
   have u1:(48+(c:Int)).toNat=48+c:=by omega
   by_cases hm10:m<10
   · have hcm:c=m:=by omega
     have d1:(m:Int)<10:=by omega
     have hd:=dg_small hm10;subst hcm
     refine ct_val hmix hΓ (n:=0) Tryz.func171 ?_ (by simp)
     unfold Tryz.f171;simp[e1,w2,w3,u1,d1,hd]
   · have d1:¬(m:Int)<10:=by omega
     have hd:=dg_big hm10;rw[hc]at hd
     have w4:IntKind.i64.wrap ((m / 10:Nat):Int)=((m / 10:Nat):Int):=wr_i64 (by omega) (by omega)
     obtain⟨q,hq⟩:∃q:Nat,m / 10=q:=⟨_,rfl⟩;rw[hq]at e2 w4 hd
     have q1:q<k:=by omega
     have q2:q≤1000000000000:=by omega
     have q3:digS k [.int .i64 (q:Int)]=fun H=>some (.str (dg q),H,[]):=by
       funext H
       simp[digS,pureS,q1,q2]
     have ql:(dg q).length≤15:=dg_length 14 q (by omega)
     have ql2:(dg q).length+1≤9223372036854775807:=by omega
     refine ct_val hmix hΓ (n:=0) Tryz.func171 ?_ (by simp)
     unfold Tryz.f171;simp[e1,e2,w2,w3,w4,u1,d1,hd,q3,ql2]
def manifW:List UInt8:=[109,97,110,105,102,101,115,116]
def tempW:List UInt8:=[109,97,110,105,102,101,115,116,46,116,109,112]
def walW:List UInt8:=[119,97,108,45]
def segW:List UInt8:=[115,101,103,45]
def mk(k n:Int):List UInt8 :=
 if k=1 then manifW else if k=2 then tempW else if n<1∨1000000000<n then [] else if k=3 then walW++dg n.toNat else if k=4 then segW++dg n.toNat else []
theorem mk_none{k n:Int}(h1:k≠1)(h2:k≠2)(h3:k≠3)(h4:k≠4):mk k n=[]:=by
 unfold mk;simp[h1,h2,h3,h4]
def mkS:Summ:=pureS fun
 | [.int .i64 k,.int .i64 n]=>some (.str (mk k n))
 | _=>none
def mkInl:List FuncId:=[117,120]
theorem mkΓ_ok:GOk Pz (runG Pz (gams [(144,itoaS)]) 0 mkInl 2):=gok_run hmix (goks_cons itoa_sound goks_nil) 0 mkInl 2
theorem itoa_dg{m:Nat}(h:m<10 ^ 20):decF 20 m=dg m:=decF_eq 20 m h (by decide)
theorem make_ct(k n:Int):Ct Pz 76 [.int .i64 k,.int .i64 n] [] (.str (mk k n)) []:=by
 have key:∀j:Nat,1≤n→n≤1000000000→∃m:Nat,n=m∧itoaS [.int .i64 n]=fun H=>some (.str (dg m),H,[]):=fun _ h1 h2=>by
   obtain⟨m,rfl⟩:∃m:Nat,n=m:=⟨n.toNat,by omega⟩
   refine ⟨m,rfl,?_⟩
   funext H
   have e:m≤9223372036854775807:=by omega
   simp[itoaS,pureS,e,itoa_dg (show m<10 ^ 20 by omega)]
 by_cases h0:k<0
 · have hm:mk k n=[]:=mk_none (by omega) (by omega) (by omega) (by omega)
   rw[hm]
   exact ct_val hmix mkΓ_ok (n:=0) Tryz.func76 (by unfold Tryz.f76;simp +decide [h0]) (by simp)
 by_cases h4:4<k
 · have hm:mk k n=[]:=mk_none (by omega) (by omega) (by omega) (by omega)
   rw[hm]
   exact ct_val hmix mkΓ_ok (n:=0) Tryz.func76 (by unfold Tryz.f76;simp +decide [h0,h4]) (by simp)
 have hk:k=0∨k=1∨k=2∨k=3∨k=4:=by omega
 rcases hk with rfl | rfl | rfl | rfl | rfl
 · have hm:mk 0 n=[]:=mk_none (by omega) (by omega) (by omega) (by omega)
   rw[hm]
   exact ct_val hmix mkΓ_ok (n:=0) Tryz.func76 (by unfold Tryz.f76;simp +decide [mkInl,Tryz.f117,Tryz.f120]) (by simp)
 · simp only[show mk 1 n=manifW from rfl]
   exact ct_val hmix mkΓ_ok (n:=0) Tryz.func76 (by unfold Tryz.f76;simp +decide [mkInl,Tryz.f117,Tryz.f120,manifW]) (by simp)
 · simp only[show mk 2 n=tempW from rfl]
   exact ct_val hmix mkΓ_ok (n:=0) Tryz.func76 (by unfold Tryz.f76;simp +decide [mkInl,Tryz.f117,Tryz.f120,tempW]) (by simp)
 · by_cases h1:n<1
   · have hm:mk 3 n=[]:=by unfold mk;rw[if_neg (by omega),if_neg (by omega),if_pos (.inl h1)]
     rw[hm]
     exact ct_val hmix mkΓ_ok (n:=0) Tryz.func76 (by unfold Tryz.f76;simp +decide [mkInl,Tryz.f117,Tryz.f120,h1]) (by simp)
   by_cases h2:1000000000<n
   · have hm:mk 3 n=[]:=by unfold mk;rw[if_neg (by omega),if_neg (by omega),if_pos (.inr h2)]
     rw[hm]
     exact ct_val hmix mkΓ_ok (n:=0) Tryz.func76 (by unfold Tryz.f76;simp +decide [mkInl,Tryz.f117,Tryz.f120,h1,h2]) (by simp)
   obtain⟨m,hm,hi⟩:=key 0 (by omega) (by omega)
   have hml:(dg m).length≤15:=dg_length 14 m (by omega)
   have hml2:4+(dg m).length≤9223372036854775807:=by omega
   have hml3:(dg m).length+1+1+1+1≤9223372036854775807:=by omega
   have hmk:mk 3 n=walW++dg m:=by unfold mk;rw[if_neg (by omega),if_neg (by omega),if_neg (by omega),if_pos rfl];rw[hm];rfl
   rw[hmk]
   exact ct_val hmix mkΓ_ok (n:=0) Tryz.func76 (by unfold Tryz.f76;simp +decide [mkInl,Tryz.f117,Tryz.f120,h1,h2,hi,hml2,walW]) (by simp)
 · by_cases h1:n<1
   · have hm:mk 4 n=[]:=by unfold mk;rw[if_neg (by omega),if_neg (by omega),if_pos (.inl h1)]
     rw[hm]
     exact ct_val hmix mkΓ_ok (n:=0) Tryz.func76 (by unfold Tryz.f76;simp +decide [mkInl,Tryz.f117,Tryz.f120,h1]) (by simp)
   by_cases h2:1000000000<n
   · have hm:mk 4 n=[]:=by unfold mk;rw[if_neg (by omega),if_neg (by omega),if_pos (.inr h2)]
     rw[hm]
     exact ct_val hmix mkΓ_ok (n:=0) Tryz.func76 (by unfold Tryz.f76;simp +decide [mkInl,Tryz.f117,Tryz.f120,h1,h2]) (by simp)
   obtain⟨m,hm,hi⟩:=key 0 (by omega) (by omega)
   have hml:(dg m).length≤15:=dg_length 14 m (by omega)
   have hml2:4+(dg m).length≤9223372036854775807:=by omega
   have hml3:(dg m).length+1+1+1+1≤9223372036854775807:=by omega
   have hmk:mk 4 n=segW++dg m:=by unfold mk;rw[if_neg (by omega),if_neg (by omega),if_neg (by omega),if_neg (by omega),if_pos rfl];rw[hm];rfl
   rw[hmk]
   exact ct_val hmix mkΓ_ok (n:=0) Tryz.func76 (by unfold Tryz.f76;simp +decide [mkInl,Tryz.f117,Tryz.f120,h1,h2,hi,hml2,segW]) (by simp)
theorem make_sound:Sound Pz 76 mkS:=by
 refine sound_pure (enter_of Tryz.func76 rfl (by decide)) fun args v h=>?_
 split at h <;> cases h
 exact⟨make_ct _ _,rfl,rfl⟩
theorem digS_sound(b:Nat):Sound Pz 171 (digS b):=by
 refine sound_pure (enter_of Tryz.func171 rfl (by decide)) fun args v hv=>?_
 split at hv
 · split at hv <;> cases hv
   rename_i hc;exact⟨digits_ct b _ hc.1 hc.2,rfl,rfl⟩
 · cases hv
theorem rmkΓ_ok:GOk Pz (gams [(171,digS 1000000000001)]):=goks_cons (digS_sound _) goks_nil
theorem rmake_ct(k n:Int):Ct Pz 101 [.int .i64 k,.int .i64 n] [] (.str (mk k n)) []:=by
 have key:1≤n→n≤1000000000→∃m:Nat,n=m∧digS 1000000000001 [.int .i64 n]=fun H=>some (.str (dg m),H,[]):=fun h1 h2=>by
   obtain⟨m,rfl⟩:∃m:Nat,n=m:=⟨n.toNat,by omega⟩
   refine ⟨m,rfl,?_⟩
   funext H
   have e1:m<1000000000001:=by omega
   have e2:m≤1000000000000:=by omega
   simp[digS,pureS,e1,e2]
 by_cases k1:k=1
 · subst k1
   exact ct_val hmix rmkΓ_ok (n:=0) Tryz.func101 (by unfold Tryz.f101;simp +decide [mk,manifW]) (by simp)
 by_cases k2:k=2
 · subst k2
   exact ct_val hmix rmkΓ_ok (n:=0) Tryz.func101 (by unfold Tryz.f101;simp +decide [mk,tempW]) (by simp)
 by_cases h1:n<1
 · have hm:mk k n=[]:=by unfold mk;rw[if_neg k1,if_neg k2,if_pos (.inl h1)]
   rw[hm]
   exact ct_val hmix rmkΓ_ok (n:=0) Tryz.func101 (by unfold Tryz.f101;simp +decide [k1,k2,h1]) (by simp)
 by_cases h2:1000000000<n
 · have hm:mk k n=[]:=by unfold mk;rw[if_neg k1,if_neg k2,if_pos (.inr h2)]
   rw[hm]
   exact ct_val hmix rmkΓ_ok (n:=0) Tryz.func101 (by unfold Tryz.f101;simp +decide [k1,k2,h1,h2]) (by simp)
 obtain⟨m,hm,hi⟩:=key (by omega) (by omega)
 have hml:(dg m).length≤15:=dg_length 14 m (by omega)
 have hml2:4+(dg m).length≤9223372036854775807:=by omega
 have hml3:(dg m).length+1+1+1+1≤9223372036854775807:=by omega
 by_cases k3:k=3
 · have hmk:mk k n=walW++dg m:=by unfold mk;rw[if_neg k1,if_neg k2,if_neg (by omega),if_pos k3,hm];rfl
   rw[hmk];subst k3
   exact ct_val hmix rmkΓ_ok (n:=0) Tryz.func101 (by unfold Tryz.f101;simp +decide [h1,h2,hi,hml2,walW]) (by simp)
 by_cases k4:k=4
 · have hmk:mk k n=segW++dg m:=by unfold mk;rw[if_neg k1,if_neg k2,if_neg (by omega),if_neg k3,if_pos k4,hm];rfl
   rw[hmk];subst k4
   exact ct_val hmix rmkΓ_ok (n:=0) Tryz.func101 (by unfold Tryz.f101;simp +decide [h1,h2,hi,hml2,segW]) (by simp)
 rw[mk_none k1 k2 k3 k4]
 exact ct_val hmix rmkΓ_ok (n:=0) Tryz.func101 (by unfold Tryz.f101;simp +decide [k1,k2,k3,k4,h1,h2]) (by simp)
theorem rmake_sound:Sound Pz 101 mkS:=by
 refine sound_pure (enter_of Tryz.func101 rfl (by decide)) fun args v h=>?_
 split at h <;> cases h
 exact⟨rmake_ct _ _,rfl,rfl⟩
end
section
open Go Go.Lib
theorem dg_ne(m:Nat):dg m≠[]:=by
 by_cases hm:m<10
 · rw[dg_small hm];simp
 · rw[dg_big hm];simp
theorem dg_len(m:Nat)(h:m≤1000000000):1≤(dg m).length∧(dg m).length≤10 :=
 ⟨List.length_pos_iff.2 (dg_ne m),dg_length 9 m (by omega)⟩
def atoA(d:List UInt8):Int:=match atoiAll d with
 | .ok v=>v
 | .«syntax»=>0
 | .range=>atoiSat d
def nparse(s:List UInt8):Int×Int :=
 if s=manifW then (1,0) else if s=tempW then (2,0)
 else if s.take 4=walW∧mk 3 (atoA (s.drop 4))=s then (3,atoA (s.drop 4))
 else if s.take 4=segW∧mk 4 (atoA (s.drop 4))=s then (4,atoA (s.drop 4)) else (0,0)
theorem mk3{m:Nat}(h1:1≤m)(h2:m≤1000000000):mk 3 m=walW++dg m:=by
 unfold mk;rw[if_neg (by decide),if_neg (by decide),if_neg (by omega),if_pos rfl];rfl
end
section
open Go Go.Lib
attribute [-simp] drawOk_eq adraw qrun acode aops
theorem atoiS_at{d:List UInt8}(h:d.length≤1000000):atoiS [.str d]=fun H=>some (.tuple [.int .i64 (atoA d),.top],H,[]):=by
 funext H
 unfold atoA
 cases hq:atoiAll d <;> simp[atoiS,pureS,h,hq]
def npFrom(k:Nat)(s:List UInt8):Int×Int :=
 if k≤1∧s=manifW then (1,0) else if k≤2∧s=tempW then (2,0)
 else if k≤3∧s.take 4=walW∧mk 3 (atoA (s.drop 4))=s then (3,atoA (s.drop 4))
 else if k≤4∧s.take 4=segW∧mk 4 (atoA (s.drop 4))=s then (4,atoA (s.drop 4)) else (0,0)
theorem npFrom_zero(s:List UInt8):npFrom 0 s=nparse s:=by simp[npFrom,nparse]
def paInl:List FuncId:=[117,120]
theorem paΓ_ok:GOk Pz (runG Pz (gams [(118,cutS),(119,atoiS),(76,mkS)]) 0 paInl 2):=gok_run hmix (goks_cons cut_sound (goks_cons atoi_sound (goks_cons make_sound goks_nil))) 0 paInl 2
theorem parse_ct(s:List UInt8)(hs:s.length≤1000000):Ct Pz 49 [.str s] [] (.tuple [.int .i64 (nparse s).1,.int .i64 (nparse s).2]) []:=by
 have hΓ:=paΓ_ok;obtain⟨r,hr⟩:∃r,nparse s=r:=⟨_,rfl⟩;rw[hr]
 have hs2:s.length≤1000000000000:=by omega
 have hA:∀j,atoiS [.str (s.drop j)]=fun H=>some (.tuple [.int .i64 (atoA (s.drop j)),.top],H,[]):=fun j=>atoiS_at (by rw[qkZ];omega)
 have hl0:([]:List UInt8).length=0:=rfl;have hl1:manifW.length=8:=rfl;have hl2:tempW.length=12:=rfl;have hl3:walW.length=4:=rfl;have hl4:segW.length=4:=rfl
 have mk1:∀n,mk 1 n=manifW:=fun _=>rfl
 have mk2:∀n,mk 2 n=tempW:=fun _=>rfl
 refine ct_of_sim Tryz.func49 rfl ?_;simp only[Tryz.ntmps49,q7Z,q8Z,Nat.reduceAdd,Nat.reduceSub,qbZ,q9Z,qaZ]
 refine Sim.step hmix hΓ (n:=0) (by simp;exact⟨rfl,rfl⟩) (by simp) ?_
 refine Sim.seq (Sim.step hmix hΓ (n:=0) (by simp[paInl,Tryz.f117];exact⟨rfl,rfl⟩) (by simp) ?_)
 refine Sim.block (Sim.loopW (fun k:Nat=>k≤5∧npFrom k s=r)
   (fun k=>[.str s,.top,.top,.top,.top,.top,.top,.top,.agg [.str [],.str manifW,.str tempW,.str walW,.str segW],.int .i64 k]++qbZ 31 .top)
   (fun _=>[]) (fun k=>5-k) 0 (by simp) ⟨by omega,by rw[npFrom_zero,hr]⟩ (Weak.mk' [] (by decide) (by decide) (by simp[manifW,tempW,walW,segW]) (by simp[AWg])) fun k hk=>?_)
 obtain⟨hk,hch⟩:=hk;by_cases hlt:k<5
 · have hlti:(k:Int)<5:=by omega
   refine Sim.step hmix hΓ (n:=0) (by simp[hlti];exact⟨rfl,rfl⟩) (by simp) ?_
   refine Sim.step hmix hΓ (n:=0) (by simp;exact⟨rfl,rfl⟩) (by simp) ?_
   refine Sim.seq (Sim.block ?_)
   match k,hlt with
   | 0,_ =>
     refine Sim.exec hmix hΓ (n:=0) (by simp +decide [hl0,cutS,mkS,hs2,paInl];exact⟨rfl,rfl,rfl⟩) (by simp) ?_
     dsimp only;rw[if_pos rfl]
     refine Sim.exec hmix hΓ (n:=0) (by simp +decide;exact⟨rfl,rfl,rfl⟩) (by simp) ?_
     dsimp only
     exact⟨1,⟨by omega,by rw[←hch];simp[npFrom]⟩,Weak.mk' [] (by decide) (by decide) (by simp) (by simp[AWg]),by omega⟩
   | 1,_ =>
     by_cases he:s=manifW
     · have hp:manifW.take 8=manifW:=by decide
       subst he
       refine Sim.exec hmix hΓ (n:=0) (by simp +decide [hl1,cutS,mkS,mk1,hA,paInl,Tryz.f120];exact⟨rfl,rfl,rfl⟩) (by simp) ?_
       dsimp only
       have hrr:r=(1,0):=by rw[←hch];simp[npFrom]
       rw[hrr]
       exact⟨.inr rfl,_,by simp[Tryz.f49] <;> rfl,Weak.mk' [] (by decide) (by decide) (by simp) (by simp[AWg])⟩
     · by_cases hp:s.take 8=manifW
       · have he':¬manifW=s:=fun e=>he e.symm
         have heb:(manifW==s)=false:=by simpa using he'
         refine Sim.exec hmix hΓ (n:=0) (by simp +decide [hl1,cutS,mkS,mk1,hs2,hA,paInl,hp,heb];exact⟨rfl,rfl,rfl⟩) (by simp) ?_
         dsimp only
         refine Sim.exec hmix hΓ (n:=0) (by simp +decide;exact⟨rfl,rfl,rfl⟩) (by simp) ?_
         dsimp only
         exact⟨2,⟨by omega,by rw[←hch];simp[npFrom,he]⟩,Weak.mk' [] (by decide) (by decide) (by simp) (by simp[AWg]),by omega⟩
       · refine Sim.exec hmix hΓ (n:=0) (by simp +decide [hl1,cutS,mkS,hs2,paInl,hp];exact⟨rfl,rfl,rfl⟩) (by simp) ?_
         dsimp only;rw[if_pos rfl]
         refine Sim.exec hmix hΓ (n:=0) (by simp +decide;exact⟨rfl,rfl,rfl⟩) (by simp) ?_
         dsimp only
         exact⟨2,⟨by omega,by rw[←hch];simp[npFrom,he]⟩,Weak.mk' [] (by decide) (by decide) (by simp) (by simp[AWg]),by omega⟩
   | 2,_ =>
     by_cases he:s=tempW
     · have hp:tempW.take 12=tempW:=by decide
       subst he
       refine Sim.exec hmix hΓ (n:=0) (by simp +decide [hl2,cutS,mkS,mk2,hA,paInl,Tryz.f120];exact⟨rfl,rfl,rfl⟩) (by simp) ?_
       dsimp only
       have hrr:r=(2,0):=by rw[←hch];simp[npFrom]
       rw[hrr]
       exact⟨.inr rfl,_,by simp[Tryz.f49] <;> rfl,Weak.mk' [] (by decide) (by decide) (by simp) (by simp[AWg])⟩
     · by_cases hp:s.take 12=tempW
       · have he':¬tempW=s:=fun e=>he e.symm
         have heb:(tempW==s)=false:=by simpa using he'
         refine Sim.exec hmix hΓ (n:=0) (by simp +decide [hl2,cutS,mkS,mk2,hs2,hA,paInl,hp,heb];exact⟨rfl,rfl,rfl⟩) (by simp) ?_
         dsimp only
         refine Sim.exec hmix hΓ (n:=0) (by simp +decide;exact⟨rfl,rfl,rfl⟩) (by simp) ?_
         dsimp only
         exact⟨3,⟨by omega,by rw[←hch];simp[npFrom,he]⟩,Weak.mk' [] (by decide) (by decide) (by simp) (by simp[AWg]),by omega⟩
       · refine Sim.exec hmix hΓ (n:=0) (by simp +decide [hl2,cutS,mkS,hs2,paInl,hp];exact⟨rfl,rfl,rfl⟩) (by simp) ?_
         dsimp only;rw[if_pos rfl]
         refine Sim.exec hmix hΓ (n:=0) (by simp +decide;exact⟨rfl,rfl,rfl⟩) (by simp) ?_
         dsimp only
         exact⟨3,⟨by omega,by rw[←hch];simp[npFrom,he]⟩,Weak.mk' [] (by decide) (by decide) (by simp) (by simp[AWg]),by omega⟩
   | 3,_ =>
     by_cases hp:s.take 4=walW
     · by_cases he:mk 3 (atoA (s.drop 4))=s
       · have heb:(mk 3 (atoA (s.drop 4))==s)=true:=by simpa using he
         refine Sim.exec hmix hΓ (n:=0) (by simp +decide [hl3,cutS,mkS,hs2,hA,paInl,Tryz.f120,hp,he];exact⟨rfl,rfl,rfl⟩) (by simp) ?_
         dsimp only
         have hrr:r=(3,atoA (s.drop 4)):=by rw[←hch];simp[npFrom,hp,he]
         rw[hrr]
         exact⟨.inr rfl,_,by simp[Tryz.f49] <;> rfl,Weak.mk' [] (by decide) (by decide) (by simp) (by simp[AWg])⟩
       · have heb:(mk 3 (atoA (s.drop 4))==s)=false:=by simpa using he
         refine Sim.exec hmix hΓ (n:=0) (by simp +decide [hl3,cutS,mkS,hs2,hA,paInl,hp,heb];exact⟨rfl,rfl,rfl⟩) (by simp) ?_
         dsimp only
         refine Sim.exec hmix hΓ (n:=0) (by simp +decide;exact⟨rfl,rfl,rfl⟩) (by simp) ?_
         dsimp only
         exact⟨4,⟨by omega,by rw[←hch];simp[npFrom,hp,he]⟩,Weak.mk' [] (by decide) (by decide) (by simp) (by simp[AWg]),by omega⟩
     · refine Sim.exec hmix hΓ (n:=0) (by simp +decide [hl3,cutS,mkS,hs2,paInl,hp];exact⟨rfl,rfl,rfl⟩) (by simp) ?_
       dsimp only;rw[if_pos rfl]
       refine Sim.exec hmix hΓ (n:=0) (by simp +decide;exact⟨rfl,rfl,rfl⟩) (by simp) ?_
       dsimp only
       exact⟨4,⟨by omega,by rw[←hch];simp[npFrom,hp]⟩,Weak.mk' [] (by decide) (by decide) (by simp) (by simp[AWg]),by omega⟩
   | 4,_ =>
     by_cases hp:s.take 4=segW
     · by_cases he:mk 4 (atoA (s.drop 4))=s
       · have heb:(mk 4 (atoA (s.drop 4))==s)=true:=by simpa using he
         refine Sim.exec hmix hΓ (n:=0) (by simp +decide [hl4,cutS,mkS,hs2,hA,paInl,Tryz.f120,hp,he];exact⟨rfl,rfl,rfl⟩) (by simp) ?_
         dsimp only
         have hrr:r=(4,atoA (s.drop 4)):=by rw[←hch];simp[npFrom,hp,he]
         rw[hrr]
         exact⟨.inr rfl,_,by simp[Tryz.f49] <;> rfl,Weak.mk' [] (by decide) (by decide) (by simp) (by simp[AWg])⟩
       · have heb:(mk 4 (atoA (s.drop 4))==s)=false:=by simpa using he
         refine Sim.exec hmix hΓ (n:=0) (by simp +decide [hl4,cutS,mkS,hs2,hA,paInl,hp,heb];exact⟨rfl,rfl,rfl⟩) (by simp) ?_
         dsimp only
         refine Sim.exec hmix hΓ (n:=0) (by simp +decide;exact⟨rfl,rfl,rfl⟩) (by simp) ?_
         dsimp only
         exact⟨5,⟨by omega,by rw[←hch];simp[npFrom,hp,he]⟩,Weak.mk' [] (by decide) (by decide) (by simp) (by simp[AWg]),by omega⟩
     · refine Sim.exec hmix hΓ (n:=0) (by simp +decide [hl4,cutS,mkS,hs2,paInl,hp];exact⟨rfl,rfl,rfl⟩) (by simp) ?_
       dsimp only;rw[if_pos rfl]
       refine Sim.exec hmix hΓ (n:=0) (by simp +decide;exact⟨rfl,rfl,rfl⟩) (by simp) ?_
       dsimp only
       exact⟨5,⟨by omega,by rw[←hch];simp[npFrom,hp]⟩,Weak.mk' [] (by decide) (by decide) (by simp) (by simp[AWg]),by omega⟩
 · have hk5:k=5:=by omega
   subst hk5
   have hrr:r=(0,0):=by rw[←hch];simp[npFrom]
   rw[hrr]
   refine Sim.step hmix hΓ (n:=0) (by simp;exact⟨rfl,rfl⟩) (by simp) ?_
   refine Sim.seq (Sim.exec hmix hΓ (n:=0) (by simp;exact⟨rfl,rfl,rfl⟩) (by simp) ?_)
   dsimp only;rw[if_pos rfl]
   refine Sim.exec hmix hΓ (n:=0) (by simp;exact⟨rfl,rfl,rfl⟩) (by simp) ?_
   exact⟨.inr rfl,_,by simp[Tryz.f49] <;> rfl,Weak.mk' [] (by decide) (by decide) (by simp) (by simp[AWg])⟩
def nparseS:Summ:=pureS fun
 | [.str s]=>if s.length≤1000000 then some (.tuple [.int .i64 (nparse s).1,.int .i64 (nparse s).2]) else none
 | _=>none
theorem nparse_sound:Sound Pz 49 nparseS:=by
 refine sound_pure (enter_of Tryz.func49 rfl (by decide)) fun args v h=>?_
 split at h
 · split at h <;> cases h
   rename_i hc;exact⟨parse_ct _ hc,rfl,rfl⟩
 · cases h
end
section
open Go Go.Lib Go.Sort
attribute [-simp] drawOk_eq adraw qrun acode aops
theorem below_drewN(w:World)(n:Nat):RowKit.Below w.heap.size w (w.drewN n):=⟨rfl,rfl,rfl,qnZ _,fun _ _=>rfl⟩
theorem below_grow(w:World)(os:Array Obj):RowKit.Below w.heap.size w (grow w os) :=
 ⟨rfl,rfl,rfl,by simp[grow],fun c hc=>by simp only[grow];rw[Array.getElem?_append_left hc]⟩
end
section
open Go Go.Lib
attribute [-simp] drawOk_eq adraw qrun acode aops
def rowSt(H:AHeap):AV→Option (List (List UInt8))
 | .nils=>some []
 | .slice b off len 1 _=>match H[b]? with
   | some (.cells _ l)=>if off+len≤l.length then strsOf ((l.drop off).take len) else none
   | _=>none
 | .sl b off len 1 _=>match H[b]? with
   | some (.cells _ l)=>if off+len≤l.length then strsOf ((l.drop off).take len) else none
   | _=>none
 | _=>none
theorem rowSt_win{H:AHeap}{x:AV}{a:List (List UInt8)}(h:rowSt H x=some a):∃b off,(∀(i:Nat) (wd:List (Nat×Nat)),wd[i]? = some (b,off)→winA wd (.sl i 0 a.length 1 false) x) ∧
   (match H[b]? with | some (.cells _ l)=>off+(a.map AV.str).length≤l.length∧a.map AV.str=(l.drop off).take (a.map AV.str).length | none=>True | _=>False):=by
 have key:∀(b off len:Nat) (o:Bool) (l:List AV),H[b]? = some (.cells o l)→off+len≤l.length→strsOf ((l.drop off).take len)=some a→len=a.length∧off+(a.map AV.str).length≤l.length∧a.map AV.str=(l.drop off).take (a.map AV.str).length:=by
   intro b off len o l hb hle hs;have e:=strsOf_eq hs
   have hlen:len=a.length:=by
     have:=congrArg List.length e;simp at this;omega
   subst hlen
   exact⟨rfl,by simpa using hle,by rw[r7Z];exact e.symm⟩
 unfold rowSt at h;split at h
 · cases h
   exact⟨H.length,0,fun i wd _=>by simp[winA],by simp⟩
 · rename_i b off len c
   split at h;rotate_left
   · cases h
   rename_i o l hb;split at h;rotate_left
   · cases h
   rename_i hle;obtain⟨rfl,h1,h2⟩:=key b off len o l hb hle h
   exact⟨b,off,fun i wd hw=>by simp[winA,hw],by rw[hb];exact⟨h1,h2⟩⟩
 · rename_i b off len c
   split at h;rotate_left
   · cases h
   rename_i o l hb;split at h;rotate_left
   · cases h
   rename_i hle;obtain⟨rfl,h1,h2⟩:=key b off len o l hb hle h
   exact⟨b,off,fun i wd hw=>by simp[winA,hw],by rw[hb];exact⟨h1,h2⟩⟩
 · cases h
mutual
theorem shA_freeN(k:Nat):∀x:AV,free x=true→shA k x=x
 | .top,_ | .bool _,_ | .int _ _,_ | .str _,_ | .nilp,_ | .nils,_ | .nilm,_ | .nilf,_=>rfl
 | .ptr ..,h | .slice ..,h | .sl ..,h | .map _,h | .yld _,h=>by simp[free]at h
 | .func f xs ys,h=>by simp at h;simp[shAs_freeN k xs h.1,shAs_freeN k ys h.2]
 | .agg l,h=>by simp at h;simp[shAs_freeN k l h]
 | .tuple l,h=>by simp at h;simp[shAs_freeN k l h]
theorem shAs_freeN(k:Nat):∀xs:List AV,frees xs=true→shAs k xs=xs
 | [],_=>rfl
 | x::xs,h=>by simp at h;simp[shA_freeN k x h.1,shAs_freeN k xs h.2]
end
end
end Go.Proofs.YtpmfecnajoojeaaGreatDoor
