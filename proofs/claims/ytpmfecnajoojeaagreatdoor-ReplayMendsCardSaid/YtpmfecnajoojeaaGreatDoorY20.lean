/- Parts of the proof of ReplayMends: lemmas, each with its own conditions. -/
import Derived.Lib.AtoiTie
import Derived.Test.YtpmfecnajoojeaaGreatDoorY19
set_option maxHeartbeats 64000000
open List renaming getElem?_eq_some_iff → q1Z, getD_eq_getElem?_getD → q2Z, getElem?_append_left → q4Z, length_cons → q7Z, length_nil → q8Z, cons_append → q9Z, nil_append → qaZ, replicate → qbZ, mem_of_getElem? → qcZ, length_append → qdZ, mem_cons_self → qhZ, mem_cons → qwZ, mem_append → qxZ, mem_singleton → r1Z, getElem_mem → r3Z, getElem?_cons_succ → r9Z, getElem?_cons_zero → raZ, nodup_cons → rdZ, mem_map → reZ, map_append → roZ, map_cons → s1Z
open Nat renaming zero_le → qqZ, min_eq_left → sfZ
open Option renaming getD_some → rgZ, map_some → rhZ
open Int renaming tmod_eq_emod_of_nonneg → rrZ
namespace Go.Proofs.YtpmfecnajoojeaaGreatDoor
open _root_.Go.Proofs.Tryz renaming prog → Pz
set_option maxRecDepth 100000
section
open Go Go.RowKit Go.Lib Go.Sort
theorem zNm(w:World)(e:TypeId)(t:ByteArray):Below w.heap.size w (bytesWorld w e t) :=
 ⟨rfl,rfl,rfl,by rw[bytesWorld_size];omega,fun c hc=>bytesWorld_at_old w e t c hc⟩
def zRJ:Nat->Nat->List UInt8
 | 0,_=>[]
 | k+1,u=>if u<10 then [UInt8.ofNat (48+u)] else zRJ k (u / 10)++[UInt8.ofNat (48+u % 10)]
theorem zLb:∀(k u:Nat),u<10 ^ k->0<k->zRJ k u=decDigits u
 | 0,_,_,h=>by omega
 | k+1,u,h,_=>by
   unfold zRJ;rw[decDigits];by_cases hu:u<10
   · rw[if_pos hu,dif_pos hu]
   · rw[if_neg hu,dif_neg hu]
     rcases Nat.eq_zero_or_pos k with rfl | hk
     · simp at h;omega
     · rw[zLb k (u / 10) (by rw[Nat.pow_succ]at h;omega) hk]
theorem zWC {j : Inj} {H : zA} {w : World} (hR : R j H w) : TabIs Pz w "internal/strconv.uint64pow10" .u64 pow10Tab := by
 obtain⟨⟨T,fz,h⟩,_⟩:=hR.glo.1.1
 have hg:w.heap[3]? = some (.cells (pow10Tab.map fun z=>Value.int .u64 z).toArray T fz):=by
   unfold zCj at h;split at h
   · exact h
   · cases h
 unfold TabIs World.var?
 have : Tryz.prog.globalNamed "internal/strconv.uint64pow10" = some 3 := by kernel_rfl
 rw[this];dsimp only[Option.bind];rw[hg]
def zMS:zc:=ZP fun
 | [.int .i64 (.ofNat m)]=>if m<=9223372036854775807 then some (.str (zRJ 20 m)) else none
 | _=>none
theorem zJL:Sound Pz 144 zMS:=by
 refine zP (zH Tryz.func144 rfl (by decide)) fun args v hv=>?_
 split at hv;rotate_left
 · cases hv
 rename_i m
 split at hv <;> cases hv
 rename_i hm
 refine ⟨zB9 rfl fun j w cargs hR hargs=>?_,rfl,rfl⟩
 obtain⟨a,cs,e,h1,h2⟩:=hargs;simp only[VRs]at h2;subst h2;simp only[VR]at h1;subst h1
 have ec:cargs=#[.int .i64 (Int.ofNat m)]:=by apply Array.ext';rw[e]
 subst ec
 refine (Tryz.strconv_Itoa (Int.ofNat m) (by have:(0:Int)<=Int.ofNat m:=Int.natCast_nonneg m;omega) (by have:(Int.ofNat m)=(m:Int):=rfl;omega) w (zWC hR)).mono ?_
 rintro e w' ⟨rfl,k,os,rfl⟩
 refine ⟨_,rfl,?_,⟨rfl,rfl,rfl,by simp[grow,World.drewN],fun c hc=>by simp[grow,World.drewN,Array.getElem?_append_left hc]⟩⟩
 have:Lib.itoa (Int.ofNat m)=zRJ 20 m:=by
   unfold Lib.itoa
   rw[if_neg (by have:(0:Int)<=Int.ofNat m:=Int.natCast_nonneg m;omega),zLb 20 m (by omega) (by omega)]
   rfl
 rw[this];rfl
end
section
open Go Go.Lib
attribute [-simp] zJ zY zn zL zl
def dg(m:Nat):List UInt8:=decDigits m
theorem zCl{m:Nat}(h:m<10):dg m=[UInt8.ofNat (48+m)]:=decDigits_one h
theorem zI0{m:Nat}(h:¬m<10):dg m=dg (m / 10)++[UInt8.ofNat (48+m % 10)]:=by
 unfold dg;rw[decDigits,dif_neg h]
theorem zBe:∀(k m:Nat),m<10 ^ (k+1)->(dg m).length<=k+1
 | 0,m,h=>by rw[zCl (by omega)];simp
 | k+1,m,h=>by
   by_cases hm:m<10
   · rw[zCl hm];simp
   · rw[zI0 hm,qdZ]
     have:=zBe k (m / 10) (by rw[Nat.pow_succ]at h;omega)
     simp only[q7Z,q8Z];omega
def zPP(k:Nat):zc:=ZP fun
 | [.int .i64 (.ofNat m)]=>if m<k/\m<=1000000000000 then some (.str (dg m)) else none
 | _=>none
theorem zKi:∀(k m:Nat),m<k->m<=1000000000000->Ct Pz 171 [.int .i64 m] [] (.str (dg m)) []
 | 0,_,h,_=>by omega
 | k+1,m,h,hm=>by
   have hΓ:GOk Pz (zv [(171,zPP k)]):=zC (by
     refine zP (zH Tryz.func171 rfl (by decide)) fun args v hv=>?_
     split at hv
     · split at hv <;> cases hv
       rename_i hc;exact⟨zKi k _ hc.1 hc.2,rfl,rfl⟩
     · cases hv) zD
   obtain⟨c,hc⟩:∃c:Nat,m % 10=c:=⟨_,rfl⟩
   have hc9:c<=9:=by omega
   have e1:(m:Int).tmod 10=c:=by rw[rrZ (by omega)];omega
   have e2:(m:Int).tdiv 10=((m / 10:Nat):Int):=by rw[Int.tdiv_eq_ediv_of_nonneg (by omega)];omega
   have w1:IntKind.i64.wrap (c:Int)=c:=zX (by omega) (by omega)
   have w2:IntKind.i64.wrap (48+(c:Int))=48+c:=zX (by omega) (by omega)
   have w3:IntKind.u8.wrap (48+(c:Int))=48+c:=zDb (by omega) (by omega)
   have u1:(48+(c:Int)).toNat=48+c:=by omega
   by_cases hm10:m<10
   · have hcm:c=m:=by omega
     have d1:(m:Int)<10:=by omega
     have hd:=zCl hm10;subst hcm
     refine zm hmix hΓ (n:=0) Tryz.func171 ?_ (by simp)
     unfold Tryz.f171;simp[e1,w2,w3,u1,d1,hd]
   · have d1:¬(m:Int)<10:=by omega
     have hd:=zI0 hm10;rw[hc]at hd
     have w4:IntKind.i64.wrap ((m / 10:Nat):Int)=((m / 10:Nat):Int):=zX (by omega) (by omega)
     obtain⟨q,hq⟩:∃q:Nat,m / 10=q:=⟨_,rfl⟩;rw[hq]at e2 w4 hd
     have q1:q<k:=by omega
     have q2:q<=1000000000000:=by omega
     have q3:zPP k [.int .i64 (q:Int)]=fun H=>some (.str (dg q),H,[]):=by
       funext H
       simp[zPP,ZP,q1,q2]
     have ql:(dg q).length<=15:=zBe 14 q (by omega)
     have ql2:(dg q).length+1<=9223372036854775807:=by omega
     refine zm hmix hΓ (n:=0) Tryz.func171 ?_ (by simp)
     unfold Tryz.f171;simp[e1,e2,w2,w3,w4,u1,d1,hd,q3,ql2]
def manifW:List UInt8:=[109,97,110,105,102,101,115,116]
def tempW:List UInt8:=[109,97,110,105,102,101,115,116,46,116,109,112]
def walW:List UInt8:=[119,97,108,45]
def segW:List UInt8:=[115,101,103,45]
def mk(k n:Int):List UInt8 :=
 if k=1 then manifW else if k=2 then tempW else if n<1\/1000000000<n then [] else if k=3 then walW++dg n.toNat else if k=4 then segW++dg n.toNat else []
theorem zHL{k n:Int}(h1:k≠1)(h2:k≠2)(h3:k≠3)(h4:k≠4):mk k n=[]:=by
 unfold mk;simp[h1,h2,h3,h4]
def mkS:zc:=ZP fun
 | [.int .i64 k,.int .i64 n]=>some (.str (mk k n))
 | _=>none
def zDs:List FuncId:=[117,120]
theorem zAn:GOk Pz (zAL Pz (zv [(144,zMS)]) 0 zDs 2):=zq hmix (zC zJL zD) 0 zDs 2
theorem zVI{m:Nat}(h:m<10 ^ 20):zRJ 20 m=dg m:=zLb 20 m h (by decide)
theorem zVz(k n:Int):Ct Pz 76 [.int .i64 k,.int .i64 n] [] (.str (mk k n)) []:=by
 have key:∀j:Nat,1<=n->n<=1000000000->∃m:Nat,n=m/\zMS [.int .i64 n]=fun H=>some (.str (dg m),H,[]):=fun _ h1 h2=>by
   obtain⟨m,rfl⟩:∃m:Nat,n=m:=⟨n.toNat,by omega⟩
   refine ⟨m,rfl,?_⟩
   funext H
   have e:m<=9223372036854775807:=by omega
   simp[zMS,ZP,e,zVI (show m<10 ^ 20 by omega)]
 by_cases h0:k<0
 · have hm:mk k n=[]:=zHL (by omega) (by omega) (by omega) (by omega)
   rw[hm]
   exact zm hmix zAn (n:=0) Tryz.func76 (by unfold Tryz.f76;simp +decide [h0]) (by simp)
 by_cases h4:4<k
 · have hm:mk k n=[]:=zHL (by omega) (by omega) (by omega) (by omega)
   rw[hm]
   exact zm hmix zAn (n:=0) Tryz.func76 (by unfold Tryz.f76;simp +decide [h0,h4]) (by simp)
 have hk:k=0\/k=1\/k=2\/k=3\/k=4:=by omega
 rcases hk with rfl | rfl | rfl | rfl | rfl
 · have hm:mk 0 n=[]:=zHL (by omega) (by omega) (by omega) (by omega)
   rw[hm]
   exact zm hmix zAn (n:=0) Tryz.func76 (by unfold Tryz.f76;simp +decide [zDs,Tryz.f117,Tryz.f120]) (by simp)
 · simp only[show mk 1 n=manifW from rfl]
   exact zm hmix zAn (n:=0) Tryz.func76 (by unfold Tryz.f76;simp +decide [zDs,Tryz.f117,Tryz.f120,manifW]) (by simp)
 · simp only[show mk 2 n=tempW from rfl]
   exact zm hmix zAn (n:=0) Tryz.func76 (by unfold Tryz.f76;simp +decide [zDs,Tryz.f117,Tryz.f120,tempW]) (by simp)
 · by_cases h1:n<1
   · have hm:mk 3 n=[]:=by unfold mk;rw[if_neg (by omega),if_neg (by omega),if_pos (.inl h1)]
     rw[hm]
     exact zm hmix zAn (n:=0) Tryz.func76 (by unfold Tryz.f76;simp +decide [zDs,Tryz.f117,Tryz.f120,h1]) (by simp)
   by_cases h2:1000000000<n
   · have hm:mk 3 n=[]:=by unfold mk;rw[if_neg (by omega),if_neg (by omega),if_pos (.inr h2)]
     rw[hm]
     exact zm hmix zAn (n:=0) Tryz.func76 (by unfold Tryz.f76;simp +decide [zDs,Tryz.f117,Tryz.f120,h1,h2]) (by simp)
   obtain⟨m,hm,hi⟩:=key 0 (by omega) (by omega)
   have hml:(dg m).length<=15:=zBe 14 m (by omega)
   have hml2:4+(dg m).length<=9223372036854775807:=by omega
   have hml3:(dg m).length+1+1+1+1<=9223372036854775807:=by omega
   have hmk:mk 3 n=walW++dg m:=by unfold mk;rw[if_neg (by omega),if_neg (by omega),if_neg (by omega),if_pos rfl];rw[hm];rfl
   rw[hmk]
   exact zm hmix zAn (n:=0) Tryz.func76 (by unfold Tryz.f76;simp +decide [zDs,Tryz.f117,Tryz.f120,h1,h2,hi,hml2,walW]) (by simp)
 · by_cases h1:n<1
   · have hm:mk 4 n=[]:=by unfold mk;rw[if_neg (by omega),if_neg (by omega),if_pos (.inl h1)]
     rw[hm]
     exact zm hmix zAn (n:=0) Tryz.func76 (by unfold Tryz.f76;simp +decide [zDs,Tryz.f117,Tryz.f120,h1]) (by simp)
   by_cases h2:1000000000<n
   · have hm:mk 4 n=[]:=by unfold mk;rw[if_neg (by omega),if_neg (by omega),if_pos (.inr h2)]
     rw[hm]
     exact zm hmix zAn (n:=0) Tryz.func76 (by unfold Tryz.f76;simp +decide [zDs,Tryz.f117,Tryz.f120,h1,h2]) (by simp)
   obtain⟨m,hm,hi⟩:=key 0 (by omega) (by omega)
   have hml:(dg m).length<=15:=zBe 14 m (by omega)
   have hml2:4+(dg m).length<=9223372036854775807:=by omega
   have hml3:(dg m).length+1+1+1+1<=9223372036854775807:=by omega
   have hmk:mk 4 n=segW++dg m:=by unfold mk;rw[if_neg (by omega),if_neg (by omega),if_neg (by omega),if_neg (by omega),if_pos rfl];rw[hm];rfl
   rw[hmk]
   exact zm hmix zAn (n:=0) Tryz.func76 (by unfold Tryz.f76;simp +decide [zDs,Tryz.f117,Tryz.f120,h1,h2,hi,hml2,segW]) (by simp)
theorem zCx:Sound Pz 76 mkS:=by
 refine zP (zH Tryz.func76 rfl (by decide)) fun args v h=>?_
 split at h <;> cases h
 exact⟨zVz _ _,rfl,rfl⟩
theorem zO5(b:Nat):Sound Pz 171 (zPP b):=by
 refine zP (zH Tryz.func171 rfl (by decide)) fun args v hv=>?_
 split at hv
 · split at hv <;> cases hv
   rename_i hc;exact⟨zKi b _ hc.1 hc.2,rfl,rfl⟩
 · cases hv
theorem zBx:GOk Pz (zv [(171,zPP 1000000000001)]):=zC (zO5 _) zD
theorem zSa(k n:Int):Ct Pz 101 [.int .i64 k,.int .i64 n] [] (.str (mk k n)) []:=by
 have key:1<=n->n<=1000000000->∃m:Nat,n=m/\zPP 1000000000001 [.int .i64 n]=fun H=>some (.str (dg m),H,[]):=fun h1 h2=>by
   obtain⟨m,rfl⟩:∃m:Nat,n=m:=⟨n.toNat,by omega⟩
   refine ⟨m,rfl,?_⟩
   funext H
   have e1:m<1000000000001:=by omega
   have e2:m<=1000000000000:=by omega
   simp[zPP,ZP,e1,e2]
 by_cases k1:k=1
 · subst k1
   exact zm hmix zBx (n:=0) Tryz.func101 (by unfold Tryz.f101;simp +decide [mk,manifW]) (by simp)
 by_cases k2:k=2
 · subst k2
   exact zm hmix zBx (n:=0) Tryz.func101 (by unfold Tryz.f101;simp +decide [mk,tempW]) (by simp)
 by_cases h1:n<1
 · have hm:mk k n=[]:=by unfold mk;rw[if_neg k1,if_neg k2,if_pos (.inl h1)]
   rw[hm]
   exact zm hmix zBx (n:=0) Tryz.func101 (by unfold Tryz.f101;simp +decide [k1,k2,h1]) (by simp)
 by_cases h2:1000000000<n
 · have hm:mk k n=[]:=by unfold mk;rw[if_neg k1,if_neg k2,if_pos (.inr h2)]
   rw[hm]
   exact zm hmix zBx (n:=0) Tryz.func101 (by unfold Tryz.f101;simp +decide [k1,k2,h1,h2]) (by simp)
 obtain⟨m,hm,hi⟩:=key (by omega) (by omega)
 have hml:(dg m).length<=15:=zBe 14 m (by omega)
 have hml2:4+(dg m).length<=9223372036854775807:=by omega
 have hml3:(dg m).length+1+1+1+1<=9223372036854775807:=by omega
 by_cases k3:k=3
 · have hmk:mk k n=walW++dg m:=by unfold mk;rw[if_neg k1,if_neg k2,if_neg (by omega),if_pos k3,hm];rfl
   rw[hmk];subst k3
   exact zm hmix zBx (n:=0) Tryz.func101 (by unfold Tryz.f101;simp +decide [h1,h2,hi,hml2,walW]) (by simp)
 by_cases k4:k=4
 · have hmk:mk k n=segW++dg m:=by unfold mk;rw[if_neg k1,if_neg k2,if_neg (by omega),if_neg k3,if_pos k4,hm];rfl
   rw[hmk];subst k4
   exact zm hmix zBx (n:=0) Tryz.func101 (by unfold Tryz.f101;simp +decide [h1,h2,hi,hml2,segW]) (by simp)
 rw[zHL k1 k2 k3 k4]
 exact zm hmix zBx (n:=0) Tryz.func101 (by unfold Tryz.f101;simp +decide [k1,k2,k3,k4,h1,h2]) (by simp)
theorem zMb:Sound Pz 101 mkS:=by
 refine zP (zH Tryz.func101 rfl (by decide)) fun args v h=>?_
 split at h <;> cases h
 exact⟨zSa _ _,rfl,rfl⟩
end
section
open Go Go.Lib
theorem zD6:∀(l r:List UInt8) (acc:Nat),decFrom acc (l++r)=(decFrom acc l).bind fun n=>decFrom n r
 | [],r,acc=>rfl
 | b::l,r,acc=>by
   simp only[q9Z,decFrom]
   cases digitVal b with
   | none=>rfl
   | some d=>exact zD6 l r _
theorem zNB{d:Nat}(h:d<=9):digitVal (UInt8.ofNat (48+d))=some d:=by
 have e:(UInt8.ofNat (48+d)).toNat=48+d:=by simp[UInt8.toNat_ofNat'];omega
 unfold digitVal
 rw[e,if_pos (by omega)]
 congr 1
 omega
theorem zDN:∀(k m:Nat),m<k->decFrom 0 (dg m)=some m
 | 0,m,h=>by omega
 | k+1,m,h=>by
   by_cases hm:m<10
   · rw[zCl hm]
     simp only[decFrom,zNB (show m<=9 by omega)]
     simp
   · rw[zI0 hm,zD6,zDN k (m / 10) (by omega)]
     simp only[Option.bind,decFrom,zNB (show m % 10<=9 by omega)]
     congr 1
     omega
theorem zWD(m:Nat):dg m≠[]:=by
 by_cases hm:m<10
 · rw[zCl hm];simp
 · rw[zI0 hm];simp
theorem zM7:∀(k m:Nat),m<k->∀b∈dg m,48<=b.toNat/\b.toNat<=57
 | 0,m,h=>by omega
 | k+1,m,h=>by
   have one:∀d,d<=9->48<=(UInt8.ofNat (48+d)).toNat/\(UInt8.ofNat (48+d)).toNat<=57:=fun d hd=>by
     have e:(UInt8.ofNat (48+d)).toNat=48+d:=by simp[UInt8.toNat_ofNat'];omega
     omega
   intro b hb;by_cases hm:m<10
   · rw[zCl hm]at hb
     rcases r1Z.1 hb with rfl
     exact one m (by omega)
   · rw[zI0 hm]at hb
     rcases qxZ.1 hb with hb | hb
     · exact zM7 k (m / 10) (by omega) b hb
     · rcases r1Z.1 hb with rfl
       exact one _ (by omega)
theorem zLD(m:Nat)(h:m<=1000000000):1<=(dg m).length/\(dg m).length<=10 :=
 ⟨List.length_pos_iff.2 (zWD m),zBe 9 m (by omega)⟩
theorem zUT(m:Nat)(h:m<=1000000000):atoiAll (dg m)=.ok (m:Int):=by
 rw[atoiAll_short _ (by have:=(zLD m h).2;omega)]
 have hd:=zDN (m+1) m (by omega)
 have hb:=zM7 (m+1) m (by omega)
 have hne:=zWD m
 cases hq:dg m with
 | nil=>exact absurd hq hne
 | cons b r =>
   rw[hq]at hd hb;have h1:=hb b (qhZ ..)
   have h45:(b==45)=false:=by
     rw[beq_eq_false_iff_ne];rintro rfl;exact absurd h1.1 (by decide)
   have h43:(b==43)=false:=by
     rw[beq_eq_false_iff_ne];rintro rfl;exact absurd h1.1 (by decide)
   simp only[atoi,h45,h43,decNat,List.isEmpty_cons,hd];rfl
def zCQ(d:List UInt8):Int:=match atoiAll d with
 | .ok v=>v
 | .«syntax»=>0
 | .range=>atoiSat d
def Zl(s:List UInt8):Int×Int :=
 if s=manifW then (1,0) else if s=tempW then (2,0)
 else if s.take 4=walW/\mk 3 (zCQ (s.drop 4))=s then (3,zCQ (s.drop 4))
 else if s.take 4=segW/\mk 4 (zCQ (s.drop 4))=s then (4,zCQ (s.drop 4)) else (0,0)
def zLB(s:List UInt8):Int×Int :=
 if s=manifW then (1,0) else if s=tempW then (2,0)
 else if s.length<5\/14<s.length then (0,0)
 else match decFrom 0 (s.drop 4) with
   | none=>(0,0)
   | some n=>if s=mk 3 n then (3,(n:Int)) else if s=mk 4 n then (4,(n:Int)) else (0,0)
theorem mk3{m:Nat}(h1:1<=m)(h2:m<=1000000000):mk 3 m=walW++dg m:=by
 unfold mk;rw[if_neg (by decide),if_neg (by decide),if_neg (by omega),if_pos rfl];rfl
theorem mk4{m:Nat}(h1:1<=m)(h2:m<=1000000000):mk 4 m=segW++dg m:=by
 unfold mk;rw[if_neg (by decide),if_neg (by decide),if_neg (by omega),if_neg (by decide),if_pos rfl];rfl
theorem zN2(l:List UInt8):(walW++l).take 4=walW/\(walW++l).drop 4=l:=⟨rfl,rfl⟩
theorem zNq(l:List UInt8):(segW++l).take 4=segW/\(segW++l).drop 4=l:=⟨rfl,rfl⟩
theorem zQe{m:Nat}(h:m<=1000000000):zCQ (dg m)=m:=by unfold zCQ;rw[zUT m h]
theorem zSN{m:Nat}(h1:1<=m)(h2:m<=1000000000):Zl (walW++dg m)=(3,(m:Int))/\zLB (walW++dg m)=(3,(m:Int)):=by
 have n1:walW++dg m≠manifW:=fun e=>by cases e
 have n2:walW++dg m≠tempW:=fun e=>by cases e
 have hl:=zLD m h2
 have hlen:(walW++dg m).length=4+(dg m).length:=by rw[qdZ];rfl
 constructor
 · unfold Zl
   rw[if_neg n1,if_neg n2,(zN2 _).2,zQe h2,if_pos ⟨rfl,mk3 h1 h2⟩]
 · unfold zLB
   rw[if_neg n1,if_neg n2,if_neg (by omega),(zN2 _).2,zDN (m+1) m (by omega)]
   dsimp only;rw[if_pos (mk3 h1 h2).symm]
theorem zTY{m:Nat}(h1:1<=m)(h2:m<=1000000000):Zl (segW++dg m)=(4,(m:Int))/\zLB (segW++dg m)=(4,(m:Int)):=by
 have n1:segW++dg m≠manifW:=fun e=>by cases e
 have n2:segW++dg m≠tempW:=fun e=>by cases e
 have hl:=zLD m h2
 have hlen:(segW++dg m).length=4+(dg m).length:=by rw[qdZ];rfl
 constructor
 · unfold Zl
   rw[if_neg n1,if_neg n2,if_neg (by rintro⟨h,_⟩;cases h),(zNq _).2,zQe h2,if_pos ⟨rfl,mk4 h1 h2⟩]
 · unfold zLB
   rw[if_neg n1,if_neg n2,if_neg (by omega),(zNq _).2,zDN (m+1) m (by omega)]
   dsimp only
   rw[if_neg (by rw[mk3 h1 h2];intro e;cases e),if_pos (mk4 h1 h2).symm]
end
section
open Go Go.Lib
theorem zPl(k n:Int):(mk k n).length<=14:=by
 unfold mk;split
 · decide
 split
 · decide
 split
 · decide
 rename_i h
 have hd:=(zLD n.toNat (by omega)).2
 split
 · rw[qdZ,show walW.length=4 from rfl];omega
 split
 · rw[qdZ,show segW.length=4 from rfl];omega
 · decide
theorem zIR{k:Int}(hk:k=3\/k=4){m:Nat}(h1:1<=m)(h2:m<=1000000000):Zl (mk k m)=(k,(m:Int)):=by
 rcases hk with rfl | rfl
 · rw[mk3 h1 h2];exact (zSN h1 h2).1
 · rw[mk4 h1 h2];exact (zTY h1 h2).1
theorem zU9{k:Int}(hk:k=3\/k=4){n m:Nat}(h1:1<=n)(h2:n<=1000000000)(h3:1<=m)(h4:m<=1000000000)(h:mk k n=mk k m):n=m:=by
 have e1:=zIR hk h1 h2;rw[h,zIR hk h3 h4]at e1;have:=(Prod.mk.inj e1).2;omega
abbrev wn(n:Nat):List UInt8:=mk 3 n
theorem zWc{n:Nat}(h1:1<=n)(h2:n<=1000000000):zJg (wn n):=by
 have e:wn n=walW++dg n:=by
   unfold wn mk
   rw[if_neg (by decide),if_neg (by decide),if_neg (by omega),if_pos rfl,Int.toNat_natCast]
 have:=zPl 3 n
 refine ⟨?_,by show (mk 3 n).length<=64;omega⟩
 rw[e];simp[walW]
theorem zW8{n m:Nat}(h1:1<=n)(h2:n<=1000000000)(h3:1<=m)(h4:m<=1000000000)(h:wn n=wn m):n=m:=zU9 (.inl rfl) h1 h2 h3 h4 h
end
section
open Go Go.Lib
attribute [-simp] zJ zY zn zL zl
def zCO:FD×FS->List (List UInt8×List UInt8)->Option (FD×FS)
 | s,[]=>some s
 | s,e::l=>if (s.1.create e.1).2.2=0 then zCO ((s.1.create e.1).1,s.2++[((s.1.create e.1).2.1,⟨e.2,[]⟩)]) l else none
theorem zG2(s:FD×FS)(e:List UInt8×List UInt8)(l:List (List UInt8×List UInt8)):zCO s (e::l)=if (s.1.create e.1).2.2=0 then zCO ((s.1.create e.1).1,s.2++[((s.1.create e.1).2.1,⟨e.2,[]⟩)]) l else none:=rfl
theorem zP6(s:FD×FS):zCO s []=some s:=rfl
def DS.ofF(x:List (List UInt8×List UInt8))(q:Int):Option DS :=
 if q<0 then none else (zCO (FD.new,[]) x).map fun s=>⟨s.1.survive s.1.acts.length,s.2,q,0,0,false⟩
noncomputable def zTV:Gam:=zv [(102,zLN),(103,zS3),(105,zOo),(104,zSw)]
theorem zL8:GOk Pz zTV:=zC zNw (zC zPG (zC zMp (zC zOU zD)))
def ofH(row:ABlk)(q:Int)(s:FD×FS):zA:=row::.obj true s.1.blks::.map (zO (fun i=>i+4) 0 s.2)::.cells true [.ptr 1 0,.map 2,.int .i64 q,.int .i64 0,.int .i64 0,.bool false]::zM s.2
structure OfI (x:List (List UInt8×List UInt8)) (i:Nat) (s:FD×FS):Prop where
 rest:zCO s (x.drop i)=zCO (FD.new,[]) x
 ok:s.1.ok i
 len:s.2.length=i
 keys:∀n∈FS.keys s.2,n<=s.1.last
theorem zUW(row:ABlk)(hrow:∀rn:List Nat,AWb rn row row)(q:Int)(fd:FD)(fs:FS)(e:Int×PF)(i:Nat)(hi:fs.length=i)(J:ABlk){F Fn:List AV}(hF:AWs (List.range (4+i)++[i+5]) Fn F) :
   Weak 1 F (row::.obj true fd.blks::.map (zO (fun i=>i+4) 0 fs++[(.int .i64 e.1,.ptr (i+5) 0)])::.cells true [.ptr 1 0,.map 2,.int .i64 q,.int .i64 0,.int .i64 0,.bool false]::(zM fs++[J,.obj true e.2.blks])) Fn (ofH row q (fd,fs++[e])):=by
 have hr:∀k,k<4+i->(List.range (4+i)++[i+5])[k]? = some k:=fun k hk=>zBh _ _ hk
 have hr2:(List.range (4+i)++[i+5])[4+i]? = some (i+5):=zPT _ _;have hX:=behind fs;rw[hi]at hX
 refine Weak.mk' (List.range (4+i)++[i+5]) ?_ ?_ hF (AWg.of _ _ (by simp[ofH,hi];omega) fun k x b hx hb hlt=>?_)
 · rw[List.nodup_append]
   exact⟨List.nodup_range,by simp,fun a ha b hb=>by have:=List.mem_range.1 ha;simp at hb;omega⟩
 · rw[List.take_append_of_le_length (by simp;omega),List.take_range,sfZ (by omega)]
 · have hk:k<4+i+1:=by
     have:=(q1Z.1 hb).1;simpa using this
   rw[q2Z]
   match k,hx,hb with
   | 0,hx,hb=>rw[hr 0 (by omega)]at hb;cases hb;cases hx;exact hrow _
   | 1,hx,hb=>rw[hr 1 (by omega)]at hb;cases hb;cases hx;exact⟨rfl,rfl⟩
   | 2,hx,hb =>
     rw[hr 2 (by omega)]at hb;cases hb;cases hx
     have:zO (fun k=>if k<i then k+4 else i+5) 0 (fs++[e])=zO (fun i=>i+4) 0 fs++[(.int .i64 e.1,.ptr (i+5) 0)]:=by
       rw[zKW,zBM 0 fs (fun k _ hk=>if_pos (by omega))]
       simp[hi]
     simp only[r9Z,raZ,rgZ];rw[<-this]
     refine zBg fun j hj=>?_
     simp only[qdZ,q7Z,q8Z,hi]at hj;by_cases h:j<i
     · rw[if_pos h,hr _ (by omega)]
     · have:j=i:=by omega
       subst this
       rw[if_neg h,Nat.add_comm j 4];exact hr2
   | 3,hx,hb =>
     rw[hr 3 (by omega)]at hb;cases hb;cases hx
     exact⟨id,⟨hr 1 (by omega),rfl⟩,by simp[AW,hr 2 (by omega)],⟨rfl,rfl⟩,⟨rfl,rfl⟩,⟨rfl,rfl⟩,rfl,trivial⟩
   | j+4,hx,hb =>
     unfold ofH at hx;simp only[r9Z]at hx;by_cases h:j<i
     · rw[hr _ (by omega)]at hb;cases hb
       simp only[r9Z]
       have hj:j<(zM fs).length:=by rw[hX.len];exact h
       rw[q4Z hj]
       have e1:zM (fs++[e])=zM fs++[.obj true e.2.blks]:=by simp[zM]
       rw[e1,q4Z hj]at hx;rw[hx];obtain⟨y,_,rfl⟩:=reZ.1 (qcZ hx);exact⟨rfl,rfl⟩
     · have:j=i:=by omega
       subst this
       rw[Nat.add_comm j 4,hr2]at hb;cases hb
       simp only[r9Z];rw[hX.get]
       have e1:zM (fs++[e])=zM fs++[.obj true e.2.blks]:=by simp[zM]
       rw[e1,hX.get0]at hx;cases hx;exact⟨rfl,rfl⟩
theorem zXF(x:List (List UInt8×List UInt8))(hx:x.length<=1000000)(hk:∀e∈x,e.1.length<=9223372036854775807)(q:Int) : 
   Ct Pz 35 [.sl 0 0 x.length 2 false,.int .i64 q] [.cells false (flA x)] (match DS.ofF x q with | some _=>.ptr 1 0 | none=>.nilp) (match DS.ofF x q with | some d=>[.cells false (flA x),.obj true d.blks] | none=>[.cells false (flA x)]):=by
 have hΓ:=zL8;refine zK Tryz.func35 rfl ?_;simp only[Tryz.ntmps35,q7Z,q8Z,Nat.reduceAdd,Nat.reduceSub,qbZ,q9Z,qaZ];obtain⟨L,hL⟩:∃L,x.length=L:=⟨_,rfl⟩;obtain⟨row,hrow⟩:∃row:ABlk,ABlk.cells false (flA x)=row:=⟨_,rfl⟩
 have hrw:∀rn:List Nat,AWb rn row row:=fun rn=>by rw[<-hrow];exact⟨id,(zBP (zAP x)).2 trivial⟩
 rw[hL]at hx ⊢
 refine Sim.step hmix hΓ (n:=0) (by simp;exact⟨rfl,rfl⟩) (by simp) ?_
 by_cases hq:q<0
 · have e:DS.ofF x q=none:=by unfold DS.ofF;rw[if_pos hq]
   rw[e]
   refine Sim.exec hmix hΓ (n:=0) (by simp[hq];exact⟨rfl,rfl,rfl⟩) (by simp) ?_
   exact⟨.inr rfl,_,by simp[Tryz.f35] <;> rfl,Weak.mk' [0] (by decide) (by decide) (by simp) (by simp[AWb])⟩
 have e:DS.ofF x q=(zCO (FD.new,[]) x).map fun s=>⟨s.1.survive s.1.acts.length,s.2,q,0,0,false⟩:=by unfold DS.ofF;rw[if_neg hq]
 rw[e]
 refine Sim.step hmix hΓ (n:=0) (by simp[hq];exact⟨rfl,rfl⟩) (by simp) ?_
 refine Sim.step hmix hΓ (n:=0) (by simp[zTV,zLN];exact⟨rfl,rfl⟩) (by simp) ?_
 refine Sim.seq (Sim.mono (Q:=fun e F' H'=>(e=.normal/\∃s,OfI x L s/\Weak 1 F' H' ([.top,.top,.top,.top,.top,.ptr 3 0]++qbZ 44 .top) (ofH row q s))\/(e=.ret/\zCO (FD.new,[]) x=none/\∃v1,zDA Pz Tryz.f35.results.toList F' H'=some v1/\Weak 1 [v1] H' [.nilp] [row])) (Sim.step hmix hΓ (n:=0) (by simp;exact⟨rfl,rfl⟩) (by simp) ?_) ?_)
 · refine Sim.block (Sim.loopW (fun r:Nat×FD×FS=>r.1<=L/\OfI x r.1 r.2) (fun r=>[.sl 0 0 L 2 false,.int .i64 q,.top,.top,.top,.ptr 3 0]++qbZ 11 .top++[.sl 0 0 L 2 false,.int .i64 L,.int .i64 r.1]++qbZ 30 .top) (fun r=>ofH row q r.2) (fun r=>L-r.1) (0,FD.new,[]) (by simp) ⟨qqZ _,by simp,FD.ok_new,rfl,fun n hn=>by simp[FS.keys]at hn⟩ ?_ fun r hr=>?_)
   · rw[hrow]
     exact Weak.mk' [0,1,2,3] (by decide) (by decide) (by simp) ⟨by simpa using hrw _,by simp[AWb,AW,zO,zM,AWg]⟩
   · obtain⟨i,fd,fs⟩:=r
     obtain⟨hi,hr1,hr2,hr3,hr4⟩:=hr;dsimp only at hi hr1 hr2 hr3 hr4 ⊢;have hX:=behind fs;rw[hr3]at hX;have hXl:=hX.len;have hXg:=hX.get;have hXg0:=hX.get0;by_cases hlt:i<L;rotate_left
     · have hin:i=L:=by omega
       subst hin
       refine Sim.exec hmix hΓ (n:=0) (by simp;exact⟨rfl,rfl,rfl⟩) (by simp[ofH]) ?_
       dsimp only;rw[if_pos rfl]
       refine .inl ⟨by trivial,(fd,fs),⟨hr1,hr2,hr3,hr4⟩,?_⟩
       refine zNh (M:=i+4) (by simp[ofH,hr3]) (by omega) (fun rn hr=>by simp[AW,hr 3 (by omega)]) (by simp[ofH,hr3]) fun rn hr k x y hx hy=>?_
       rw[hx]at hy;cases hy
       unfold ofH at hx
       match k,hx with
       | 0,hx=>cases hx;exact hrw rn
       | 1,hx=>cases hx;exact⟨rfl,rfl⟩
       | 2,hx=>cases hx;exact zBg fun j hj=>hr _ (by rw[hr3]at hj;omega)
       | 3,hx=>cases hx;exact⟨id,⟨hr 1 (by omega),rfl⟩,by simp[AW,hr 2 (by omega)],⟨rfl,rfl⟩,⟨rfl,rfl⟩,⟨rfl,rfl⟩,rfl,trivial⟩
       | k+4,hx =>
         simp only[r9Z]at hx;obtain⟨e,_,rfl⟩:=reZ.1 (qcZ hx);exact⟨rfl,rfl⟩
     have hltI:(i:Int)<L:=by omega
     have hil:i<x.length:=by omega
     obtain⟨e,he⟩:∃e,x[i]=e:=⟨_,rfl⟩;have hg:=zC0 x i hil;rw[he]at hg
     have hek:=hk e (by rw[<-he];exact r3Z hil)
     have hdr:x.drop i=e::x.drop (i+1):=by rw[List.drop_eq_getElem_cons hil,he]
     rw[hdr,zG2]at hr1
     have k1:i*2+2<=L*2:=by omega
     have y1:IntKind.i64.wrap ((i:Int)+1)=i+1:=zX (by omega) (by omega)
     have hsm:fd.small:=FD.ok_mono hr2 (by omega)
     have hok':=FD.ok_create hr2 e.1
     have hz:(fd.create e.1).2.2=0->(fd.create e.1).2.1=fd.last+1/\(fd.create e.1).1.last=fd.last+1:=by
       unfold FD.create;split
       · split
         · intro h;exact absurd h (by dsimp only;omega)
         · intro _;exact⟨rfl,rfl⟩
       · intro h;exact absurd h (by dsimp only;omega)
     obtain⟨f',num,er,hc⟩:∃f' num er,fd.create e.1=(f',num,er):=⟨_,_,_,rfl⟩;rw[hc]at hr1 hok' hz;dsimp only at hr1 hok' hz
     have hlook:=zAB (fun i=>i+4) num 0 fs 0
     have hA0:(ABlk.cells false (flA x))=row:=hrow
     have hw:=fun J F Fn hF=>zUW row hrw q f' fs (num,⟨e.2,[]⟩) i hr3 J (F:=F) (Fn:=Fn) hF
     unfold ofH;dsimp only;obtain⟨X,eX⟩:∃X,zM fs=X:=⟨_,rfl⟩;rw[eX]at hXl hXg hXg0 hw ⊢;rw[<-hrow]
     refine Sim.step hmix hΓ (n:=0) (by simp[hltI];exact⟨rfl,rfl⟩) (by simp) ?_
     refine Sim.step hmix hΓ (n:=0) (by simp;exact⟨rfl,rfl⟩) (by simp) ?_
     refine Sim.seq (Sim.block ?_)
     refine Sim.step hmix hΓ (n:=0) (by simp +decide [hlt,hL,hg,k1,hXl];exact⟨rfl,rfl⟩) (by simp) ?_
     refine Sim.seq (Sim.draw hmix (by simp) ?_)
     refine SimR.many hΓ 6 (by simp[zI];rfl) (by omega) (by kernel_rfl) (by simp +decide [hXl,hXg,hXg0];first | exact⟨rfl,rfl⟩ | exact⟨by kernel_rfl,rfl,rfl⟩) ?_
     refine SimR.one hΓ _ rfl (by kernel_rfl) (by simp +decide [zTV,zS3,hsm,hek,hc];exact⟨rfl,rfl⟩) ?_
     refine SimR.many hΓ 12 (by simp[zI,zh];rfl) (by omega) (by kernel_rfl) (by simp +decide;first | exact⟨rfl,rfl⟩ | exact⟨by kernel_rfl,rfl,rfl⟩) ?_
     refine SimR.done rfl ?_;dsimp only;by_cases her:er=0
     · subst her
       obtain⟨hnum,hlast⟩:=hz rfl;rw[if_pos rfl]at hr1
       have hfr:FS.get fs num=none:=FS.get_none.2 fun hm=>by have:=hr4 _ hm;omega
       rw[hfr]at hlook;simp only[Option.map_none]at hlook
       refine Sim.step hmix hΓ (n:=0) (by simp;exact⟨rfl,rfl⟩) (by simp) ?_
       refine Sim.draw hmix (by simp) ?_
       refine SimR.many hΓ 8 (by simp[zI];rfl) (by omega) (by kernel_rfl) (by simp +decide [zTV,zSw,hXl,hXg,hXg0];first | exact⟨rfl,rfl⟩ | exact⟨by kernel_rfl,rfl,rfl⟩) ?_
       refine SimR.one hΓ _ rfl (by kernel_rfl) (by simp +decide [hlook];exact⟨rfl,rfl⟩) ?_
       refine SimR.done rfl ?_;dsimp only
       refine Sim.exec hmix hΓ (n:=0) (by simp[y1];exact⟨rfl,rfl,rfl⟩) (by simp) ?_
       dsimp only
       refine ⟨(i+1,f',fs++[(num,⟨e.2,[]⟩)]),⟨by dsimp only;omega,hr1,hok',by simp[hr3],fun n hn=>?_⟩,?_,by dsimp only;omega⟩
       · simp only[FS.keys,roZ,qxZ,s1Z,List.map_nil,r1Z]at hn
         rcases hn with hn | hn
         · have:=hr4 n hn;dsimp only;omega
         · dsimp only;omega
       · rw[hrow]
         have r0:(List.range (4+i)++[i+5])[0]? = some 0:=zBh _ _ (by omega)
         have r3:(List.range (4+i)++[i+5])[3]? = some 3:=zBh _ _ (by omega)
         have r0':∀h,(List.range (4+i)++[i+5])[0]'h=0:=fun h=>(q1Z.1 r0).2
         have r3':∀h,(List.range (4+i)++[i+5])[3]'h=3:=fun h=>(q1Z.1 r3).2
         refine hw _ _ _ ?_;simp[AW,r0,r3,r0',r3']
     · have her':(er==0)=false:=by simpa using her
       rw[if_neg her]at hr1
       refine Sim.exec hmix hΓ (n:=0) (by simp +decide [her,her'];exact⟨rfl,rfl,rfl⟩) (by simp) ?_
       dsimp only
       refine .inr ⟨by trivial,hr1.symm,.nilp,by simp[Tryz.f35],?_⟩
       rw[hrow]
       exact Weak.mk' [0] (by decide) (by decide) (by simp) ⟨by simpa using hrw _,trivial⟩
 rintro e F' H' hlen (⟨rfl,s,hs,hwk⟩ | ⟨rfl,hno,v1,hv1,hwk⟩)
 · dsimp only
   refine Sim.weak hwk hlen ?_;clear hwk hlen;have hfold:=hs.rest
   rw[List.drop_of_length_le (by omega),zP6]at hfold
   rw[<-hfold];simp only[rhZ,q9Z,qaZ,qbZ];obtain⟨fd,fs⟩:=s
   have hal:fd.acts.length<=1000000:=by have:=hs.ok.len;dsimp only at this;omega
   have hfl:=hs.len;dsimp only at hfl ⊢;unfold ofH;dsimp only;obtain⟨d,hd⟩:∃d:DS,(⟨fd.survive fd.acts.length,fs,q,0,0,false⟩:DS)=d:=⟨_,rfl⟩
   refine Sim.step hmix hΓ (n:=0) (by simp[zTV,zOo,hal];exact⟨rfl,rfl⟩) (by simp) ?_
   refine Sim.after (Sim.exec hmix hΓ (n:=0) (by simp;exact⟨rfl,rfl,rfl⟩) (by simp) ?_)
   have hat:DAt (row::.obj true (fd.survive fd.acts.length).blks::.map (zO (fun i=>i+4) 0 fs)::.cells true [.ptr 1 0,.map 2,.int .i64 q,.int .i64 0,.int .i64 0,.bool false]::zM fs) d 3 1 2 (·+4):=by
     rw[<-hd]
     refine ⟨rfl,rfl,rfl,fun i e he=>?_,?_⟩
     · simp only[r9Z]
       exact Zj he
     · refine rdZ.2 ⟨fun h=>?_,rdZ.2 ⟨fun h=>?_,rdZ.2 ⟨fun h=>?_,?_⟩⟩⟩
       · rcases qwZ.1 h with h | h
         · omega
         rcases qwZ.1 h with h | h
         · omega
         · obtain⟨c,_,h⟩:=reZ.1 h;omega
       · rcases qwZ.1 h with h | h
         · omega
         · obtain⟨c,_,h⟩:=reZ.1 h;omega
       · obtain⟨c,_,h⟩:=reZ.1 h;omega
       · rw[List.nodup_iff_pairwise_ne,List.pairwise_map]
         exact (List.nodup_iff_pairwise_ne.1 List.nodup_range).imp fun h e=>h (by omega)
   rw[hd,hrow]
   refine Aft.closeAt hat (by simp) (Aft.done (by simp) ?_)
   refine ⟨.inr rfl,_,by simp[Tryz.f35] <;> rfl,Weak.mk' [0,3] (by decide) (by decide) (by simp[AWs,AW]) (zT (b:=3) (by simp) _ _ rfl fun i c x h1 h2=>?_)⟩
   match i,h1,h2 with
   | 0,h1,h2 =>
     cases h1;cases h2
     refine .inr ⟨⟨by omega,fun h=>?_⟩,hrw _⟩
     rcases qwZ.1 h with h | h
     · omega
     rcases qwZ.1 h with h | h
     · omega
     · obtain⟨c,_,h⟩:=reZ.1 h;omega
   | 1,h1,h2=>cases h1;cases h2;exact .inl ⟨rfl,rfl⟩
 · rw[hno]
   exact⟨.inr rfl,v1,hv1,by simpa[hrow] using hwk⟩
end
end Go.Proofs.YtpmfecnajoojeaaGreatDoor
