/- Parts of the proof of WalKeeps: lemmas, each with its own conditions. -/
import Derived.Lib.AtoiTie
import Derived.Test.YtpmfecnajoojeaaGreatDoorY17
set_option maxHeartbeats 64000000
open List renaming getElem?_eq_some_iff → q1Z, getElem?_eq_getElem → q3Z, getElem?_append_left → q4Z, getElem?_append_right → q5Z, take_of_length_le → q6Z, length_cons → q7Z, length_nil → q8Z, cons_append → q9Z, length_append → qdZ, append_assoc → qeZ, mem_cons_self → qhZ, mem_append → qxZ, getElem_append_left → qyZ, mem_singleton → r1Z, append_nil → r2Z, take_append_drop → r6Z, flatten_cons → rcZ, mem_map → reZ, map_append → roZ, range_succ → rpZ, map_cons → s1Z, flatten_append → sgZ
open Nat renaming le_refl → qnZ
open Bool renaming false_eq_true → qsZ
namespace Go.Proofs.YtpmfecnajoojeaaGreatDoor
open _root_.Go.Proofs.Tryz renaming prog → Pz
set_option maxRecDepth 100000
section
open Go Go.RowKit Go.Lib Go.Sort
def decF:Nat→Nat→List UInt8
 | 0,_=>[]
 | k+1,u=>if u<10 then [UInt8.ofNat (48+u)] else decF k (u / 10)++[UInt8.ofNat (48+u % 10)]
theorem decF_eq:∀(k u:Nat),u<10 ^ k→0<k→decF k u=decDigits u
 | 0,_,_,h=>by omega
 | k+1,u,h,_=>by
   unfold decF;rw[decDigits];by_cases hu:u<10
   · rw[if_pos hu,dif_pos hu]
   · rw[if_neg hu,dif_neg hu]
     rcases Nat.eq_zero_or_pos k with rfl | hk
     · simp at h;omega
     · rw[decF_eq k (u / 10) (by rw[Nat.pow_succ]at h;omega) hk]
theorem pow_var {j : Inj} {H : AHeap} {w : World} (hR : R j H w) : TabIs Pz w "internal/strconv.uint64pow10" .u64 pow10Tab := by
 obtain⟨⟨T,fz,h⟩,_⟩:=hR.glo.1.1
 have hg:w.heap[3]? = some (.cells (pow10Tab.map fun z=>Value.int .u64 z).toArray T fz):=by
   unfold gview at h;split at h
   · exact h
   · cases h
 unfold TabIs World.var?
 have : Tryz.prog.globalNamed "internal/strconv.uint64pow10" = some 3 := by kernel_rfl
 rw[this];dsimp only[Option.bind];rw[hg]
def itoaS:Summ:=pureS fun
 | [.int .i64 (.ofNat m)]=>if m≤9223372036854775807 then some (.str (decF 20 m)) else none
 | _=>none
theorem itoa_sound:Sound Pz 144 itoaS:=by
 refine sound_pure (enter_of Tryz.func144 rfl (by decide)) fun args v hv=>?_
 split at hv;rotate_left
 · cases hv
 rename_i m
 split at hv <;> cases hv
 rename_i hm
 refine ⟨ct_of_world rfl fun j w cargs hR hargs=>?_,rfl,rfl⟩
 obtain⟨a,cs,e,h1,h2⟩:=hargs;simp only[VRs]at h2;subst h2;simp only[VR]at h1;subst h1
 have ec:cargs=#[.int .i64 (Int.ofNat m)]:=by apply Array.ext';rw[e]
 subst ec
 refine (Tryz.strconv_Itoa (Int.ofNat m) (by have:(0:Int)≤Int.ofNat m:=Int.natCast_nonneg m;omega) (by have:(Int.ofNat m)=(m:Int):=rfl;omega) w (pow_var hR)).mono ?_
 rintro e w' ⟨rfl,k,os,rfl⟩
 refine ⟨_,rfl,?_,⟨rfl,rfl,rfl,by simp[grow,World.drewN],fun c hc=>by simp[grow,World.drewN,Array.getElem?_append_left hc]⟩⟩
 have:Lib.itoa (Int.ofNat m)=decF 20 m:=by
   unfold Lib.itoa
   rw[if_neg (by have:(0:Int)≤Int.ofNat m:=Int.natCast_nonneg m;omega),decF_eq 20 m (by omega) (by omega)]
   rfl
 rw[this];rfl
end
section
open Go Go.Lib
attribute [-simp] drawOk_eq adraw qrun acode aops
def dg(m:Nat):List UInt8:=decDigits m
theorem dg_small{m:Nat}(h:m<10):dg m=[UInt8.ofNat (48+m)]:=decDigits_one h
theorem dg_big{m:Nat}(h:¬m<10):dg m=dg (m / 10)++[UInt8.ofNat (48+m % 10)]:=by
 unfold dg;rw[decDigits,dif_neg h]
theorem dg_length:∀(k m:Nat),m<10 ^ (k+1)→(dg m).length≤k+1
 | 0,m,h=>by rw[dg_small (by omega)];simp
 | k+1,m,h=>by
   by_cases hm:m<10
   · rw[dg_small hm];simp
   · rw[dg_big hm,qdZ]
     have:=dg_length k (m / 10) (by rw[Nat.pow_succ]at h;omega)
     simp only[q7Z,q8Z];omega
def manifW:List UInt8:=[109,97,110,105,102,101,115,116]
def tempW:List UInt8:=[109,97,110,105,102,101,115,116,46,116,109,112]
def walW:List UInt8:=[119,97,108,45]
def segW:List UInt8:=[115,101,103,45]
def mk(k n:Int):List UInt8 :=
 if k=1 then manifW else if k=2 then tempW else if n<1∨1000000000<n then [] else if k=3 then walW++dg n.toNat else if k=4 then segW++dg n.toNat else []
theorem mk_none{k n:Int}(h1:k≠1)(h2:k≠2)(h3:k≠3)(h4:k≠4):mk k n=[]:=by
 unfold mk;simp[h1,h2,h3,h4]
def mkS:Summ:=pureS fun
 | [.int .i64 k,.int .i64 n]=>some (.str (mk k n))
 | _=>none
def mkInl:List FuncId:=[117,120]
theorem mkΓ_ok:GOk Pz (runG Pz (gams [(144,itoaS)]) 0 mkInl 2):=gok_run hmix (goks_cons itoa_sound goks_nil) 0 mkInl 2
theorem itoa_dg{m:Nat}(h:m<10 ^ 20):decF 20 m=dg m:=decF_eq 20 m h (by decide)
theorem make_ct(k n:Int):Ct Pz 76 [.int .i64 k,.int .i64 n] [] (.str (mk k n)) []:=by
 have key:∀j:Nat,1≤n→n≤1000000000→∃m:Nat,n=m∧itoaS [.int .i64 n]=fun H=>some (.str (dg m),H,[]):=fun _ h1 h2=>by
   obtain⟨m,rfl⟩:∃m:Nat,n=m:=⟨n.toNat,by omega⟩
   refine ⟨m,rfl,?_⟩
   funext H
   have e:m≤9223372036854775807:=by omega
   simp[itoaS,pureS,e,itoa_dg (show m<10 ^ 20 by omega)]
 by_cases h0:k<0
 · have hm:mk k n=[]:=mk_none (by omega) (by omega) (by omega) (by omega)
   rw[hm]
   exact ct_val hmix mkΓ_ok (n:=0) Tryz.func76 (by unfold Tryz.f76;simp +decide [h0]) (by simp)
 by_cases h4:4<k
 · have hm:mk k n=[]:=mk_none (by omega) (by omega) (by omega) (by omega)
   rw[hm]
   exact ct_val hmix mkΓ_ok (n:=0) Tryz.func76 (by unfold Tryz.f76;simp +decide [h0,h4]) (by simp)
 have hk:k=0∨k=1∨k=2∨k=3∨k=4:=by omega
 rcases hk with rfl | rfl | rfl | rfl | rfl
 · have hm:mk 0 n=[]:=mk_none (by omega) (by omega) (by omega) (by omega)
   rw[hm]
   exact ct_val hmix mkΓ_ok (n:=0) Tryz.func76 (by unfold Tryz.f76;simp +decide [mkInl,Tryz.f117,Tryz.f120]) (by simp)
 · simp only[show mk 1 n=manifW from rfl]
   exact ct_val hmix mkΓ_ok (n:=0) Tryz.func76 (by unfold Tryz.f76;simp +decide [mkInl,Tryz.f117,Tryz.f120,manifW]) (by simp)
 · simp only[show mk 2 n=tempW from rfl]
   exact ct_val hmix mkΓ_ok (n:=0) Tryz.func76 (by unfold Tryz.f76;simp +decide [mkInl,Tryz.f117,Tryz.f120,tempW]) (by simp)
 · by_cases h1:n<1
   · have hm:mk 3 n=[]:=by unfold mk;rw[if_neg (by omega),if_neg (by omega),if_pos (.inl h1)]
     rw[hm]
     exact ct_val hmix mkΓ_ok (n:=0) Tryz.func76 (by unfold Tryz.f76;simp +decide [mkInl,Tryz.f117,Tryz.f120,h1]) (by simp)
   by_cases h2:1000000000<n
   · have hm:mk 3 n=[]:=by unfold mk;rw[if_neg (by omega),if_neg (by omega),if_pos (.inr h2)]
     rw[hm]
     exact ct_val hmix mkΓ_ok (n:=0) Tryz.func76 (by unfold Tryz.f76;simp +decide [mkInl,Tryz.f117,Tryz.f120,h1,h2]) (by simp)
   obtain⟨m,hm,hi⟩:=key 0 (by omega) (by omega)
   have hml:(dg m).length≤15:=dg_length 14 m (by omega)
   have hml2:4+(dg m).length≤9223372036854775807:=by omega
   have hml3:(dg m).length+1+1+1+1≤9223372036854775807:=by omega
   have hmk:mk 3 n=walW++dg m:=by unfold mk;rw[if_neg (by omega),if_neg (by omega),if_neg (by omega),if_pos rfl];rw[hm];rfl
   rw[hmk]
   exact ct_val hmix mkΓ_ok (n:=0) Tryz.func76 (by unfold Tryz.f76;simp +decide [mkInl,Tryz.f117,Tryz.f120,h1,h2,hi,hml2,walW]) (by simp)
 · by_cases h1:n<1
   · have hm:mk 4 n=[]:=by unfold mk;rw[if_neg (by omega),if_neg (by omega),if_pos (.inl h1)]
     rw[hm]
     exact ct_val hmix mkΓ_ok (n:=0) Tryz.func76 (by unfold Tryz.f76;simp +decide [mkInl,Tryz.f117,Tryz.f120,h1]) (by simp)
   by_cases h2:1000000000<n
   · have hm:mk 4 n=[]:=by unfold mk;rw[if_neg (by omega),if_neg (by omega),if_pos (.inr h2)]
     rw[hm]
     exact ct_val hmix mkΓ_ok (n:=0) Tryz.func76 (by unfold Tryz.f76;simp +decide [mkInl,Tryz.f117,Tryz.f120,h1,h2]) (by simp)
   obtain⟨m,hm,hi⟩:=key 0 (by omega) (by omega)
   have hml:(dg m).length≤15:=dg_length 14 m (by omega)
   have hml2:4+(dg m).length≤9223372036854775807:=by omega
   have hml3:(dg m).length+1+1+1+1≤9223372036854775807:=by omega
   have hmk:mk 4 n=segW++dg m:=by unfold mk;rw[if_neg (by omega),if_neg (by omega),if_neg (by omega),if_neg (by omega),if_pos rfl];rw[hm];rfl
   rw[hmk]
   exact ct_val hmix mkΓ_ok (n:=0) Tryz.func76 (by unfold Tryz.f76;simp +decide [mkInl,Tryz.f117,Tryz.f120,h1,h2,hi,hml2,segW]) (by simp)
theorem make_sound:Sound Pz 76 mkS:=by
 refine sound_pure (enter_of Tryz.func76 rfl (by decide)) fun args v h=>?_
 split at h <;> cases h
 exact⟨make_ct _ _,rfl,rfl⟩
end
section
open Go Go.Lib
theorem decFrom_append:∀(l r:List UInt8) (acc:Nat),decFrom acc (l++r)=(decFrom acc l).bind fun n=>decFrom n r
 | [],r,acc=>rfl
 | b::l,r,acc=>by
   simp only[q9Z,decFrom]
   cases digitVal b with
   | none=>rfl
   | some d=>exact decFrom_append l r _
theorem digit_ok{d:Nat}(h:d≤9):digitVal (UInt8.ofNat (48+d))=some d:=by
 have e:(UInt8.ofNat (48+d)).toNat=48+d:=by simp[UInt8.toNat_ofNat'];omega
 unfold digitVal
 rw[e,if_pos (by omega)]
 congr 1
 omega
theorem decFrom_dg:∀(k m:Nat),m<k→decFrom 0 (dg m)=some m
 | 0,m,h=>by omega
 | k+1,m,h=>by
   by_cases hm:m<10
   · rw[dg_small hm]
     simp only[decFrom,digit_ok (show m≤9 by omega)]
     simp
   · rw[dg_big hm,decFrom_append,decFrom_dg k (m / 10) (by omega)]
     simp only[Option.bind,decFrom,digit_ok (show m % 10≤9 by omega)]
     congr 1
     omega
theorem dg_ne(m:Nat):dg m≠[]:=by
 by_cases hm:m<10
 · rw[dg_small hm];simp
 · rw[dg_big hm];simp
theorem dg_bytes:∀(k m:Nat),m<k→∀b∈dg m,48≤b.toNat∧b.toNat≤57
 | 0,m,h=>by omega
 | k+1,m,h=>by
   have one:∀d,d≤9→48≤(UInt8.ofNat (48+d)).toNat∧(UInt8.ofNat (48+d)).toNat≤57:=fun d hd=>by
     have e:(UInt8.ofNat (48+d)).toNat=48+d:=by simp[UInt8.toNat_ofNat'];omega
     omega
   intro b hb;by_cases hm:m<10
   · rw[dg_small hm]at hb
     rcases r1Z.1 hb with rfl
     exact one m (by omega)
   · rw[dg_big hm]at hb
     rcases qxZ.1 hb with hb | hb
     · exact dg_bytes k (m / 10) (by omega) b hb
     · rcases r1Z.1 hb with rfl
       exact one _ (by omega)
theorem dg_len(m:Nat)(h:m≤1000000000):1≤(dg m).length∧(dg m).length≤10 :=
 ⟨List.length_pos_iff.2 (dg_ne m),dg_length 9 m (by omega)⟩
theorem atoi_dg(m:Nat)(h:m≤1000000000):atoiAll (dg m)=.ok (m:Int):=by
 rw[atoiAll_short _ (by have:=(dg_len m h).2;omega)]
 have hd:=decFrom_dg (m+1) m (by omega)
 have hb:=dg_bytes (m+1) m (by omega)
 have hne:=dg_ne m
 cases hq:dg m with
 | nil=>exact absurd hq hne
 | cons b r =>
   rw[hq]at hd hb;have h1:=hb b (qhZ ..)
   have h45:(b==45)=false:=by
     rw[beq_eq_false_iff_ne];rintro rfl;exact absurd h1.1 (by decide)
   have h43:(b==43)=false:=by
     rw[beq_eq_false_iff_ne];rintro rfl;exact absurd h1.1 (by decide)
   simp only[atoi,h45,h43,decNat,List.isEmpty_cons,hd];rfl
def atoA(d:List UInt8):Int:=match atoiAll d with
 | .ok v=>v
 | .«syntax»=>0
 | .range=>atoiSat d
def nparse(s:List UInt8):Int×Int :=
 if s=manifW then (1,0) else if s=tempW then (2,0)
 else if s.take 4=walW∧mk 3 (atoA (s.drop 4))=s then (3,atoA (s.drop 4))
 else if s.take 4=segW∧mk 4 (atoA (s.drop 4))=s then (4,atoA (s.drop 4)) else (0,0)
def rparse(s:List UInt8):Int×Int :=
 if s=manifW then (1,0) else if s=tempW then (2,0)
 else if s.length<5∨14<s.length then (0,0)
 else match decFrom 0 (s.drop 4) with
   | none=>(0,0)
   | some n=>if s=mk 3 n then (3,(n:Int)) else if s=mk 4 n then (4,(n:Int)) else (0,0)
theorem mk3{m:Nat}(h1:1≤m)(h2:m≤1000000000):mk 3 m=walW++dg m:=by
 unfold mk;rw[if_neg (by decide),if_neg (by decide),if_neg (by omega),if_pos rfl];rfl
theorem mk4{m:Nat}(h1:1≤m)(h2:m≤1000000000):mk 4 m=segW++dg m:=by
 unfold mk;rw[if_neg (by decide),if_neg (by decide),if_neg (by omega),if_neg (by decide),if_pos rfl];rfl
theorem wal_take(l:List UInt8):(walW++l).take 4=walW∧(walW++l).drop 4=l:=⟨rfl,rfl⟩
theorem seg_take(l:List UInt8):(segW++l).take 4=segW∧(segW++l).drop 4=l:=⟨rfl,rfl⟩
theorem atoA_dg{m:Nat}(h:m≤1000000000):atoA (dg m)=m:=by unfold atoA;rw[atoi_dg m h]
theorem both_wal{m:Nat}(h1:1≤m)(h2:m≤1000000000):nparse (walW++dg m)=(3,(m:Int))∧rparse (walW++dg m)=(3,(m:Int)):=by
 have n1:walW++dg m≠manifW:=fun e=>by cases e
 have n2:walW++dg m≠tempW:=fun e=>by cases e
 have hl:=dg_len m h2
 have hlen:(walW++dg m).length=4+(dg m).length:=by rw[qdZ];rfl
 constructor
 · unfold nparse
   rw[if_neg n1,if_neg n2,(wal_take _).2,atoA_dg h2,if_pos ⟨rfl,mk3 h1 h2⟩]
 · unfold rparse
   rw[if_neg n1,if_neg n2,if_neg (by omega),(wal_take _).2,decFrom_dg (m+1) m (by omega)]
   dsimp only;rw[if_pos (mk3 h1 h2).symm]
theorem both_seg{m:Nat}(h1:1≤m)(h2:m≤1000000000):nparse (segW++dg m)=(4,(m:Int))∧rparse (segW++dg m)=(4,(m:Int)):=by
 have n1:segW++dg m≠manifW:=fun e=>by cases e
 have n2:segW++dg m≠tempW:=fun e=>by cases e
 have hl:=dg_len m h2
 have hlen:(segW++dg m).length=4+(dg m).length:=by rw[qdZ];rfl
 constructor
 · unfold nparse
   rw[if_neg n1,if_neg n2,if_neg (by rintro⟨h,_⟩;cases h),(seg_take _).2,atoA_dg h2,if_pos ⟨rfl,mk4 h1 h2⟩]
 · unfold rparse
   rw[if_neg n1,if_neg n2,if_neg (by omega),(seg_take _).2,decFrom_dg (m+1) m (by omega)]
   dsimp only
   rw[if_neg (by rw[mk3 h1 h2];intro e;cases e),if_pos (mk4 h1 h2).symm]
end
section
open Go Go.Lib
theorem mkN_length(k n:Int):(mk k n).length≤14:=by
 unfold mk;split
 · decide
 split
 · decide
 split
 · decide
 rename_i h
 have hd:=(dg_len n.toNat (by omega)).2
 split
 · rw[qdZ,show walW.length=4 from rfl];omega
 split
 · rw[qdZ,show segW.length=4 from rfl];omega
 · decide
theorem nparseN_mk{k:Int}(hk:k=3∨k=4){m:Nat}(h1:1≤m)(h2:m≤1000000000):nparse (mk k m)=(k,(m:Int)):=by
 rcases hk with rfl | rfl
 · rw[mk3 h1 h2];exact (both_wal h1 h2).1
 · rw[mk4 h1 h2];exact (both_seg h1 h2).1
theorem mkN_inj{k:Int}(hk:k=3∨k=4){n m:Nat}(h1:1≤n)(h2:n≤1000000000)(h3:1≤m)(h4:m≤1000000000)(h:mk k n=mk k m):n=m:=by
 have e1:=nparseN_mk hk h1 h2;rw[h,nparseN_mk hk h3 h4]at e1;have:=(Prod.mk.inj e1).2;omega
abbrev wn(n:Nat):List UInt8:=mk 3 n
theorem wn_may{n:Nat}(h1:1≤n)(h2:n≤1000000000):mayF (wn n):=by
 have e:wn n=walW++dg n:=by
   unfold wn mk
   rw[if_neg (by decide),if_neg (by decide),if_neg (by omega),if_pos rfl,Int.toNat_natCast]
 have:=mkN_length 3 n
 refine ⟨?_,by show (mk 3 n).length≤64;omega⟩
 rw[e];simp[walW]
theorem wn_inj{n m:Nat}(h1:1≤n)(h2:n≤1000000000)(h3:1≤m)(h4:m≤1000000000)(h:wn n=wn m):n=m:=mkN_inj (.inl rfl) h1 h2 h3 h4 h
structure WL where
 d:DS
 most:Int
 file:Nat
 next:Nat
 done:Int
 bad:Bool
def WL.fresh(w:WL):WL×Int :=
 if 1000000000<w.next then (w,17) else
 if (w.d.create (wn w.next)).2=0 then
   if (w.d.create (wn w.next)).1.syncDir.2=0 then (⟨(w.d.create (wn w.next)).1.syncDir.1,w.most,w.next,w.next+1,w.done,w.bad⟩,0)
   else (⟨(w.d.create (wn w.next)).1.syncDir.1,w.most,w.file,w.next,w.done,w.bad⟩,(w.d.create (wn w.next)).1.syncDir.2)
 else (⟨(w.d.create (wn w.next)).1,w.most,w.file,w.next,w.done,w.bad⟩,(w.d.create (wn w.next)).2)
def WL.size(w:WL):Int:=if w.file=0 then 0 else (w.d.size (wn w.file)).1
def WL.ready(w:WL):WL×Int :=
 if w.file=0 then w.fresh else
 if w.most≤w.size then
   if (w.d.sync (wn w.file)).2=0 then WL.fresh ⟨(w.d.sync (wn w.file)).1,w.most,w.file,w.next,w.done,w.bad⟩
   else (⟨(w.d.sync (wn w.file)).1,w.most,w.file,w.next,w.done,w.bad⟩,(w.d.sync (wn w.file)).2)
 else (w,0)
def WL.add(w:WL)(s:List UInt8):WL×Int :=
 if w.ready.2=0 then
   if (w.ready.1.d.append (wn w.ready.1.file) s).2=0 then (⟨(w.ready.1.d.append (wn w.ready.1.file) s).1,w.ready.1.most,w.ready.1.file,w.ready.1.next,w.ready.1.done+1,false⟩,0)
   else (⟨(w.ready.1.d.append (wn w.ready.1.file) s).1,w.ready.1.most,w.ready.1.file,w.ready.1.next,w.ready.1.done,true⟩,(w.ready.1.d.append (wn w.ready.1.file) s).2)
 else (⟨w.ready.1.d,w.ready.1.most,w.ready.1.file,w.ready.1.next,w.ready.1.done,true⟩,w.ready.2)
def WL.adds(w:WL):List (List UInt8)→WL×Int
 | []=>(w,0)
 | s::l=>if (w.add s).2=0 then (w.add s).1.adds l else w.add s
def WL.sync(w:WL):WL×Int :=
 if w.file=0 then (w,0) else (⟨(w.d.sync (wn w.file)).1,w.most,w.file,w.next,w.done,decide ((w.d.sync (wn w.file)).2≠0)⟩,(w.d.sync (wn w.file)).2)
def addc(most:Int)(cs:List (List (List UInt8)))(s:List UInt8):List (List (List UInt8)) :=
 match cs.getLast? with
 | none=>[[s]]
 | some c=>if most≤((c.flatten).length:Int) then cs++[[s]] else cs.dropLast++[c++[s]]
theorem addc_flat(most:Int)(cs:List (List (List UInt8)))(s:List UInt8):(addc most cs s).flatten=cs.flatten++[s]:=by
 unfold addc
 cases h:cs.getLast? with
 | none=>rw[List.getLast?_eq_none_iff]at h;subst h;simp
 | some c =>
   dsimp only;split
   · simp
   · have:cs=cs.dropLast++[c]:=by
       obtain⟨l,hl⟩:=List.getLast?_eq_some_iff.1 h
       rw[hl];simp
     conv=>rhs;rw[this]
     simp
def fileOk(c:List (List UInt8))(k:Nat)(f:PF):Prop:=f.now=c.flatten∧∀j,runs f.d (f.acts.take j) <+: c.flatten∧(c.take k).flatten <+: runs f.d (f.acts.take j)
theorem fileOk_settled(c:List (List UInt8))(k:Nat):fileOk c k ⟨c.flatten,[]⟩:=by
 refine ⟨rfl,fun j=>?_⟩
 simp only[List.take_nil,runs];refine ⟨List.prefix_refl _,?_⟩
 conv=>rhs;rw[←r6Z k c]
 rw[sgZ];exact List.prefix_append _ _
theorem fileOk_add{c:List (List UInt8)}{k:Nat}{f:PF}(h:fileOk c k f)(hk:k≤c.length)(s:List UInt8):fileOk (c++[s]) k (f.add s):=by
 obtain⟨h1,h2⟩:=h
 refine ⟨by rw[PF.now_add,h1];simp,fun j=>?_⟩
 rw[List.take_append_of_le_length hk,sgZ]
 have key:∀t,t <+: c.flatten→t <+: c.flatten++[s].flatten:=fun t h=>h.trans (List.prefix_append _ _)
 unfold PF.add;split
 · exact⟨key _ (h2 j).1,(h2 j).2⟩
 · by_cases hj:j≤f.acts.length
   · rw[show ((⟨f.d,f.acts++[.add s]⟩:PF).acts).take j=f.acts.take j from List.take_append_of_le_length hj]
     exact⟨key _ (h2 j).1,(h2 j).2⟩
   · rw[q6Z (by simp;omega),runs_append]
     have h3:=h2 f.acts.length;rw[List.take_length]at h3;simp only[runs,FAct.run];have e:runs f.d f.acts=c.flatten:=h1;rw[e]at h3 ⊢
     exact⟨by simp,h3.2.trans (List.prefix_append _ _)⟩
structure View (n1:Nat) (cs:List (List (List UInt8))) (sy:Nat) (fs:FS) (l:NM):Prop where
 keys:NM.keys l=(List.range cs.length).map fun i=>wn (n1+i)
 file:∀i c,cs[i]? = some c→∃f,cont fs l (wn (n1+i))=some f∧fileOk c (sy-(cs.take i).flatten.length) f∧(i+1<cs.length→f=⟨c.flatten,[]⟩)
def Whole(n1:Nat)(cs:List (List (List UInt8)))(fs:FS)(l:NM):Prop:=∀i c,cs[i]? = some c→cont fs l (wn (n1+i))=some ⟨c.flatten,[]⟩
theorem View.sy{n1:Nat}{cs:List (List (List UInt8))}{sy:Nat}{fs:FS}{l:NM}(h:View n1 cs sy fs l)(hw:Whole n1 cs fs l)(sy':Nat):View n1 cs sy' fs l :=
 ⟨h.keys,fun i c hc=>⟨_,hw i c hc,fileOk_settled c _,fun _=>rfl⟩⟩
theorem View.get{n1:Nat}{cs:List (List (List UInt8))}{sy:Nat}{fs:FS}{l:NM}(h:View n1 cs sy fs l){i:Nat}(hi:i<cs.length):∃n f,NM.get l (wn (n1+i))=some n∧FS.get fs n=some f∧fileOk cs[i] (sy-(cs.take i).flatten.length) f∧(i+1<cs.length→f=⟨cs[i].flatten,[]⟩):=by
 obtain⟨f,h1,h2,h3⟩:=h.file i cs[i] (q3Z hi);obtain⟨n,h4,h5⟩:=cont_get h1;exact⟨n,f,h4,h5,h2,h3⟩
theorem View.used{n1:Nat}{cs:List (List (List UInt8))}{sy:Nat}{fs:FS}{l:NM}(h:View n1 cs sy fs l):usedF fs l=(cs.flatten.flatten).length:=by
 unfold usedF;rw[h.keys,List.map_map]
 have:(List.range cs.length).map ((fun k=>(txt fs l k).length) ∘ fun i=>wn (n1+i))=cs.map fun c=>c.flatten.length:=by
   refine List.ext_getElem (by simp) fun i h1 h2=>?_
   have hi:i<cs.length:=by simpa using h1
   obtain⟨f,g1,g2,_⟩:=h.file i cs[i] (q3Z hi);simp only[List.getElem_map,List.getElem_range,Function.comp_apply];unfold txt;rw[g1];simp[g2.1]
 rw[this];clear h this
 induction cs with
 | nil=>rfl
 | cons c cs ih=>simp only[s1Z,List.sum_cons,rcZ,sgZ,qdZ,ih]
theorem View.last{n1:Nat}{init:List (List (List UInt8))}{c c':List (List UInt8)}{sy sy':Nat}{fs:FS}{l:NM}{a:Int}(hnum:NumOk l a)(h1:1≤n1)(h2:n1+init.length≤1000000000)(h:View n1 (init++[c]) sy fs l){n:Int}{f f':PF}
   (hn:NM.get l (wn (n1+init.length))=some n) (hf:FS.get fs n=some f) (hf':fileOk c' (sy'-init.flatten.length) f') (_hsy:sy'=sy∨True):View n1 (init++[c']) sy' (FS.upd fs n fun _=>f') l∧(f'.acts=[]→Whole n1 (init++[c']) (FS.upd fs n fun _=>f') l):=by
 have other:∀i,i<init.length→∃c0,init[i]? = some c0∧cont (FS.upd fs n fun _=>f') l (wn (n1+i))=some ⟨c0.flatten,[]⟩:=by
   intro i hi
   have hi2:i<(init++[c]).length:=by simp;omega
   obtain⟨m,g,g1,g2,g3,g4⟩:=h.get hi2
   have hg:g=⟨(init++[c])[i].flatten,[]⟩:=g4 (by simp;omega)
   have e:(init++[c])[i]=init[i]:=qyZ hi;refine ⟨init[i],q3Z hi,?_⟩
   have hne:m≠n:=by
     rintro rfl
     have:=wn_inj (by omega) (by omega) (by omega) (by omega) (hnum.inj _ _ _ g1 hn)
     omega
   rw[cont_of g1,FS.get_upd,if_neg hne,g2,hg,e]
 have own:cont (FS.upd fs n fun _=>f') l (wn (n1+init.length))=some f':=by
   rw[cont_of hn,FS.get_upd,if_pos rfl,hf];rfl
 have hlen:(init++[c']).length=init.length+1:=by simp
 refine ⟨⟨?_,fun i d hd=>?_⟩,fun hs i d hd=>?_⟩
 · rw[h.keys];simp
 · have hi:i<init.length+1:=by have:=(q1Z.1 hd).1;omega
   by_cases e:i=init.length
   · subst e
     rw[q5Z (qnZ _),Nat.sub_self]at hd;cases hd
     refine ⟨f',own,?_,fun h=>by omega⟩
     rw[List.take_append_of_le_length (qnZ _),List.take_length];exact hf'
   · obtain⟨c0,g1,g2⟩:=other i (by omega)
     rw[q4Z (by omega),g1]at hd
     cases hd
     exact⟨_,g2,fileOk_settled _ _,fun _=>rfl⟩
 · have hi:i<init.length+1:=by have:=(q1Z.1 hd).1;omega
   by_cases e:i=init.length
   · subst e
     rw[q5Z (qnZ _),Nat.sub_self]at hd;cases hd;rw[own];obtain⟨fd,fa⟩:=f';dsimp only at hs;subst hs;have:fd=c'.flatten:=hf'.1;rw[this]
   · obtain⟨c0,g1,g2⟩:=other i (by omega)
     rw[q4Z (by omega),g1]at hd
     cases hd;exact g2
theorem View.fresh{n1:Nat}{cs:List (List (List UInt8))}{sy:Nat}{fs:FS}{l:NM}(h:View n1 cs sy fs l)(hw:Whole n1 cs fs l)(h1:1≤n1)(h2:n1+cs.length≤1000000000){m:Int}(hm:m∉FS.keys fs)(sy':Nat) :
   View n1 cs sy' (fs++[(m,⟨[],[]⟩)]) l∧View n1 (cs++[[]]) sy' (fs++[(m,⟨[],[]⟩)]) (NM.put l (wn (n1+cs.length)) m):=by
 have app:∀(k:List UInt8) f,cont fs l k=some f→cont (fs++[(m,⟨[],[]⟩)]) l k=some f:=fun k f hk=>by
   obtain⟨n,g1,g2⟩:=cont_get hk;rw[cont_of g1,FS.get_app,g2]
 have fresh:wn (n1+cs.length)∉NM.keys l:=fun hk=>by
   rw[h.keys]at hk;obtain⟨i,hi,e⟩:=reZ.1 hk;have hi:=List.mem_range.1 hi
   have:=wn_inj (by omega) (by omega) (by omega) (by omega) e
   omega
 have put:∀(k:List UInt8) f,cont fs l k=some f→cont (fs++[(m,⟨[],[]⟩)]) (NM.put l (wn (n1+cs.length)) m) k=some f:=fun k f hk=>by
   obtain⟨n,g1,g2⟩:=cont_get hk
   have hne:k≠wn (n1+cs.length):=by
     rintro rfl;exact fresh (NM.get_some.1 ⟨n,g1⟩)
   rw[cont_of (n:=n) (by rw[NM.get_put,if_neg hne];exact g1),FS.get_app,g2]
 refine ⟨⟨h.keys,fun i c hc=>⟨_,app _ _ (hw i c hc),fileOk_settled c _,fun _=>rfl⟩⟩,⟨?_,fun i c hc=>?_⟩⟩
 · rw[NM.keys_put,if_neg fresh,h.keys,qdZ,List.length_singleton,rpZ,roZ]
   rfl
 · have hi:i<cs.length+1:=by have:=(q1Z.1 hc).1;simpa using this
   by_cases e:i=cs.length
   · subst e
     rw[q5Z (qnZ _),Nat.sub_self]at hc;cases hc
     refine ⟨⟨[],[]⟩,?_,fileOk_settled [] _,fun h=>by simp at h⟩
     rw[cont_of (n:=m) (by rw[NM.get_put,if_pos rfl]),FS.get_new hm]
   · rw[q4Z (by omega)]at hc
     exact⟨_,put _ _ (hw i c hc),fileOk_settled c _,fun _=>rfl⟩
structure WP (n1:Nat) (most:Int) (cs:List (List (List UInt8))) (sy:Nat) (w:WL):Prop where
 quota:w.d.quota=1048576
 core:Core w.d.fd w.d.fs
 acts:w.d.fd.acts=[]
 view:View n1 cs sy w.d.fs w.d.fd.now
 next:w.next=n1+cs.length
 file:w.file=if cs.length=0 then 0 else n1+cs.length-1
 most':w.most=most
 done:w.done=cs.flatten.length
 le:sy≤cs.flatten.length
def WB(n1:Nat)(all:List (List UInt8))(sy:Nat)(fd:FD)(fs:FS):Prop:=Core fd fs∧fd.each fun l _=>∃cs,cs.flatten <+: all∧sy≤cs.flatten.length∧n1+cs.length≤1000000001∧View n1 cs sy fs l
theorem WB.more{n1:Nat}{all all':List (List UInt8)}{sy:Nat}{fd:FD}{fs:FS}(h:WB n1 all sy fd fs)(ha:all <+: all'):WB n1 all' sy fd fs :=
 ⟨h.1,each_imp h.2 fun _ _ ⟨cs,h1,h2,h3,h4⟩=>⟨cs,h1.trans ha,h2,h3,h4⟩⟩
theorem WP.bad{n1:Nat}{most:Int}{cs:List (List (List UInt8))}{sy:Nat}{w:WL}(h:WP n1 most cs sy w)(hn:n1+cs.length≤1000000001):WB n1 cs.flatten sy w.d.fd w.d.fs:=by
 refine ⟨h.core,fun i hi=>?_⟩
 have e:druns w.d.fd.d (w.d.fd.acts.take i)=w.d.fd.now:=by unfold FD.now;rw[h.acts,List.take_nil]
 dsimp only;rw[e];exact⟨cs,List.prefix_refl _,h.le,hn,h.view⟩
def WStage(r:WL×Int)(P:WL→Prop)(B:FD→FS→Prop):Prop:=(r.2=0∧r.1.d.down=false∧P r.1)∨(r.2=13∧r.1.d.down=true∧B r.1.d.fd r.1.d.fs)
theorem fresh_stage{n1:Nat}{most:Int}{cs:List (List (List UInt8))}{sy:Nat}{w:WL}(hd:w.d.down=false)(h:WP n1 most cs sy w)(hw:Whole n1 cs w.d.fs w.d.fd.now)(h1:1≤n1)(h2:n1+cs.length≤1000000000) :
   WStage w.fresh (fun w'=>WP n1 most (cs++[[]]) sy w'∧w'.bad=w.bad) (WB n1 cs.flatten sy):=by
 unfold WL.fresh
 have hx:w.d.fd.now.get (wn w.next)=none:=by
   rw[NM.get_none,h.view.keys,h.next];intro hk;obtain⟨i,hi,e⟩:=reZ.1 hk;have hi:=List.mem_range.1 hi
   have:=wn_inj (by omega) (by omega) (by omega) (by omega) e
   omega
 have hm:mayF (wn w.next):=wn_may (by rw[h.next];omega) (by rw[h.next];exact h2)
 have hf:=h.core.fresh;obtain⟨v1,v2⟩:=h.view.fresh hw h1 h2 hf sy
 rw[if_neg (by rw[h.next];omega)]
 have b0:=h.bad (by omega)
 have e0:∀i,druns w.d.fd.d (w.d.fd.acts.take i)=w.d.fd.now:=fun i=>by unfold FD.now;rw[h.acts,List.take_nil]
 have cN:=h.core.new hx hm (⟨[],[]⟩:PF)
 have hnow:(fdN w.d.fd (wn w.next)).now=NM.put w.d.fd.now (wn (n1+cs.length)) (w.d.fd.last+1):=by rw[now_more,←h.next];rfl
 have s1:=stage_create hd (P:=fun fd fs=>fd=fdN w.d.fd (wn w.next)∧fs=fsN w.d.fd w.d.fs ⟨[],[]⟩) hm hx b0 ⟨rfl,rfl⟩
 obtain⟨q1,⟨r1,r2,r3,r4⟩ | ⟨r1,r2,r3⟩⟩:=s1;rotate_left
 · rw[if_neg (by omega)]
   exact .inr ⟨r1,r2,r3⟩
 rw[if_pos r1]
 have b1:WB n1 cs.flatten sy (w.d.create (wn w.next)).1.fd (w.d.create (wn w.next)).1.fs:=by
   rw[r3,r4]
   refine ⟨cN,fun i hi=>?_⟩
   have hi':i≤1:=by simpa[h.acts] using hi
   match i,hi' with
   | 0,_ =>
     refine ⟨cs,List.prefix_refl _,h.le,by omega,?_⟩
     have:druns (fdN w.d.fd (wn w.next)).d ((fdN w.d.fd (wn w.next)).acts.take 0)=w.d.fd.now:=by unfold FD.now;rw[h.acts];rfl
     rw[this];exact v1
   | 1,_ =>
     refine ⟨cs++[[]],by simp,by simpa using h.le,by simp;omega,?_⟩
     have:druns (fdN w.d.fd (wn w.next)).d ((fdN w.d.fd (wn w.next)).acts.take 1)=(fdN w.d.fd (wn w.next)).now:=by unfold FD.now;rw[q6Z (by simp[h.acts])]
     rw[this,hnow];exact v2
 have s2:=stage_syncDir r2 (P:=fun fd fs=>fd=⟨(fdN w.d.fd (wn w.next)).now,[],w.d.fd.last+1⟩∧fs=fsN w.d.fd w.d.fs ⟨[],[]⟩) b1 ⟨by rw[r3],r4⟩
 obtain⟨q2,⟨t1,t2,t3,t4⟩ | ⟨t1,t2,t3⟩⟩:=s2;rotate_left
 · rw[if_neg (by omega)]
   exact .inr ⟨t1,t2,t3⟩
 rw[if_pos t1];refine .inl ⟨rfl,t2,⟨?_,?_,?_,?_,?_,?_,h.most',?_,?_⟩,rfl⟩
 · exact q2.trans (q1.trans h.quota)
 · dsimp only
   rw[t3,t4]
   refine ⟨⟨by have:=cN.num.1;exact this,fun i hi=>?_⟩,fun i hi=>?_,fun n hn=>cN.rng n hn⟩
   · simp only[q8Z,Nat.le_zero_eq]at hi
     subst hi;have h9:=FD.each_now cN.num.2;exact h9
   · simp only[q8Z,Nat.le_zero_eq]at hi
     subst hi;have h9:=FD.each_now cN.has;exact h9
 · dsimp only;rw[t3]
 · dsimp only
   rw[t3,t4];show View n1 _ sy _ (fdN w.d.fd (wn w.next)).now;rw[hnow];exact v2
 · show w.next+1=_
   rw[h.next];simp;omega
 · show w.next=_
   rw[h.next,if_neg (by simp)];simp
 · show w.done=_
   rw[h.done];simp
 · simpa using h.le
theorem Core.upd{fd:FD}{fs:FS}(h:Core fd fs)(n:Int)(g:PF→PF):Core fd (FS.upd fs n g):=h.files (FS.keys_upd _ _ _)
theorem WP.num{n1:Nat}{most:Int}{cs:List (List (List UInt8))}{sy:Nat}{w:WL}(h:WP n1 most cs sy w):NumOk w.d.fd.now w.d.fd.last:=FD.each_now h.core.num.2
theorem WP.fileL{n1:Nat}{most:Int}{init:List (List (List UInt8))}{c:List (List UInt8)}{sy:Nat}{w:WL}(h:WP n1 most (init++[c]) sy w):w.file=n1+init.length:=by
 rw[h.file,if_neg (by simp)];simp
theorem WP.lastF{n1:Nat}{most:Int}{init:List (List (List UInt8))}{c:List (List UInt8)}{sy:Nat}{w:WL}(h:WP n1 most (init++[c]) sy w) :
   ∃n f,w.d.fd.now.get (wn w.file)=some n∧FS.get w.d.fs n=some f∧fileOk c (sy-init.flatten.length) f:=by
 obtain⟨n,f,h1,h2,h3,_⟩:=h.view.get (i:=init.length) (by simp)
 rw[h.fileL];refine ⟨n,f,h1,h2,?_⟩;simpa using h3
theorem wappend_stage{n1:Nat}{most:Int}{init:List (List (List UInt8))}{c:List (List UInt8)}{sy:Nat}{w:WL}(hd:w.d.down=false)(h:WP n1 most (init++[c]) sy w)(h1:1≤n1)(h2:n1+init.length≤1000000000){s:List UInt8}
   (hroom:((init++[c]).flatten.flatten).length+s.length≤1048576) :
   WStage (if (w.d.append (wn w.file) s).2=0 then (⟨(w.d.append (wn w.file) s).1,w.most,w.file,w.next,w.done+1,false⟩,0) else (⟨(w.d.append (wn w.file) s).1,w.most,w.file,w.next,w.done,true⟩,(w.d.append (wn w.file) s).2))
     (fun w'=>WP n1 most (init++[c++[s]]) sy w'∧w'.bad=false) (WB n1 (init++[c]).flatten sy):=by
 obtain⟨n,f,g1,g2,g3⟩:=h.lastF
 have hr:s.length≤w.d.room:=by
   unfold DS.room;rw[used_F hd,h.view.used,h.quota];omega
 have b0:=h.bad (by simp;omega)
 have hk:sy-init.flatten.length≤c.length:=by
   have:=h.le;simp at this ⊢;omega
 obtain⟨q1,⟨r1,r2,r3,r4⟩ | ⟨r1,r2,r3⟩⟩:=stage_append hd (P:=fun fd fs=>fd=w.d.fd∧fs=FS.upd w.d.fs n fun _=>f.add s) g1 g2 hr b0 ⟨rfl,rfl⟩
 rotate_left
 · rw[if_neg (by omega)]
   exact .inr ⟨r1,r2,r3⟩
 rw[if_pos r1]
 have g1':NM.get w.d.fd.now (wn (n1+init.length))=some n:=by rw[←h.fileL];exact g1
 have hv:=(View.last h.num h1 h2 h.view g1' g2 (fileOk_add g3 hk s) (.inl rfl)).1;refine .inl ⟨rfl,r2,⟨q1.trans h.quota,?_,?_,?_,?_,?_,h.most',?_,?_⟩,rfl⟩
 · dsimp only;rw[r3,r4];exact h.core.upd _ _
 · dsimp only;rw[r3];exact h.acts
 · dsimp only;rw[r3,r4];exact hv
 · dsimp only;rw[h.next];simp
 · dsimp only;rw[h.file];simp
 · dsimp only;rw[h.done];simp;omega
 · have:=h.le;simp at this ⊢;omega
theorem wsync_stage{n1:Nat}{most:Int}{init:List (List (List UInt8))}{c:List (List UInt8)}{sy:Nat}{w:WL}(hd:w.d.down=false)(h:WP n1 most (init++[c]) sy w)(h1:1≤n1)(h2:n1+init.length≤1000000000) :
   Stage (w.d.sync (wn w.file)) 1048576 (fun fd fs=>∀st ar dn bd,WP n1 most (init++[c]) (init++[c]).flatten.length ⟨⟨fd,fs,1048576,st,ar,dn⟩,w.most,w.file,w.next,w.done,bd⟩∧Whole n1 (init++[c]) fs fd.now) (WB n1 (init++[c]).flatten sy):=by
 obtain⟨n,f,g1,g2,g3⟩:=h.lastF
 have g1':NM.get w.d.fd.now (wn (n1+init.length))=some n:=by rw[←h.fileL];exact g1
 have hf:fileOk c ((init++[c]).flatten.length-init.flatten.length) ⟨f.now,[]⟩:=by rw[g3.1];exact fileOk_settled c _
 have hv:=View.last (sy':=(init++[c]).flatten.length) h.num h1 h2 h.view g1' g2 hf (.inr trivial);rw[←h.quota]
 refine stage_sync hd g1 g2 (h.bad (by simp;omega)) fun st ar dn bd=>⟨⟨h.quota,h.core.upd _ _,h.acts,hv.1,h.next,h.file,h.most',h.done,qnZ _⟩,hv.2 rfl⟩
theorem eta_ds{d:DS}{q:Int}(h:d.quota=q):d=⟨d.fd,d.fs,q,d.steps,d.armed,d.down⟩:=by subst h;rfl
theorem add_stage{n1:Nat}{most:Int}{cs:List (List (List UInt8))}{sy:Nat}{w:WL}(hd:w.d.down=false)(h:WP n1 most cs sy w)(h1:1≤n1)(h2:n1+cs.length≤1000000000){s:List UInt8}
   (hroom:(cs.flatten.flatten).length+s.length≤1048576):WStage (w.add s) (fun w'=>WP n1 most (addc most cs s) sy w'∧w'.bad=false) (WB n1 cs.flatten sy):=by
 unfold WL.add
 have key:∀(r:WL×Int),w.ready=r→WStage r (fun w1=>∃init c,WP n1 most (init++[c]) sy w1∧n1+init.length≤1000000000∧(init++[c]).flatten=cs.flatten∧addc most cs s=init++[c++[s]]) (WB n1 cs.flatten sy):=by
   intro r hr;subst hr;unfold WL.ready;rcases List.eq_nil_or_concat cs with rfl | ⟨init,c,rfl⟩
   · have hf:w.file=0:=by rw[h.file];rfl
     rw[if_pos hf]
     rcases fresh_stage hd h (fun i c hc=>by simp at hc) h1 h2 with⟨a1,a2,a3,_⟩ | hb
     · exact .inl ⟨a1,a2,[],[],a3,by simpa using h2,by simp,by simp[addc]⟩
     · exact .inr hb
   · rw[List.concat_eq_append]at h h2 hroom ⊢
     have hfl:=h.fileL
     rw[if_neg (by rw[hfl];omega)]
     obtain⟨n,f,g1,g2,g3⟩:=h.lastF
     have hi:n1+init.length≤1000000000:=by simp at h2;omega
     have hsz:w.size=(c.flatten.length:Int):=by
       unfold WL.size DS.size
       rw[if_neg (by rw[hfl];omega),hd,g1]
       simp only[qsZ,if_false];rw[g2];dsimp only;rw[g3.1]
     have hadd:addc most (init++[c]) s=if most≤((c.flatten).length:Int) then (init++[c])++[[s]] else init++[c++[s]]:=by
       unfold addc;simp
     rw[hsz,h.most',hadd];split
     · rename_i hm
       obtain⟨q1,⟨r1,r2,r3⟩ | ⟨r1,r2,r3⟩⟩:=wsync_stage hd h h1 hi;rotate_left
       · rw[if_neg (by omega)]
         exact .inr ⟨r1,r2,r3⟩
       rw[if_pos r1];obtain⟨p1,p2⟩:=r3 (w.d.sync (wn w.file)).1.steps (w.d.sync (wn w.file)).1.armed (w.d.sync (wn w.file)).1.down w.bad
       have p3:WP n1 most (init++[c]) sy ⟨(w.d.sync (wn w.file)).1,most,w.file,w.next,w.done,w.bad⟩:=by
         have e:=eta_ds q1;rw[←e]at p1;exact⟨p1.quota,p1.core,p1.acts,p1.view.sy p2 sy,p1.next,p1.file,rfl,p1.done,h.le⟩
       rcases fresh_stage (w:=⟨(w.d.sync (wn w.file)).1,most,w.file,w.next,w.done,w.bad⟩) r2 p3 p2 h1 h2 with⟨a1,a2,a3,_⟩ | hb
       · exact .inl ⟨a1,a2,init++[c],[],a3,h2,by simp,by simp⟩
       · exact .inr hb
     · exact .inl ⟨rfl,hd,init,c,h,hi,rfl,rfl⟩
 obtain⟨r,hr⟩:∃r,w.ready=r:=⟨_,rfl⟩;rw[hr];rcases key r hr with⟨a1,a2,init,c,a3,a4,a5,a6⟩ | ⟨a1,a2,a3⟩;rotate_left
 · rw[if_neg (by omega)]
   exact .inr ⟨a1,a2,a3⟩
 rw[if_pos a1,a6,←a5];rw[←a5]at hroom;exact wappend_stage a2 a3 h1 a4 hroom
theorem addc_len(most:Int)(cs:List (List (List UInt8)))(s:List UInt8):(addc most cs s).length≤cs.length+1:=by
 unfold addc
 cases h:cs.getLast? with
 | none=>simp
 | some c =>
   dsimp only;split
   · simp
   · simp
theorem adds_stage{n1:Nat}{most:Int}{sy:Nat}(h1:1≤n1):∀(l:List (List UInt8)) (cs:List (List (List UInt8))) (w:WL),w.d.down=false→WP n1 most cs sy w→n1+cs.length+l.length≤1000000000→(cs.flatten.flatten).length+l.flatten.length≤1048576 →
   WStage (w.adds l) (fun w'=>WP n1 most (l.foldl (addc most) cs) sy w'∧(w.bad=false→w'.bad=false)) (WB n1 (cs.flatten++l) sy)
 | [],cs,w,hd,h,h2,h3=>.inl ⟨rfl,hd,h,id⟩
 | s::l,cs,w,hd,h,h2,h3=>by
   unfold WL.adds;simp only[q7Z,rcZ,qdZ]at h2 h3
   rcases add_stage hd h h1 (by omega) (s:=s) (by omega) with⟨a1,a2,a3,a4⟩ | ⟨a1,a2,a3⟩
   rotate_left
   · rw[if_neg (by omega)]
     exact .inr ⟨a1,a2,a3.more (List.prefix_append _ _)⟩
   rw[if_pos a1];have hl:=addc_len most cs s;have hfl:=addc_flat most cs s
   have:=adds_stage h1 l (addc most cs s) (w.add s).1 a2 a3 (by omega) (by rw[hfl,sgZ,qdZ];simp only[rcZ,List.flatten_nil,r2Z];omega)
   rw[hfl]at this;rcases this with⟨c1,c2,c3,c4⟩ | ⟨c1,c2,c3⟩
   · exact .inl ⟨c1,c2,c3,fun _=>c4 a4⟩
   · refine .inr ⟨c1,c2,?_⟩
     rw[qeZ]at c3;exact c3
theorem add_bad(w:WL)(s:List UInt8)(h:(w.add s).2≠0):(w.add s).1.bad=true:=by
 unfold WL.add at h ⊢;split
 · rename_i h1
   rw[if_pos h1]at h;split
   · rename_i h2;rw[if_pos h2]at h;exact absurd rfl h
   · rfl
 · rfl
theorem adds_bad:∀(l:List (List UInt8)) (w:WL),(w.adds l).2≠0→(w.adds l).1.bad=true
 | [],w,h=>absurd rfl h
 | s::l,w,h=>by
   unfold WL.adds at h ⊢;split
   · rename_i h1;rw[if_pos h1]at h;exact adds_bad l _ h
   · rename_i h1;exact add_bad w s h1
theorem sync_stage{n1:Nat}{most:Int}{cs:List (List (List UInt8))}{sy:Nat}{w:WL}(hd:w.d.down=false)(h:WP n1 most cs sy w)(hb:w.bad=false)(h1:1≤n1)(h2:n1+cs.length≤1000000001) :
   WStage w.sync (fun w'=>WP n1 most cs cs.flatten.length w'∧w'.bad=false) (WB n1 cs.flatten sy):=by
 unfold WL.sync;rcases List.eq_nil_or_concat cs with rfl | ⟨init,c,rfl⟩
 · have hf:w.file=0:=by rw[h.file];rfl
   rw[if_pos hf]
   have hsy:sy=0:=by have:=h.le;simpa using this
   subst hsy;exact .inl ⟨rfl,hd,h,hb⟩
 · rw[List.concat_eq_append]at h h2 ⊢
   rw[if_neg (by rw[h.fileL];omega)]
   obtain⟨q1,⟨r1,r2,r3⟩ | ⟨r1,r2,r3⟩⟩:=wsync_stage hd h h1 (by simp at h2;omega)
   · obtain⟨p1,p2⟩:=r3 (w.d.sync (wn w.file)).1.steps (w.d.sync (wn w.file)).1.armed (w.d.sync (wn w.file)).1.down false
     have e:=eta_ds q1;rw[←e]at p1
     refine .inl ⟨r1,r2,?_,by dsimp only;rw[r1];rfl⟩
     exact⟨p1.quota,p1.core,p1.acts,p1.view,p1.next,p1.file,p1.most',p1.done,p1.le⟩
   · exact .inr ⟨r1,r2,r3⟩
end
end Go.Proofs.YtpmfecnajoojeaaGreatDoor
