/- Parts of the proof of SweepTells: lemmas, each with its own conditions. -/
import Derived.Lib.BitFns
import Derived.RegionTactic
import Derived.BigQuiet
import Derived.Deep.QuietTactic
import Derived.Deep.RegionWith
import Derived.Test.YtfhidaoiofeooaaGreatDoorY24
import Derived.Test.YtfhidaoiofeooaaGreatDoorY17
set_option maxHeartbeats 64000000
open List renaming getElem?_eq_some_iff → q1Z, getD_eq_getElem?_getD → q2Z, getElem?_eq_getElem → q3Z, getElem?_append_left → q4Z, take_of_length_le → q6Z, length_cons → q7Z, length_nil → q8Z, cons_append → q9Z, nil_append → qaZ, replicate → qbZ, mem_of_getElem? → qcZ, length_append → qdZ, length_take → qjZ, length_drop → qkZ, mem_cons → qwZ, mem_append → qxZ, mem_singleton → r1Z, getElem?_take → r4Z, getElem?_drop → r5Z, length_map → r7Z, map_append → roZ, not_mem_nil → rtZ, map_cons → s1Z
open Option renaming map_eq_some_iff → qlZ
open Nat renaming le_refl → qnZ, zero_le → qqZ, lt_of_lt_of_le → rlZ, lt_or_ge → s2Z
open Int renaming tmod_eq_emod_of_nonneg → rrZ
namespace Vy
open Go
def zTq(n:Nat):Nat:=(Lib.bitLen n+7) / 8
def le:Nat->Nat->List UInt8
 | 0,_=>[]
 | m+1,n=>UInt8.ofNat (n % 256)::le m (n / 256)
theorem zQi(m n:Nat):(le m n).length=m:=by
 induction m generalizing n with
 | zero=>rfl
 | succ m ih=>simp[le,ih]
def val:List UInt8->Nat
 | []=>0
 | b::r=>b.toNat+256*val r
theorem zUn(l:List UInt8):val l<256 ^ l.length:=by
 induction l with
 | nil=>simp[val]
 | cons b r ih =>
   have:=UInt8.toNat_lt b;simp only[val,q7Z,Nat.pow_succ];omega
theorem zVC(l:List UInt8):le l.length (val l)=l:=by
 induction l with
 | nil=>rfl
 | cons b r ih =>
   have hb:=UInt8.toNat_lt b;simp only[q7Z,le,val];have h1:(b.toNat+256*val r) % 256=b.toNat:=by omega
   have h2:(b.toNat+256*val r) / 256=val r:=by omega
   rw[h1,h2,ih];simp
def enc(n:Nat):List UInt8:=if n<248 then [UInt8.ofNat n] else UInt8.ofNat (247+zTq n)::le (zTq n) n
def size(n:Nat):Nat:=if n<248 then 1 else 1+zTq n
theorem zNm(n:Nat):(enc n).length=size n:=by
 unfold enc size;split <;> simp[zQi,Nat.add_comm]
def put(l:List Nat):List UInt8:=l.flatMap enc
def lb(n j:Nat):Nat:=((enc n).getD j 0).toNat
def get(s:List UInt8)(at_:Int):Nat×Int×Int :=
 if at_<0\/(s.length:Int)<=at_ then (0,at_,3) else
 let k:=at_.toNat
 let b:=(s.getD k 0).toNat
 if b<248 then (b,at_+1,0) else
 if s.length-k<=b-247 then (0,at_,3) else
 let n:=val ((s.drop (k+1)).take (b-247))
 if size n=1+(b-247) then (n,at_+1+(b-247:Nat),0) else (0,at_,5)
def row(s:List UInt8)(a:Int):Nat->List Nat×Int×Int
 | 0=>([],a,0)
 | m+1=>if (get s a).2.2=0 then
     (if (row s (get s a).2.1 m).2.2=0 then ((get s a).1::(row s (get s a).2.1 m).1,(row s (get s a).2.1 m).2) else ([],(row s (get s a).2.1 m).2))
   else ([],(get s a).2)
theorem zU8(s:List UInt8)(k m:Nat)(h:k<s.length)(hm:(s[k]).toNat=m+247)(h1:1<=m)(hs:m<s.length-k) :
   enc (val ((s.drop (k+1)).take m))=(s.drop k).take (1+m)↔size (val ((s.drop (k+1)).take m))=1+m:=by
 have hl:((s.drop (k+1)).take m).length=m:=by rw[qjZ,qkZ];omega
 have hd:(s.drop k).take (1+m)=s[k]::(s.drop (k+1)).take m:=by
   rw[List.drop_eq_getElem_cons h,Nat.add_comm 1 m,List.take_succ_cons]
 constructor
 · intro e
   have:=congrArg List.length e;rw[zNm,hd,q7Z,hl]at this;omega
 · intro e
   rw[hd];unfold size at e;split at e
   · omega
   · rename_i hn
     unfold enc;rw[if_neg hn];have hb:zTq (val ((s.drop (k+1)).take m))=m:=by omega
     rw[hb];have h3:=zVC ((s.drop (k+1)).take m);rw[hl]at h3;rw[h3]
     congr 1
     have:s[k]=UInt8.ofNat (247+m):=by
       rw[Nat.add_comm,<-hm];simp
     exact this.symm
end Vy
namespace Vy
theorem get_put(s:List UInt8)(p:Nat)(v:Nat)(x:Int)(h:get s p=(v,x,0)):enc v=(s.drop p).take (x.toNat-p)/\v<2 ^ 64:=by
 unfold get at h;split at h
 · simp only[Prod.mk.injEq]at h;omega
 · rename_i h1
   have hp:p<s.length:=by omega
   have hg:s.getD p 0=s[p]:=by rw[q2Z,q3Z hp];rfl
   simp only[Int.toNat_natCast,hg]at h;split at h
   · rename_i h2
     simp only[Prod.mk.injEq]at h;obtain⟨rfl,rfl,_⟩:=h;have e:((p:Int)+1).toNat-p=1:=by
       show (((p+1:Nat):Int)).toNat-p=1;rw[Int.toNat_natCast];omega
     rw[e,List.drop_eq_getElem_cons hp];exact⟨by rw[List.take_succ_cons,List.take_zero];simp[enc,h2],rlZ h2 (by decide)⟩
   · rename_i h2
     split at h
     · simp only[Prod.mk.injEq]at h;omega
     · rename_i h3
       split at h
       · rename_i h4
         have h8:=UInt8.toNat_lt s[p];obtain⟨m,hm⟩:∃m,s[p].toNat=m+247:=⟨s[p].toNat-247,by omega⟩
         rw[hm]at h h3 h4 h8;rw[Nat.add_sub_cancel]at h h3 h4;simp only[Prod.mk.injEq]at h;obtain⟨rfl,rfl,_⟩:=h;have:=(zU8 s p m hp hm (by omega) (by omega)).2 h4;have e:((p:Int)+1+(m:Nat)).toNat-p=1+m:=by
           show (((p+1+m:Nat):Int)).toNat-p=1+m;rw[Int.toNat_natCast];omega
         rw[e];refine ⟨this,?_⟩;have hv:=zUn ((s.drop (p+1)).take m);have hq:((s.drop (p+1)).take m).length<=8:=by rw[qjZ];omega
         have h9:(256:Nat) ^ ((s.drop (p+1)).take m).length<=256 ^ 8:=Nat.pow_le_pow_right (by decide) hq;exact rlZ hv h9
       · simp only[Prod.mk.injEq]at h;omega
end Vy
namespace Go.Proofs.YtfhidaoiofeooaaGreatDoor
open _root_.Go.Proofs.Tryz renaming prog → Pz
open Go.RowKit
end Go.Proofs.YtfhidaoiofeooaaGreatDoor
namespace Go.Proofs.YtfhidaoiofeooaaGreatDoor
open _root_.Go.Proofs.Tryz renaming prog → Pz
open Go
end Go.Proofs.YtfhidaoiofeooaaGreatDoor
namespace Go.Proofs.YtfhidaoiofeooaaGreatDoor
open _root_.Go.Proofs.Tryz renaming prog → Pz
def Cr.bit(n b:Nat):Nat:=if n % 2=b then n / 2 else (n / 2) ^^^ 3988292384
def Cr.bits:Nat->Nat->Nat->Nat
 | 0,n,_=>n
 | k+1,n,c=>Cr.bits k (Cr.bit n (c % 2)) (c / 2)
end Go.Proofs.YtfhidaoiofeooaaGreatDoor
namespace Go.Proofs.YtfhidaoiofeooaaGreatDoor
open _root_.Go.Proofs.Tryz renaming prog → Pz
open Go
set_option maxRecDepth 100000
end Go.Proofs.YtfhidaoiofeooaaGreatDoor
namespace Go.Proofs.YtfhidaoiofeooaaGreatDoor
open _root_.Go.Proofs.Tryz renaming prog → Pz
end Go.Proofs.YtfhidaoiofeooaaGreatDoor
namespace Go.Proofs.YtfhidaoiofeooaaGreatDoor
open _root_.Go.Proofs.Tryz renaming prog → Pz
open Go
set_option maxRecDepth 100000
attribute [-simp] zG zT zc zJ zn
end Go.Proofs.YtfhidaoiofeooaaGreatDoor
namespace Go.Proofs.YtfhidaoiofeooaaGreatDoor
open _root_.Go.Proofs.Tryz renaming prog → Pz
open Go Go.Lib
set_option maxRecDepth 100000
attribute [-simp] zG zT zc zJ zn
abbrev Nm:=Nat×Nat×List UInt8
def nmS(x:Nm):List UInt8 :=
 if x.1 % 8=0 then x.2.2.take 64 else if x.1 % 8=1 then manifW else if x.1 % 8=2 then tempW else if x.1 % 8=3 then [119,97,108,45,48]++(mk 3 (1+((x.2.1 % 12:Nat):Int))).drop 4
 else if x.1 % 8=4\/x.1 % 8=5 then mk 3 (1+((x.2.1 % 12:Nat):Int)) else mk 4 (1+((x.2.1 % 12:Nat):Int))
theorem zOx(x:Nm):(nmS x).length<=64:=by
 have h3:=zEW 3 (1+((x.2.1 % 12:Nat):Int));have h4:=zEW 4 (1+((x.2.1 % 12:Nat):Int));unfold nmS;repeat' split
 · rw[qjZ];omega
 · decide
 · decide
 · rw[qdZ,qkZ];simp only[q7Z,q8Z];omega
 · exact Nat.le_trans h3 (by decide)
 · exact Nat.le_trans h4 (by decide)
theorem zSi(j:Nat)(hj:j<12):4<=(mk 3 (1+(j:Int))).length:=by
 have e:(1+(j:Int))=((1+j:Nat):Int):=by push_cast;rfl
 rw[e,mk3 (by omega) (by omega),qdZ];simp[walW]
def zHo:Gam:=zh [(129,mkS)]
theorem zUA:GOk Pz zHo:=zC zDa zB
theorem zSe(k n:Nat)(hk:k<256)(hn:n<256)(s:List UInt8)(hs:s.length<=9223372036854775807) :
   Ct Pz 115 [.agg [.int .u8 k,.int .u8 n,.str s]] [] (.str (nmS (k,n,s))) []:=by
 have hΓ:=zUA;have t8:(k:Int).tmod 8=((k % 8:Nat):Int):=by rw[rrZ (by omega)];omega
 have t12:(n:Int).tmod 12=((n % 12:Nat):Int):=by rw[rrZ (by omega)];omega
 unfold nmS;dsimp only;have h4:=zSi (n % 12) (by omega);obtain⟨q,hq⟩:∃q,k % 8=q:=⟨_,rfl⟩
 obtain⟨j,hj⟩:∃j,n % 12=j:=⟨_,rfl⟩
 have hq8:q<8:=by omega
 have hj8:j<12:=by omega
 rw[hq]at t8 ⊢;rw[hj]at t12 h4 ⊢;have u1:IntKind.u8.wrap (q:Int)=q:=zEH (by omega) (by omega);have u2:IntKind.u8.wrap (j:Int)=j:=zEH (by omega) (by omega);have u3:IntKind.i64.wrap (j:Int)=j:=zK (by omega) (by omega);have u4:IntKind.i64.wrap (1+(j:Int))=1+j:=zK (by omega) (by omega);obtain⟨M3,hM3⟩:∃M,mk 3 (1+(j:Int))=M:=⟨_,rfl⟩
 obtain⟨M4,hM4⟩:∃M,mk 4 (1+(j:Int))=M:=⟨_,rfl⟩
 have h14:=zEW 3 (1+(j:Int));rw[hM3]at h4 h14;have h4i:(4:Int)<=(M3.length:Int):=by omega
 obtain⟨D,hD⟩:∃D,M3.drop 4=D:=⟨_,rfl⟩
 have hDl:D.length=M3.length-4:=by rw[<-hD,qkZ]
 have hDt:D.take (M3.length-4)=D:=q6Z (by omega);have hDb:5+D.length<=9223372036854775807:=by omega
 have hDc:D.length+5<=9223372036854775807:=by omega
 obtain⟨z,hz,hz1,hz2⟩:∃z:Nat,(if (64:Int)<(s.length:Int) then (64:Int) else (s.length:Int))=(z:Int)/\z<=s.length/\s.take z=s.take 64:=by
   by_cases h:(64:Int)<(s.length:Int)
   · exact⟨64,by rw[if_pos h];rfl,by omega,rfl⟩
   · exact⟨s.length,by rw[if_neg h],qnZ _,by rw[q6Z (by omega),q6Z (by omega)]⟩
 refine zE Tryz.func115 rfl ?_;simp only[Tryz.ntmps115,q7Z,q8Z,Nat.reduceAdd,Nat.reduceSub,qbZ,q9Z,qaZ];refine wS hΓ (by simp;exact wR) ?_;refine Sim.seq (wS hΓ (by simp[t8,u1];exact wR) ?_)
 match q,hq8 with
 | 0,_ =>
   refine wE hΓ (by simp[zHo,hz,hz1,hz2];exact wT) ?_;exact⟨.inr rfl,_,by simp[Tryz.f115] <;> rfl,wW [] (by simp)⟩
 | 1,_ =>
   refine wE hΓ (by simp[zHo];exact wT) ?_;exact⟨.inr rfl,_,by simp[Tryz.f115] <;> rfl,Weak.mk' [] (by decide) (by decide) (by simp[manifW]) (by simp)⟩
 | 2,_ =>
   refine wE hΓ (by simp[zHo];exact wT) ?_;exact⟨.inr rfl,_,by simp[Tryz.f115] <;> rfl,Weak.mk' [] (by decide) (by decide) (by simp[tempW]) (by simp)⟩
 | 3,_ =>
   refine wE hΓ (by simp +decide [zHo,mkS,t12,u2,u3,u4,hM3,h4,h4i,hD,hDt,hDb,hDc];exact wT) ?_;exact⟨.inr rfl,_,by simp[Tryz.f115] <;> rfl,Weak.mk' [] (by decide) (by decide) (by simp[hM3,hD]) (by simp)⟩
 | 4,_ =>
   refine wE hΓ (by simp +decide [zHo,mkS,t12,u2,u3,u4,hM3];exact wT) ?_;exact⟨.inr rfl,_,by simp[Tryz.f115] <;> rfl,Weak.mk' [] (by decide) (by decide) (by simp[hM3]) (by simp)⟩
 | 5,_ =>
   refine wE hΓ (by simp +decide [zHo,mkS,t12,u2,u3,u4,hM3];exact wT) ?_;exact⟨.inr rfl,_,by simp[Tryz.f115] <;> rfl,Weak.mk' [] (by decide) (by decide) (by simp[hM3]) (by simp)⟩
 | 6,_ =>
   refine wE hΓ (by simp +decide [zHo,mkS,t12,u2,u3,u4,hM4];exact wT) ?_;dsimp only;refine wE hΓ (by simp +decide [zHo,mkS,t12,u2,u3,u4,hM4];exact wT) ?_;exact⟨.inr rfl,_,by simp[Tryz.f115] <;> rfl,Weak.mk' [] (by decide) (by decide) (by simp[hM4]) (by simp)⟩
 | 7,_ =>
   refine wE hΓ (by simp +decide [zHo,mkS,t12,u2,u3,u4,hM4];exact wT) ?_;dsimp only;refine wE hΓ (by simp +decide [zHo,mkS,t12,u2,u3,u4,hM4];exact wT) ?_;exact⟨.inr rfl,_,by simp[Tryz.f115] <;> rfl,Weak.mk' [] (by decide) (by decide) (by simp[hM4]) (by simp)⟩
def zNk:zS:=zBJ fun
 | [.agg [.int .u8 k,.int .u8 n,.str s]]=>if (0<=k/\k.toNat<256)/\(0<=n/\n.toNat<256)/\s.length<=9223372036854775807 then some (.str (nmS (k.toNat,n.toNat,s))) else none
 | _=>none
theorem zLz:Sound Pz 115 zNk:=by
 refine ZM (zD Tryz.func115 rfl (by decide)) fun args v h=>?_;split at h;rotate_left
 · cases h
 rename_i k n s;split at h <;> cases h
 rename_i hc;obtain⟨⟨h1,h2⟩,⟨h3,h4⟩,h5⟩:=hc;have:=zSe k.toNat n.toNat h2 h4 s h5;rw[show ((k.toNat:Nat):Int)=k by omega,show ((n.toNat:Nat):Int)=n by omega]at this;exact⟨this,rfl,rfl⟩
def zIp(c:Nat):Sg:=(1+((c % 12:Nat):Int),1,1)
def sdM(f:Nat)(ls:List Nat):Mf:=⟨0,1+((f % 12:Nat):Int),40,(ls.take 6).map zIp⟩
def nmA(l:List Nm):List AV:=l.flatMap fun x=>[.int .u8 x.1,.int .u8 x.2.1,.str x.2.2]
@[simp] theorem zHh:∀l,(nmA l).length=l.length*3
 | []=>rfl
 | x::l=>by
   have:=zHh l;simp only[nmA,List.flatMap_cons,qdZ,q7Z,q8Z]at this ⊢;omega
theorem zA3(l:List Nm):zL (nmA l)=true:=frees_iff.2 fun v hv=>by
 obtain⟨x,_,hx⟩:=List.mem_flatMap.1 hv;simp only[qwZ,rtZ,or_false]at hx;rcases hx with rfl | rfl | rfl <;> rfl
theorem zO3:∀(l:List Nm) (k:Nat) (x:Nm),l[k]? = some x->((nmA l).drop (k*3)).take 3=[.int .u8 x.1,.int .u8 x.2.1,.str x.2.2]
 | [],k,x,h=>by simp at h
 | a::l,0,x,h=>by
   simp at h;subst h;simp[nmA]
 | a::l,k+1,x,h=>by
   have:=zO3 l k x (by simpa using h);rw[show (k+1)*3=3+k*3 by omega,<-List.drop_drop];simpa[nmA] using this
theorem zRj(f:Nat)(hf:f<256)(ls:List Nat)(hl:∀c∈ls,c<256)(hll:ls.length<=9223372036854775807)(l:List Nm) :
   Ct Pz 30 [.agg [.int .u8 f,.sl 0 0 ls.length 1 false,.sl 1 0 l.length 3 false]] [.cells false (ls.map aB),.cells false (nmA l)] (mfA 2 (sdM f ls)) [.cells false (ls.map aB),.cells false (nmA l),.cells true (zN (sdM f ls).segs)]:=by
 have hΓ:GOk Pz (zh []):=zB;have hA1:∀rn:List Nat,AWs rn (nmA l) (nmA l):=fun rn=>AWs.refl _ _ (zA3 l);unfold sdM mfA;refine zE Tryz.func30 rfl ?_;simp only[Tryz.ntmps30,q7Z,q8Z,Nat.reduceAdd,Nat.reduceSub,qbZ,q9Z,qaZ];have t12:(f:Int).tmod 12=((f % 12:Nat):Int):=by rw[rrZ (by omega)];omega
 obtain⟨j,hj⟩:∃j,f % 12=j:=⟨_,rfl⟩
 have hj8:j<12:=by omega
 rw[hj]at t12 ⊢;have w2:IntKind.u8.wrap (j:Int)=j:=zEH (by omega) (by omega);have w3:IntKind.i64.wrap (j:Int)=j:=zK (by omega) (by omega);have w1:IntKind.i64.wrap (1+(j:Int))=1+j:=zK (by omega) (by omega);refine wS hΓ (by simp;exact wR) ?_;refine wS hΓ (by simp +decide [t12,w1,w2,w3];exact wR) ?_;refine Sim.seq (wS hΓ (by simp;exact wR) ?_);refine Sim.block (Sim.loopW (fun k:Nat=>k<=ls.length/\k<=6)
   (fun k=>[.top,.ptr 2 0,.ptr 3 0,.ptr 4 0,.int .i64 k]++qbZ 32 .top)
   (fun k=>[.cells false (ls.map aB),.cells false (nmA l),.cells true [.int .u8 f,.sl 0 0 ls.length 1 false,.sl 1 0 l.length 3 false],.cells true [.int .i64 0,.int .i64 0,.int .i64 0,.nils],.cells true [.int .i64 0,.int .i64 (1+(j:Int)),.int .i64 40,.sl 5 0 k 3 false],.cells true (zN ((ls.take k).map zIp))]) (fun k=>ls.length-k) 0 (by simp) (by simp) (wW [0,1,2,3,4,100] (by simp[AWb,AWg,AW,hA1])) fun k hk=>?_)
 obtain⟨hk,hk5⟩:=hk;by_cases hlt:k<ls.length/\k<6
 · obtain⟨c1,c2⟩:=hlt
   have c2':(k:Int)<6:=by omega
   obtain⟨c,hc⟩:∃c,ls[k]? = some c:=⟨_,q3Z c1⟩
   have hcb:=hl c (qcZ hc);have e:(ls.take (k+1)).map zIp=(ls.take k).map zIp++[zIp c]:=by
     rw[List.take_add_one,hc,Option.toList_some];simp
   obtain⟨L,eL⟩:∃L,(ls.take k).map zIp=L:=⟨_,rfl⟩
   have hL:L.length=k:=by rw[<-eL];simp;omega
   rw[eL]at e ⊢;have q1:=zM4 ls k c hc;have t7:(c:Int).tmod 12=((c % 12:Nat):Int):=by rw[rrZ (by omega)];omega
   obtain⟨m7,hm7⟩:∃m:Nat,c % 12=m:=⟨_,rfl⟩
   have hm7b:m7<12:=by omega
   have hsg:zIp c=(1+(m7:Int),1,1):=by unfold zIp;rw[hm7]
   rw[hm7]at t7;have y0:IntKind.u8.wrap (m7:Int)=m7:=zEH (by omega) (by omega);have y1:IntKind.i64.wrap (m7:Int)=m7:=zK (by omega) (by omega);have y2:IntKind.i64.wrap (1+(m7:Int))=1+m7:=zK (by omega) (by omega);have y6:IntKind.i64.wrap ((k:Int)+1)=k+1:=zK (by omega) (by omega);have tkL:(zN L).take (k*3)=zN L:=q6Z (by simp;omega);have b1:(k+1)*24<=140737488355328:=by omega
   have b2:k+1<=9223372036854775807:=by omega
   refine wS hΓ (by simp[c1,c2'];exact wR) ?_;refine Sim.seq (Sim.block (Sim.draw hmix (by simp) ?_));refine SimR.many hΓ 12 (by simp[zF];rfl) (by omega) (by kernel_rfl) (by simp +decide [c1,q1,t7,y0,y1,y2];exact wR) ?_;refine SimR.one hΓ _ rfl (by kernel_rfl) (by simp +decide [hL,tkL,b1,b2];exact wR) ?_;refine SimR.many hΓ 15 (by simp[zF,zM];rfl) (by omega) (by kernel_rfl) (by simp +decide;exact wR) ?_;refine SimR.done rfl ?_;dsimp only;refine wE hΓ (by simp[y6];exact wT) ?_;exact⟨k+1,by omega,wW [0,1,2,3,4,7] (by simp[AWb,AWg,AW,hA1,e,zN,sgA,hsg]),by omega⟩
 have e1:(ls.map zIp).take k=(ls.map zIp).take 6/\k=min ls.length 6:=by
   rcases s2Z k 6 with h1 | h1
   · rw[q6Z (by rw[r7Z];omega),q6Z (by rw[r7Z];omega)];exact⟨rfl,by omega⟩
   · rw[show k=6 by omega];exact⟨rfl,by omega⟩
 obtain⟨e1,e2⟩:=e1;by_cases c1:k<ls.length
 · have c2:¬((k:Int)<6):=by omega
   refine wE hΓ (by simp[c1,c2];exact wT) ?_;dsimp only;rw[if_pos rfl];refine wS hΓ (by simp;exact wR) ?_;refine wE hΓ (by simp;exact wT) ?_;exact⟨.inr rfl,_,by simp[Tryz.f30] <;> rfl,Weak.mk' [0,1,5] (by decide) (by decide) (by simp;omega) (by simp[AWb,AWg,AW,hA1,e1])⟩
 · refine wE hΓ (by simp[c1];exact wT) ?_
   dsimp only;rw[if_pos rfl];refine wS hΓ (by simp;exact wR) ?_;refine wE hΓ (by simp;exact wT) ?_;exact⟨.inr rfl,_,by simp[Tryz.f30] <;> rfl,Weak.mk' [0,1,5] (by decide) (by decide) (by simp;omega) (by simp[AWb,AWg,AW,hA1,e1])⟩
def zAG(l:List Nm):Nat->List (List UInt8×List UInt8)
 | 0=>[]
 | k+1=>match l[k]? with
   | some x=>if nmS x=[]\/nmS x∈(zAG l k).map Prod.fst then zAG l k else zAG l k++[(nmS x,[UInt8.ofNat (97+k)])]
   | none=>zAG l k
def Z5(l:List Nm):List (List UInt8×List UInt8):=zAG l (min l.length 30)
theorem zFy(l:List Nm):∀k,(zAG l k).length<=k
 | 0=>qnZ _
 | k+1=>by
   have:=zFy l k;unfold zAG;repeat' split
   · omega
   · simp;omega
   · omega
theorem zK7(l:List Nm):∀k,(∀e∈zAG l k,zEO e.1/\e.2.length<=9)/\((zAG l k).map Prod.fst).Nodup
 | 0=>⟨fun e he=>by simp[zAG]at he,List.nodup_nil⟩
 | k+1=>by
   obtain⟨h1,h2⟩:=zK7 l k;unfold zAG;split
   · rename_i x hx
     split
     · exact⟨h1,h2⟩
     · rename_i hn
       refine ⟨fun e he=>?_,?_⟩
       · rcases qxZ.1 he with he | he
         · exact h1 e he
         · simp only[r1Z]at he
           subst he;have:=zOx x;refine ⟨⟨?_,this⟩,by simp⟩;exact List.length_pos_iff.2 fun h=>hn (.inl h)
       · rw[roZ,List.nodup_append]
         refine ⟨h2,by simp,fun a ha b hb=>?_⟩;simp only[s1Z,List.map_nil,r1Z]at hb;subst hb;rintro rfl;exact hn (.inr ha)
   · exact⟨h1,h2⟩
theorem zLH(l:List (List UInt8×List UInt8))(k:Nat)(h:k<l.length):(∀h',(flA l)[k*2]'h'=.str l[k].1)/\(flA l)[k*2]? = some (.str l[k].1):=by
 have e:(flA l)[k*2]? = some (.str l[k].1):=by
   have:=zDp l k h;have h2:(((flA l).drop (k*2)).take 2)[0]? = some (.str l[k].1):=by rw[this];rfl
   rw[r4Z,if_pos (by decide),r5Z,Nat.add_zero]at h2;exact h2
 exact⟨fun h'=>(q1Z.1 e).2,e⟩
def zVh:Gam:=zh [(115,zNk)]
theorem zTg:GOk Pz zVh:=zC zLz zB
def zRh(l:List Nm):Prop:=∀x∈l,x.1<256/\x.2.1<256/\x.2.2.length<=9223372036854775807
theorem zQd(f:Nat)(ls:List Nat)(l:List Nm)(hl:zRh l)(hll:l.length<=9223372036854775807) :
   Ct Pz 31 [.agg [.int .u8 f,.sl 0 0 ls.length 1 false,.sl 1 0 l.length 3 false]] [.cells false (ls.map aB),.cells false (nmA l)] (.sl 2 0 (Z5 l).length 2 false) [.cells false (ls.map aB),.cells false (nmA l),.cells true (flA (Z5 l))]:=by
 have hΓ:=zTg;have hA0:∀rn:List Nat,AWs rn (ls.map aB) (ls.map aB):=fun rn=>AWs.refl _ _ (zCd ls);have hA1:∀rn:List Nat,AWs rn (nmA l) (nmA l):=fun rn=>AWs.refl _ _ (zA3 l);refine zE Tryz.func31 rfl ?_;simp only[Tryz.ntmps31,q7Z,q8Z,Nat.reduceAdd,Nat.reduceSub,qbZ,q9Z,qaZ];refine wS hΓ (by simp;exact wR) ?_;refine wS hΓ (by simp;exact wR) ?_;refine Sim.seq (wS hΓ (by simp;exact wR) ?_);refine Sim.block (Sim.loopW (fun k:Nat=>k<=l.length/\k<=30)
   (fun k=>[.top,.ptr 2 0,.top,.sl 3 0 (zAG l k).length 2 false,.int .i64 k]++qbZ 53 .top)
   (fun k=>[.cells false (ls.map aB),.cells false (nmA l),.cells true [.int .u8 f,.sl 0 0 ls.length 1 false,.sl 1 0 l.length 3 false],.cells true (flA (zAG l k))]) (fun k=>l.length-k) 0 (by simp) (by simp) (Weak.mk' [0,1,2,100] (by decide) (by decide) (by simp[zAG]) (by simp[AWb,AWg,AW,hA0,hA1,zAG,flA])) fun k hk=>?_)
 obtain⟨hk,hk5⟩:=hk;have hfo:=ZE (zAG l k);have hol:=zFy l k;by_cases hlt:k<l.length/\k<30
 · obtain⟨c1,c2⟩:=hlt
   have c2':(k:Int)<30:=by omega
   obtain⟨x,hx⟩:∃x,l[k]? = some x:=⟨_,q3Z c1⟩
   obtain⟨x1,x2,x3⟩:=hl x (qcZ hx);have hg:=zO3 l k x hx;have k1:k*3+3<=l.length*3:=by omega
   have hnext:zAG l (k+1)=if nmS x=[]\/nmS x∈(zAG l k).map Prod.fst then zAG l k else zAG l k++[(nmS x,[UInt8.ofNat (97+k)])]:=by
     conv=>lhs;unfold zAG
     rw[hx]
   have hnl:=zOx x;obtain⟨out,hout⟩:∃out,zAG l k=out:=⟨_,rfl⟩
   rw[hout]at hnext hol hfo ⊢;obtain⟨M,hM⟩:∃M,out.length=M:=⟨_,rfl⟩
   rw[hM]at hol ⊢;have hAo:∀rn:List Nat,AWs rn (flA out) (flA out):=fun rn=>AWs.refl _ _ hfo;obtain⟨a,b,s⟩:=x;dsimp only at x1 x2 x3 hg;obtain⟨nm,hnm⟩:∃nm,nmS (a,b,s)=nm:=⟨_,rfl⟩
   rw[hnm]at hnext hnl;have y0:IntKind.u8.wrap (k:Int)=k:=zEH (by omega) (by omega);have y1:IntKind.u8.wrap (97+(k:Int))=97+k:=zEH (by omega) (by omega);have y6:IntKind.i64.wrap ((k:Int)+1)=k+1:=zK (by omega) (by omega);have hb:(97+(k:Int))=((97+k:Nat):Int):=by push_cast;rfl
   have hfl:(flA out).length=M*2:=by rw[zBt,hM]
   refine wS hΓ (by simp[c1,c2'];exact wR) ?_;refine Sim.seq (Sim.block ?_);have y2:(97+(k:Int)).toNat=97+k:=by omega
   have e9:UInt8.ofNat (97+k)=97+UInt8.ofNat k:=by simp
   rw[e9]at hnext;obtain⟨tx,htx⟩:∃tx,[97+UInt8.ofNat k]=tx:=⟨_,rfl⟩
   have x1i:(a:Int)<256:=by omega
   have x2i:(b:Int)<256:=by omega
   refine wS hΓ (by simp +decide [zVh,zNk,c1,k1,hg,x1,x2,x3,x1i,x2i,hnm,y0,y1,y2,htx];first | exact wR | exact⟨by kernel_rfl,wR⟩) ?_;rw[htx]at hnext;obtain⟨C,hC⟩:∃C:Nat->Bool,∀i,C i=decide (nm=[]\/nm∈(out.take i).map Prod.fst):=⟨_,fun _=>rfl⟩
   have hC0:C 0=nm.isEmpty:=by rw[hC];cases nm <;> simp
   have hCs:∀i (h:i<out.length),C (i+1)=(C i || decide (out[i].1=nm)):=fun i h=>by
     rw[hC,hC,List.take_succ_eq_append_getElem h];rw[Bool.eq_iff_iff];simp only[roZ,s1Z,List.map_nil,qxZ,r1Z,Bool.or_eq_true,decide_eq_true_eq,eq_comm (a:=nm) (b:=out[i].1),or_assoc]
   have hCe:C M=decide (nm=[]\/nm∈out.map Prod.fst):=by rw[hC,<-hM,List.take_length]
   refine wS hΓ (by simp;exact wR) ?_;refine Sim.seq (wS hΓ (by simp;exact wR) ?_);refine Sim.block (Sim.loopW (fun i:Nat=>i<=M)
     (fun i=>[.top,.ptr 2 0,.top,.sl 3 0 M 2 false,.int .i64 k,.ptr 4 0,.bool (C i),.int .i64 i]++qbZ 50 .top)
     (fun _=>[.cells false (ls.map aB),.cells false (nmA l),.cells true [.int .u8 f,.sl 0 0 ls.length 1 false,.sl 1 0 l.length 3 false],.cells true (flA out),.cells true [.str nm,.str tx]]) (fun i=>M-i) 0 (by simp) (qqZ _) (Weak.mk' [0,1,2,3,5] (by decide) (by decide) (by simp[hC0]) (by simp[AWb,AWg,AW,hA0,hA1,hAo])) fun i hi=>?_)
   by_cases hiM:i<M
   · have hio:i<out.length:=by omega
     have hiI:(i:Int)<M:=by omega
     obtain⟨f1,f2⟩:=zLH out i hio;have hCn:=hCs i hio;obtain⟨on,hon⟩:∃on,out[i].1=on:=⟨_,rfl⟩
     rw[hon]at f1 f2 hCn;have i1:i*2<M*2:=by omega
     have i2:i*2+2<=M*2:=by omega
     have i3:i*2<(flA out).length:=by omega
     have y7:IntKind.i64.wrap ((i:Int)+1)=i+1:=zK (by omega) (by omega);obtain⟨ci,hci⟩:∃c,C i=c:=⟨_,rfl⟩
     rw[hci]at hCn ⊢;refine wS hΓ (by simp[hiI,hiM];exact wR) ?_;cases ci with
     | true =>
       rw[Bool.true_or]at hCn;refine Sim.seq (Sim.block (wE hΓ (by simp +decide;first | exact⟨rfl,rfl,rfl⟩ | exact⟨by kernel_rfl,rfl,rfl,rfl⟩) ?_));dsimp only;refine wE hΓ (by simp[y7];exact wT) ?_;exact⟨i+1,by omega,Weak.mk' [0,1,2,3,4] (by decide) (by decide) (by simp[hCn]) (by simp[AWb,AWg,AW,hA0,hA1,hAo]),by omega⟩
     | false =>
       rw[Bool.false_or,show decide (on=nm)=(on==nm) by rw[Bool.eq_iff_iff];simp]at hCn;refine Sim.seq (Sim.block (wE hΓ (by simp +decide [f1,f2,hiM,i1,i2,i3];first | exact⟨rfl,rfl,rfl⟩ | exact⟨by kernel_rfl,rfl,rfl,rfl⟩) ?_));dsimp only;refine wE hΓ (by simp[y7];exact wT) ?_;exact⟨i+1,by omega,Weak.mk' [0,1,2,3,4] (by decide) (by decide) (by simp[hCn]) (by simp[AWb,AWg,AW,hA0,hA1,hAo]),by omega⟩
   · have hie:i=M:=by omega
     subst hie;obtain⟨ci,hci⟩:∃c,C i=c:=⟨_,rfl⟩
     rw[hci]at hCe ⊢;refine wE hΓ (by simp;exact wT) ?_;dsimp only;rw[if_pos rfl];have tk:(flA out).take (i*2)=flA out:=q6Z (by omega);have b1:(i+1)*32<=140737488355328:=by omega
     have b2:i+1<=9223372036854775807:=by omega
     cases ci with
     | true =>
       have hc:nm=[]\/nm∈out.map Prod.fst:=by simpa using hCe.symm
       rw[if_pos hc]at hnext;refine wE hΓ (by simp;exact wT) ?_;dsimp only;refine wE hΓ (by simp[y6];exact wT) ?_;exact⟨k+1,by omega,Weak.mk' [0,1,2,3] (by decide) (by decide) (by simp[hnext,hM]) (by simp[AWb,AWg,AW,hA0,hA1,hAo,hnext]),by omega⟩
     | false =>
       have hc:¬(nm=[]\/nm∈out.map Prod.fst):=by simpa using hCe.symm
       rw[if_neg hc]at hnext;have hfa:flA (out++[(nm,tx)])=flA out++[.str nm,.str tx]:=by rw[zC7];rfl
       have hAn:∀rn:List Nat,AWs rn (flA out++[.str nm,.str tx]) (flA out++[.str nm,.str tx]):=fun rn=>AWs.refl _ _ (by rw[<-hfa];exact ZE _);refine wE hΓ (by simp[tk,b1,b2,hM];exact wT) ?_;dsimp only;refine wE hΓ (by simp[y6];exact wT) ?_;exact⟨k+1,by omega,Weak.mk' [0,1,2,6] (by decide) (by decide) (by simp[hnext,hM]) (by simp[AWb,AWg,AW,hA0,hA1,hAn,hnext,hfa]),by omega⟩
 have e1:zAG l k=Z5 l:=by
   unfold Z5;rw[show min l.length 30=k by omega]
 rw[e1]at hfo hol ⊢;have hAo:∀rn:List Nat,AWs rn (flA (Z5 l)) (flA (Z5 l)):=fun rn=>AWs.refl _ _ hfo;by_cases c1:k<l.length
 · have c2:¬((k:Int)<30):=by omega
   refine wE hΓ (by simp[c1,c2];exact wT) ?_;dsimp only;rw[if_pos rfl];refine wE hΓ (by simp;exact wT) ?_;exact⟨.inr rfl,_,by simp[Tryz.f31] <;> rfl,wW [0,1,3] (by simp[AWb,AWg,AW,hA0,hA1,hAo])⟩
 · refine wE hΓ (by simp[c1];exact wT) ?_
   dsimp only;rw[if_pos rfl];refine wE hΓ (by simp;exact wT) ?_;exact⟨.inr rfl,_,by simp[Tryz.f31] <;> rfl,wW [0,1,3] (by simp[AWb,AWg,AW,hA0,hA1,hAo])⟩
def zPv:List AV->Option (List Nm)
 | []=>some []
 | .int .u8 a::.int .u8 b::.str s::l=>if 0<=a/\0<=b then (zPv l).map ((a.toNat,b.toNat,s)::·) else none
 | _=>none
theorem zOj:∀{xs:List AV} {l:List Nm},zPv xs=some l->xs=nmA l
 | [],l,h=>by cases h;rfl
 | x::xs,l,h=>by
   unfold zPv at h;split at h
   · cases ‹_=[]›
   · rename_i a b s ys e
     cases e;split at h
     · rename_i hc
       obtain⟨l',hl',rfl⟩:=qlZ.1 h;rw[zOj hl'];simp only[nmA,List.flatMap_cons,q9Z,qaZ];rw[show ((a.toNat:Nat):Int)=a by omega,show ((b.toNat:Nat):Int)=b by omega]
     · cases h
   · cases h
@[simp] theorem zRg:∀l:List Nm,zPv (nmA l)=some l
 | []=>rfl
 | x::l=>by
   have:=zRg l;simp only[nmA]at this;simp[nmA,zPv,this]
def zL8(H:zA):AV->Option (List Nm)
 | .sl b off len 3 _=>match H[b]? with
   | some (.cells _ l)=>if off+len*3<=l.length then zPv ((l.drop off).take (len*3)) else none
   | _=>none
 | _=>none
theorem zJZ{H:zA}{x:AV}{a:List Nm}(h:zL8 H x=some a):∃b off,(∀(i:Nat) (wd:List (Nat×Nat)),wd[i]? = some (b,off)->zAR wd (.sl i 0 a.length 3 false) x) /\
   (match H[b]? with | some (.cells _ l)=>off+(nmA a).length<=l.length/\nmA a=(l.drop off).take (nmA a).length | none=>True | _=>False):=by
 unfold zL8 at h;split at h
 · rename_i b off len c
   split at h;rotate_left
   · cases h
   rename_i o l hb;split at h;rotate_left
   · cases h
   rename_i hle;have e:=zOj h;have hlen:len=a.length:=by
     have:=congrArg List.length e;simp at this;omega
   subst hlen;exact⟨b,off,fun i wd hw=>by simp[zAR,hw],by rw[hb];exact⟨by simpa using hle,by rw[zHh];exact e.symm⟩⟩
 · cases h
def zN0:zS:=zi fun args H=>match args with
 | [.agg [.int .u8 f,x,y]]=>match zLP H x,zL8 H y with
   | some ls,some _l=>if 0<=f/\f.toNat<256 then some (mfA 0 (sdM f.toNat ls),[.cells true (zN (sdM f.toNat ls).segs)]) else none
   | _,_=>none
 | _=>none
theorem zMn:Sound Pz 30 zN0:=by
 refine ZQ (zD Tryz.func30 rfl (by decide)) fun args H v N h=>?_;split at h <;> try cases h
 rename_i f x y;split at h <;> try cases h
 rename_i ls l hx hy;split at h <;> cases h
 rename_i hc;obtain⟨h1,h2,b1,o1,w1,g1⟩:=zJP hx;obtain⟨b2,o2,w2,g2⟩:=zJZ hy;refine zB4 (H0:=[.cells false (ls.map aB),.cells false (nmA l)]) (args0:=[.agg [.int .u8 f,.sl 0 0 ls.length 1 false,.sl 1 0 l.length 3 false]]) ?_ rfl [(b1,o1),(b2,o2)] ?_ ⟨g1,zCd _,g2,zA3 _,trivial⟩
 · have:=zRj f.toNat hc.2 ls h1 h2 l
   rw[show ((f.toNat:Nat):Int)=f by omega]at this;simpa[mfA] using this
 · refine ⟨?_,trivial⟩
   unfold zAR;refine ⟨?_,w1 0 _ rfl,w2 1 _ rfl,trivial⟩;unfold zAR;exact⟨rfl,rfl⟩
open Classical in
noncomputable def zKS:zS:=zi fun args H=>match args with
 | [.agg [.int .u8 f,x,y]]=>match zLP H x,zL8 H y with
   | some _ls,some l=>if 0<=f/\zRh l/\l.length<=9223372036854775807 then some (.sl 0 0 (Z5 l).length 2 false,[.cells true (flA (Z5 l))]) else none
   | _,_=>none
 | _=>none
theorem zKg:Sound Pz 31 zKS:=by
 refine ZQ (zD Tryz.func31 rfl (by decide)) fun args H v N h=>?_;split at h <;> try cases h
 rename_i f x y;split at h <;> try cases h
 rename_i ls l hx hy;split at h <;> cases h
 rename_i hc;obtain⟨h1,h2,b1,o1,w1,g1⟩:=zJP hx;obtain⟨b2,o2,w2,g2⟩:=zJZ hy;refine zB4 (H0:=[.cells false (ls.map aB),.cells false (nmA l)]) (args0:=[.agg [.int .u8 f,.sl 0 0 ls.length 1 false,.sl 1 0 l.length 3 false]]) ?_ rfl [(b1,o1),(b2,o2)] ?_ ⟨g1,zCd _,g2,zA3 _,trivial⟩
 · have:=zQd f.toNat ls l hc.2.1 hc.2.2
   rw[show ((f.toNat:Nat):Int)=f by omega]at this;simpa[shA,shB,Z0 2 _ (ZE (Z5 l))] using this
 · refine ⟨?_,trivial⟩
   unfold zAR;refine ⟨?_,w1 0 _ rfl,w2 1 _ rfl,trivial⟩;unfold zAR;exact⟨rfl,rfl⟩
open Classical in
noncomputable def zTb:zS:=fun args H=>match args with
 | [.sl b 0 n 2 _c,.int .i64 q]=>match H[b]? with
   | some (.cells _ l)=>match flD l with
     | some x=>match DS.ofF x q with
       | some d=>if n=x.length/\x.length<=1000000/\zJ3 x then some (.ptr H.length 0,H++[.obj true d.blks],[]) else none
       | none=>none
     | none=>none
   | _=>none
 | _=>none
theorem zPk:Sound Pz 32 zTb:=by
 refine ⟨zD Tryz.func32 rfl (by decide),fun args H v H' W hs=>?_,fun args H v H' W hs=>?_⟩ <;> (unfold zTb at hs;split at hs <;> try cases hs) <;> (rename_i b n c q;split at hs <;> try cases hs) <;> (rename_i o l hb;split at hs <;> try cases hs) <;> (rename_i x hx;split at hs <;> try cases hs) <;> (rename_i d hd;split at hs <;> cases hs;rename_i hk)
 · obtain⟨rfl,h1,h2⟩:=hk
   have e:=zJn hx;subst e;have hbl:b<H.length:=(q1Z.1 hb).1;have hct:=zU4 x h1 h2 q;rw[hd]at hct;dsimp only at hct;have:=zZ (H:=H) (args:=[.sl b 0 x.length 2 c,.int .i64 q]) hct [b] (by simp) ⟨⟨rfl,rfl,rfl,by simp⟩,⟨rfl,rfl⟩,trivial⟩ ⟨by rw[q2Z,hb];exact⟨by simp,zAU _ (Z8 x)⟩,hbl,trivial⟩ rfl;simpa[zW,ABlk.own,reA,reB,Zr] using this
 · exact⟨by simp,fun c hc _=>by rw[q4Z hc]⟩
theorem zPd(a b:List (List UInt8))(ha:a.length<=1000000000000) :
   Ct Pz 37 [.sl 0 0 a.length 1 false,.sl 1 0 b.length 1 false] [.cells false (a.map AV.str),.cells false (b.map AV.str)] (.bool (decide (a=b))) [.cells false (a.map AV.str),.cells false (b.map AV.str)]:=by
 have hA:∀(l:List (List UInt8)) (rn:List Nat),AWs rn (l.map AV.str) (l.map AV.str):=fun l rn=>AWs.refl _ _ (zH _ _ fun _=>rfl);have hA0:=hA a;have hA1:=hA b;refine zE Tryz.func37 rfl ?_;simp only[Tryz.ntmps37,q7Z,q8Z,Nat.reduceAdd,Nat.reduceSub,qbZ,q9Z,qaZ];refine wS zB (by simp;exact wR) ?_;by_cases hl:a.length=b.length;rotate_left
 · have hne:a≠b:=fun h=>hl (by rw[h])
   rw[decide_eq_false hne];have hb1:((a.length:Int)==(b.length:Int))=false:=by rw[beq_eq_false_iff_ne];omega
   have hb2:¬((a.length:Int)=(b.length:Int)):=by omega
   refine wE zB (by simp[hl,hb1,hb2];exact wT) ?_;exact⟨.inr rfl,_,by simp <;> rfl,wW [0,1] (by simp[AWg,AWb,hA0,hA1])⟩
 refine wS zB (by simp[hl];exact wR) ?_;refine Sim.seq (wS zB (by simp;exact wR) ?_);refine Sim.block (Sim.loopW (fun k:Nat=>k<=a.length/\(decide (a=b))=decide (a.drop k=b.drop k))
   (fun k=>[.sl 0 0 a.length 1 false,.sl 1 0 b.length 1 false,.top,.top,.top,.int .i64 k]++qbZ 20 .top)
   (fun _=>[.cells false (a.map AV.str),.cells false (b.map AV.str)]) (fun k=>a.length-k) 0 (by simp) ⟨qqZ _,rfl⟩ (Weak.mk' [0,1] (by decide) (by decide) (by simp[hl]) (by simp[AWg,AWb,hA0,hA1])) fun k hk=>?_)
 obtain⟨hk,hk1⟩:=hk;by_cases hlt:k<a.length
 · have hltb:k<b.length:=by omega
   have hltI:(k:Int)<a.length:=by omega
   rw[List.drop_eq_getElem_cons hlt,List.drop_eq_getElem_cons hltb]at hk1;obtain⟨s,hs⟩:∃s,a[k]=s:=⟨_,rfl⟩
   obtain⟨t,htt⟩:∃t,b[k]=t:=⟨_,rfl⟩
   have g1:∀h,(a.map AV.str)[k]'h=.str s:=fun h=>by simp[hs]
   have g2:∀h,(b.map AV.str)[k]'h=.str t:=fun h=>by simp[htt]
   have y1:IntKind.i64.wrap ((k:Int)+1)=k+1:=zK (by omega) (by omega);rw[hs,htt]at hk1;refine wS zB (by simp[hlt];exact wR) ?_;by_cases hst:s=t
   · subst hst
     have e:decide (s::a.drop (k+1)=s::b.drop (k+1))=decide (a.drop (k+1)=b.drop (k+1)):=by simp
     rw[e]at hk1;refine Sim.seq (Sim.block (wE zB (by simp +decide [hlt,hltb,g1,g2,hs,htt];exact wT) ?_));dsimp only;refine wE zB (by simp[y1];exact wT) ?_;exact⟨k+1,⟨by omega,hk1⟩,wW [0,1] (by simp[AWg,AWb,hA0,hA1]),by omega⟩
   · have hsb:(s==t)=false:=by simpa using hst
     have e:decide (s::a.drop (k+1)=t::b.drop (k+1))=false:=by simp[hst]
     rw[e]at hk1;rw[hk1];refine Sim.seq (Sim.block (wE zB (by simp +decide [hlt,hltb,g1,g2,hs,htt,hst,hsb];exact wT) ?_));exact⟨.inr rfl,_,by simp <;> rfl,wW [0,1] (by simp[AWg,AWb,hA0,hA1])⟩
 · have hke:k=a.length:=by omega
   subst hke;rw[List.drop_of_length_le (qnZ _),List.drop_of_length_le (by omega)]at hk1;rw[hk1];refine wE zB (by simp;exact wT) ?_;dsimp only;rw[if_pos rfl];refine wE zB (by simp;exact wT) ?_;exact⟨.inr rfl,_,by simp <;> rfl,wW [0,1] (by simp[AWg,AWb,hA0,hA1])⟩
def zKH:zS:=ZD fun args H=>match args with
 | [x,y]=>match zAf H x,zAf H y with
   | some a,some b=>if a.length<=1000000000000 then some (.bool (decide (a=b))) else none
   | _,_=>none
 | _=>none
theorem zKm:Sound Pz 37 zKH:=by
 refine ZU (zD Tryz.func37 rfl (by decide)) fun args H v h=>?_;split at h <;> try cases h
 rename_i x y;split at h <;> try cases h
 rename_i a b hx hy;split at h <;> cases h
 rename_i hc;obtain⟨b1,o1,w1,g1⟩:=zBf hx;obtain⟨b2,o2,w2,g2⟩:=zBf hy;refine zJ7 (zPd a b hc) rfl [(b1,o1),(b2,o2)] ?_ ?_
 · exact⟨w1 0 _ rfl,w2 1 _ rfl,trivial⟩
 · exact⟨g1,zH _ _ fun _=>rfl,g2,zH _ _ fun _=>rfl,trivial⟩
end Go.Proofs.YtfhidaoiofeooaaGreatDoor
