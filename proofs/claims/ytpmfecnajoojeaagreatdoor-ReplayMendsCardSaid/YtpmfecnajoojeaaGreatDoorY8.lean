/- Parts of the proof of ReplayMends: lemmas, each with its own conditions. -/
import Derived.Lib.BitFns
import Derived.RegionTactic
import Derived.BigQuiet
import Derived.Deep.QuietTactic
import Derived.Deep.RegionWith
import Derived.Test.YtpmfecnajoojeaaGreatDoorShelf
import Derived.Test.YtpmfecnajoojeaaGreatDoorY7
set_option maxHeartbeats 64000000
open List renaming getD_eq_getElem?_getD → q2Z, getElem?_eq_getElem → q3Z, getElem?_append_left → q4Z, getElem?_append_right → q5Z, take_of_length_le → q6Z, length_cons → q7Z, cons_append → q9Z, nil_append → qaZ, append_assoc → qeZ, length_take → qjZ, length_drop → qkZ, getElem?_cons_succ → r9Z, map_cons → s1Z, getElem?_eq_none → s4Z, drop_append → sdZ
open Nat renaming le_refl → qnZ, lt_of_lt_of_le → rlZ, add_sub_cancel_left → s3Z, min_eq_left → sfZ
open Int renaming toNat_of_nonneg → rqZ
namespace Vy
open Go
def blen(n:Nat):Nat:=(Lib.bitLen n+7) / 8
theorem zR5(n:Nat)(h0:n≠0)(h:n<2^64):2 ^ (Lib.bitLen n-1)<=n/\n<2 ^ Lib.bitLen n/\1<=Lib.bitLen n :=
 have:=Lib.bitLenAux_bounds 64 n h h0
 ⟨this.2.1,this.2.2,this.1⟩
theorem zGQ(n:Nat)(h0:n≠0)(h:n<2^64):256 ^ (blen n-1)<=n/\n<256 ^ blen n/\1<=blen n/\blen n<=8:=by
 obtain⟨h1,h2,h3⟩:=zR5 n h0 h
 have h4:=Lib.bitLen_le n 64 (by omega) h
 unfold blen
 have e:∀k,(256:Nat) ^ k=2 ^ (8*k):=fun k=>by rw[Nat.pow_mul]
 refine ⟨?_,?_,by omega,by omega⟩
 · rw[e]
   exact Nat.le_trans (Nat.pow_le_pow_right (by omega) (by omega)) h1
 · rw[e]
   exact rlZ h2 (Nat.pow_le_pow_right (by omega) (by omega))
theorem blen_le(n:Nat)(h0:248<=n)(h:n<2^64):1<=blen n/\blen n<=8:=(zGQ n (by omega) h).2.2
theorem pow_lt_of{a b:Nat}(h:256 ^ a<256 ^ b):a<b:=(Nat.pow_lt_pow_iff_right (by omega)).1 h
theorem zMC(n m:Nat)(h0:n≠0)(h:n<2^64)(h1:256 ^ (m-1)<=n)(h2:n<256 ^ m)(hm:1<=m):blen n=m:=by
 obtain⟨a,b,c,_⟩:=zGQ n h0 h;have e1:blen n-1<m:=pow_lt_of (Nat.lt_of_le_of_lt a h2);have e2:m-1<blen n:=pow_lt_of (Nat.lt_of_le_of_lt h1 b);omega
def le:Nat->Nat->List UInt8
 | 0,_=>[]
 | m+1,n=>UInt8.ofNat (n % 256)::le m (n / 256)
theorem le_length(m n:Nat):(le m n).length=m:=by
 induction m generalizing n with
 | zero=>rfl
 | succ m ih=>simp[le,ih]
theorem le_get(m n j:Nat)(h:j<m):(le m n)[j]? = some (UInt8.ofNat (n / 256 ^ j % 256)):=by
 induction m generalizing n j with
 | zero=>omega
 | succ m ih =>
   cases j with
   | zero=>simp[le]
   | succ j =>
     simp only[le,r9Z]
     rw[ih _ _ (by omega),Nat.div_div_eq_div_mul,Nat.pow_succ,Nat.mul_comm]
def val:List UInt8->Nat
 | []=>0
 | b::r=>b.toNat+256*val r
theorem val_lt(l:List UInt8):val l<256 ^ l.length:=by
 induction l with
 | nil=>simp[val]
 | cons b r ih =>
   have:=UInt8.toNat_lt b;simp only[val,q7Z,Nat.pow_succ];omega
theorem zW6(m n:Nat):val (le m n)=n % 256 ^ m:=by
 induction m generalizing n with
 | zero=>simp[le,val];omega
 | succ m ih =>
   simp only[le,val,ih]
   have:(UInt8.ofNat (n % 256)).toNat=n % 256:=by simp
   rw[this,Nat.pow_succ,Nat.mul_comm (256 ^ m) 256,Nat.mod_mul]
theorem zWe(l:List UInt8):le l.length (val l)=l:=by
 induction l with
 | nil=>rfl
 | cons b r ih =>
   have hb:=UInt8.toNat_lt b;simp only[q7Z,le,val]
   have h1:(b.toNat+256*val r) % 256=b.toNat:=by omega
   have h2:(b.toNat+256*val r) / 256=val r:=by omega
   rw[h1,h2,ih];simp
theorem zPc(l r:List UInt8):val (l++r)=val l+256 ^ l.length*val r:=by
 induction l with
 | nil=>simp[val]
 | cons b l ih =>
   simp only[q9Z,val,ih,q7Z,Nat.pow_succ,Nat.mul_add,Nat.add_assoc];rw[Nat.mul_comm (256 ^ l.length) 256,Nat.mul_assoc]
def enc(n:Nat):List UInt8:=if n<248 then [UInt8.ofNat n] else UInt8.ofNat (247+blen n)::le (blen n) n
def size(n:Nat):Nat:=if n<248 then 1 else 1+blen n
theorem enc_length(n:Nat):(enc n).length=size n:=by
 unfold enc size
 split <;> simp[le_length,Nat.add_comm]
theorem size_bd(n:Nat)(h:n<2^64):1<=size n/\size n<=9:=by
 unfold size;split
 · omega
 · have:=blen_le n (by omega) h
   omega
def put(l:List Nat):List UInt8:=l.flatMap enc
def lb(n j:Nat):Nat:=((enc n).getD j 0).toNat
def get(s:List UInt8)(at_:Int):Nat×Int×Int :=
 if at_<0\/(s.length:Int)<=at_ then (0,at_,3) else
 let k:=at_.toNat
 let b:=(s.getD k 0).toNat
 if b<248 then (b,at_+1,0) else
 if s.length-k<=b-247 then (0,at_,3) else
 let n:=val ((s.drop (k+1)).take (b-247))
 if size n=1+(b-247) then (n,at_+1+(b-247:Nat),0) else (0,at_,5)
theorem val_take_succ(s:List UInt8)(j:Nat)(h:j<s.length):val (s.take (j+1))=val (s.take j)+256 ^ j*s[j].toNat:=by
 rw[List.take_succ_eq_append_getElem h,zPc];simp[val,qjZ,sfZ (Nat.le_of_lt h)]
theorem get_ok(s:List UInt8)(a:Int)(n:Nat)(x:Int)(h:get s a=(n,x,0)):0<=a/\a<x/\x<=s.length:=by
 unfold get at h;split at h
 · simp at h
 · rename_i h1
   have hk:(a.toNat:Int)=a:=rqZ (by omega)
   simp only at h;split at h
   · simp only[Prod.mk.injEq]at h;omega
   · split at h
     · simp at h
     · split at h
       · simp only[Prod.mk.injEq]at h;omega
       · simp at h
def row(s:List UInt8)(a:Int):Nat->List Nat×Int×Int
 | 0=>([],a,0)
 | m+1=>if (get s a).2.2=0 then
     (if (row s (get s a).2.1 m).2.2=0 then ((get s a).1::(row s (get s a).2.1 m).1,(row s (get s a).2.1 m).2) else ([],(row s (get s a).2.1 m).2))
   else ([],(get s a).2)
theorem div_pow_succ(n k:Nat):n / 256 ^ k / 256=n / 256 ^ (k+1):=by
 rw[Nat.div_div_eq_div_mul,Nat.pow_succ]
theorem blen_of_div(n k:Nat)(h0:n≠0)(h:n<2^64)(h1:256 ^ k<=n)(h2:n / 256 ^ k<256):blen n=k+1:=by
 refine zMC n (k+1) h0 h h1 ?_ (by omega)
 rw[Nat.pow_succ]
 exact (Nat.div_lt_iff_lt_mul (Nat.pow_pos (by omega))).1 h2 |> fun h=>by rw[Nat.mul_comm];exact h
theorem le_snoc(k n:Nat):le (k+1) n=le k n++[UInt8.ofNat (n / 256 ^ k % 256)]:=by
 induction k generalizing n with
 | zero=>simp[le]
 | succ k ih =>
   rw[le,ih (n / 256),le];simp only[q9Z,Nat.div_div_eq_div_mul,Nat.pow_succ];rw[Nat.mul_comm 256]
theorem zXB(s:List UInt8)(k m:Nat)(h:k<s.length)(hm:(s[k]).toNat=m+247)(h1:1<=m)(hs:m<s.length-k) :
   enc (val ((s.drop (k+1)).take m))=(s.drop k).take (1+m)↔size (val ((s.drop (k+1)).take m))=1+m:=by
 have hl:((s.drop (k+1)).take m).length=m:=by rw[qjZ,qkZ];omega
 have hd:(s.drop k).take (1+m)=s[k]::(s.drop (k+1)).take m:=by
   rw[List.drop_eq_getElem_cons h,Nat.add_comm 1 m,List.take_succ_cons]
 constructor
 · intro e
   have:=congrArg List.length e;rw[enc_length,hd,q7Z,hl]at this;omega
 · intro e
   rw[hd];unfold size at e;split at e
   · omega
   · rename_i hn
     unfold enc;rw[if_neg hn]
     have hb:blen (val ((s.drop (k+1)).take m))=m:=by omega
     rw[hb];have h3:=zWe ((s.drop (k+1)).take m);rw[hl]at h3;rw[h3]
     congr 1
     have:s[k]=UInt8.ofNat (247+m):=by
       rw[Nat.add_comm,<-hm];simp
     exact this.symm
end Vy
namespace Vy
theorem zTP(n:Nat):(enc n)[0]? = some (if n<248 then UInt8.ofNat n else UInt8.ofNat (247+blen n)):=by
 unfold enc
 split <;> rfl
theorem get_mid(x y:List UInt8)(n:Nat)(hn:n<2^64):get (x++enc n++y) x.length=(n,(x.length:Int)+size n,0):=by
 have hl:(x++enc n++y).length=x.length+size n+y.length:=by simp[enc_length,Nat.add_assoc]
 have hs:=size_bd n hn
 have h0:(x++enc n++y).getD x.length 0=if n<248 then UInt8.ofNat n else UInt8.ofNat (247+blen n):=by
   rw[q2Z,qeZ,q5Z (qnZ _),Nat.sub_self,
     q4Z (by rw[enc_length];omega),zTP]
   rfl
 unfold get
 rw[if_neg (by omega)]
 simp only[Int.toNat_natCast,h0];by_cases h:n<248
 · simp only[if_pos h]
   have e:(UInt8.ofNat n).toNat=n:=by simp;omega
   rw[e,if_pos h];simp[size,h]
 · simp only[if_neg h]
   have hb:=blen_le n (by omega) hn
   have e:(UInt8.ofNat (247+blen n)).toNat=247+blen n:=by simp;omega
   have hz:size n=1+blen n:=by simp[size,h]
   rw[e,if_neg (by omega),if_neg (by rw[hl,hz];omega)]
   have e2:247+blen n-247=blen n:=by omega
   rw[e2]
   have hd:((x++enc n++y).drop (x.length+1)).take (blen n)=le (blen n) n:=by
     rw[qeZ,sdZ,List.drop_of_length_le (by omega)]
     unfold enc;rw[if_neg h];simp only[qaZ,q9Z,s3Z,List.drop_one,List.tail_cons]
     rw[List.take_append_of_le_length (by rw[le_length];omega),q6Z (by rw[le_length];omega)]
   rw[hd,zW6,Nat.mod_eq_of_lt (zGQ n (by omega) hn).2.1,if_pos hz]
   rw[hz]
   push_cast
   simp only[Prod.mk.injEq,true_and,and_true];omega
theorem get_put(s:List UInt8)(p:Nat)(v:Nat)(x:Int)(h:get s p=(v,x,0)):enc v=(s.drop p).take (x.toNat-p)/\v<2 ^ 64:=by
 unfold get at h;split at h
 · simp only[Prod.mk.injEq]at h;omega
 · rename_i h1
   have hp:p<s.length:=by omega
   have hg:s.getD p 0=s[p]:=by rw[q2Z,q3Z hp];rfl
   simp only[Int.toNat_natCast,hg]at h;split at h
   · rename_i h2
     simp only[Prod.mk.injEq]at h;obtain⟨rfl,rfl,_⟩:=h
     have e:((p:Int)+1).toNat-p=1:=by
       show (((p+1:Nat):Int)).toNat-p=1
       rw[Int.toNat_natCast];omega
     rw[e,List.drop_eq_getElem_cons hp]
     exact⟨by rw[List.take_succ_cons,List.take_zero];simp[enc,h2],rlZ h2 (by decide)⟩
   · rename_i h2
     split at h
     · simp only[Prod.mk.injEq]at h;omega
     · rename_i h3
       split at h
       · rename_i h4
         have h8:=UInt8.toNat_lt s[p]
         obtain⟨m,hm⟩:∃m,s[p].toNat=m+247:=⟨s[p].toNat-247,by omega⟩
         rw[hm]at h h3 h4 h8;rw[Nat.add_sub_cancel]at h h3 h4;simp only[Prod.mk.injEq]at h;obtain⟨rfl,rfl,_⟩:=h
         have:=(zXB s p m hp hm (by omega) (by omega)).2 h4
         have e:((p:Int)+1+(m:Nat)).toNat-p=1+m:=by
           show (((p+1+m:Nat):Int)).toNat-p=1+m
           rw[Int.toNat_natCast];omega
         rw[e];refine ⟨this,?_⟩;have hv:=val_lt ((s.drop (p+1)).take m)
         have hq:((s.drop (p+1)).take m).length<=8:=by rw[qjZ];omega
         have h9:(256:Nat) ^ ((s.drop (p+1)).take m).length<=256 ^ 8:=Nat.pow_le_pow_right (by decide) hq
         exact rlZ hv h9
       · simp only[Prod.mk.injEq]at h;omega
end Vy
namespace Go.Proofs.YtpmfecnajoojeaaGreatDoor
open _root_.Go.Proofs.Tryz renaming prog → Pz
open Go.RowKit
set_option maxRecDepth 100000 in
theorem zRj(n:Nat)(w:World)(h:n<248) :
   Calls Pz 155 #[.int .u64 n] w fun e w'=>e=.returned (.agg #[.int .u8 n,.int .u8 0,.int .u8 0,.int .u8 0,.int .u8 0,.int .u8 0,.int .u8 0,.int .u8 0,.int .u8 0,.int .i64 1])/\Below w.heap.size w w':=by
 go_enter Tryz.func155,Tryz.ntmps155
 go_wp2
 refine bodyPost_ret (v:=.agg #[.int .u8 n,.int .u8 0,.int .u8 0,.int .u8 0,.int .u8 0,.int .u8 0,.int .u8 0,.int .u8 0,.int .u8 0,.int .i64 1]) (by simp[results,Tryz.results155,go_sem]) rfl ⟨rfl,?_⟩
 exact (Below.refl _ _).alloc (qnZ _) _
def bt(n i j:Nat):Int:=if j<i then ((n / 256 ^ j % 256:Nat):Int) else 0
def zJm(n m i:Nat)(c:Int):Array Value:=#[.int .u8 (247+m),.int .u8 (bt n i 0),.int .u8 (bt n i 1),.int .u8 (bt n i 2),.int .u8 (bt n i 3),.int .u8 (bt n i 4),.int .u8 (bt n i 5),.int .u8 (bt n i 6),.int .u8 (bt n i 7),.int .i64 c]
theorem zS8(n m i:Nat)(c:Int)(k:Nat)(hk:k<8):(zJm n m i c)[1+k]? = some (.int .u8 (bt n i k)):=by
 have:k=0\/k=1\/k=2\/k=3\/k=4\/k=5\/k=6\/k=7:=by omega
 rcases this with rfl | rfl | rfl | rfl | rfl | rfl | rfl | rfl <;> rfl
theorem zUD(n m:Nat)(c:Int)(k:Nat)(hk:k<8):(zJm n m k c).setIfInBounds (1+k) (.int .u8 ((n / 256 ^ k % 256:Nat):Int))=zJm n m (k+1) c:=by
 have:k=0\/k=1\/k=2\/k=3\/k=4\/k=5\/k=6\/k=7:=by omega
 rcases this with rfl | rfl | rfl | rfl | rfl | rfl | rfl | rfl <;> simp[zJm,bt]
set_option maxRecDepth 100000 in
theorem zVw(n:Nat)(w:World)(h:248<=n)(h':n<2^64):
   Calls Pz 155 #[.int .u64 n] w fun e w'=>e=.returned (.agg (zJm n (Vy.blen n) (Vy.blen n) (1+Vy.blen n)))/\Below w.heap.size w w':=by
 have hbl:=Vy.blen_le n h h';obtain⟨m,hm⟩:∃m:Nat,Vy.blen n=m:=⟨_,rfl⟩;rw[hm]at hbl ⊢
 have Hm:=Lib.hid hm;clear hm
 obtain⟨hm1,hm2⟩:=hbl
 go_enter Tryz.func155,Tryz.ntmps155
 go_wp2_with fail
 refine (Tryz.bits_Len64 _ _ (by omega) (by omega)).mono ?_;rintro e w' ⟨rfl,rfl⟩
 obtain⟨b,hb⟩:∃b:Nat,Lib.bitLen (n:Int).toNat=b:=⟨_,rfl⟩
 have hb1:8*m<=b+7:=by have:=Hm.out;unfold Vy.blen at this;rw[<-hb];simp;omega
 have hb2:b+7<8*m+8:=by have:=Hm.out;unfold Vy.blen at this;rw[<-hb];simp;omega
 rw[hb]
 have Hb:=Lib.hid hb;clear hb
 go_wp2_with fail
 rw[show ((b:Int)+8-1) / 8=(m:Int) from by omega]
 go_loopw [24] (fun i wr=>∃k:Nat,k<=m/\i=.int .i64 k/\Blk wr w.heap.size (zJm n m k 0) 242/\Below w.heap.size w wr) (fun i _=>m-(intOf i).toNat)
 case atStart=>exact⟨0,by omega,rfl,Blk.new _ _ _,(Below.refl _ _).alloc (qnZ _) _⟩
 case round =>
   obtain⟨k,hk,rfl,hB,hb⟩:=hrel;by_cases hlt:k<m
   · have hc:=hB.cell (zS8 n m k 0 k (by omega))
     have hf:=hB.free (1+k)
     go_wp2_with fail
     go_roundw
     case rel =>
       refine ⟨k+1,by omega,by go_num,?_,hb.setCell (qnZ _) _⟩
       have:=hB.set (1+k) (.int .u8 ((n / 256 ^ k % 256:Nat):Int))
       rw[zUD n m 0 k (by omega)]at this
       rw[show ((n:Int) / 2 ^ (8*k) % 256)=((n / 256 ^ k % 256:Nat):Int) from by
         have e:(256:Nat) ^ k=2 ^ (8*k):=by rw[Nat.pow_mul]
         rw[e];push_cast;rfl]
       exact this
     case measure=>simp[intOf];omega
   · have hkm:k=m:=by omega
     subst hkm;unfold zJm at hB
     have f:=fun i=>hB.free i
     have c0:=hB.cell (i:=0) rfl;have c1:=hB.cell (i:=1) rfl;have c2:=hB.cell (i:=2) rfl;have c3:=hB.cell (i:=3) rfl;have c4:=hB.cell (i:=4) rfl;have c5:=hB.cell (i:=5) rfl;have c6:=hB.cell (i:=6) rfl;have c7:=hB.cell (i:=7) rfl;have c8:=hB.cell (i:=8) rfl;have c9:=hB.cell (i:=9) rfl;simp only[List.getElem_toArray,List.getElem_cons_zero,List.getElem_cons_succ]at c0 c1 c2 c3 c4 c5 c6 c7 c8 c9;clear hB
     go_wp2_with fail
     refine bodyPost_ret (v:=.agg (zJm n k k (1+k))) (by simp[results,Tryz.results155,go_sem,c0,c1,c2,c3,c4,c5,c6,c7,c8,c9,zJm]) rfl ⟨rfl,?_⟩
     have hl:=qnZ w.heap.size;exact Zt (Zt (Zt (Zt (Zt (Zt (Zt (Zt (Zt (Zt (Zt hb hl _ _) hl _ _) hl _ _) hl _ _) hl _ _) hl _ _) hl _ _) hl _ _) hl _ _) hl _ _) hl _ _
def zUU(n:Nat):Array Value:=#[.int .u8 (Vy.lb n 0),.int .u8 (Vy.lb n 1),.int .u8 (Vy.lb n 2),.int .u8 (Vy.lb n 3),.int .u8 (Vy.lb n 4),.int .u8 (Vy.lb n 5),.int .u8 (Vy.lb n 6),.int .u8 (Vy.lb n 7),.int .u8 (Vy.lb n 8),.int .i64 (Vy.size n)]
theorem zDz(n j:Nat)(h:248<=n):((Vy.lb n (j+1):Nat):Int)=bt n (Vy.blen n) j:=by
 unfold Vy.lb Vy.enc bt
 rw[if_neg (by omega),List.getD_cons_succ,q2Z]
 by_cases hj:j<Vy.blen n
 · rw[if_pos hj,Vy.le_get _ _ _ hj]
   simp
 · rw[if_neg hj,s4Z (by rw[Vy.le_length];omega)]
   rfl
theorem zUb(n:Nat)(w:World)(h:n<2^64) :
   Calls Pz 155 #[.int .u64 n] w fun e w'=>e=.returned (.agg (zUU n))/\Below w.heap.size w w':=by
 by_cases hs:n<248
 · refine (zRj n w hs).mono ?_
   rintro e w' ⟨rfl,hb⟩;refine ⟨?_,hb⟩
   have h0:((Vy.lb n 0:Nat):Int)=n:=by simp[Vy.lb,Vy.enc,hs];omega
   have hj:∀j,((Vy.lb n (j+1):Nat):Int)=0:=fun j=>by simp[Vy.lb,Vy.enc,hs]
   have hz:Vy.size n=1:=by simp[Vy.size,hs]
   unfold zUU;rw[h0,hj 0,hj 1,hj 2,hj 3,hj 4,hj 5,hj 6,hj 7,hz];rfl
 · refine (zVw n w (by omega) h).mono ?_
   rintro e w' ⟨rfl,hb⟩;refine ⟨?_,hb⟩
   have hb:=Vy.blen_le n (by omega) h
   have h0:((Vy.lb n 0:Nat):Int)=247+Vy.blen n:=by
     simp[Vy.lb,Vy.enc,hs];omega
   have hz:Vy.size n=1+Vy.blen n:=by simp[Vy.size,hs]
   unfold zUU zJm
   rw[h0,zDz n 0 (by omega),zDz n 1 (by omega),zDz n 2 (by omega),zDz n 3 (by omega),zDz n 4 (by omega),zDz n 5 (by omega),zDz n 6 (by omega),zDz n 7 (by omega),hz]
   rfl
theorem zLP(c0 c1 c2 c3 c4 c5 c6 c7 c8 c9:Value)(w:World) :
   Sem.run Pz (Instr.field 242 (.agg #[c0,c1,c2,c3,c4,c5,c6,c7,c8,c9]) 1) w=.ok c9 w:=by kernel_rfl
set_option maxRecDepth 100000 in
theorem zM2(n:Nat)(w:World)(h:n<2^64) :
   Calls Pz 216 #[.int .u64 n] w fun e w'=>e=.returned (.int .i64 (Vy.size n))/\Below w.heap.size w w':=by
 go_enter Tryz.func216,Tryz.ntmps216
 go_wp2_with fail
 refine (zUb _ _ h).mono ?_;rintro e w' ⟨rfl,hb⟩
 unfold zUU;have hf:=zLP
 go_wp2_with fail
 go_ret
 exact⟨rfl,hb⟩
set_option maxRecDepth 100000 in
theorem zVT(s:ByteArray)(at_:Int)(w:World)(h:at_<0) :
   Calls Pz 146 #[.string s,.int .i64 at_] w fun e w'=>e=.returned (.tuple #[.int .u64 0,.int .i64 at_,.int .i64 3])/\w=w':=by
 go_enter Tryz.func146,Tryz.ntmps146
 go_wp2_with fail
 go_ret3
 exact⟨rfl,rfl⟩
set_option maxRecDepth 100000 in
theorem zVK(s:ByteArray)(at_:Int)(w:World)(h:(s.size:Int)<=at_) :
   Calls Pz 146 #[.string s,.int .i64 at_] w fun e w'=>e=.returned (.tuple #[.int .u64 0,.int .i64 at_,.int .i64 3])/\w=w':=by
 have h0:¬at_<0:=by omega
 go_enter Tryz.func146,Tryz.ntmps146
 go_wp2_with fail
 go_ret3
 exact⟨rfl,rfl⟩
set_option maxRecDepth 100000 in
theorem zQ6(s:ByteArray)(k:Nat)(w:World)(h:k<s.size)(hm:s.size<=140737488351232)(hb:s[k].toNat<248) :
   Calls Pz 146 #[.string s,.int .i64 k] w fun e w'=>e=.returned (.tuple #[.int .u64 s[k].toNat,.int .i64 (k+1),.int .i64 0])/\w=w':=by
 go_enter Tryz.func146,Tryz.ntmps146
 go_wp2_with fail
 go_ret3
 exact⟨rfl,rfl⟩
set_option maxRecDepth 100000 in
theorem zQy(s:ByteArray)(k:Nat)(w:World)(h:k<s.size)(hm:s.size<=140737488351232)(hb:248<=s[k].toNat)(hs:s.size-k<=s[k].toNat-247) :
   Calls Pz 146 #[.string s,.int .i64 k] w fun e w'=>e=.returned (.tuple #[.int .u64 0,.int .i64 k,.int .i64 3])/\w=w':=by
 have hlt:=UInt8.toNat_lt s[k]
 go_enter Tryz.func146,Tryz.ntmps146
 go_wp2_with fail
 go_ret3
 exact⟨rfl,rfl⟩
def zW1(r:Nat×Int×Int):Value:=.tuple #[.int .u64 r.1,.int .i64 r.2.1,.int .i64 r.2.2]
theorem zOS(s:ByteArray)(k m:Nat)(h:k<s.size)(hb:1<=m)(hm:s[k].toNat=m+247)(hs:m<s.size-k) :
   Vy.get s.data.toList k=if Vy.size (Vy.val ((s.data.toList.drop (k+1)).take m))=1+m then (Vy.val ((s.data.toList.drop (k+1)).take m),(k:Int)+1+m,0) else (0,(k:Int),5):=by
 unfold Vy.get
 have hl:s.data.toList.length=s.size:=by simp
 have hg:(s.data.toList.getD k 0).toNat=m+247:=by
   rw[q2Z,q3Z (by omega)]
   exact hm
 rw[if_neg (by omega)]
 simp only[Int.toNat_natCast,hg,hl]
 rw[if_neg (by omega),if_neg (by omega)]
 simp only[Nat.add_sub_cancel]
set_option maxRecDepth 100000 in
theorem zVd(s:ByteArray)(k:Nat)(w:World)(h:k<s.size)(hm:s.size<=140737488351232)(hb:248<=s[k].toNat)(hs:s[k].toNat-247<s.size-k) :
   Calls Pz 146 #[.string s,.int .i64 k] w fun e w'=>e=.returned (zW1 (Vy.get s.data.toList k))/\Below w.heap.size w w':=by
 have hlt:=UInt8.toNat_lt s[k]
 obtain⟨m,hm⟩:∃m:Nat,s[k].toNat=m+247:=⟨s[k].toNat-247,by omega⟩
 rw[hm]at hb hs hlt
 have hn1:¬s.size<=k:=by omega
 have hn2:¬((m:Int)+247<248):=by omega
 have hget:=Lib.hid (zOS s k m h (by omega) hm (by omega))
 go_enter Tryz.func146,Tryz.ntmps146
 go_wp2_with fail
 rw[show ((m:Int)+247-248+1)=(m:Int) from by omega]
 go_loop [4,40] (fun n i=>∃j:Nat,j<=m/\i=.int .i64 j/\n=.int .u64 (Vy.val ((s.data.toList.drop (k+1)).take j))) (fun _ i=>m-(intOf i).toNat)
 case atStart=>exact⟨0,by omega,rfl,rfl⟩
 case round =>
   obtain⟨j,hj,rfl,rfl⟩:=hrel;obtain⟨v,hv⟩:∃v:Nat,Vy.val ((s.data.toList.drop (k+1)).take j)=v:=⟨_,rfl⟩
   have hvl:v<256 ^ j:=by
     have:=Vy.val_lt ((s.data.toList.drop (k+1)).take j);rw[hv]at this
     exact rlZ this (Nat.pow_le_pow_right (by omega) (List.length_take_le _ _))
   rw[hv];by_cases hlt:j<m
   · have hkj:k+1+j<s.size:=by omega
     have Hv:=Lib.hid hv;clear hv
     go_wp2_with fail
     go_round
     case rel =>
       refine ⟨j+1,by omega,by go_num,?_⟩
       rw[zXQ v _ j hvl (UInt8.toNat_lt _) (by omega)]
       have hd:j<(s.data.toList.drop (k+1)).length:=by rw[qkZ];simp;omega
       rw[Vy.val_take_succ _ _ hd,Hv.out]
       congr 5
       simp;rfl
     case measure=>simp[intOf];omega
   · have hjm:j=m:=by omega
     subst hjm
     have hv64:v<2 ^ 64:=by
       have:(256:Nat) ^ j<=256 ^ 8:=Nat.pow_le_pow_right (by omega) (by omega)
       have e:(256:Nat) ^ 8=2 ^ 64:=rfl;omega
     have hg:=hget.out;rw[hv]at hg;clear hget;by_cases hz:Vy.size v=1+j
     · rw[if_pos hz]at hg
       have Hg:=Lib.hid hg;clear hg
       have hz':((Vy.size v:Int) != 1+(j:Int))=false:=by rw[hz];simp
       have Hz:=Lib.hid hz;clear hz hv
       go_wp2_with fail
       refine (zM2 _ _ hv64).mono ?_;rintro e w' ⟨rfl,hb⟩
       go_wp2_with fail
       go_ret3
       exact⟨by rw[Hg.out];rfl,hb⟩
     · rw[if_neg hz]at hg
       have Hg:=Lib.hid hg;clear hg
       have hz':((Vy.size v:Int) != 1+(j:Int))=true:=by simp;omega
       have Hz:=Lib.hid hz;clear hz hv
       go_wp2_with fail
       refine (zM2 _ _ hv64).mono ?_;rintro e w' ⟨rfl,hb⟩
       go_wp2_with fail
       go_ret3
       exact⟨by rw[Hg.out];rfl,hb⟩
theorem zVk(s:ByteArray)(at_:Int)(w:World)(hm:s.size<=140737488351232) :
   Calls Pz 146 #[.string s,.int .i64 at_] w fun e w'=>e=.returned (zW1 (Vy.get s.data.toList at_))/\Below w.heap.size w w':=by
 have hl:s.data.toList.length=s.size:=by simp
 by_cases h1:at_<0
 · refine (zVT s at_ w h1).mono ?_
   rintro e w' ⟨rfl,rfl⟩;refine ⟨?_,Below.refl _ _⟩;unfold Vy.get
   rw[if_pos (by omega)]
   rfl
 by_cases h2:(s.size:Int)<=at_
 · refine (zVK s at_ w h2).mono ?_
   rintro e w' ⟨rfl,rfl⟩;refine ⟨?_,Below.refl _ _⟩;unfold Vy.get
   rw[if_pos (by omega)]
   rfl
 obtain⟨k,rfl⟩:=Int.eq_ofNat_of_zero_le (show 0<=at_ by omega)
 have hk:k<s.size:=by omega
 have hg:(s.data.toList.getD k 0).toNat=s[k].toNat:=by
   rw[q2Z,q3Z (by omega)]
   rfl
 by_cases h3:s[k].toNat<248
 · refine (zQ6 s k w hk hm h3).mono ?_
   rintro e w' ⟨rfl,rfl⟩;refine ⟨?_,Below.refl _ _⟩;unfold Vy.get
   rw[if_neg (by omega)]
   simp only[Int.toNat_natCast,hg,if_pos h3];rfl
 by_cases h4:s.size-k<=s[k].toNat-247
 · refine (zQy s k w hk hm (by omega) h4).mono ?_
   rintro e w' ⟨rfl,rfl⟩;refine ⟨?_,Below.refl _ _⟩;unfold Vy.get
   rw[if_neg (by omega)]
   simp only[Int.toNat_natCast,hg,hl,if_neg h3,if_pos h4];rfl
 · exact zVd s k w hk hm (by omega) (by omega)
theorem Tryz.infoU8r:(Tryz.prog.info? 5).map (fun i=>(i.zero,i.size,i.bytes))=some (some (.int .u8 0),1,1):=by kernel_rfl
set_option maxRecDepth 100000 in
theorem zPm(n:Nat)(w:World)(h0:1<=n)(h:n<2^64) :
   Calls Pz 267 #[.int .u64 n] w fun e w'=>e=.returned (.int .i64 (Vy.blen n))/\w=w':=by
 go_enter Tryz.func267,Tryz.ntmps267
 go_wp2_with fail
 go_loop [0,3] (fun v m=>∃k:Nat,256 ^ k<=n/\k<8/\v=.int .u64 ((n / 256 ^ k:Nat):Int)/\m=.int .i64 (k+1)) (fun v _=>(intOf v).toNat)
 case atStart=>exact⟨0,by omega,by omega,by simp,rfl⟩
 case round =>
   obtain⟨k,hk,hk8,rfl,rfl⟩:=hrel;obtain⟨d,hd⟩:∃d:Nat,n / 256 ^ k=d:=⟨_,rfl⟩
   have hd1:1<=d:=by rw[<-hd];exact Nat.div_pos hk (Nat.pow_pos (by omega))
   have hdn:d<=n:=by rw[<-hd];exact Nat.div_le_self _ _
   rw[hd];by_cases hlt:d<256
   · have hb:=Lib.hid (Vy.blen_of_div n k (by omega) h hk (by rw[hd];exact hlt))
     have Hd:=Lib.hid hd;clear hd
     go_wp2_with fail
     go_ret
     exact⟨by rw[hb.out];push_cast;rfl,rfl⟩
   · have hk1:256 ^ (k+1)<=n:=by
       rw[Nat.pow_succ]
       have:256<=n / 256 ^ k:=by omega
       have:=(Nat.le_div_iff_mul_le (Nat.pow_pos (by omega))).1 this
       rw[Nat.mul_comm];exact this
     have hk9:k+1<8:=by
       have:=Nat.lt_of_le_of_lt hk1 h
       rw[show (2:Nat) ^ 64=256 ^ 8 from rfl]at this
       exact Vy.pow_lt_of this
     have hds:=Lib.hid (Vy.div_pow_succ n k)
     have Hd:=Lib.hid hd;clear hd
     go_wp2_with fail
     go_round
     case rel=>exact⟨k+1,hk1,hk9,by rw[<-hds.out,Hd.out];go_num,by go_num⟩
     case measure=>simp[intOf];omega
set_option maxRecDepth 100000 in
theorem zOp(n:Nat)(w:World)(h:n<248) :
   Calls Pz 229 #[.int .u64 n] w fun e w'=>e=.returned (.string ⟨(Vy.enc n).toArray⟩)/\Below w.heap.size w w':=by
 have he:Vy.enc n=[UInt8.ofNat n]:=by simp[Vy.enc,h]
 rw[he];clear he
 have hs:=zEq (P:=Pz) (n:=1) (cap:=1) [UInt8.ofNat n] (by
   have:=zXI w [.int .u8 n] 5
   have e:vB (UInt8.ofNat n)=.int .u8 n:=by simp[vB];omega
   simpa[e] using this) 22 5 9 Tryz.underlying22 Tryz.underlying5 Tryz.underlying9
 go_enter Tryz.func229,Tryz.ntmps229
 go_wp2_with fail
 go_ret
 exact⟨rfl,zD8 (Below.refl _ _) _⟩
set_option maxRecDepth 100000 in
theorem zTQ(n:Nat)(w:World)(h:248<=n)(h':n<2^64) :
   Calls Pz 229 #[.int .u64 n] w fun e w'=>e=.returned (.string ⟨(Vy.enc n).toArray⟩)/\Below w.heap.size w w':=by
 have he:=Lib.hid (show Vy.enc n=UInt8.ofNat (247+Vy.blen n)::Vy.le (Vy.blen n) n by simp[Vy.enc];omega)
 have hbl:=Vy.blen_le n h h';obtain⟨m,hm⟩:∃m:Nat,Vy.blen n=m:=⟨_,rfl⟩;rw[hm]at he hbl;obtain⟨hm1,hm2⟩:=hbl
 have Hm:=Lib.hid hm;clear hm
 obtain⟨i0,hi,hz0,hz1,hz2⟩:=info_parts Tryz.infoU8r
 go_enter Tryz.func229,Tryz.ntmps229
 go_wp2_with fail
 refine (zPm n _ (by omega) h').mono ?_;rintro e w1 ⟨rfl,rfl⟩
 rw[Hm.out]
 go_wp2_with fail
 go_loopw [0,4,5] (fun v o i wr=>∃k:Nat,k<=m/\i=.int .i64 k/\v=.int .u64 ((n / 256 ^ k:Nat):Int)/\wr.ownsRow w.heap.size 5 1 o (k+1) ((UInt8.ofNat (247+m)::Vy.le k n).map vB)/\Below w.heap.size w wr) (fun _ _ i _=>m-(intOf i).toNat)
 case atStart =>
   refine ⟨0,by omega,rfl,by simp,?_,zD8 (Below.refl _ _) _⟩
   have:=World.ownsRow_lit (base:=w.heap.size) (e:=5) (size:=1) w #[.int .u8 (247+m)] 1 (qnZ _) (by unfold maxLen;omega) (by simp)
   have e:vB (UInt8.ofNat (247+m))=.int .u8 (247+m):=by rw[zT6 _ (by omega)];push_cast;rfl
   simp only[Vy.le,s1Z,List.map_nil,e];simpa using this
 case round =>
   obtain⟨k,hk,rfl,rfl,hown,hb⟩:=hrel;by_cases hlt:k<m
   · obtain⟨d,hd⟩:∃d:Nat,n / 256 ^ k=d:=⟨_,rfl⟩
     rw[hd];have hds:=Lib.hid (Vy.div_pow_succ n k);have hls:=Lib.hid (Vy.le_snoc k n)
     have hdl:d<=n:=by rw[<-hd];exact Nat.div_le_self _ _
     have Hd:=Lib.hid hd;clear hd
     go_wp2_with (at_builtin;refine wpList_append_own _ rfl _ _ 22 rfl w.heap.size 5 i0 (.int .u8 0) 1 1 Tryz.underlying22 hi hz0 hz1 hz2 rfl (by decide) _ _ _ rfl (hown.alloc _) ⟨wr.heap.size,0,none⟩ 1 1 [.int .u8 ((d:Int) % 256)] rfl rfl ?c1 ?c2 ?c3 ?c4 ?c5 ?_)
     case c1=>exact zTc (Blk.new _ #[.int .u8 ((d:Int) % 256)] _) _ (by simp)
     case c2=>intro u hu;simp at hu;subst hu;rfl
     case c3=>unfold maxLen;omega
     case c4=>omega
     case c5=>have:=hb.size;simp;omega
     intro v' w2 hown2 hg2 _
     go_wp2_with fail
     go_roundw
     case rel =>
       refine ⟨k+1,by omega,by go_num,by rw[<-hds.out,Hd.out];go_num,?_,zLe (zD8 hb _) (hown.alloc _) (by have:=hb.size;simp;omega) hg2⟩
       rw[hls.out,Hd.out]
       have e:vB (UInt8.ofNat (d % 256))=.int .u8 ((d:Int) % 256):=by simp[vB]
       simpa[e] using hown2
     case measure=>simp[intOf];omega
   · have hkm:k=m:=by omega
     subst hkm;rw[<-he.out]at hown;have hs:=zHi (P:=Pz) _ hown 22 9 Tryz.underlying22 Tryz.underlying5 Tryz.underlying9
     go_wp2_with fail
     go_ret
     exact⟨rfl,hb⟩
theorem zSU(n:Nat)(w:World)(h:n<2^64) :
   Calls Pz 229 #[.int .u64 n] w fun e w'=>e=.returned (.string ⟨(Vy.enc n).toArray⟩)/\Below w.heap.size w w':=by
 by_cases hs:n<248
 · exact zOp n w hs
 · exact zTQ n w (by omega) h
end Go.Proofs.YtpmfecnajoojeaaGreatDoor
namespace Go.Proofs.YtpmfecnajoojeaaGreatDoor
open _root_.Go.Proofs.Tryz renaming prog → Pz
open Go
theorem zGx{P:Program}{f:FuncId}{args:List AV}{v:AV}{cargs:Array Value}{cv:Value}(hargs:∀j vs,VRs j args vs->vs=cargs.toList)(hv:∀j,VR j v cv)(h:∀w,Calls P f cargs w fun e w'=>e=.returned cv/\RowKit.Below w.heap.size w w'):Ct P f args [] v []:=by
 intro j w cs hR hcs
 have e:cs=cargs:=by apply Array.ext';exact hargs j _ hcs
 subst e;refine (h w).mono ?_;rintro e w' ⟨rfl,hb⟩;exact⟨cv,j,rfl,hv j,Step.below hR hb (qnZ _)⟩
theorem zXP(s:List UInt8)(a:Int)(hs:s.length<=140737488351232):Ct Pz 146 [.str s,.int .i64 a] [] (.tuple [.int .u64 (Vy.get s a).1,.int .i64 (Vy.get s a).2.1,.int .i64 (Vy.get s a).2.2]) []:=by
 refine zGx (cargs:=#[.string ⟨s.toArray⟩,.int .i64 a]) (cv:=zW1 (Vy.get s a)) (fun j vs h=>?_) (fun j=>?_) fun w=>?_
 · simp only[VRs,VR]at h
   obtain⟨_,_,rfl,rfl,_,_,rfl,rfl,rfl⟩:=h;rfl
 · exact⟨_,rfl,_,_,rfl,rfl,_,_,rfl,rfl,_,_,rfl,rfl,rfl⟩
 · have:=zVk ⟨s.toArray⟩ a w (by simpa[ByteArray.size] using hs)
   rw[show (ByteArray.mk s.toArray).data.toList=s by simp]at this
   exact this
theorem zUr(n:Nat)(hn:n<2 ^ 64):Ct Pz 229 [.int .u64 n] [] (.str (Vy.enc n)) []:=by
 refine zGx (cargs:=#[.int .u64 n]) (cv:=.string ⟨(Vy.enc n).toArray⟩) (fun j vs h=>?_) (fun j=>?_) fun w=>?_
 · simp only[VRs,VR]at h
   obtain⟨_,_,rfl,rfl,rfl⟩:=h;rfl
 · rfl
 · exact zSU n w hn
def zGB:zc:=ZP fun | [.str s,.int .i64 a]=>if s.length<=140737488351232 then some (.tuple [.int .u64 (Vy.get s a).1,.int .i64 (Vy.get s a).2.1,.int .i64 (Vy.get s a).2.2]) else none | _=>none
theorem zKC:Sound Pz 146 zGB:=by
 refine zP (zH Tryz.func146 rfl (by decide)) fun args v h=>?_
 split at h <;> try cases h
 rename_i s a
 split at h <;> cases h
 exact⟨zXP s a ‹_›,by simp,by simp⟩
def zQG:zc:=ZP fun | [.int .u64 n]=>if 0<=n/\n.toNat<18446744073709551616 then some (.str (Vy.enc n.toNat)) else none | _=>none
theorem zHm:Sound Pz 229 zQG:=by
 refine zP (zH Tryz.func229 rfl (by decide)) fun args v h=>?_
 split at h <;> try cases h
 rename_i n
 split at h <;> cases h
 rename_i hc
 have h0:=zUr n.toNat (by omega)
 rw[show ((n.toNat:Nat):Int)=n by omega]at h0
 exact⟨h0,by simp,by simp⟩
end Go.Proofs.YtpmfecnajoojeaaGreatDoor
namespace Go.Proofs.YtpmfecnajoojeaaGreatDoor
open _root_.Go.Proofs.Tryz renaming prog → Pz
open Go
set_option maxRecDepth 100000
attribute [-simp] zJ zY zn zL zl
def okW(w:List UInt8):Bool:=decide (1<=w.length/\w.length<=255)
def cdW(w:List UInt8):Int:=if okW w then 0 else 7
def zNz:List FuncId:=[218,217]
theorem zV1:GOk Pz (zAL Pz (zv []) 4 zNz 2):=zq hmix zD 4 zNz 2
theorem zRq(w:List UInt8):Ct Pz 147 [.slice 0 0 1 1 false] [.cells false [.str w]] (.int .i64 (cdW w)) [.cells false [.str w]]:=by
 refine zB8 hmix zV1 (n:=0) Tryz.func147 ?_;unfold Tryz.f147 cdW okW;by_cases h0:w=[]
 · subst h0
   exact⟨_,_,(by simp[zNz,Tryz.f218,Tryz.f217];exact⟨rfl,rfl⟩),Weak.mk' [0] (by decide) rfl (by simp) (by simp)⟩
 · have h1:1<=w.length:=by cases w with | nil=>exact absurd rfl h0 | cons=>simp
   have hE:w.isEmpty=false:=by cases w with | nil=>exact absurd rfl h0 | cons=>rfl
   by_cases h2:w.length<=255
   · have h3:(w.length:Int)<=255:=by omega
     exact⟨_,_,(by simp[zNz,Tryz.f218,Tryz.f217,h0,hE,h2,h3];exact⟨rfl,rfl⟩),Weak.mk' [0] (by decide) rfl (by simp[h1,h2]) (by simp)⟩
   · have h3:¬(w.length:Int)<=255:=by omega
     exact⟨_,_,(by simp[zNz,Tryz.f218,Tryz.f217,h0,hE,h2,h3];exact⟨rfl,rfl⟩),Weak.mk' [0] (by decide) rfl (by simp[h1,h2]) (by simp)⟩
def zB1:zc:=zAZ fun args H=>match args with
 | [.slice b off 1 1 _]=>match H[b]? with
   | some (.cells _ l)=>match (l.drop off).take 1 with
     | [.str w]=>if off+1<=l.length then some (.int .i64 (cdW w)) else none
     | _=>none
   | _=>none
 | _=>none
theorem zLM:Sound Pz 147 zB1:=by
 refine Zx (zH Tryz.func147 rfl (by decide)) fun args H v h=>?_
 split at h <;> try cases h
 rename_i b off c
 split at h <;> try cases h
 rename_i o l hb
 split at h <;> try cases h
 rename_i w hw
 split at h <;> cases h
 rename_i hle;refine zE1 (zRq w) rfl [(b,off)] ⟨?_,trivial⟩ ⟨?_,rfl,trivial⟩
 · simp[zBo]
 · rw[hb]
   exact⟨hle,hw.symm⟩
theorem zXO(w:List UInt8):Ct Pz 266 [.str w] [] (.bool (okW w)) []:=by
 unfold okW
 refine zm hmix zD (n:=0) Tryz.func266 ?_ (by simp)
 unfold Tryz.f266;by_cases h1:1<=w.length
 · by_cases h2:w.length<=255
   · have h3:(w.length:Int)<=255:=by omega
     have h4:(1:Int)<=w.length:=by omega
     simp[h1,h2,h3,h4]
   · have h3:¬(w.length:Int)<=255:=by omega
     have h4:(1:Int)<=w.length:=by omega
     simp[h1,h2,h3,h4]
 · have h4:¬(1:Int)<=w.length:=by omega
   simp[h1,h4]
def zXJ:zc:=ZP fun | [.str w]=>some (.bool (okW w)) | _=>none
theorem zQ5:Sound Pz 266 zXJ:=by
 refine zP (zH Tryz.func266 rfl (by decide)) fun args v h=>?_
 split at h <;> cases h
 exact⟨zXO _,rfl,rfl⟩
theorem zQ0(w:List UInt8):Ct Pz 228 [.str w] [] (.int .i64 (cdW w)) []:=by
 have hΓ:GOk Pz (zv [(266,zXJ)]):=zC zQ5 zD;unfold cdW
 refine zm hmix hΓ (n:=0) Tryz.func228 ?_ (by simp)
 unfold Tryz.f228
 cases h:okW w <;> simp[zXJ,h]
def zF1:zc:=ZP fun | [.str w]=>some (.int .i64 (cdW w)) | _=>none
theorem zKp:Sound Pz 228 zF1:=by
 refine zP (zH Tryz.func228 rfl (by decide)) fun args v h=>?_
 split at h <;> cases h
 exact⟨zQ0 _,rfl,rfl⟩
def zHB(e:En):List UInt8×Int:=if okW e.1 then (if e.2.2 then (2::e.1,0) else (1::(Vy.enc e.2.1.toNat++e.1),0)) else ([],7)
def okN(n:Int):Bool:=decide (0<=n/\n<4294967296)
def zTF:zc:=ZP fun | [.agg [.str w,.int .u32 n,.bool g]]=>if okN n=true then some (.tuple [.str (zHB (w,n,g)).1,.int .i64 (zHB (w,n,g)).2]) else none | _=>none
def zUf:Gam:=zv [(228,zF1),(229,zQG)]
theorem zUj:GOk Pz zUf:=zC zKp (zC zHm zD)
theorem zSd(e:En)(hn:okN e.2.1=true):Ct Pz 167 [.agg (enA e)] [] (.tuple [.str (zHB e).1,.int .i64 (zHB e).2]) []:=by
 obtain⟨w,n,g⟩:=e;simp only[okN,decide_eq_true_eq]at hn;obtain⟨hn0,hn1⟩:=hn
 have c1:IntKind.u64.wrap n=n:=zJE hn0 (by omega)
 have hz:n.toNat<18446744073709551616:=by omega
 have hz2:n<18446744073709551616:=by omega
 unfold zHB
 have hw:okW w=true\/okW w=false:=by cases okW w <;> simp
 have hcd:cdW w=if okW w then 0 else 7:=rfl
 refine zB8 hmix zUj (n:=0) Tryz.func167 ?_;unfold Tryz.f167;rcases hw with h | h
 · have hl:w.length<=255:=by simp only[okW,decide_eq_true_eq]at h;exact h.2
   rw[h,if_pos rfl]at hcd
   have hb1:1+w.length<=9223372036854775807:=by omega
   have hb2:w.length+1<=9223372036854775807:=by omega
   obtain⟨q,hq⟩:∃q,Vy.enc n.toNat=q:=⟨_,rfl⟩
   have hql:q.length<=9:=by
     rw[<-hq,Vy.enc_length]
     have:=(Vy.size_bd n.toNat (by omega)).2
     omega
   have hb3:1+q.length<=9223372036854775807:=by omega
   have hb4:q.length+1<=9223372036854775807:=by omega
   have hb5:q.length+1+w.length<=9223372036854775807:=by omega
   rw[hq]
   cases g with
   | true =>
     exact⟨_,_,(by simp +decide [enA,zUf,zF1,hcd,h,hb1,hb2];exact⟨rfl,rfl⟩),Weak.mk' [] (by decide) rfl (by simp[h]) (by simp)⟩
   | false =>
     exact⟨_,_,(by simp +decide [enA,zUf,zF1,zQG,hcd,h,c1,hz,hz2,hn0,hq,hb1,hb2,hb3,hb4,hb5];exact⟨rfl,rfl⟩),Weak.mk' [] (by decide) rfl (by simp[h]) (by simp)⟩
 · rw[h]at hcd
   exact⟨_,_,(by simp[enA,zUf,zF1,hcd,h];exact⟨rfl,rfl⟩),Weak.mk' [] (by decide) rfl (by simp[h]) (by simp)⟩
theorem zOE:Sound Pz 167 zTF:=by
 refine zP (zH Tryz.func167 rfl (by decide)) fun args v h=>?_
 split at h <;> try cases h
 rename_i w n g
 split at h <;> cases h
 rename_i hn;exact⟨zSd (w,n,g) hn,rfl,rfl⟩
def noE:En:=([],0,false)
def zDd(s:List UInt8):En×Int:=match s with
 | []=>(noE,3)
 | b::r =>
   if b.toNat=2 then (if okW r then ((r,0,true),0) else (noE,7))
   else if b.toNat=1 then
     (if (Vy.get s 1).2.2=0 then (if 4294967295<(Vy.get s 1).1 then (noE,17) else if okW (s.drop (Vy.get s 1).2.1.toNat) then ((s.drop (Vy.get s 1).2.1.toNat,((Vy.get s 1).1:Int),false),0) else (noE,7))
      else (noE,(Vy.get s 1).2.2))
   else (noE,6)
def zMm:Gam:=zv [(147,zB1),(146,zGB)]
theorem zUl:GOk Pz zMm:=zC zLM (zC zKC zD)
theorem zLo(w:List UInt8):cdW w=if okW w then 0 else 7:=rfl
theorem zUv(s:List UInt8)(hs:s.length<=1000000):Ct Pz 78 [.str s] [] (.tuple [.agg (enA (zDd s).1),.int .i64 (zDd s).2]) []:=by
 refine zB8 hmix zUl (n:=0) Tryz.func78 ?_;unfold Tryz.f78
 cases s with
 | nil=>exact⟨_,_,(by simp[zDd,enA,noE];exact⟨rfl,rfl⟩),Weak.mk' [] (by decide) rfl (by simp[zDd,enA,noE]) (by simp)⟩
 | cons b r =>
   have hbl:=b.toNat_lt
   have hr:r.length+1<=1000000:=by simpa using hs
   have hr2:r.length+1<=140737488351232:=by omega
   have e1:(1:Int)<=(r.length:Int)+1:=by omega
   by_cases h2:b.toNat=2
   · have h2i:((b.toNat:Nat):Int)=2:=by omega
     cases hk:okW r with
     | true=>exact⟨_,_,(by simp +decide [zMm,zB1,zAZ,h2i,e1,zLo,hk];exact⟨rfl,rfl⟩),Weak.mk' [] (by decide) rfl (by simp[zDd,enA,h2,hk]) (by simp)⟩
     | false=>exact⟨_,_,(by simp +decide [zMm,zB1,zAZ,h2i,e1,zLo,hk];exact⟨rfl,rfl⟩),Weak.mk' [] (by decide) rfl (by simp[zDd,enA,noE,h2,hk]) (by simp)⟩
   · have h2i:¬((b.toNat:Nat):Int)=2:=by omega
     by_cases h1:b.toNat=1
     · have h1i:((b.toNat:Nat):Int)=1:=by omega
       obtain⟨m,x,c,hg⟩:∃m x c,Vy.get (b::r) 1=(m,x,c):=⟨_,_,_,rfl⟩;by_cases hc:c=0
       · subst hc
         obtain⟨g0,g1,g2⟩:=Vy.get_ok _ _ _ _ hg;have gv:=(Vy.get_put _ 1 m x hg).2
         have x0:(0:Int)<=x:=by omega
         have x1:x<=(r.length:Int)+1:=by simpa using g2
         by_cases hm:4294967295<m
         · have hmi:(4294967295:Int)<m:=by omega
           exact⟨_,_,(by simp +decide [zMm,zB1,zGB,zAZ,h2i,h1i,e1,hg,hr2,hmi,x0,x1];exact⟨rfl,rfl⟩),Weak.mk' [] (by decide) rfl (by simp[zDd,enA,noE,h1,hg,hm]) (by simp)⟩
         · have hmi:¬(4294967295:Int)<m:=by omega
           have c2:IntKind.u32.wrap (m:Int)=m:=zDQ (by omega) (by omega)
           obtain⟨w,hw⟩:∃w,(b::r).drop x.toNat=w:=⟨_,rfl⟩
           have ht:w.take (r.length+1-x.toNat)=w:=by
             apply q6Z;rw[<-hw,qkZ,q7Z];omega
           cases hk:okW w with
           | true=>exact⟨_,_,(by simp +decide [zMm,zB1,zGB,zAZ,h2i,h1i,e1,hg,hr2,hmi,x0,x1,hw,ht,zLo,hk,c2];exact⟨rfl,rfl⟩),Weak.mk' [] (by decide) rfl (by simp[zDd,enA,noE,h1,hg,hm,hw,hk]) (by simp)⟩
           | false=>exact⟨_,_,(by simp +decide [zMm,zB1,zGB,zAZ,h2i,h1i,e1,hg,hr2,hmi,x0,x1,hw,ht,zLo,hk,c2];exact⟨rfl,rfl⟩),Weak.mk' [] (by decide) rfl (by simp[zDd,enA,noE,h1,hg,hm,hw,hk]) (by simp)⟩
       · exact⟨_,_,(by simp +decide [zMm,zB1,zGB,zAZ,h2i,h1i,e1,hg,hr2,hc];exact⟨rfl,rfl⟩),Weak.mk' [] (by decide) rfl (by simp[zDd,enA,noE,h1,hg,hc]) (by simp)⟩
     · have h1i:¬((b.toNat:Nat):Int)=1:=by omega
       exact⟨_,_,(by simp +decide [zMm,h2i,h1i,e1];exact⟨rfl,rfl⟩),Weak.mk' [] (by decide) rfl (by simp[zDd,enA,noE,h1,h2]) (by simp)⟩
def zMy:zc:=ZP fun | [.str s]=>if s.length<=1000000 then some (.tuple [.agg (enA (zDd s).1),.int .i64 (zDd s).2]) else none | _=>none
theorem zOY:Sound Pz 78 zMy:=by
 refine zP (zH Tryz.func78 rfl (by decide)) fun args v h=>?_
 split at h <;> try cases h
 rename_i s
 split at h <;> cases h
 rename_i hn;exact⟨zUv s hn,rfl,rfl⟩
end Go.Proofs.YtpmfecnajoojeaaGreatDoor
