/- Parts of the proof of WalTells: lemmas, each with its own conditions. -/
import Derived.Lib.BitFns
import Derived.RegionTactic
import Derived.BigQuiet
import Derived.Deep.QuietTactic
import Derived.Deep.RegionWith
import Derived.Test.YtfhidaoiofeooaaGreatDoorShelf
import Derived.Test.YtfhidaoiofeooaaGreatDoorTypes
set_option maxHeartbeats 64000000
open List renaming getD_eq_getElem?_getD → q2Z, getElem?_eq_getElem → q3Z, take_of_length_le → q6Z, length_cons → q7Z, length_nil → q8Z, cons_append → q9Z, nil_append → qaZ, replicate → qbZ, mem_of_getElem? → qcZ, length_append → qdZ, length_take → qjZ, length_drop → qkZ, getElem?_map → qzZ, getElem_mem → r3Z, length_map → r7Z, getElem?_cons_succ → r9Z, map_append → roZ, map_cons → s1Z, getElem?_eq_none → s4Z
open Option renaming map_eq_some_iff → qlZ
open Nat renaming le_refl → qnZ, lt_of_lt_of_le → rlZ, lt_or_ge → s2Z
open Array renaming getElem?_eq_some_iff → qtZ
namespace Vy
open Go
def blen(n:Nat):Nat:=(Lib.bitLen n+7) / 8
theorem zSu(n:Nat)(h0:n≠0)(h:n<2^64):2 ^ (Lib.bitLen n-1)<=n/\n<2 ^ Lib.bitLen n/\1<=Lib.bitLen n :=
 have:=Lib.bitLenAux_bounds 64 n h h0
 ⟨this.2.1,this.2.2,this.1⟩
theorem zLK(n:Nat)(h0:n≠0)(h:n<2^64):256 ^ (blen n-1)<=n/\n<256 ^ blen n/\1<=blen n/\blen n<=8:=by
 obtain⟨h1,h2,h3⟩:=zSu n h0 h;have h4:=Lib.bitLen_le n 64 (by omega) h;unfold blen;have e:∀k,(256:Nat) ^ k=2 ^ (8*k):=fun k=>by rw[Nat.pow_mul]
 refine ⟨?_,?_,by omega,by omega⟩
 · rw[e]
   exact Nat.le_trans (Nat.pow_le_pow_right (by omega) (by omega)) h1
 · rw[e]
   exact rlZ h2 (Nat.pow_le_pow_right (by omega) (by omega))
theorem blen_le(n:Nat)(h0:248<=n)(h:n<2^64):1<=blen n/\blen n<=8:=(zLK n (by omega) h).2.2
theorem pow_lt_of{a b:Nat}(h:256 ^ a<256 ^ b):a<b:=(Nat.pow_lt_pow_iff_right (by omega)).1 h
theorem zOC(n m:Nat)(h0:n≠0)(h:n<2^64)(h1:256 ^ (m-1)<=n)(h2:n<256 ^ m)(hm:1<=m):blen n=m:=by
 obtain⟨a,b,c,_⟩:=zLK n h0 h;have e1:blen n-1<m:=pow_lt_of (Nat.lt_of_le_of_lt a h2);have e2:m-1<blen n:=pow_lt_of (Nat.lt_of_le_of_lt h1 b);omega
def le:Nat->Nat->List UInt8
 | 0,_=>[]
 | m+1,n=>UInt8.ofNat (n % 256)::le m (n / 256)
theorem le_length(m n:Nat):(le m n).length=m:=by
 induction m generalizing n with
 | zero=>rfl
 | succ m ih=>simp[le,ih]
theorem le_get(m n j:Nat)(h:j<m):(le m n)[j]? = some (UInt8.ofNat (n / 256 ^ j % 256)):=by
 induction m generalizing n j with
 | zero=>omega
 | succ m ih =>
   cases j with
   | zero=>simp[le]
   | succ j =>
     simp only[le,r9Z];rw[ih _ _ (by omega),Nat.div_div_eq_div_mul,Nat.pow_succ,Nat.mul_comm]
def val:List UInt8->Nat
 | []=>0
 | b::r=>b.toNat+256*val r
theorem zYp(l:List UInt8):val l<256 ^ l.length:=by
 induction l with
 | nil=>simp[val]
 | cons b r ih =>
   have:=UInt8.toNat_lt b;simp only[val,q7Z,Nat.pow_succ];omega
theorem zZX(l:List UInt8):le l.length (val l)=l:=by
 induction l with
 | nil=>rfl
 | cons b r ih =>
   have hb:=UInt8.toNat_lt b;simp only[q7Z,le,val];have h1:(b.toNat+256*val r) % 256=b.toNat:=by omega
   have h2:(b.toNat+256*val r) / 256=val r:=by omega
   rw[h1,h2,ih];simp
def enc(n:Nat):List UInt8:=if n<248 then [UInt8.ofNat n] else UInt8.ofNat (247+blen n)::le (blen n) n
def size(n:Nat):Nat:=if n<248 then 1 else 1+blen n
theorem enc_length(n:Nat):(enc n).length=size n:=by
 unfold enc size;split <;> simp[le_length,Nat.add_comm]
theorem size_bd(n:Nat)(h:n<2^64):1<=size n/\size n<=9:=by
 unfold size;split
 · omega
 · have:=blen_le n (by omega) h
   omega
def put(l:List Nat):List UInt8:=l.flatMap enc
theorem put_snoc(l:List Nat)(n:Nat):put (l++[n])=put l++enc n:=by simp[put]
theorem put_length_le(l:List Nat)(h:∀n∈l,n<2^64):(put l).length<=9*l.length:=by
 induction l with
 | nil=>simp[put]
 | cons a r ih =>
   have h1:=(size_bd a (h a (by simp))).2;have h2:=ih (fun n hn=>h n (by simp[hn]));simp only[put,List.flatMap_cons,qdZ,q7Z,enc_length]at *;omega
def lb(n j:Nat):Nat:=((enc n).getD j 0).toNat
def get(s:List UInt8)(at_:Int):Nat×Int×Int :=
 if at_<0\/(s.length:Int)<=at_ then (0,at_,3) else
 let k:=at_.toNat
 let b:=(s.getD k 0).toNat
 if b<248 then (b,at_+1,0) else
 if s.length-k<=b-247 then (0,at_,3) else
 let n:=val ((s.drop (k+1)).take (b-247))
 if size n=1+(b-247) then (n,at_+1+(b-247:Nat),0) else (0,at_,5)
def row(s:List UInt8)(a:Int):Nat->List Nat×Int×Int
 | 0=>([],a,0)
 | m+1=>if (get s a).2.2=0 then
     (if (row s (get s a).2.1 m).2.2=0 then ((get s a).1::(row s (get s a).2.1 m).1,(row s (get s a).2.1 m).2) else ([],(row s (get s a).2.1 m).2))
   else ([],(get s a).2)
theorem div_pow_succ(n k:Nat):n / 256 ^ k / 256=n / 256 ^ (k+1):=by
 rw[Nat.div_div_eq_div_mul,Nat.pow_succ]
theorem blen_of_div(n k:Nat)(h0:n≠0)(h:n<2^64)(h1:256 ^ k<=n)(h2:n / 256 ^ k<256):blen n=k+1:=by
 refine zOC n (k+1) h0 h h1 ?_ (by omega);rw[Nat.pow_succ];exact (Nat.div_lt_iff_lt_mul (Nat.pow_pos (by omega))).1 h2 |> fun h=>by rw[Nat.mul_comm];exact h
theorem le_snoc(k n:Nat):le (k+1) n=le k n++[UInt8.ofNat (n / 256 ^ k % 256)]:=by
 induction k generalizing n with
 | zero=>simp[le]
 | succ k ih =>
   rw[le,ih (n / 256),le];simp only[q9Z,Nat.div_div_eq_div_mul,Nat.pow_succ];rw[Nat.mul_comm 256]
theorem zYf(s:List UInt8)(k m:Nat)(h:k<s.length)(hm:(s[k]).toNat=m+247)(h1:1<=m)(hs:m<s.length-k) :
   enc (val ((s.drop (k+1)).take m))=(s.drop k).take (1+m)↔size (val ((s.drop (k+1)).take m))=1+m:=by
 have hl:((s.drop (k+1)).take m).length=m:=by rw[qjZ,qkZ];omega
 have hd:(s.drop k).take (1+m)=s[k]::(s.drop (k+1)).take m:=by
   rw[List.drop_eq_getElem_cons h,Nat.add_comm 1 m,List.take_succ_cons]
 constructor
 · intro e
   have:=congrArg List.length e;rw[enc_length,hd,q7Z,hl]at this;omega
 · intro e
   rw[hd];unfold size at e;split at e
   · omega
   · rename_i hn
     unfold enc;rw[if_neg hn];have hb:blen (val ((s.drop (k+1)).take m))=m:=by omega
     rw[hb];have h3:=zZX ((s.drop (k+1)).take m);rw[hl]at h3;rw[h3]
     congr 1
     have:s[k]=UInt8.ofNat (247+m):=by
       rw[Nat.add_comm,<-hm];simp
     exact this.symm
end Vy
namespace Vy
theorem get_put(s:List UInt8)(p:Nat)(v:Nat)(x:Int)(h:get s p=(v,x,0)):enc v=(s.drop p).take (x.toNat-p)/\v<2 ^ 64:=by
 unfold get at h;split at h
 · simp only[Prod.mk.injEq]at h;omega
 · rename_i h1
   have hp:p<s.length:=by omega
   have hg:s.getD p 0=s[p]:=by rw[q2Z,q3Z hp];rfl
   simp only[Int.toNat_natCast,hg]at h;split at h
   · rename_i h2
     simp only[Prod.mk.injEq]at h;obtain⟨rfl,rfl,_⟩:=h;have e:((p:Int)+1).toNat-p=1:=by
       show (((p+1:Nat):Int)).toNat-p=1;rw[Int.toNat_natCast];omega
     rw[e,List.drop_eq_getElem_cons hp];exact⟨by rw[List.take_succ_cons,List.take_zero];simp[enc,h2],rlZ h2 (by decide)⟩
   · rename_i h2
     split at h
     · simp only[Prod.mk.injEq]at h;omega
     · rename_i h3
       split at h
       · rename_i h4
         have h8:=UInt8.toNat_lt s[p];obtain⟨m,hm⟩:∃m,s[p].toNat=m+247:=⟨s[p].toNat-247,by omega⟩
         rw[hm]at h h3 h4 h8;rw[Nat.add_sub_cancel]at h h3 h4;simp only[Prod.mk.injEq]at h;obtain⟨rfl,rfl,_⟩:=h;have:=(zYf s p m hp hm (by omega) (by omega)).2 h4;have e:((p:Int)+1+(m:Nat)).toNat-p=1+m:=by
           show (((p+1+m:Nat):Int)).toNat-p=1+m;rw[Int.toNat_natCast];omega
         rw[e];refine ⟨this,?_⟩;have hv:=zYp ((s.drop (p+1)).take m);have hq:((s.drop (p+1)).take m).length<=8:=by rw[qjZ];omega
         have h9:(256:Nat) ^ ((s.drop (p+1)).take m).length<=256 ^ 8:=Nat.pow_le_pow_right (by decide) hq;exact rlZ hv h9
       · simp only[Prod.mk.injEq]at h;omega
end Vy
namespace Go.Proofs.YtfhidaoiofeooaaGreatDoor
open _root_.Go.Proofs.Tryz renaming prog → Pz
open Go.RowKit
set_option maxRecDepth 100000 in
theorem zSL(n:Nat)(w:World)(h:n<248) :
   Calls Pz 317 #[.int .u64 n] w fun e w'=>e=.returned (.agg #[.int .u8 n,.int .u8 0,.int .u8 0,.int .u8 0,.int .u8 0,.int .u8 0,.int .u8 0,.int .u8 0,.int .u8 0,.int .i64 1])/\Below w.heap.size w w':=by
 go_enter Tryz.func317,Tryz.ntmps317
 go_wp2
 refine bodyPost_ret (v:=.agg #[.int .u8 n,.int .u8 0,.int .u8 0,.int .u8 0,.int .u8 0,.int .u8 0,.int .u8 0,.int .u8 0,.int .u8 0,.int .i64 1]) (by simp[results,Tryz.results317,go_sem]) rfl ⟨rfl,?_⟩;exact (Below.refl _ _).alloc (qnZ _) _
def bt(n i j:Nat):Int:=if j<i then ((n / 256 ^ j % 256:Nat):Int) else 0
def zKZ(n m i:Nat)(c:Int):Array Value:=#[.int .u8 (247+m),.int .u8 (bt n i 0),.int .u8 (bt n i 1),.int .u8 (bt n i 2),.int .u8 (bt n i 3),.int .u8 (bt n i 4),.int .u8 (bt n i 5),.int .u8 (bt n i 6),.int .u8 (bt n i 7),.int .i64 c]
theorem zT9(n m i:Nat)(c:Int)(k:Nat)(hk:k<8):(zKZ n m i c)[1+k]? = some (.int .u8 (bt n i k)):=by
 have:k=0\/k=1\/k=2\/k=3\/k=4\/k=5\/k=6\/k=7:=by omega
 rcases this with rfl | rfl | rfl | rfl | rfl | rfl | rfl | rfl <;> rfl
theorem zUf(n m:Nat)(c:Int)(k:Nat)(hk:k<8):(zKZ n m k c).setIfInBounds (1+k) (.int .u8 ((n / 256 ^ k % 256:Nat):Int))=zKZ n m (k+1) c:=by
 have:k=0\/k=1\/k=2\/k=3\/k=4\/k=5\/k=6\/k=7:=by omega
 rcases this with rfl | rfl | rfl | rfl | rfl | rfl | rfl | rfl <;> simp[zKZ,bt]
set_option maxRecDepth 100000 in
theorem zWY(n:Nat)(w:World)(h:248<=n)(h':n<2^64):
   Calls Pz 317 #[.int .u64 n] w fun e w'=>e=.returned (.agg (zKZ n (Vy.blen n) (Vy.blen n) (1+Vy.blen n)))/\Below w.heap.size w w':=by
 have hbl:=Vy.blen_le n h h';obtain⟨m,hm⟩:∃m:Nat,Vy.blen n=m:=⟨_,rfl⟩
 rw[hm]at hbl ⊢;have Hm:=Lib.hid hm;clear hm
 obtain⟨hm1,hm2⟩:=hbl
 go_enter Tryz.func317,Tryz.ntmps317
 go_wp2_with fail
 refine (Tryz.bits_Len64 _ _ (by omega) (by omega)).mono ?_;rintro e w' ⟨rfl,rfl⟩
 obtain⟨b,hb⟩:∃b:Nat,Lib.bitLen (n:Int).toNat=b:=⟨_,rfl⟩
 have hb1:8*m<=b+7:=by have:=Hm.out;unfold Vy.blen at this;rw[<-hb];simp;omega
 have hb2:b+7<8*m+8:=by have:=Hm.out;unfold Vy.blen at this;rw[<-hb];simp;omega
 rw[hb];have Hb:=Lib.hid hb;clear hb
 go_wp2_with fail
 rw[show ((b:Int)+8-1) / 8=(m:Int) from by omega]
 go_loopw [24] (fun i wr=>∃k:Nat,k<=m/\i=.int .i64 k/\Blk wr w.heap.size (zKZ n m k 0) 358/\Below w.heap.size w wr) (fun i _=>m-(intOf i).toNat)
 case atStart=>exact⟨0,by omega,rfl,Blk.new _ _ _,(Below.refl _ _).alloc (qnZ _) _⟩
 case round =>
   obtain⟨k,hk,rfl,hB,hb⟩:=hrel;by_cases hlt:k<m
   · have hc:=hB.cell (zT9 n m k 0 k (by omega))
     have hf:=hB.free (1+k)
     go_wp2_with fail
     go_roundw
     case rel =>
       refine ⟨k+1,by omega,by go_num,?_,hb.setCell (qnZ _) _⟩;have:=hB.set (1+k) (.int .u8 ((n / 256 ^ k % 256:Nat):Int));rw[zUf n m 0 k (by omega)]at this;rw[show ((n:Int) / 2 ^ (8*k) % 256)=((n / 256 ^ k % 256:Nat):Int) from by
         have e:(256:Nat) ^ k=2 ^ (8*k):=by rw[Nat.pow_mul]
         rw[e];push_cast;rfl]
       exact this
     case measure=>simp[intOf];omega
   · have hkm:k=m:=by omega
     subst hkm;unfold zKZ at hB;have f:=fun i=>hB.free i;have c0:=hB.cell (i:=0) rfl;have c1:=hB.cell (i:=1) rfl;have c2:=hB.cell (i:=2) rfl;have c3:=hB.cell (i:=3) rfl;have c4:=hB.cell (i:=4) rfl;have c5:=hB.cell (i:=5) rfl;have c6:=hB.cell (i:=6) rfl;have c7:=hB.cell (i:=7) rfl;have c8:=hB.cell (i:=8) rfl;have c9:=hB.cell (i:=9) rfl;simp only[List.getElem_toArray,List.getElem_cons_zero,List.getElem_cons_succ]at c0 c1 c2 c3 c4 c5 c6 c7 c8 c9;clear hB
     go_wp2_with fail
     refine bodyPost_ret (v:=.agg (zKZ n k k (1+k))) (by simp[results,Tryz.results317,go_sem,c0,c1,c2,c3,c4,c5,c6,c7,c8,c9,zKZ]) rfl ⟨rfl,?_⟩;have hl:=qnZ w.heap.size;exact Zy (Zy (Zy (Zy (Zy (Zy (Zy (Zy (Zy (Zy (Zy hb hl _ _) hl _ _) hl _ _) hl _ _) hl _ _) hl _ _) hl _ _) hl _ _) hl _ _) hl _ _) hl _ _
def zS4(n:Nat):Array Value:=#[.int .u8 (Vy.lb n 0),.int .u8 (Vy.lb n 1),.int .u8 (Vy.lb n 2),.int .u8 (Vy.lb n 3),.int .u8 (Vy.lb n 4),.int .u8 (Vy.lb n 5),.int .u8 (Vy.lb n 6),.int .u8 (Vy.lb n 7),.int .u8 (Vy.lb n 8),.int .i64 (Vy.size n)]
theorem zD2(n j:Nat)(h:248<=n):((Vy.lb n (j+1):Nat):Int)=bt n (Vy.blen n) j:=by
 unfold Vy.lb Vy.enc bt;rw[if_neg (by omega),List.getD_cons_succ,q2Z];by_cases hj:j<Vy.blen n
 · rw[if_pos hj,Vy.le_get _ _ _ hj]
   simp
 · rw[if_neg hj,s4Z (by rw[Vy.le_length];omega)]
   rfl
theorem zXl(n:Nat)(w:World)(h:n<2^64) :
   Calls Pz 317 #[.int .u64 n] w fun e w'=>e=.returned (.agg (zS4 n))/\Below w.heap.size w w':=by
 by_cases hs:n<248
 · refine (zSL n w hs).mono ?_
   rintro e w' ⟨rfl,hb⟩;refine ⟨?_,hb⟩;have h0:((Vy.lb n 0:Nat):Int)=n:=by simp[Vy.lb,Vy.enc,hs];omega
   have hj:∀j,((Vy.lb n (j+1):Nat):Int)=0:=fun j=>by simp[Vy.lb,Vy.enc,hs]
   have hz:Vy.size n=1:=by simp[Vy.size,hs]
   unfold zS4;rw[h0,hj 0,hj 1,hj 2,hj 3,hj 4,hj 5,hj 6,hj 7,hz];rfl
 · refine (zWY n w (by omega) h).mono ?_
   rintro e w' ⟨rfl,hb⟩;refine ⟨?_,hb⟩;have hb:=Vy.blen_le n (by omega) h;have h0:((Vy.lb n 0:Nat):Int)=247+Vy.blen n:=by
     simp[Vy.lb,Vy.enc,hs];omega
   have hz:Vy.size n=1+Vy.blen n:=by simp[Vy.size,hs]
   unfold zS4 zKZ;rw[h0,zD2 n 0 (by omega),zD2 n 1 (by omega),zD2 n 2 (by omega),zD2 n 3 (by omega),zD2 n 4 (by omega),zD2 n 5 (by omega),zD2 n 6 (by omega),zD2 n 7 (by omega),hz];rfl
theorem Tryz.infoU8:(Tryz.prog.info? 5).map (fun i=>(i.zero,i.size,i.bytes))=some (some (.int .u8 0),1,1):=by kernel_rfl
theorem zUd(n:Nat)(h:n<2^64):∀(j:Nat) u,((Vy.enc n).map vB)[j]? = some u->(zS4 n)[j]? = some u:=by
 intro j u hj;have hl:=(Vy.size_bd n h).2;have hj9:j<9:=by
   rcases s2Z j 9 with h9 | h9
   · exact h9
   · rw[s4Z (by rw[r7Z,Vy.enc_length];omega)]at hj;cases hj
 have e:u=.int .u8 (Vy.lb n j):=by
   rw[qzZ]at hj;unfold Vy.lb;rw[q2Z];cases hg:(Vy.enc n)[j]? with
   | none=>rw[hg]at hj;cases hj
   | some b=>rw[hg]at hj;cases hj;rfl
 subst e;have:j=0\/j=1\/j=2\/j=3\/j=4\/j=5\/j=6\/j=7\/j=8:=by omega
 rcases this with rfl | rfl | rfl | rfl | rfl | rfl | rfl | rfl | rfl <;> rfl
set_option maxRecDepth 100000 in
theorem zWQ(l:List Nat)(a:Option Addr)(cap:Nat)(w:World)(hl:∀n∈l,n<2^64)(hlen:l.length<=1000000000)(hr:Rd w 1 a l.length (l.map vU)) :
   Calls Pz 264 #[.slice a l.length cap] w fun e w'=>e=.returned (.string ⟨(Vy.put l).toArray⟩)/\Below w.heap.size w w':=by
 obtain⟨i0,hi,hz0,hz1,hz2⟩:=info_parts Tryz.infoU8
 go_enter Tryz.func264,Tryz.ntmps264
 go_wp2_with fail
 go_loopw [3,9] (fun v i wr=>∃k:Nat,k<=l.length/\i=.int .i64 k/\wr.ownsRow w.heap.size 5 1 v (Vy.put (l.take k)).length ((Vy.put (l.take k)).map vB)/\Below w.heap.size w wr) (fun _ i _=>l.length-(intOf i).toNat)
 case atStart=>exact⟨0,by omega,rfl,World.ownsRow_nil _ _ _ _,Below.refl _ _⟩
 case round =>
   obtain⟨k,hk,rfl,hown,hb⟩:=hrel;by_cases hlt:k<l.length
   · obtain⟨b,off,rfl,hbl,hc⟩:=hr.2 (by simp;omega)
     have hck:=hc k (vU l[k]) (by simp[q3Z hlt]);rw[<-hb.cell (p:=⟨b,off+k,none⟩) hbl]at hck;unfold vU at hck;clear hc;have hn64:=hl l[k] (r3Z hlt);obtain⟨n,hn⟩:∃n:Nat,l[k]=n:=⟨_,rfl⟩
     rw[hn]at hck hn64;have Hn:=Lib.hid hn;clear hn
     go_wp2_with fail
     refine (zXl _ _ hn64).mono ?_;rintro e w1 ⟨rfl,hb1⟩
     have hsz:=Vy.size_bd n hn64;obtain⟨hsz1,hsz2⟩:=hsz;have hsl:∀(a:Addr) (w:World),Sem.run Pz (Instr.sliceAt 356 (.pointer (some a)) none (some (.int .i64 (Vy.size n:Int))) none) w=.ok (.slice (some a) (Vy.size n) 9) w:=by
       intro a w;have e:Tryz.prog.arrayLen 356=9:=by kernel_rfl
       rw[run_sliceAt_array_h w 356 a (by kernel_rfl) .i64 (Vy.size n:Int) (by omega) (by rw[e];omega)];rw[e];show Result.ok _ _=_;simp[slicedAt,Addr.add]
     have hown1:=zKl hown hb1 (qnZ _);unfold zS4
     go_wp2_with (at_builtin;refine wpList_append_own _ rfl _ _ 55 rfl w.heap.size 5 i0 (.int .u8 0) 1 1 Tryz.underlying55 hi hz0 hz1 hz2 rfl (by decide) _ _ _ rfl (hown1.alloc _) ⟨w1.heap.size,0,none⟩ (Vy.size n) 9 ((Vy.enc n).map vB) rfl ?c0 ?c1 ?c2 ?c3 ?c4 ?c5 ?_)
     case c0=>simp[Vy.enc_length]
     case c1=>exact zM9 (Blk.new w1 (zS4 n) 358) _ (zUd n hn64)
     case c2=>exact zZW _
     case c3 =>
       have:=Vy.put_length_le (l.take k) (fun n hn=>hl n (List.mem_of_mem_take hn));have h2:(l.take k).length<=k:=List.length_take_le _ _;unfold maxLen;omega
     case c4 =>
       have:=Vy.put_length_le (l.take k) (fun n hn=>hl n (List.mem_of_mem_take hn));have h2:(l.take k).length<=k:=List.length_take_le _ _;omega
     case c5=>have:=hb.size;have:=hb1.size;simp;omega
     intro v' w2 hown2 hg2 _
     go_wp2_with fail
     go_roundw
     case rel =>
       have hbs:=hb.size;have hbs1:=hb1.size;have e:Vy.put (l.take (k+1))=Vy.put (l.take k)++Vy.enc n:=by
         rw[List.take_succ_eq_append_getElem hlt,Vy.put_snoc,Hn.out]
       refine ⟨k+1,by omega,by go_num,?_,?_⟩
       · rw[e,qdZ,roZ,Vy.enc_length]
         exact hown2
       · exact zFl ((zMZ hb hb1 hbs).alloc (by omega) _) (hown1.alloc _) (by simp;omega) hg2
     case measure=>simp[intOf];omega
   · have hkl:k=l.length:=by omega
     subst hkl;rw[List.take_length]at hown;have hs:=zD8 (P:=Pz) _ hown 55 9 Tryz.underlying55 Tryz.underlying5 Tryz.underlying9
     go_wp2_with fail
     go_ret
     exact⟨rfl,hb⟩
theorem Tryz.infoU8r:(Tryz.prog.info? 5).map (fun i=>(i.zero,i.size,i.bytes))=some (some (.int .u8 0),1,1):=by kernel_rfl
set_option maxRecDepth 100000 in
theorem zQe(n:Nat)(w:World)(h0:1<=n)(h:n<2^64) :
   Calls Pz 256 #[.int .u64 n] w fun e w'=>e=.returned (.int .i64 (Vy.blen n))/\w=w':=by
 go_enter Tryz.func256,Tryz.ntmps256
 go_wp2_with fail
 go_loop [0,3] (fun v m=>∃k:Nat,256 ^ k<=n/\k<8/\v=.int .u64 ((n / 256 ^ k:Nat):Int)/\m=.int .i64 (k+1)) (fun v _=>(intOf v).toNat)
 case atStart=>exact⟨0,by omega,by omega,by simp,rfl⟩
 case round =>
   obtain⟨k,hk,hk8,rfl,rfl⟩:=hrel;obtain⟨d,hd⟩:∃d:Nat,n / 256 ^ k=d:=⟨_,rfl⟩
   have hd1:1<=d:=by rw[<-hd];exact Nat.div_pos hk (Nat.pow_pos (by omega))
   have hdn:d<=n:=by rw[<-hd];exact Nat.div_le_self _ _
   rw[hd];by_cases hlt:d<256
   · have hb:=Lib.hid (Vy.blen_of_div n k (by omega) h hk (by rw[hd];exact hlt))
     have Hd:=Lib.hid hd;clear hd
     go_wp2_with fail
     go_ret
     exact⟨by rw[hb.out];push_cast;rfl,rfl⟩
   · have hk1:256 ^ (k+1)<=n:=by
       rw[Nat.pow_succ];have:256<=n / 256 ^ k:=by omega
       have:=(Nat.le_div_iff_mul_le (Nat.pow_pos (by omega))).1 this;rw[Nat.mul_comm];exact this
     have hk9:k+1<8:=by
       have:=Nat.lt_of_le_of_lt hk1 h;rw[show (2:Nat) ^ 64=256 ^ 8 from rfl]at this;exact Vy.pow_lt_of this
     have hds:=Lib.hid (Vy.div_pow_succ n k);have Hd:=Lib.hid hd;clear hd
     go_wp2_with fail
     go_round
     case rel=>exact⟨k+1,hk1,hk9,by rw[<-hds.out,Hd.out];go_num,by go_num⟩
     case measure=>simp[intOf];omega
set_option maxRecDepth 100000 in
theorem zQv(n:Nat)(w:World)(h:n<248) :
   Calls Pz 182 #[.int .u64 n] w fun e w'=>e=.returned (.string ⟨(Vy.enc n).toArray⟩)/\Below w.heap.size w w':=by
 have he:Vy.enc n=[UInt8.ofNat n]:=by simp[Vy.enc,h]
 rw[he];clear he
 have hs:=zE7 (P:=Pz) (n:=1) (cap:=1) [UInt8.ofNat n] (by
   have:=zZP w [.int .u8 n] 5;have e:vB (UInt8.ofNat n)=.int .u8 n:=by simp[vB];omega
   simpa[e] using this) 55 5 9 Tryz.underlying55 Tryz.underlying5 Tryz.underlying9
 go_enter Tryz.func182,Tryz.ntmps182
 go_wp2_with fail
 go_ret
 exact⟨rfl,zEG (Below.refl _ _) _⟩
set_option maxRecDepth 100000 in
theorem zVi(n:Nat)(w:World)(h:248<=n)(h':n<2^64) :
   Calls Pz 182 #[.int .u64 n] w fun e w'=>e=.returned (.string ⟨(Vy.enc n).toArray⟩)/\Below w.heap.size w w':=by
 have he:=Lib.hid (show Vy.enc n=UInt8.ofNat (247+Vy.blen n)::Vy.le (Vy.blen n) n by simp[Vy.enc];omega);have hbl:=Vy.blen_le n h h';obtain⟨m,hm⟩:∃m:Nat,Vy.blen n=m:=⟨_,rfl⟩
 rw[hm]at he hbl;obtain⟨hm1,hm2⟩:=hbl;have Hm:=Lib.hid hm;clear hm
 obtain⟨i0,hi,hz0,hz1,hz2⟩:=info_parts Tryz.infoU8r
 go_enter Tryz.func182,Tryz.ntmps182
 go_wp2_with fail
 refine (zQe n _ (by omega) h').mono ?_;rintro e w1 ⟨rfl,rfl⟩
 rw[Hm.out]
 go_wp2_with fail
 go_loopw [0,4,5] (fun v o i wr=>∃k:Nat,k<=m/\i=.int .i64 k/\v=.int .u64 ((n / 256 ^ k:Nat):Int)/\wr.ownsRow w.heap.size 5 1 o (k+1) ((UInt8.ofNat (247+m)::Vy.le k n).map vB)/\Below w.heap.size w wr) (fun _ _ i _=>m-(intOf i).toNat)
 case atStart =>
   refine ⟨0,by omega,rfl,by simp,?_,zEG (Below.refl _ _) _⟩;have:=World.ownsRow_lit (base:=w.heap.size) (e:=5) (size:=1) w #[.int .u8 (247+m)] 1 (qnZ _) (by unfold maxLen;omega) (by simp);have e:vB (UInt8.ofNat (247+m))=.int .u8 (247+m):=by rw[zVh _ (by omega)];push_cast;rfl
   simp only[Vy.le,s1Z,List.map_nil,e];simpa using this
 case round =>
   obtain⟨k,hk,rfl,rfl,hown,hb⟩:=hrel;by_cases hlt:k<m
   · obtain⟨d,hd⟩:∃d:Nat,n / 256 ^ k=d:=⟨_,rfl⟩
     rw[hd];have hds:=Lib.hid (Vy.div_pow_succ n k);have hls:=Lib.hid (Vy.le_snoc k n);have hdl:d<=n:=by rw[<-hd];exact Nat.div_le_self _ _
     have Hd:=Lib.hid hd;clear hd
     go_wp2_with (at_builtin;refine wpList_append_own _ rfl _ _ 55 rfl w.heap.size 5 i0 (.int .u8 0) 1 1 Tryz.underlying55 hi hz0 hz1 hz2 rfl (by decide) _ _ _ rfl (hown.alloc _) ⟨wr.heap.size,0,none⟩ 1 1 [.int .u8 ((d:Int) % 256)] rfl rfl ?c1 ?c2 ?c3 ?c4 ?c5 ?_)
     case c1=>exact zM9 (Blk.new _ #[.int .u8 ((d:Int) % 256)] _) _ (by simp)
     case c2=>intro u hu;simp at hu;subst hu;rfl
     case c3=>unfold maxLen;omega
     case c4=>omega
     case c5=>have:=hb.size;simp;omega
     intro v' w2 hown2 hg2 _
     go_wp2_with fail
     go_roundw
     case rel =>
       refine ⟨k+1,by omega,by go_num,by rw[<-hds.out,Hd.out];go_num,?_,zFl (zEG hb _) (hown.alloc _) (by have:=hb.size;simp;omega) hg2⟩;rw[hls.out,Hd.out];have e:vB (UInt8.ofNat (d % 256))=.int .u8 ((d:Int) % 256):=by simp[vB]
       simpa[e] using hown2
     case measure=>simp[intOf];omega
   · have hkm:k=m:=by omega
     subst hkm;rw[<-he.out]at hown;have hs:=zD8 (P:=Pz) _ hown 55 9 Tryz.underlying55 Tryz.underlying5 Tryz.underlying9
     go_wp2_with fail
     go_ret
     exact⟨rfl,hb⟩
theorem zVs(n:Nat)(w:World)(h:n<2^64) :
   Calls Pz 182 #[.int .u64 n] w fun e w'=>e=.returned (.string ⟨(Vy.enc n).toArray⟩)/\Below w.heap.size w w':=by
 by_cases hs:n<248
 · exact zQv n w hs
 · exact zVi n w (by omega) h
end Go.Proofs.YtfhidaoiofeooaaGreatDoor
namespace Go.Proofs.YtfhidaoiofeooaaGreatDoor
open _root_.Go.Proofs.Tryz renaming prog → Pz
open Go
theorem zNF{P:Program}{f:FuncId}{args:List AV}{v:AV}{cargs:Array Value}{cv:Value}(hargs:∀j vs,VRs j args vs->vs=cargs.toList)(hv:∀j,VR j v cv)(h:∀w,Calls P f cargs w fun e w'=>e=.returned cv/\RowKit.Below w.heap.size w w'):Ct P f args [] v []:=by
 intro j w cs hR hcs;have e:cs=cargs:=by apply Array.ext';exact hargs j _ hcs
 subst e;refine (h w).mono ?_;rintro e w' ⟨rfl,hb⟩;exact⟨cv,j,rfl,hv j,Step.below hR hb (qnZ _)⟩
theorem zW8(n:Nat)(hn:n<2 ^ 64):Ct Pz 182 [.int .u64 n] [] (.str (Vy.enc n)) []:=by
 refine zNF (cargs:=#[.int .u64 n]) (cv:=.string ⟨(Vy.enc n).toArray⟩) (fun j vs h=>?_) (fun j=>?_) fun w=>?_
 · simp only[VRs,VR]at h
   obtain⟨_,_,rfl,rfl,rfl⟩:=h;rfl
 · rfl
 · exact zVs n w hn
theorem zZO(l:List Nat)(hl:∀n∈l,n<2 ^ 64)(hlen:l.length<=1000000000):Ct Pz 264 [.slice 0 0 l.length 1 false] [.cells false (l.map aU)] (.str (Vy.put l)) [.cells false (l.map aU)]:=by
 intro j w cs hR hcs;simp only[VRs,VR]at hcs;obtain⟨v,vs,e,⟨p,a,cap,hp,rfl,h1,h2,h3,h4⟩,rfl⟩:=hcs;have e':cs=#[.slice (some a) l.length cap]:=by apply Array.ext';exact e
 subst e';have hrd:Rd w 1 (some a) l.length (l.map vU):=by
   refine ⟨by simp,fun h0=>?_⟩;obtain⟨cs',T,fz,g1,g2,g3,g4,g5⟩:=hR.blk 0 _ p rfl hp;rcases h4 with h5 | ⟨rfl,h5⟩
   · simp at h0;omega
   · refine ⟨p.blk,p.base+0,rfl,(qtZ.1 g1).1,fun k u hk=>?_⟩
     rw[qzZ]at hk;obtain⟨n,hn,rfl⟩:=qlZ.1 hk;obtain⟨v,hv,hr⟩:=g4 k (aU n) (by rw[qzZ,hn];rfl);simp only[aU,VR]at hr;subst hr;simp[World.cell?,g1,hv,vU]
 refine (zWQ l (some a) cap w hl hlen hrd).mono ?_;rintro e w' ⟨rfl,hb⟩;exact⟨_,j,rfl,rfl,Step.below hR hb (qnZ _)⟩
def zRg:zJ:=Zt fun | [.int .u64 n]=>if 0<=n/\n.toNat<18446744073709551616 then some (.str (Vy.enc n.toNat)) else none | _=>none
theorem zJm:Sound Pz 182 zRg:=by
 refine zU (zD Tryz.func182 rfl (by decide)) fun args v h=>?_;split at h <;> try cases h
 rename_i n;split at h <;> cases h
 rename_i hc;have h0:=zW8 n.toNat (by omega);rw[show ((n.toNat:Nat):Int)=n by omega]at h0;exact⟨h0,by simp,by simp⟩
def zRl:zJ:=ZS fun args H=>match args with
 | [.slice b off len 1 _]=>match H[b]? with
   | some (.cells _ l)=>match zA6 .u64 ((l.drop off).take len) with
     | some ns=>if off+len<=l.length/\(ns.all (· < 18446744073709551616))=true/\len<=1000000000 then some (.str (Vy.put ns)) else none
     | none=>none
   | _=>none
 | _=>none
theorem zK5:Sound Pz 264 zRl:=by
 refine Zm (zD Tryz.func264 rfl (by decide)) fun args H v h=>?_;split at h <;> try cases h
 rename_i b off len c;split at h <;> try cases h
 rename_i o l hb;split at h <;> try cases h
 rename_i ns hns;split at h <;> cases h
 rename_i hc;obtain⟨c2,c3,c6⟩:=hc;have e:=zEi hns;have hlen:ns.length=len:=by have:=congrArg List.length e;simp at this;omega
 have h0:=zZO ns (by simpa using c3) (by omega);rw[hlen]at h0;refine zIu h0 rfl [(b,off)] (by simp) ?_;simp only[winH,hb];refine ⟨⟨by simp;omega,?_⟩,by simp,trivial⟩;rw[r7Z,hlen,e];rfl
end Go.Proofs.YtfhidaoiofeooaaGreatDoor
namespace Go.Proofs.YtfhidaoiofeooaaGreatDoor
open _root_.Go.Proofs.Tryz renaming prog → Pz
def Cr.tab:List Nat:=[0,498536548,997073096,651767980,1994146192,1802195444,1303535960,1342533948,3988292384,4027552580,3604390888,3412177804,2607071920,2262029012,2685067896,3183342108]
def Cr.half(n h:Nat):Nat:=(n / 16) ^^^ Cr.tab.getD ((n % 16) ^^^ h) 0
def Cr.step(n:Nat)(b:UInt8):Nat:=Cr.half (Cr.half n (b.toNat % 16)) (b.toNat / 16)
def Cr.more(n:Nat)(s:List UInt8):Nat:=4294967295 ^^^ s.foldl Cr.step (4294967295 ^^^ n)
def Cr.sum(s:List UInt8):Nat:=Cr.more 0 s
def Cr.four(n:Nat):List UInt8:=[UInt8.ofNat (n % 256),UInt8.ofNat (n / 256 % 256),UInt8.ofNat (n / 65536 % 256),UInt8.ofNat (n / 16777216 % 256)]
def Cr.seal(s:List UInt8):List UInt8:=s++Cr.four (Cr.sum s)
@[simp] theorem Cr.tab_length:Cr.tab.length=16:=rfl
@[simp] theorem Cr.tab_take:List.take 16 (Cr.tab.map aW)=Cr.tab.map aW:=rfl
theorem zYv(a b:Nat)(ha:a<256)(hb:b<256):zCy .xor .u8 (a:Int) (b:Int)=((a ^^^ b:Nat):Int):=by
 have h1:(BitVec.ofInt 8 (a:Int)).toNat=a:=by
   rw[BitVec.ofInt_natCast,BitVec.toNat_ofNat];exact Nat.mod_eq_of_lt (by omega)
 have h2:(BitVec.ofInt 8 (b:Int)).toNat=b:=by
   rw[BitVec.ofInt_natCast,BitVec.toNat_ofNat];exact Nat.mod_eq_of_lt (by omega)
 show IntKind.u8.wrap ((BitVec.ofInt 8 (a:Int) ^^^ BitVec.ofInt 8 (b:Int)).toNat:Int)=_;rw[BitVec.toNat_xor,h1,h2,IntKind.wrap_u8];have:=Nat.xor_lt_two_pow (n:=8) ha hb;omega
theorem zH3(a b:Nat)(ha:a<4294967296)(hb:b<4294967296):zCy .xor .u32 (a:Int) (b:Int)=((a ^^^ b:Nat):Int):=by
 have h1:(BitVec.ofInt 32 (a:Int)).toNat=a:=by
   rw[BitVec.ofInt_natCast,BitVec.toNat_ofNat];exact Nat.mod_eq_of_lt (by omega)
 have h2:(BitVec.ofInt 32 (b:Int)).toNat=b:=by
   rw[BitVec.ofInt_natCast,BitVec.toNat_ofNat];exact Nat.mod_eq_of_lt (by omega)
 show IntKind.u32.wrap ((BitVec.ofInt 32 (a:Int) ^^^ BitVec.ofInt 32 (b:Int)).toNat:Int)=_;rw[BitVec.toNat_xor,h1,h2,IntKind.wrap_u32];have:=Nat.xor_lt_two_pow (n:=32) ha hb;omega
theorem zK0(a:Nat)(ha:a<256):zCy .and .u8 (a:Int) 15=((a % 16:Nat):Int):=by
 have h1:(BitVec.ofInt 8 (a:Int)).toNat=a:=by
   rw[BitVec.ofInt_natCast,BitVec.toNat_ofNat];exact Nat.mod_eq_of_lt (by omega)
 show IntKind.u8.wrap ((BitVec.ofInt 8 (a:Int) &&& BitVec.ofInt 8 15).toNat:Int)=_;rw[BitVec.toNat_and,h1,show (BitVec.ofInt 8 15).toNat=2 ^ 4-1 from rfl,Nat.and_two_pow_sub_one_eq_mod,IntKind.wrap_u8];omega
theorem Cr.tab_lt(i:Nat):Cr.tab.getD i 0<4294967296:=by
 by_cases h:i<16
 · have:∀j<16,Cr.tab.getD j 0<4294967296:=by decide
   exact this i h
 · rw[q2Z,s4Z (by simp[Cr.tab];omega)];decide
theorem Cr.half_lt(n h:Nat)(hn:n<4294967296):Cr.half n h<4294967296 :=
 Nat.xor_lt_two_pow (n:=32) (by omega) (Cr.tab_lt _)
theorem Cr.fold_lt(hs:List Nat):∀(n:Nat),n<4294967296->hs.foldl Cr.half n<4294967296:=by
 induction hs with
 | nil=>exact fun n h=>h
 | cons x xs ih=>exact fun n h=>ih _ (Cr.half_lt n x h)
theorem Cr.step_lt(n:Nat)(b:UInt8)(h:n<4294967296):Cr.step n b<4294967296:=Cr.half_lt _ _ (Cr.half_lt _ _ h)
theorem Cr.steps_lt(s:List UInt8):∀(n:Nat),n<4294967296->s.foldl Cr.step n<4294967296:=by
 induction s with
 | nil=>exact fun n h=>h
 | cons x xs ih=>exact fun n h=>ih _ (Cr.step_lt n x h)
theorem Cr.more_lt(n:Nat)(s:List UInt8)(h:n<4294967296):Cr.more n s<4294967296 :=
 Nat.xor_lt_two_pow (n:=32) (by omega) (Cr.steps_lt s _ (Nat.xor_lt_two_pow (n:=32) (by omega) h))
theorem Cr.sum_lt(s:List UInt8):Cr.sum s<4294967296:=Cr.more_lt 0 s (by omega)
theorem Cr.seal_length(s:List UInt8):(Cr.seal s).length=s.length+4:=by simp[Cr.seal,Cr.four]
def Cr.bit(n b:Nat):Nat:=if n % 2=b then n / 2 else (n / 2) ^^^ 3988292384
def Cr.bits:Nat->Nat->Nat->Nat
 | 0,n,_=>n
 | k+1,n,c=>Cr.bits k (Cr.bit n (c % 2)) (c / 2)
theorem zU0(a b:Nat):(a ^^^ b) / 2=(a / 2) ^^^ (b / 2):=by
 have:=@Nat.xor_div_two a b;exact this
theorem Cr.bit_xor(x y b:Nat)(hy:y % 2=0):Cr.bit (x ^^^ y) b=Cr.bit x b ^^^ (y / 2):=by
 unfold Cr.bit;have h1:(x ^^^ y) % 2=x % 2:=by
   have:=Nat.xor_mod_two_pow (a:=x) (b:=y) (n:=1);simp only[Nat.pow_one]at this;rw[this,hy,Nat.xor_zero]
 rw[h1,zU0];split
 · rfl
 · rw[Nat.xor_assoc,Nat.xor_assoc,Nat.xor_comm (y / 2)]
theorem Cr.bits_xor:∀(k n c m:Nat),Cr.bits k (n ^^^ (2 ^ k*m)) c=Cr.bits k n c ^^^ m
 | 0,n,c,m=>by simp[Cr.bits]
 | k+1,n,c,m=>by
   have e:2 ^ (k+1)*m=2*(2 ^ k*m):=by rw[Nat.pow_succ];rw[Nat.mul_comm (2 ^ k) 2,Nat.mul_assoc]
   simp only[Cr.bits];rw[Cr.bit_xor _ _ _ (by rw[e];omega),e,Nat.mul_div_cancel_left _ (by omega),Cr.bits_xor k]
theorem Cr.four_bits(n h:Nat)(hh:h<16):Cr.bits 4 n h=Cr.half n h:=by
 have e:n=(n % 16) ^^^ (2 ^ 4*(n / 16)):=by
   have h1:n=2 ^ 4*(n / 16)+n % 16:=by omega
   have h2:=Nat.two_pow_add_eq_or_of_lt (i:=4) (b:=n % 16) (by omega) (n / 16);have h3:2 ^ 4*(n / 16) ||| n % 16=(2 ^ 4*(n / 16)) ^^^ (n % 16):=by
     apply Nat.eq_of_testBit_eq;intro i;rw[Nat.testBit_or,Nat.testBit_xor,Nat.testBit_two_pow_mul];by_cases hi:i<4
     · have:¬(4<=i):=by omega
       simp[this]
     · have:(n % 16).testBit i=false:=Nat.testBit_lt_two_pow (rlZ (show n % 16<2 ^ 4 by omega) (Nat.pow_le_pow_right (by omega) (by omega)))
       simp[this]
   rw[Nat.xor_comm,<-h3,<-h2];exact h1
 have key:∀r<16,∀h<16,Cr.bits 4 r h=Cr.tab.getD (r ^^^ h) 0:=by decide
 rw[e,Cr.bits_xor,key _ (by omega) h hh,<-e];unfold Cr.half;rw[Nat.xor_comm]
theorem Cr.bits_add:∀(k m n c:Nat),Cr.bits (k+m) n c=Cr.bits m (Cr.bits k n c) (c / 2 ^ k)
 | 0,m,n,c=>by simp[Cr.bits]
 | k+1,m,n,c=>by
   rw[show k+1+m=(k+m)+1 by omega];simp only[Cr.bits];rw[Cr.bits_add k,Nat.div_div_eq_div_mul,Nat.pow_succ,Nat.mul_comm 2]
theorem Cr.bits_mod:∀(k n c:Nat),Cr.bits k n (c % 2 ^ k)=Cr.bits k n c
 | 0,n,c=>rfl
 | k+1,n,c=>by
   simp only[Cr.bits];have h1:c % 2 ^ (k+1) % 2=c % 2:=Nat.mod_mod_of_dvd c ⟨2 ^ k,by rw[Nat.pow_succ,Nat.mul_comm]⟩;have h2:c % 2 ^ (k+1) / 2=(c / 2) % 2 ^ k:=by
     rw[Nat.pow_succ,Nat.mul_comm,Nat.mod_mul_right_div_self]
   rw[h1,h2,Cr.bits_mod k]
theorem Cr.bits_step(n:Nat)(b:UInt8):Cr.bits 8 n b.toNat=Cr.step n b:=by
 have hb:=b.toNat_lt;unfold Cr.step;rw[show (8:Nat)=4+4 from rfl,Cr.bits_add,<-Cr.bits_mod 4 n b.toNat,Cr.four_bits _ _ (by omega),Cr.four_bits _ _ (by omega)]
end Go.Proofs.YtfhidaoiofeooaaGreatDoor
namespace Go.Proofs.YtfhidaoiofeooaaGreatDoor
open _root_.Go.Proofs.Tryz renaming prog → Pz
open Go
set_option maxRecDepth 100000
theorem zUD:Ct Pz 367 [] [] (.agg (Cr.tab.map aW)) []:=by
 refine zL0 hmix zC (n:=0) Tryz.func367 (v1:=.agg (Cr.tab.map aW)) (H1:=[.cells true (Cr.tab.map aW)]) ?_ (zGs (by simp));unfold Tryz.f367;simp[Cr.tab,aW]
def zU6:zJ:=Zt fun | []=>some (.agg (Cr.tab.map aW)) | _=>none
theorem zNu:Sound Pz 367 zU6:=by
 refine zU (zD Tryz.func367 rfl (by decide)) fun args v h=>?_;split at h <;> cases h
 exact⟨zUD,by simp,by simp⟩
theorem zUc(n:Nat)(hs:List Nat)(hh:∀h∈hs,h<16)(hn:n<4294967296)(hl:hs.length<=1000) :
   Ct Pz 368 [.agg (Cr.tab.map aW),.int .u32 n,.slice 0 0 hs.length 1 false] [.cells false (hs.map aB)] (.int .u32 (hs.foldl Cr.half n:Nat)) [.cells false (hs.map aB)]:=by
 have hwr:∀k:Nat,k<hs.length->IntKind.i64.wrap ((k:Int)+1)=k+1:=fun k hk=>zI (by omega) (by omega);obtain⟨T,hT⟩:∃T,Cr.tab.map aW=T:=⟨_,rfl⟩
 have hTl:T.length=16:=by rw[<-hT];rfl
 have hTf:zV T=true:=by rw[<-hT];simp
 have hTg:∀i<16,T[i]? = some (.int .u32 (Cr.tab.getD i 0:Nat)):=by
   intro i hi;rw[<-hT,qzZ,q3Z (by simp[Cr.tab];omega)];simp[aW,q3Z (show i<Cr.tab.length by simp[Cr.tab];omega)]
 rw[hT];refine zE Tryz.func368 rfl ?_;simp only[Tryz.ntmps368,q7Z,q8Z,qbZ,q9Z,qaZ];refine wS zC (by simp;exact wR) ?_;refine Sim.seq ?_;refine wS zC (by simp;exact wR) ?_;refine Sim.block (Sim.loopW (fun k:Nat=>k<=hs.length)
   (fun k=>[.agg T,.int .u32 ((hs.take k).foldl Cr.half n:Nat),.slice 0 0 hs.length 1 false,.ptr 1 0,.top,.top,.int .u32 0,.top,.top,.slice 0 0 hs.length 1 false,.int .i64 hs.length,.int .i64 k]++qbZ 15 .top)
   (fun _=>[.cells false (hs.map aB),.cells true T]) (fun k=>hs.length-k) 0 (by simp) (by omega) (Weak.mk' [0,1] (by decide) (by decide) (by simp[hTf]) (by simp[hTf])) fun k hk=>?_)
 by_cases hlt:k<hs.length
 · obtain⟨q,hq⟩:∃q,(hs.take k).foldl Cr.half n=q:=⟨_,rfl⟩
   obtain⟨h,hhk⟩:∃h,hs[k]? = some h:=⟨_,q3Z hlt⟩
   have hq32:q<4294967296:=by rw[<-hq];exact Cr.fold_lt _ _ hn
   have hh16:h<16:=hh h (qcZ hhk);have hnext:(hs.take (k+1)).foldl Cr.half n=Cr.half q h:=by
     rw[List.take_add_one,hhk,List.foldl_append,hq];rfl
   obtain⟨a1,ha1⟩:∃a1,q % 256=a1:=⟨_,rfl⟩
   obtain⟨a2,ha2⟩:∃a2,a1 % 16=a2:=⟨_,rfl⟩
   obtain⟨a3,ha3⟩:∃a3,a2 ^^^ h=a3:=⟨_,rfl⟩
   obtain⟨a4,ha4⟩:∃a4,Cr.tab.getD a3 0=a4:=⟨_,rfl⟩
   obtain⟨a5,ha5⟩:∃a5,q / 16=a5:=⟨_,rfl⟩
   have l3:a3<16:=by rw[<-ha3];exact Nat.xor_lt_two_pow (n:=4) (by omega) hh16
   have l4:a4<4294967296:=by rw[<-ha4];exact Cr.tab_lt _
   have f1:IntKind.u8.wrap (q:Int)=(a1:Int):=by rw[IntKind.wrap_u8];omega
   have f2:zCy .and .u8 (a1:Int) 15=(a2:Int):=by rw[zK0 a1 (by omega),ha2]
   have f3:zCy .xor .u8 (a2:Int) (h:Int)=(a3:Int):=by rw[zYv a2 h (by omega) (by omega),ha3]
   have f4:T[a3]? = some (.int .u32 (a4:Nat)):=by rw[hTg a3 l3,ha4]
   have f5:(q:Int).fdiv 16=(a5:Int):=by rw[Int.fdiv_eq_ediv_of_nonneg _ (by omega)];omega
   have f6:zCy .xor .u32 (a5:Int) (a4:Int)=((a5 ^^^ a4:Nat):Int):=zH3 a5 a4 (by omega) l4;have hres:Cr.half q h=a5 ^^^ a4:=by
     unfold Cr.half;rw[ha5,show q % 16=a2 by omega,ha3,ha4]
   have l3':(a3:Int)<16:=by omega
   have hg:hs[k]=h:=by rw[q3Z hlt]at hhk;cases hhk;rfl
   have hw:=hwr k hlt;rw[hq];clear hT hhk hq ha1 ha2 ha3 ha4 ha5 hTg;refine wE zC (by simp[f1,f2,f3,f4,f5,f6,hw,hlt,l3',hg,aB];exact wT) ?_;exact⟨k+1,by omega,Weak.mk' [0,1] (by decide) (by decide) (by simp[hnext,hres,hTf]) (by simp[hTf]),by omega⟩
 · obtain rfl:k=hs.length:=by omega
   refine wE zC (by simp;exact wT) ?_;refine wE zC (by simp;exact wT) ?_;refine ⟨.inr rfl,_,by simp;rfl,wW [0] (by simp)⟩
def zV7:zJ:=ZS fun args H=>match args with
 | [.agg T,.int .u32 n,.slice b off len 1 _]=>match H[b]? with
   | some (.cells _ l)=>match zA6 .u8 ((l.drop off).take len) with
     | some hs=>if zBd T (Cr.tab.map aW)=true/\off+len<=l.length/\(hs.all (· < 16))=true/\0<=n/\n.toNat<4294967296/\len<=1000 then some (.int .u32 (hs.foldl Cr.half n.toNat:Nat)) else none
     | none=>none
   | _=>none
 | _=>none
theorem zN9:Sound Pz 368 zV7:=by
 refine Zm (zD Tryz.func368 rfl (by decide)) fun args H v h=>?_;split at h <;> try cases h
 rename_i T n b off len c;split at h <;> try cases h
 rename_i o l hb;split at h <;> try cases h
 rename_i hs hhs;split at h <;> cases h
 rename_i hc;obtain⟨c1,c2,c3,c4,c5,c6⟩:=hc;obtain rfl:=zAJ c1;have e:=zEi hhs;have hlen:hs.length=len:=by have:=congrArg List.length e;simp at this;omega
 have h0:=zUc n.toNat hs (by simpa using c3) (by omega) (by omega);rw[hlen,show ((n.toNat:Nat):Int)=n by omega]at h0;refine zIu h0 rfl [(b,off)] (by simp) ?_;simp only[winH,hb];refine ⟨⟨by simp;omega,?_⟩,by simp,trivial⟩;rw[r7Z,hlen,e];rfl
theorem zXQ(n:Nat)(s:List UInt8)(hn:n<4294967296)(hs:s.length<=9223372036854775806):Ct Pz 349 [.int .u32 n,.str s] [] (.int .u32 (Cr.more n s:Nat)) []:=by
 have hΓ:=zB zNu (zB zN9 zC);obtain⟨c,hc⟩:∃c:Nat,4294967295 ^^^ n=c:=⟨_,rfl⟩
 have hcl:c<4294967296:=by rw[<-hc];exact Nat.xor_lt_two_pow (n:=32) (by omega) hn
 have fn:zCy .xor .u32 4294967295 (n:Int)=(c:Int):=by rw[<-hc];exact zH3 4294967295 n (by omega) hn
 refine zE Tryz.func349 rfl ?_;simp only[Tryz.ntmps349,q7Z,q8Z,qbZ,q9Z,qaZ];refine wS hΓ (by simp;exact wR) ?_;refine wS hΓ (by simp[zU6,Cr.tab,aW];exact wR) ?_;refine wS hΓ (by simp[fn];exact wR) ?_;refine Sim.seq ?_;refine wS hΓ (by simp;exact wR) ?_;refine Sim.block (Sim.loopW (fun k:Nat=>k<=s.length)
   (fun k=>[.top,.str s,.top,.top,.top,.ptr 0 0,.int .u32 ((s.take k).foldl Cr.step c:Nat),.top,.top,.top,.top,.top,.int .i64 s.length,.int .i64 k]++qbZ 17 .top)
   (fun _=>[.cells true (Cr.tab.map aW)]) (fun k=>s.length-k) 0 (by simp) (by omega) (wW [0] (by simp[Cr.tab,aW])) fun k hk=>?_)
 by_cases hlt:k<s.length
 · obtain⟨q,hq⟩:∃q,(s.take k).foldl Cr.step c=q:=⟨_,rfl⟩
   obtain⟨b,hbk⟩:∃b,s[k]? = some b:=⟨_,q3Z hlt⟩
   have hg:s[k]=b:=by rw[q3Z hlt]at hbk;cases hbk;rfl
   have hq32:q<4294967296:=by rw[<-hq];exact Cr.steps_lt _ _ hcl
   have hnext:(s.take (k+1)).foldl Cr.step c=Cr.step q b:=by
     rw[List.take_add_one,hbk,List.foldl_append,hq];rfl
   obtain⟨h1,e1⟩:∃h:Nat,b.toNat % 16=h:=⟨_,rfl⟩
   obtain⟨h2,e2⟩:∃h:Nat,b.toNat / 16=h:=⟨_,rfl⟩
   have hb:=b.toNat_lt;have f1:zCy .and .u8 (b.toNat:Int) 15=(h1:Int):=by rw[zK0 b.toNat hb,e1]
   have f2:(b.toNat:Int).fdiv 16=(h2:Int):=by rw[Int.fdiv_eq_ediv_of_nonneg _ (by omega)];omega
   have l1:h1<16:=by omega
   have l2:h2<16:=by omega
   have hw:IntKind.i64.wrap ((k:Int)+1)=k+1:=zI (by omega) (by omega);have hst:Cr.step q b=Cr.half (Cr.half q h1) h2:=by unfold Cr.step;rw[e1,e2]
   rw[hq];clear hq hbk e1 e2 hb;refine wE hΓ (by simp +decide [f1,f2,l1,l2,hw,hlt,hg,zV7,hq32];exact wT) ?_;exact⟨k+1,by omega,Weak.mk' [0] (by decide) (by decide) (by simp[hnext,hst]) (by simp),by omega⟩
 · obtain rfl:k=s.length:=by omega
   have hq32:s.foldl Cr.step c<4294967296:=Cr.steps_lt _ _ hcl;have fz:zCy .xor .u32 4294967295 ((s.foldl Cr.step c:Nat):Int)=((Cr.more n s:Nat):Int):=by
     unfold Cr.more;rw[hc];exact zH3 4294967295 _ (by omega) hq32
   refine wE hΓ (by simp;exact wT) ?_;refine wE hΓ (by simp[fz];exact wT) ?_;refine ⟨.inr rfl,_,by simp;rfl,wW [] (by simp)⟩
def zYE:zJ:=Zt fun | [.int .u32 n,.str s]=>if 0<=n/\n.toNat<4294967296/\s.length<=9223372036854775806 then some (.int .u32 (Cr.more n.toNat s:Nat)) else none | _=>none
theorem zQ8:Sound Pz 349 zYE:=by
 refine zU (zD Tryz.func349 rfl (by decide)) fun args v h=>?_;split at h <;> try cases h
 rename_i n s;split at h <;> cases h
 rename_i hc;have h0:=zXQ n.toNat s (by omega) hc.2.2;rw[show ((n.toNat:Nat):Int)=n by omega]at h0;exact⟨h0,by simp,by simp⟩
theorem zZZ(s:List UInt8)(hs:s.length<=9223372036854775806):Ct Pz 318 [.str s] [] (.int .u32 (Cr.sum s:Nat)) []:=by
 have hΓ:=zB zQ8 zC;refine zL0 hmix hΓ (n:=0) Tryz.func318 (v1:=.int .u32 (Cr.sum s:Nat)) (H1:=[]) ?_ (zGs (by simp));unfold Tryz.f318 Cr.sum;simp[zYE,hs]
def zZu:zJ:=Zt fun | [.str s]=>if s.length<=9223372036854775806 then some (.int .u32 (Cr.sum s:Nat)) else none | _=>none
theorem zTa:Sound Pz 318 zZu:=by
 refine zU (zD Tryz.func318 rfl (by decide)) fun args v h=>?_;split at h <;> try cases h
 rename_i s;split at h <;> cases h
 exact⟨zZZ s ‹_›,by simp,by simp⟩
theorem zWm(s:List UInt8)(hs:s.length<=1000000000000):Ct Pz 266 [.str s] [] (.str (Cr.seal s)) []:=by
 have hΓ:=zB zTa zC;have h1:s.length<=9223372036854775806:=by omega
 have h2:s.length<=9223372036854775807:=by omega
 have a1:s.length+1<=140737488355328:=by omega
 have a2:s.length+2<=140737488355328:=by omega
 have a3:s.length+3<=140737488355328:=by omega
 have a4:s.length+4<=140737488355328:=by omega
 have b1:s.length+1<=9223372036854775807:=by omega
 have b2:s.length+2<=9223372036854775807:=by omega
 have b3:s.length+3<=9223372036854775807:=by omega
 have b4:s.length+4<=9223372036854775807:=by omega
 obtain⟨m,hm⟩:∃m,Cr.sum s=m:=⟨_,rfl⟩
 have hml:m<4294967296:=by rw[<-hm];exact Cr.sum_lt s
 have w1:IntKind.u8.wrap (m:Int)=((m % 256:Nat):Int):=by rw[IntKind.wrap_u8];omega
 have w2:IntKind.u8.wrap ((m:Int).fdiv 256)=((m / 256 % 256:Nat):Int):=by rw[IntKind.wrap_u8,Int.fdiv_eq_ediv_of_nonneg _ (by omega)];omega
 have w3:IntKind.u8.wrap ((m:Int).fdiv 65536)=((m / 65536 % 256:Nat):Int):=by rw[IntKind.wrap_u8,Int.fdiv_eq_ediv_of_nonneg _ (by omega)];omega
 have w4:IntKind.u8.wrap ((m:Int).fdiv 16777216)=((m / 16777216 % 256:Nat):Int):=by rw[IntKind.wrap_u8,Int.fdiv_eq_ediv_of_nonneg _ (by omega)];omega
 obtain⟨c1,d1⟩:∃c,m % 256=c:=⟨_,rfl⟩
 obtain⟨c2,d2⟩:∃c,m / 256 % 256=c:=⟨_,rfl⟩
 obtain⟨c3,d3⟩:∃c,m / 65536 % 256=c:=⟨_,rfl⟩
 obtain⟨c4,d4⟩:∃c,m / 16777216 % 256=c:=⟨_,rfl⟩
 have hres:Cr.seal s=s++[UInt8.ofNat c1,UInt8.ofNat c2,UInt8.ofNat c3,UInt8.ofNat c4]:=by
   unfold Cr.seal Cr.four;rw[hm,d1,d2,d3,d4]
 rw[d1]at w1;rw[d2]at w2;rw[d3]at w3;rw[d4]at w4;rw[hres];clear d1 d2 d3 d4 hres;have g1:IntKind.i64.wrap 1=1:=by decide
 refine zx hmix hΓ (n:=5) Tryz.func266 ?_ (by simp);unfold Tryz.f266;simp +decide [zZu,h1,h2,hm,a1,a2,a3,a4,b1,b2,b3,b4,w1,w2,w3,w4,q6Z]
def zYJ:zJ:=Zt fun | [.str s]=>if s.length<=1000000000000 then some (.str (Cr.seal s)) else none | _=>none
theorem zPY:Sound Pz 266 zYJ:=by
 refine zU (zD Tryz.func266 rfl (by decide)) fun args v h=>?_;split at h <;> try cases h
 rename_i s;split at h <;> cases h
 exact⟨zWm s ‹_›,by simp,by simp⟩
theorem zSw(n:Nat)(h:n<4294967296):Ct Pz 311 [.int .u32 n] [] (.int .u32 (4294967295 ^^^ n:Nat)) []:=by
 have e:(4294967295:Int)-n=((4294967295 ^^^ n:Nat):Int):=by
   have:4294967295 ^^^ n=4294967295-n:=by
     have h1:(4294967295:Nat)=2 ^ 32-1:=rfl;apply Nat.eq_of_testBit_eq;intro i;have h3:4294967295-n=2 ^ 32-(n+1):=by omega
     rw[h3,Nat.testBit_two_pow_sub_succ (by omega),Nat.testBit_xor,h1,Nat.testBit_two_pow_sub_one];by_cases hi:i<32
     · simp[hi]
     · have h32:32<=i:=by omega
       have:n.testBit i=false:=Nat.testBit_lt_two_pow (rlZ (show n<2 ^ 32 by omega) (Nat.pow_le_pow_right (by omega) h32));simp[hi,this]
   rw[this];omega
 have l:4294967295 ^^^ n<4294967296:=Nat.xor_lt_two_pow (n:=32) (by omega) h;have w:=zEV (n:=((4294967295 ^^^ n:Nat):Int)) (by omega) (by omega);refine zx hmix zC (n:=0) Tryz.func311 ?_ (by simp);unfold Tryz.f311;simp[w,e]
theorem zY2(n b:Nat)(h1:n<4294967296):Ct Pz 312 [.int .u32 n,.int .u32 b] [] (.int .u32 (Cr.bit n b:Nat)) []:=by
 obtain⟨m,hm⟩:∃m,n % 2=m:=⟨_,rfl⟩
 obtain⟨d,hd⟩:∃d,n / 2=d:=⟨_,rfl⟩
 have e1:(n:Int).tmod 2=(m:Int):=by rw[zDT (by omega)];omega
 have e2:(n:Int).tdiv 2=(d:Int):=by rw[zF7 (by omega)];omega
 have e3:=zEV (n:=(d:Int)) (by omega) (by omega);have e4:zCy .xor .u32 (d:Int) 3988292384=((d ^^^ 3988292384:Nat):Int):=zH3 d 3988292384 (by omega) (by omega);unfold Cr.bit;rw[hm,hd];by_cases h:m=b
 · refine zx hmix zC (n:=0) Tryz.func312 ?_ (by simp)
   unfold Tryz.f312;simp[e1,e2,e3,h]
 · have h':¬(m:Int)=b:=by omega
   refine zx hmix zC (n:=0) Tryz.func312 ?_ (by simp);unfold Tryz.f312;simp[e1,e2,e3,e4,h,h']
theorem Cr.bit_lt(n b:Nat)(h:n<4294967296):Cr.bit n b<4294967296:=by
 unfold Cr.bit;split
 · omega
 · exact Nat.xor_lt_two_pow (n:=32) (by omega) (by omega)
theorem Cr.bits_lt:∀(k n c:Nat),n<4294967296->Cr.bits k n c<4294967296
 | 0,_n,_c,h=>h
 | k+1,_n,_c,h=>Cr.bits_lt k _ _ (Cr.bit_lt _ _ h)
def zaB:zJ:=Zt fun | [.int .u32 n,.int .u32 b]=>if 0<=n/\n.toNat<4294967296/\0<=b then some (.int .u32 (Cr.bit n.toNat b.toNat:Nat)) else none | _=>none
theorem zTc:Sound Pz 312 zaB:=by
 refine zU (zD Tryz.func312 rfl (by decide)) fun args v h=>?_;split at h <;> try cases h
 rename_i n b;split at h <;> cases h
 rename_i hc;have h0:=zY2 n.toNat b.toNat (by omega);rw[show ((n.toNat:Nat):Int)=n by omega,show ((b.toNat:Nat):Int)=b by omega]at h0;exact⟨h0,by simp,by simp⟩
def zMJ:zJ:=Zt fun | [.int .u32 n]=>if 0<=n/\n.toNat<4294967296 then some (.int .u32 (4294967295 ^^^ n.toNat:Nat)) else none | _=>none
theorem zMR:Sound Pz 311 zMJ:=by
 refine zU (zD Tryz.func311 rfl (by decide)) fun args v h=>?_;split at h <;> try cases h
 rename_i n;split at h <;> cases h
 rename_i hc;have h0:=zSw n.toNat (by omega);rw[show ((n.toNat:Nat):Int)=n by omega]at h0;exact⟨h0,by simp,by simp⟩
theorem zYC(s:List UInt8)(hs:s.length<=9223372036854775806):Ct Pz 258 [.str s] [] (.int .u32 (Cr.sum s:Nat)) []:=by
 have hΓ:=zB zTc (zB zMR zC);refine zE Tryz.func258 rfl ?_;simp only[Tryz.ntmps258,q7Z,q8Z,qbZ,q9Z,qaZ];refine wS hΓ (by simp;exact wR) ?_;refine wS hΓ (by simp[zMJ];exact wR) ?_;refine Sim.seq ?_;refine wS hΓ (by simp;exact wR) ?_;refine Sim.block (Sim.loopW (fun k:Nat=>k<=s.length)
   (fun k=>[.str s,.top,.top,.int .u32 ((s.take k).foldl Cr.step 4294967295:Nat),.int .i64 k]++qbZ 25 .top)
   (fun _=>[]) (fun k=>s.length-k) 0 (by simp) (by omega) (wW [] (by simp)) fun k hk=>?_)
 by_cases hlt:k<s.length
 · obtain⟨n0,hq⟩:∃q,(s.take k).foldl Cr.step 4294967295=q:=⟨_,rfl⟩
   obtain⟨b,hbk⟩:∃b,s[k]? = some b:=⟨_,q3Z hlt⟩
   have hg:s[k]=b:=by rw[q3Z hlt]at hbk;cases hbk;rfl
   have ln0:n0<4294967296:=by rw[<-hq];exact Cr.steps_lt _ _ (by omega)
   have hnext:(s.take (k+1)).foldl Cr.step 4294967295=Cr.bits 8 n0 b.toNat:=by
     rw[List.take_add_one,hbk,List.foldl_append,hq,Cr.bits_step];rfl
   have hb:=b.toNat_lt;obtain⟨c0,hc0⟩:∃x,b.toNat=x:=⟨_,rfl⟩
   rw[hc0]at hb hnext;have ew:IntKind.u32.wrap (c0:Int)=(c0:Int):=zEV (by omega) (by omega);have hw:IntKind.i64.wrap ((k:Int)+1)=k+1:=zI (by omega) (by omega);rw[hq];clear hbk hq;refine wS hΓ (by simp[hlt];exact wR) ?_;refine Sim.seq (Sim.block ?_);refine wS hΓ (by simp[hlt,hg,hc0,ew];exact wR) ?_;refine wS hΓ (by simp;exact wR) ?_;refine Sim.block (Sim.loopW (fun j:Nat=>j<=8)
     (fun j=>[.str s,.top,.top,.int .u32 (Cr.bits j n0 c0:Nat),.int .i64 k,.int .u32 (c0 / 2 ^ j:Nat),.int .i64 j]++qbZ 23 .top)
     (fun _=>[]) (fun j=>8-j) 0 (by simp) (by omega) (Weak.mk' [] (by decide) (by decide) (by simp[Cr.bits]) (by simp)) fun j hj=>?_)
   by_cases hj8:j<8
   · have hsucc:Cr.bits (j+1) n0 c0=Cr.bit (Cr.bits j n0 c0) (c0 / 2 ^ j % 2):=by rw[Cr.bits_add];rfl
     have hcs:c0 / 2 ^ (j+1)=c0 / 2 ^ j / 2:=by rw[Nat.pow_succ,Nat.div_div_eq_div_mul]
     have hnl:Cr.bits j n0 c0<4294967296:=Cr.bits_lt j n0 c0 ln0;have hcl:c0 / 2 ^ j<=255:=Nat.le_trans (Nat.div_le_self _ _) (by omega);obtain⟨n,hn⟩:∃n,Cr.bits j n0 c0=n:=⟨_,rfl⟩
     obtain⟨c,hc⟩:∃c,c0 / 2 ^ j=c:=⟨_,rfl⟩
     rw[hn,hc]at hsucc;rw[hc]at hcs hcl;rw[hn]at hnl;obtain⟨m,hm⟩:∃x,c % 2=x:=⟨_,rfl⟩
     obtain⟨d,hd⟩:∃x,c / 2=x:=⟨_,rfl⟩
     have em:(c:Int).tmod 2=(m:Int):=by rw[zDT (by omega)];omega
     have ed:(c:Int).tdiv 2=(d:Int):=by rw[zF7 (by omega)];omega
     have ewd:IntKind.u32.wrap (d:Int)=(d:Int):=zEV (by omega) (by omega);have hwj:IntKind.i64.wrap ((j:Int)+1)=j+1:=zI (by omega) (by omega);have hji:(j:Int)<8:=by omega
     rw[hm]at hsucc;rw[hd]at hcs;rw[hn,hc];clear hn hc hm hd;refine wE hΓ (by simp[hji,zaB,hnl,em,ed,ewd,hwj];exact wT) ?_;exact⟨j+1,by omega,Weak.mk' [] (by decide) (by decide) (by simp[hsucc,hcs]) (by simp),by omega⟩
   · obtain rfl:j=8:=by omega
     refine wE hΓ (by simp;exact wT) ?_;refine wE hΓ (by simp[hw];exact wT) ?_;exact⟨k+1,by omega,Weak.mk' [] (by decide) (by decide) (by simp[hnext]) (by simp),by omega⟩
 · obtain rfl:k=s.length:=by omega
   have hq32:s.foldl Cr.step 4294967295<4294967296:=Cr.steps_lt _ _ (by omega);have hsum:Cr.sum s=4294967295 ^^^ s.foldl Cr.step 4294967295:=by unfold Cr.sum Cr.more;rw[Nat.xor_zero]
   rw[List.take_length];obtain⟨q,hq⟩:∃q,s.foldl Cr.step 4294967295=q:=⟨_,rfl⟩
   rw[hq]at hq32 hsum;rw[hq];obtain⟨m,hm⟩:∃m,Cr.sum s=m:=⟨_,rfl⟩
   rw[hm]at hsum;rw[hm];clear hq hm;refine wE hΓ (by simp;exact wT) ?_;refine wE hΓ (by simp[zMJ,hq32,<-hsum];exact wT) ?_;refine ⟨.inr rfl,_,by simp;rfl,wW [] (by simp)⟩
def zYW:zJ:=Zt fun | [.str s]=>if s.length<=9223372036854775806 then some (.int .u32 (Cr.sum s:Nat)) else none | _=>none
theorem zRS:Sound Pz 258 zYW:=by
 refine zU (zD Tryz.func258 rfl (by decide)) fun args v h=>?_;split at h <;> try cases h
 rename_i s;split at h <;> cases h
 exact⟨zYC s ‹_›,by simp,by simp⟩
theorem zWb(m:Nat)(hm:m<4294967296):Ct Pz 257 [.int .u32 m] [] (.str (Cr.four m)) []:=by
 obtain⟨c1,d1⟩:∃c,m % 256=c:=⟨_,rfl⟩
 obtain⟨q2,p2⟩:∃c,m / 256=c:=⟨_,rfl⟩
 obtain⟨c2,d2⟩:∃c,q2 % 256=c:=⟨_,rfl⟩
 obtain⟨q3,p3⟩:∃c,m / 65536=c:=⟨_,rfl⟩
 obtain⟨c3,d3⟩:∃c,q3 % 256=c:=⟨_,rfl⟩
 obtain⟨c4,d4⟩:∃c,m / 16777216=c:=⟨_,rfl⟩
 have t1:(m:Int).tmod 256=(c1:Int):=by rw[zDT (by omega)];omega
 have t2:(m:Int).tdiv 256=(q2:Int):=by rw[zF7 (by omega)];omega
 have t3:(q2:Int).tmod 256=(c2:Int):=by rw[zDT (by omega)];omega
 have t4:(m:Int).tdiv 65536=(q3:Int):=by rw[zF7 (by omega)];omega
 have t5:(q3:Int).tmod 256=(c3:Int):=by rw[zDT (by omega)];omega
 have t6:(m:Int).tdiv 16777216=(c4:Int):=by rw[zF7 (by omega)];omega
 have u1:IntKind.u8.wrap (c1:Int)=c1:=zCw (by omega) (by omega);have u2:IntKind.u8.wrap (c2:Int)=c2:=zCw (by omega) (by omega);have u3:IntKind.u8.wrap (c3:Int)=c3:=zCw (by omega) (by omega);have u4:IntKind.u8.wrap (c4:Int)=c4:=zCw (by omega) (by omega);have v1:IntKind.u32.wrap (q2:Int)=q2:=zEV (by omega) (by omega);have v2:IntKind.u32.wrap (q3:Int)=q3:=zEV (by omega) (by omega);have v3:IntKind.u32.wrap (c4:Int)=c4:=zEV (by omega) (by omega);have hres:Cr.four m=[UInt8.ofNat c1,UInt8.ofNat c2,UInt8.ofNat c3,UInt8.ofNat c4]:=by
   unfold Cr.four;rw[d1,p2,d2,p3,d3,d4,show c4 % 256=c4 by omega]
 rw[hres];clear hres d1 d2 d3 d4 p2 p3;refine zx hmix zC (n:=0) Tryz.func257 ?_ (by simp);unfold Tryz.f257;simp[t1,t2,t3,t4,t5,t6,u1,u2,u3,u4,v1,v2,v3]
def zYO:zJ:=Zt fun | [.int .u32 n]=>if 0<=n/\n.toNat<4294967296 then some (.str (Cr.four n.toNat)) else none | _=>none
theorem zRJ:Sound Pz 257 zYO:=by
 refine zU (zD Tryz.func257 rfl (by decide)) fun args v h=>?_;split at h <;> try cases h
 rename_i n;split at h <;> cases h
 rename_i hc;have h0:=zWb n.toNat (by omega);rw[show ((n.toNat:Nat):Int)=n by omega]at h0;exact⟨h0,by simp,by simp⟩
theorem zUB(s:List UInt8)(hs:s.length<=1000000000000):Ct Pz 183 [.str s] [] (.str (Cr.seal s)) []:=by
 have hΓ:=zB zRS (zB zRJ zC);have h1:s.length<=9223372036854775806:=by omega
 have h2:s.length+4<=9223372036854775807:=by omega
 have h3:=Cr.sum_lt s;have hse:Cr.seal s=s++Cr.four (Cr.sum s):=rfl;obtain⟨m,hm⟩:∃m,Cr.sum s=m:=⟨_,rfl⟩
 rw[hm]at h3 hse;obtain⟨f,hf⟩:∃f,Cr.four m=f:=⟨_,rfl⟩
 have h4:f.length=4:=by rw[<-hf];rfl
 rw[hf]at hse;rw[hse];clear hse;refine zx hmix hΓ (n:=0) Tryz.func183 ?_ (by simp);unfold Tryz.f183;simp[zYW,zYO,h1,h2,h3,h4,hm,hf]
def zU8:zJ:=Zt fun | [.str s]=>if s.length<=1000000000000 then some (.str (Cr.seal s)) else none | _=>none
theorem zOp:Sound Pz 183 zU8:=by
 refine zU (zD Tryz.func183 rfl (by decide)) fun args v h=>?_;split at h <;> try cases h
 rename_i s;split at h <;> cases h
 exact⟨zUB s ‹_›,by simp,by simp⟩
end Go.Proofs.YtfhidaoiofeooaaGreatDoor
namespace Go.Proofs.YtfhidaoiofeooaaGreatDoor
open _root_.Go.Proofs.Tryz renaming prog → Pz
end Go.Proofs.YtfhidaoiofeooaaGreatDoor
namespace Go.Proofs.YtfhidaoiofeooaaGreatDoor
open _root_.Go.Proofs.Tryz renaming prog → Pz
open Go
set_option maxRecDepth 100000
def Fr.put(p:List UInt8):List UInt8×Int:=if p.length=0\/300<p.length then ([],4) else (Cr.seal (Vy.enc p.length++p),0)
theorem Vy.put_one(n:Nat):Vy.put [n]=Vy.enc n:=by simp[Vy.put]
theorem zX0(p:List UInt8)(hp:p.length<=1000000000):Ct Pz 198 [.str p] [] (.tuple [.str (Fr.put p).1,.int .i64 (Fr.put p).2]) []:=by
 have hΓ:=zp hmix (zB zK5 (zB zPY zC)) 0 [265] 1;have w1:IntKind.u64.wrap (p.length:Int)=p.length:=zIr (by omega) (by omega);obtain⟨n,hn⟩:∃n,p.length=n:=⟨_,rfl⟩
 refine zx hmix hΓ (n:=0) Tryz.func198 ?_ (by simp);unfold Tryz.f198;by_cases h4:n=0\/300<n
 · have e:Fr.put p=([],4):=by unfold Fr.put;rw[hn,if_pos h4]
   rw[e];rw[hn]at w1;rcases Nat.eq_zero_or_pos n with hz | hz
   · subst hz
     clear h4;simp[Tryz.f265,hn]
   · have hz':¬n<=300:=by omega
     have hz2:¬(n:Int)<=300:=by omega
     clear h4;simp[Tryz.f265,hn,w1,hz,hz2]
 · have hz:0<n:=by omega
   have hz':n<=300:=by omega
   have hz2:(n:Int)<=300:=by omega
   have he9:=Vy.size_bd n (by omega);rw[<-Vy.enc_length]at he9;have hpt:=Vy.put_one n;obtain⟨e,he⟩:∃e,Vy.enc n=e:=⟨_,rfl⟩
   rw[he]at he9 hpt;have l1:e.length+n<=9223372036854775807:=by omega
   have l2:e.length+n<=1000000000000:=by omega
   have l3:n<18446744073709551616:=by omega
   obtain⟨q,hq⟩:∃q,Cr.seal (e++p)=q:=⟨_,rfl⟩
   have e':Fr.put p=(q,0):=by unfold Fr.put;rw[hn,if_neg h4,he,hq]
   rw[e'];rw[hn]at w1;clear h4 he;simp[Tryz.f265,hn,w1,hz,hz2,zRl,zYJ,hpt,l1,l2,l3,hq]
def zJ6:zJ:=Zt fun | [.str p]=>if p.length<=1000000000 then some (.tuple [.str (Fr.put p).1,.int .i64 (Fr.put p).2]) else none | _=>none
theorem zQj:Sound Pz 198 zJ6:=by
 refine zU (zD Tryz.func198 rfl (by decide)) fun args v h=>?_;split at h <;> try cases h
 rename_i p;split at h <;> cases h
 exact⟨zX0 p ‹_›,by simp,by simp⟩
theorem zUa(p:List UInt8)(hp:p.length<=1000000000):Ct Pz 87 [.str p] [] (.tuple [.str (Fr.put p).1,.int .i64 (Fr.put p).2]) []:=by
 have hΓ:=zB zJm (zB zOp zC);have w1:IntKind.u64.wrap (p.length:Int)=p.length:=zIr (by omega) (by omega);obtain⟨n,hn⟩:∃n,p.length=n:=⟨_,rfl⟩
 refine zx hmix hΓ (n:=0) Tryz.func87 ?_ (by simp);unfold Tryz.f87;by_cases h4:n=0\/300<n
 · have e:Fr.put p=([],4):=by unfold Fr.put;rw[hn,if_pos h4]
   rw[e];rw[hn]at w1;rcases Nat.eq_zero_or_pos n with hz | hz
   · subst hz
     clear h4;simp[hn]
   · have hz':300<n:=by omega
     have hz2:300<(n:Int):=by omega
     have hz0:¬n=0:=by omega
     have hb0:((n:Int)==0)=false:=by simp;omega
     clear h4;simp[hn,hz2,hb0]
 · have hz0:¬n=0:=by omega
   have hb0:((n:Int)==0)=false:=by simp;omega
   have hz':¬300<n:=by omega
   have hz2:¬300<(n:Int):=by omega
   have he9:=Vy.size_bd n (by omega);rw[<-Vy.enc_length]at he9;obtain⟨e,he⟩:∃e,Vy.enc n=e:=⟨_,rfl⟩
   rw[he]at he9;have l1:e.length+n<=9223372036854775807:=by omega
   have l2:e.length+n<=1000000000000:=by omega
   have l3:n<18446744073709551616:=by omega
   obtain⟨q,hq⟩:∃q,Cr.seal (e++p)=q:=⟨_,rfl⟩
   have e':Fr.put p=(q,0):=by unfold Fr.put;rw[hn,if_neg h4,he,hq]
   rw[e'];rw[hn]at w1;clear h4;simp[hn,w1,hb0,hz2,zRg,zU8,he,l1,l2,l3,hq]
theorem zPK:Sound Pz 87 zJ6:=by
 refine zU (zD Tryz.func87 rfl (by decide)) fun args v h=>?_;split at h <;> try cases h
 rename_i p;split at h <;> cases h
 exact⟨zUa p ‹_›,by simp,by simp⟩
@[simp] theorem zSb(k:Nat):∀l:List (List UInt8),zA9 k (l.map AV.str)=l.map AV.str
 | []=>rfl
 | x::l=>by simp[zSb k l]
end Go.Proofs.YtfhidaoiofeooaaGreatDoor
namespace Go.Proofs.YtfhidaoiofeooaaGreatDoor
open _root_.Go.Proofs.Tryz renaming prog → Pz
theorem Fr.put_ok(p:List UInt8):(Fr.put p).2=0↔p.length≠0/\p.length<=300:=by
 unfold Fr.put;split
 · rename_i h
   exact⟨fun h=>absurd h (by decide),fun _=>by omega⟩
 · rename_i h
   exact⟨fun _=>by omega,fun _=>rfl⟩
theorem Fr.put_eq(p:List UInt8)(h:p.length≠0/\p.length<=300):Fr.put p=(Cr.seal (Vy.enc p.length++p),0):=by
 unfold Fr.put;rw[if_neg (by omega)]
theorem Fr.put_no(p:List UInt8)(h:¬(p.length≠0/\p.length<=300)):Fr.put p=([],4):=by
 unfold Fr.put;rw[if_pos (by omega)]
theorem Fr.put_length(p:List UInt8)(h:p.length≠0/\p.length<=300):(Fr.put p).1.length=Vy.size p.length+p.length+4:=by
 rw[Fr.put_eq p h,Cr.seal_length,qdZ,Vy.enc_length]
theorem Fr.size_bd(p:List UInt8)(h:p.length≠0/\p.length<=300):1<=Vy.size p.length/\Vy.size p.length<=9:=Vy.size_bd _ (by omega)
theorem Fr.put_le(p:List UInt8):(Fr.put p).1.length<=313:=by
 by_cases h:p.length≠0/\p.length<=300
 · rw[Fr.put_length p h]
   have:=Fr.size_bd p h;omega
 · rw[Fr.put_no p h];simp
def Fr.ok(p:List UInt8):Prop:=p.length≠0/\p.length<=300
end Go.Proofs.YtfhidaoiofeooaaGreatDoor
