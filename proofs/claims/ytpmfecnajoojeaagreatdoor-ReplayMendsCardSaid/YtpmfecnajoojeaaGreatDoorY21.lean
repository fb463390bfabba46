/- Parts of the proof of ReplayMends: lemmas, each with its own conditions. -/
import Derived.Test.YtpmfecnajoojeaaGreatDoorY8
set_option maxHeartbeats 64000000
open List renaming getD_eq_getElem?_getD → q2Z, getElem?_eq_getElem → q3Z, take_of_length_le → q6Z, length_cons → q7Z, length_nil → q8Z, cons_append → q9Z, nil_append → qaZ, replicate → qbZ, mem_of_getElem? → qcZ, length_append → qdZ, append_assoc → qeZ, length_take → qjZ, length_drop → qkZ, getElem?_map → qzZ, getElem?_drop → r5Z, take_append_drop → r6Z, length_map → r7Z, getElem?_eq_none → s4Z, drop_append → sdZ, take_append → seZ
open Bool renaming and_eq_true → qrZ
open Nat renaming lt_of_lt_of_le → rlZ, add_sub_cancel_left → s3Z, min_eq_left → sfZ
namespace Go.Proofs.YtpmfecnajoojeaaGreatDoor
open _root_.Go.Proofs.Tryz renaming prog → Pz
set_option maxRecDepth 100000
def Cr.tab:List Nat:=[0,498536548,997073096,651767980,1994146192,1802195444,1303535960,1342533948,3988292384,4027552580,3604390888,3412177804,2607071920,2262029012,2685067896,3183342108]
def Cr.half(n h:Nat):Nat:=(n / 16) ^^^ Cr.tab.getD ((n % 16) ^^^ h) 0
def Cr.step(n:Nat)(b:UInt8):Nat:=Cr.half (Cr.half n (b.toNat % 16)) (b.toNat / 16)
def Cr.more(n:Nat)(s:List UInt8):Nat:=4294967295 ^^^ s.foldl Cr.step (4294967295 ^^^ n)
def Cr.sum(s:List UInt8):Nat:=Cr.more 0 s
def Cr.four(n:Nat):List UInt8:=[UInt8.ofNat (n % 256),UInt8.ofNat (n / 256 % 256),UInt8.ofNat (n / 65536 % 256),UInt8.ofNat (n / 16777216 % 256)]
def Cr.seal(s:List UInt8):List UInt8:=s++Cr.four (Cr.sum s)
@[simp] theorem Cr.tab_length:Cr.tab.length=16:=rfl
@[simp] theorem Cr.tab_take:List.take 16 (Cr.tab.map aW)=Cr.tab.map aW:=rfl
theorem zXD(a b:Nat)(ha:a<256)(hb:b<256):zCU .xor .u8 (a:Int) (b:Int)=((a ^^^ b:Nat):Int):=by
 have h1:(BitVec.ofInt 8 (a:Int)).toNat=a:=by
   rw[BitVec.ofInt_natCast,BitVec.toNat_ofNat];exact Nat.mod_eq_of_lt (by omega)
 have h2:(BitVec.ofInt 8 (b:Int)).toNat=b:=by
   rw[BitVec.ofInt_natCast,BitVec.toNat_ofNat];exact Nat.mod_eq_of_lt (by omega)
 show IntKind.u8.wrap ((BitVec.ofInt 8 (a:Int) ^^^ BitVec.ofInt 8 (b:Int)).toNat:Int)=_;rw[BitVec.toNat_xor,h1,h2,IntKind.wrap_u8];have:=Nat.xor_lt_two_pow (n:=8) ha hb;omega
theorem zHO(a b:Nat)(ha:a<4294967296)(hb:b<4294967296):zCU .xor .u32 (a:Int) (b:Int)=((a ^^^ b:Nat):Int):=by
 have h1:(BitVec.ofInt 32 (a:Int)).toNat=a:=by
   rw[BitVec.ofInt_natCast,BitVec.toNat_ofNat];exact Nat.mod_eq_of_lt (by omega)
 have h2:(BitVec.ofInt 32 (b:Int)).toNat=b:=by
   rw[BitVec.ofInt_natCast,BitVec.toNat_ofNat];exact Nat.mod_eq_of_lt (by omega)
 show IntKind.u32.wrap ((BitVec.ofInt 32 (a:Int) ^^^ BitVec.ofInt 32 (b:Int)).toNat:Int)=_;rw[BitVec.toNat_xor,h1,h2,IntKind.wrap_u32];have:=Nat.xor_lt_two_pow (n:=32) ha hb;omega
theorem zKE(a:Nat)(ha:a<256):zCU .and .u8 (a:Int) 15=((a % 16:Nat):Int):=by
 have h1:(BitVec.ofInt 8 (a:Int)).toNat=a:=by
   rw[BitVec.ofInt_natCast,BitVec.toNat_ofNat];exact Nat.mod_eq_of_lt (by omega)
 show IntKind.u8.wrap ((BitVec.ofInt 8 (a:Int) &&& BitVec.ofInt 8 15).toNat:Int)=_
 rw[BitVec.toNat_and,h1,show (BitVec.ofInt 8 15).toNat=2 ^ 4-1 from rfl,Nat.and_two_pow_sub_one_eq_mod,IntKind.wrap_u8]
 omega
theorem Cr.tab_lt(i:Nat):Cr.tab.getD i 0<4294967296:=by
 by_cases h:i<16
 · have:∀j<16,Cr.tab.getD j 0<4294967296:=by decide
   exact this i h
 · rw[q2Z,s4Z (by simp[Cr.tab];omega)];decide
theorem Cr.half_lt(n h:Nat)(hn:n<4294967296):Cr.half n h<4294967296 :=
 Nat.xor_lt_two_pow (n:=32) (by omega) (Cr.tab_lt _)
theorem Cr.fold_lt(hs:List Nat):∀(n:Nat),n<4294967296->hs.foldl Cr.half n<4294967296:=by
 induction hs with
 | nil=>exact fun n h=>h
 | cons x xs ih=>exact fun n h=>ih _ (Cr.half_lt n x h)
theorem Cr.step_lt(n:Nat)(b:UInt8)(h:n<4294967296):Cr.step n b<4294967296:=Cr.half_lt _ _ (Cr.half_lt _ _ h)
theorem Cr.steps_lt(s:List UInt8):∀(n:Nat),n<4294967296->s.foldl Cr.step n<4294967296:=by
 induction s with
 | nil=>exact fun n h=>h
 | cons x xs ih=>exact fun n h=>ih _ (Cr.step_lt n x h)
theorem Cr.more_lt(n:Nat)(s:List UInt8)(h:n<4294967296):Cr.more n s<4294967296 :=
 Nat.xor_lt_two_pow (n:=32) (by omega) (Cr.steps_lt s _ (Nat.xor_lt_two_pow (n:=32) (by omega) h))
theorem Cr.sum_lt(s:List UInt8):Cr.sum s<4294967296:=Cr.more_lt 0 s (by omega)
theorem Cr.seal_length(s:List UInt8):(Cr.seal s).length=s.length+4:=by simp[Cr.seal,Cr.four]
def Cr.bit(n b:Nat):Nat:=if n % 2=b then n / 2 else (n / 2) ^^^ 3988292384
def Cr.bits:Nat->Nat->Nat->Nat
 | 0,n,_=>n
 | k+1,n,c=>Cr.bits k (Cr.bit n (c % 2)) (c / 2)
theorem zTi(a b:Nat):(a ^^^ b) / 2=(a / 2) ^^^ (b / 2):=by
 have:=@Nat.xor_div_two a b;exact this
theorem Cr.bit_xor(x y b:Nat)(hy:y % 2=0):Cr.bit (x ^^^ y) b=Cr.bit x b ^^^ (y / 2):=by
 unfold Cr.bit
 have h1:(x ^^^ y) % 2=x % 2:=by
   have:=Nat.xor_mod_two_pow (a:=x) (b:=y) (n:=1);simp only[Nat.pow_one]at this;rw[this,hy,Nat.xor_zero]
 rw[h1,zTi];split
 · rfl
 · rw[Nat.xor_assoc,Nat.xor_assoc,Nat.xor_comm (y / 2)]
theorem Cr.bits_xor:∀(k n c m:Nat),Cr.bits k (n ^^^ (2 ^ k*m)) c=Cr.bits k n c ^^^ m
 | 0,n,c,m=>by simp[Cr.bits]
 | k+1,n,c,m=>by
   have e:2 ^ (k+1)*m=2*(2 ^ k*m):=by rw[Nat.pow_succ];rw[Nat.mul_comm (2 ^ k) 2,Nat.mul_assoc]
   simp only[Cr.bits]
   rw[Cr.bit_xor _ _ _ (by rw[e];omega),e,Nat.mul_div_cancel_left _ (by omega),Cr.bits_xor k]
theorem Cr.four_bits(n h:Nat)(hh:h<16):Cr.bits 4 n h=Cr.half n h:=by
 have e:n=(n % 16) ^^^ (2 ^ 4*(n / 16)):=by
   have h1:n=2 ^ 4*(n / 16)+n % 16:=by omega
   have h2:=Nat.two_pow_add_eq_or_of_lt (i:=4) (b:=n % 16) (by omega) (n / 16)
   have h3:2 ^ 4*(n / 16) ||| n % 16=(2 ^ 4*(n / 16)) ^^^ (n % 16):=by
     apply Nat.eq_of_testBit_eq;intro i;rw[Nat.testBit_or,Nat.testBit_xor,Nat.testBit_two_pow_mul];by_cases hi:i<4
     · have:¬(4<=i):=by omega
       simp[this]
     · have:(n % 16).testBit i=false:=Nat.testBit_lt_two_pow (rlZ (show n % 16<2 ^ 4 by omega) (Nat.pow_le_pow_right (by omega) (by omega)))
       simp[this]
   rw[Nat.xor_comm,<-h3,<-h2];exact h1
 have key:∀r<16,∀h<16,Cr.bits 4 r h=Cr.tab.getD (r ^^^ h) 0:=by decide
 rw[e,Cr.bits_xor,key _ (by omega) h hh,<-e]
 unfold Cr.half;rw[Nat.xor_comm]
theorem Cr.bits_add:∀(k m n c:Nat),Cr.bits (k+m) n c=Cr.bits m (Cr.bits k n c) (c / 2 ^ k)
 | 0,m,n,c=>by simp[Cr.bits]
 | k+1,m,n,c=>by
   rw[show k+1+m=(k+m)+1 by omega]
   simp only[Cr.bits];rw[Cr.bits_add k,Nat.div_div_eq_div_mul,Nat.pow_succ,Nat.mul_comm 2]
theorem Cr.bits_mod:∀(k n c:Nat),Cr.bits k n (c % 2 ^ k)=Cr.bits k n c
 | 0,n,c=>rfl
 | k+1,n,c=>by
   simp only[Cr.bits]
   have h1:c % 2 ^ (k+1) % 2=c % 2:=Nat.mod_mod_of_dvd c ⟨2 ^ k,by rw[Nat.pow_succ,Nat.mul_comm]⟩
   have h2:c % 2 ^ (k+1) / 2=(c / 2) % 2 ^ k:=by
     rw[Nat.pow_succ,Nat.mul_comm,Nat.mod_mul_right_div_self]
   rw[h1,h2,Cr.bits_mod k]
theorem Cr.bits_step(n:Nat)(b:UInt8):Cr.bits 8 n b.toNat=Cr.step n b:=by
 have hb:=b.toNat_lt;unfold Cr.step
 rw[show (8:Nat)=4+4 from rfl,Cr.bits_add,<-Cr.bits_mod 4 n b.toNat,Cr.four_bits _ _ (by omega),Cr.four_bits _ _ (by omega)]
section
open Go
theorem zTK:Ct Pz 264 [] [] (.agg (Cr.tab.map aW)) []:=by
 refine zLG hmix zD (n:=0) Tryz.func264 (v1:=.agg (Cr.tab.map aW)) (H1:=[.cells true (Cr.tab.map aW)]) ?_ (zGJ (by simp))
 unfold Tryz.f264;simp[Cr.tab,aW]
def zTa:zc:=ZP fun | []=>some (.agg (Cr.tab.map aW)) | _=>none
theorem zMs:Sound Pz 264 zTa:=by
 refine zP (zH Tryz.func264 rfl (by decide)) fun args v h=>?_
 split at h <;> cases h
 exact⟨zTK,by simp,by simp⟩
theorem zTT(n:Nat)(hs:List Nat)(hh:∀h∈hs,h<16)(hn:n<4294967296)(hl:hs.length<=1000) :
   Ct Pz 265 [.agg (Cr.tab.map aW),.int .u32 n,.slice 0 0 hs.length 1 false] [.cells false (hs.map aB)] (.int .u32 (hs.foldl Cr.half n:Nat)) [.cells false (hs.map aB)]:=by
 have hwr:∀k:Nat,k<hs.length->IntKind.i64.wrap ((k:Int)+1)=k+1:=fun k hk=>zX (by omega) (by omega)
 obtain⟨T,hT⟩:∃T,Cr.tab.map aW=T:=⟨_,rfl⟩
 have hTl:T.length=16:=by rw[<-hT];rfl
 have hTf:zZ T=true:=by rw[<-hT];simp
 have hTg:∀i<16,T[i]? = some (.int .u32 (Cr.tab.getD i 0:Nat)):=by
   intro i hi
   rw[<-hT,qzZ,q3Z (by simp[Cr.tab];omega)]
   simp[aW,q3Z (show i<Cr.tab.length by simp[Cr.tab];omega)]
 rw[hT];refine zK Tryz.func265 rfl ?_;simp only[Tryz.ntmps265,q7Z,q8Z,qbZ,q9Z,qaZ]
 refine Sim.step hmix zD (n:=0) (by simp;exact⟨rfl,rfl⟩) (by simp) ?_
 refine Sim.seq ?_
 refine Sim.step hmix zD (n:=0) (by simp;exact⟨rfl,rfl⟩) (by simp) ?_
 refine Sim.block (Sim.loopW (fun k:Nat=>k<=hs.length)
   (fun k=>[.agg T,.int .u32 ((hs.take k).foldl Cr.half n:Nat),.slice 0 0 hs.length 1 false,.ptr 1 0,.top,.top,.int .u32 0,.top,.top,.slice 0 0 hs.length 1 false,.int .i64 hs.length,.int .i64 k]++qbZ 15 .top)
   (fun _=>[.cells false (hs.map aB),.cells true T]) (fun k=>hs.length-k) 0 (by simp) (by omega) (Weak.mk' [0,1] (by decide) (by decide) (by simp[hTf]) (by simp[hTf])) fun k hk=>?_)
 by_cases hlt:k<hs.length
 · obtain⟨q,hq⟩:∃q,(hs.take k).foldl Cr.half n=q:=⟨_,rfl⟩
   obtain⟨h,hhk⟩:∃h,hs[k]? = some h:=⟨_,q3Z hlt⟩
   have hq32:q<4294967296:=by rw[<-hq];exact Cr.fold_lt _ _ hn
   have hh16:h<16:=hh h (qcZ hhk)
   have hnext:(hs.take (k+1)).foldl Cr.half n=Cr.half q h:=by
     rw[List.take_add_one,hhk,List.foldl_append,hq];rfl
   obtain⟨a1,ha1⟩:∃a1,q % 256=a1:=⟨_,rfl⟩;obtain⟨a2,ha2⟩:∃a2,a1 % 16=a2:=⟨_,rfl⟩;obtain⟨a3,ha3⟩:∃a3,a2 ^^^ h=a3:=⟨_,rfl⟩;obtain⟨a4,ha4⟩:∃a4,Cr.tab.getD a3 0=a4:=⟨_,rfl⟩;obtain⟨a5,ha5⟩:∃a5,q / 16=a5:=⟨_,rfl⟩
   have l3:a3<16:=by rw[<-ha3];exact Nat.xor_lt_two_pow (n:=4) (by omega) hh16
   have l4:a4<4294967296:=by rw[<-ha4];exact Cr.tab_lt _
   have f1:IntKind.u8.wrap (q:Int)=(a1:Int):=by rw[IntKind.wrap_u8];omega
   have f2:zCU .and .u8 (a1:Int) 15=(a2:Int):=by rw[zKE a1 (by omega),ha2]
   have f3:zCU .xor .u8 (a2:Int) (h:Int)=(a3:Int):=by rw[zXD a2 h (by omega) (by omega),ha3]
   have f4:T[a3]? = some (.int .u32 (a4:Nat)):=by rw[hTg a3 l3,ha4]
   have f5:(q:Int).fdiv 16=(a5:Int):=by rw[Int.fdiv_eq_ediv_of_nonneg _ (by omega)];omega
   have f6:zCU .xor .u32 (a5:Int) (a4:Int)=((a5 ^^^ a4:Nat):Int):=zHO a5 a4 (by omega) l4
   have hres:Cr.half q h=a5 ^^^ a4:=by
     unfold Cr.half
     rw[ha5,show q % 16=a2 by omega,ha3,ha4]
   have l3':(a3:Int)<16:=by omega
   have hg:hs[k]=h:=by rw[q3Z hlt]at hhk;cases hhk;rfl
   have hw:=hwr k hlt;rw[hq];clear hT hhk hq ha1 ha2 ha3 ha4 ha5 hTg
   refine Sim.exec hmix zD (n:=0) (by simp[f1,f2,f3,f4,f5,f6,hw,hlt,l3',hg,aB];exact⟨rfl,rfl,rfl⟩) (by simp) ?_
   exact⟨k+1,by omega,Weak.mk' [0,1] (by decide) (by decide) (by simp[hnext,hres,hTf]) (by simp[hTf]),by omega⟩
 · obtain rfl:k=hs.length:=by omega
   refine Sim.exec hmix zD (n:=0) (by simp;exact⟨rfl,rfl,rfl⟩) (by simp) ?_
   refine Sim.exec hmix zD (n:=0) (by simp;exact⟨rfl,rfl,rfl⟩) (by simp) ?_
   refine ⟨.inr rfl,_,by simp;rfl,Weak.mk' [0] (by decide) (by decide) (by simp) (by simp)⟩
def zT2:zc:=zAZ fun args H=>match args with
 | [.agg T,.int .u32 n,.slice b off len 1 _]=>match H[b]? with
   | some (.cells _ l)=>match zBT .u8 ((l.drop off).take len) with
     | some hs=>if zBL T (Cr.tab.map aW)=true/\off+len<=l.length/\(hs.all (· < 16))=true/\0<=n/\n.toNat<4294967296/\len<=1000 then some (.int .u32 (hs.foldl Cr.half n.toNat:Nat)) else none
     | none=>none
   | _=>none
 | _=>none
theorem zOG:Sound Pz 265 zT2:=by
 refine Zx (zH Tryz.func265 rfl (by decide)) fun args H v h=>?_
 split at h <;> try cases h
 rename_i T n b off len c
 split at h <;> try cases h
 rename_i o l hb
 split at h <;> try cases h
 rename_i hs hhs
 split at h <;> cases h
 rename_i hc;obtain⟨c1,c2,c3,c4,c5,c6⟩:=hc;obtain rfl:=zAF c1;have e:=zGS hhs
 have hlen:hs.length=len:=by have:=congrArg List.length e;simp at this;omega
 have h0:=zTT n.toNat hs (by simpa using c3) (by omega) (by omega)
 rw[hlen,show ((n.toNat:Nat):Int)=n by omega]at h0
 refine zE1 h0 rfl [(b,off)] (by simp) ?_
 simp only[winH,hb]
 refine ⟨⟨by simp;omega,?_⟩,by simp,trivial⟩
 rw[r7Z,hlen,e];rfl
theorem zVp(n:Nat)(s:List UInt8)(hn:n<4294967296)(hs:s.length<=9223372036854775806):Ct Pz 223 [.int .u32 n,.str s] [] (.int .u32 (Cr.more n s:Nat)) []:=by
 have hΓ:=zC zMs (zC zOG zD);obtain⟨c,hc⟩:∃c:Nat,4294967295 ^^^ n=c:=⟨_,rfl⟩
 have hcl:c<4294967296:=by rw[<-hc];exact Nat.xor_lt_two_pow (n:=32) (by omega) hn
 have fn:zCU .xor .u32 4294967295 (n:Int)=(c:Int):=by rw[<-hc];exact zHO 4294967295 n (by omega) hn
 refine zK Tryz.func223 rfl ?_;simp only[Tryz.ntmps223,q7Z,q8Z,qbZ,q9Z,qaZ]
 refine Sim.step hmix hΓ (n:=0) (by simp;exact⟨rfl,rfl⟩) (by simp) ?_
 refine Sim.step hmix hΓ (n:=0) (by simp[zTa,Cr.tab,aW];exact⟨rfl,rfl⟩) (by simp) ?_
 refine Sim.step hmix hΓ (n:=0) (by simp[fn];exact⟨rfl,rfl⟩) (by simp) ?_
 refine Sim.seq ?_
 refine Sim.step hmix hΓ (n:=0) (by simp;exact⟨rfl,rfl⟩) (by simp) ?_
 refine Sim.block (Sim.loopW (fun k:Nat=>k<=s.length)
   (fun k=>[.top,.str s,.top,.top,.top,.ptr 0 0,.int .u32 ((s.take k).foldl Cr.step c:Nat),.top,.top,.top,.top,.top,.int .i64 s.length,.int .i64 k]++qbZ 17 .top)
   (fun _=>[.cells true (Cr.tab.map aW)]) (fun k=>s.length-k) 0 (by simp) (by omega) (Weak.mk' [0] (by decide) (by decide) (by simp) (by simp[Cr.tab,aW])) fun k hk=>?_)
 by_cases hlt:k<s.length
 · obtain⟨q,hq⟩:∃q,(s.take k).foldl Cr.step c=q:=⟨_,rfl⟩
   obtain⟨b,hbk⟩:∃b,s[k]? = some b:=⟨_,q3Z hlt⟩
   have hg:s[k]=b:=by rw[q3Z hlt]at hbk;cases hbk;rfl
   have hq32:q<4294967296:=by rw[<-hq];exact Cr.steps_lt _ _ hcl
   have hnext:(s.take (k+1)).foldl Cr.step c=Cr.step q b:=by
     rw[List.take_add_one,hbk,List.foldl_append,hq];rfl
   obtain⟨h1,e1⟩:∃h:Nat,b.toNat % 16=h:=⟨_,rfl⟩;obtain⟨h2,e2⟩:∃h:Nat,b.toNat / 16=h:=⟨_,rfl⟩;have hb:=b.toNat_lt
   have f1:zCU .and .u8 (b.toNat:Int) 15=(h1:Int):=by rw[zKE b.toNat hb,e1]
   have f2:(b.toNat:Int).fdiv 16=(h2:Int):=by rw[Int.fdiv_eq_ediv_of_nonneg _ (by omega)];omega
   have l1:h1<16:=by omega
   have l2:h2<16:=by omega
   have hw:IntKind.i64.wrap ((k:Int)+1)=k+1:=zX (by omega) (by omega)
   have hst:Cr.step q b=Cr.half (Cr.half q h1) h2:=by unfold Cr.step;rw[e1,e2]
   rw[hq];clear hq hbk e1 e2 hb
   refine Sim.exec hmix hΓ (n:=0) (by simp +decide [f1,f2,l1,l2,hw,hlt,hg,zT2,hq32];exact⟨rfl,rfl,rfl⟩) (by simp) ?_
   exact⟨k+1,by omega,Weak.mk' [0] (by decide) (by decide) (by simp[hnext,hst]) (by simp),by omega⟩
 · obtain rfl:k=s.length:=by omega
   have hq32:s.foldl Cr.step c<4294967296:=Cr.steps_lt _ _ hcl
   have fz:zCU .xor .u32 4294967295 ((s.foldl Cr.step c:Nat):Int)=((Cr.more n s:Nat):Int):=by
     unfold Cr.more;rw[hc];exact zHO 4294967295 _ (by omega) hq32
   refine Sim.exec hmix hΓ (n:=0) (by simp;exact⟨rfl,rfl,rfl⟩) (by simp) ?_
   refine Sim.exec hmix hΓ (n:=0) (by simp[fz];exact⟨rfl,rfl,rfl⟩) (by simp) ?_
   refine ⟨.inr rfl,_,by simp;rfl,Weak.mk' [] (by decide) (by decide) (by simp) (by simp)⟩
def zWT:zc:=ZP fun | [.int .u32 n,.str s]=>if 0<=n/\n.toNat<4294967296/\s.length<=9223372036854775806 then some (.int .u32 (Cr.more n.toNat s:Nat)) else none | _=>none
theorem zPx:Sound Pz 223 zWT:=by
 refine zP (zH Tryz.func223 rfl (by decide)) fun args v h=>?_
 split at h <;> try cases h
 rename_i n s
 split at h <;> cases h
 rename_i hc
 have h0:=zVp n.toNat s (by omega) hc.2.2
 rw[show ((n.toNat:Nat):Int)=n by omega]at h0
 exact⟨h0,by simp,by simp⟩
theorem zXT(s:List UInt8)(hs:s.length<=9223372036854775806):Ct Pz 154 [.str s] [] (.int .u32 (Cr.sum s:Nat)) []:=by
 have hΓ:=zC zPx zD
 refine zLG hmix hΓ (n:=0) Tryz.func154 (v1:=.int .u32 (Cr.sum s:Nat)) (H1:=[]) ?_ (zGJ (by simp))
 unfold Tryz.f154 Cr.sum;simp[zWT,hs]
def zXu:zc:=ZP fun | [.str s]=>if s.length<=9223372036854775806 then some (.int .u32 (Cr.sum s:Nat)) else none | _=>none
theorem zRP:Sound Pz 154 zXu:=by
 refine zP (zH Tryz.func154 rfl (by decide)) fun args v h=>?_
 split at h <;> try cases h
 rename_i s
 split at h <;> cases h
 exact⟨zXT s ‹_›,by simp,by simp⟩
theorem zVR(s:List UInt8)(hs:s.length<=1000000000000):Ct Pz 86 [.str s] [] (.str (Cr.seal s)) []:=by
 have hΓ:=zC zRP zD
 have h1:s.length<=9223372036854775806:=by omega
 have h2:s.length<=9223372036854775807:=by omega
 have a1:s.length+1<=140737488355328:=by omega
 have a2:s.length+2<=140737488355328:=by omega
 have a3:s.length+3<=140737488355328:=by omega
 have a4:s.length+4<=140737488355328:=by omega
 have b1:s.length+1<=9223372036854775807:=by omega
 have b2:s.length+2<=9223372036854775807:=by omega
 have b3:s.length+3<=9223372036854775807:=by omega
 have b4:s.length+4<=9223372036854775807:=by omega
 obtain⟨m,hm⟩:∃m,Cr.sum s=m:=⟨_,rfl⟩
 have hml:m<4294967296:=by rw[<-hm];exact Cr.sum_lt s
 have w1:IntKind.u8.wrap (m:Int)=((m % 256:Nat):Int):=by rw[IntKind.wrap_u8];omega
 have w2:IntKind.u8.wrap ((m:Int).fdiv 256)=((m / 256 % 256:Nat):Int):=by rw[IntKind.wrap_u8,Int.fdiv_eq_ediv_of_nonneg _ (by omega)];omega
 have w3:IntKind.u8.wrap ((m:Int).fdiv 65536)=((m / 65536 % 256:Nat):Int):=by rw[IntKind.wrap_u8,Int.fdiv_eq_ediv_of_nonneg _ (by omega)];omega
 have w4:IntKind.u8.wrap ((m:Int).fdiv 16777216)=((m / 16777216 % 256:Nat):Int):=by rw[IntKind.wrap_u8,Int.fdiv_eq_ediv_of_nonneg _ (by omega)];omega
 obtain⟨c1,d1⟩:∃c,m % 256=c:=⟨_,rfl⟩;obtain⟨c2,d2⟩:∃c,m / 256 % 256=c:=⟨_,rfl⟩;obtain⟨c3,d3⟩:∃c,m / 65536 % 256=c:=⟨_,rfl⟩;obtain⟨c4,d4⟩:∃c,m / 16777216 % 256=c:=⟨_,rfl⟩
 have hres:Cr.seal s=s++[UInt8.ofNat c1,UInt8.ofNat c2,UInt8.ofNat c3,UInt8.ofNat c4]:=by
   unfold Cr.seal Cr.four;rw[hm,d1,d2,d3,d4]
 rw[d1]at w1;rw[d2]at w2;rw[d3]at w3;rw[d4]at w4;rw[hres];clear d1 d2 d3 d4 hres
 have g1:IntKind.i64.wrap 1=1:=by decide
 refine zm hmix hΓ (n:=5) Tryz.func86 ?_ (by simp)
 unfold Tryz.f86;simp +decide [zXu,h1,h2,hm,a1,a2,a3,a4,b1,b2,b3,b4,w1,w2,w3,w4,q6Z]
def zSZ:zc:=ZP fun | [.str s]=>if s.length<=1000000000000 then some (.str (Cr.seal s)) else none | _=>none
theorem zPR:Sound Pz 86 zSZ:=by
 refine zP (zH Tryz.func86 rfl (by decide)) fun args v h=>?_
 split at h <;> try cases h
 rename_i s
 split at h <;> cases h
 exact⟨zVR s ‹_›,by simp,by simp⟩
def Cr.openOk(s:List UInt8):Bool:=4<=s.length&&Cr.seal (s.take (s.length-4))==s
theorem zUP(s:List UInt8)(hs:s.length<=1000000000000):Ct Pz 219 [.str s] [] (.tuple [.str (if Cr.openOk s then s.take (s.length-4) else []),.bool (Cr.openOk s)]) []:=by
 have hΓ:=zC zPR zD
 have hw:IntKind.i64.wrap ((s.length:Int)-4)=(s.length:Int)-4:=zX (by omega) (by omega)
 by_cases h4:s.length<4
 · have h4':(s.length:Int)-4<0:=by omega
   have h4'':(s.length:Int)<4:=by omega
   have e:Cr.openOk s=false:=by unfold Cr.openOk;simp;omega
   rw[e]
   refine zm hmix hΓ (n:=0) Tryz.func219 ?_ (by simp)
   unfold Tryz.f219;simp +decide [hw,h4']
 · obtain⟨n,hn⟩:∃n,s.length=n+4:=⟨s.length-4,by omega⟩
   have h4':¬((s.length:Int)-4<0):=by omega
   have h4'':¬((s.length:Int)<4):=by omega
   have hw2:(s.length:Int)-4=(n:Int):=by omega
   have hle:n<=s.length:=by omega
   have hle2:n<=1000000000000:=by omega
   have e0:s.length-4=n:=by omega
   by_cases hc:Cr.seal (s.take n)=s
   · have e:Cr.openOk s=true:=by unfold Cr.openOk;rw[e0,hc];simp;omega
     rw[e,e0]
     refine zm hmix hΓ (n:=0) Tryz.func219 ?_ (by simp)
     unfold Tryz.f219;rw[hw2]at hw;simp +decide [hw2,hw,zSZ,hle,hle2,hc]
   · have e:Cr.openOk s=false:=by unfold Cr.openOk;rw[e0];simp[hc]
     rw[e,e0]
     refine zm hmix hΓ (n:=0) Tryz.func219 ?_ (by simp)
     unfold Tryz.f219;rw[hw2]at hw;simp +decide [hw2,hw,zSZ,hle,hle2,hc]
def zQM:zc:=ZP fun | [.str s]=>if s.length<=1000000000000 then some (.tuple [.str (if Cr.openOk s then s.take (s.length-4) else []),.bool (Cr.openOk s)]) else none | _=>none
theorem zOw:Sound Pz 219 zQM:=by
 refine zP (zH Tryz.func219 rfl (by decide)) fun args v h=>?_
 split at h <;> try cases h
 rename_i s
 split at h <;> cases h
 exact⟨zUP s ‹_›,by simp,by simp⟩
theorem zSB(n:Nat)(h:n<4294967296):Ct Pz 286 [.int .u32 n] [] (.int .u32 (4294967295 ^^^ n:Nat)) []:=by
 have e:(4294967295:Int)-n=((4294967295 ^^^ n:Nat):Int):=by
   have:4294967295 ^^^ n=4294967295-n:=by
     have h1:(4294967295:Nat)=2 ^ 32-1:=rfl;apply Nat.eq_of_testBit_eq;intro i
     have h3:4294967295-n=2 ^ 32-(n+1):=by omega
     rw[h3,Nat.testBit_two_pow_sub_succ (by omega),Nat.testBit_xor,h1,Nat.testBit_two_pow_sub_one]
     by_cases hi:i<32
     · simp[hi]
     · have h32:32<=i:=by omega
       have:n.testBit i=false:=Nat.testBit_lt_two_pow (rlZ (show n<2 ^ 32 by omega) (Nat.pow_le_pow_right (by omega) h32))
       simp[hi,this]
   rw[this];omega
 have l:4294967295 ^^^ n<4294967296:=Nat.xor_lt_two_pow (n:=32) (by omega) h
 have w:=zDQ (n:=((4294967295 ^^^ n:Nat):Int)) (by omega) (by omega)
 refine zm hmix zD (n:=0) Tryz.func286 ?_ (by simp)
 unfold Tryz.f286;simp[w,e]
theorem zW0(n b:Nat)(h1:n<4294967296):Ct Pz 287 [.int .u32 n,.int .u32 b] [] (.int .u32 (Cr.bit n b:Nat)) []:=by
 obtain⟨m,hm⟩:∃m,n % 2=m:=⟨_,rfl⟩;obtain⟨d,hd⟩:∃d,n / 2=d:=⟨_,rfl⟩
 have e1:(n:Int).tmod 2=(m:Int):=by rw[zC7 (by omega)];omega
 have e2:(n:Int).tdiv 2=(d:Int):=by rw[zFl (by omega)];omega
 have e3:=zDQ (n:=(d:Int)) (by omega) (by omega)
 have e4:zCU .xor .u32 (d:Int) 3988292384=((d ^^^ 3988292384:Nat):Int):=zHO d 3988292384 (by omega) (by omega)
 unfold Cr.bit;rw[hm,hd];by_cases h:m=b
 · refine zm hmix zD (n:=0) Tryz.func287 ?_ (by simp)
   unfold Tryz.f287;simp[e1,e2,e3,h]
 · have h':¬(m:Int)=b:=by omega
   refine zm hmix zD (n:=0) Tryz.func287 ?_ (by simp)
   unfold Tryz.f287;simp[e1,e2,e3,e4,h,h']
theorem Cr.bit_lt(n b:Nat)(h:n<4294967296):Cr.bit n b<4294967296:=by
 unfold Cr.bit;split
 · omega
 · exact Nat.xor_lt_two_pow (n:=32) (by omega) (by omega)
theorem Cr.bits_lt:∀(k n c:Nat),n<4294967296->Cr.bits k n c<4294967296
 | 0,_n,_c,h=>h
 | k+1,_n,_c,h=>Cr.bits_lt k _ _ (Cr.bit_lt _ _ h)
def zXs:zc:=ZP fun | [.int .u32 n,.int .u32 b]=>if 0<=n/\n.toNat<4294967296/\0<=b then some (.int .u32 (Cr.bit n.toNat b.toNat:Nat)) else none | _=>none
theorem zRk:Sound Pz 287 zXs:=by
 refine zP (zH Tryz.func287 rfl (by decide)) fun args v h=>?_
 split at h <;> try cases h
 rename_i n b
 split at h <;> cases h
 rename_i hc
 have h0:=zW0 n.toNat b.toNat (by omega)
 rw[show ((n.toNat:Nat):Int)=n by omega,show ((b.toNat:Nat):Int)=b by omega]at h0
 exact⟨h0,by simp,by simp⟩
def zLl:zc:=ZP fun | [.int .u32 n]=>if 0<=n/\n.toNat<4294967296 then some (.int .u32 (4294967295 ^^^ n.toNat:Nat)) else none | _=>none
theorem zLR:Sound Pz 286 zLl:=by
 refine zP (zH Tryz.func286 rfl (by decide)) fun args v h=>?_
 split at h <;> try cases h
 rename_i n
 split at h <;> cases h
 rename_i hc
 have h0:=zSB n.toNat (by omega)
 rw[show ((n.toNat:Nat):Int)=n by omega]at h0
 exact⟨h0,by simp,by simp⟩
theorem zVv(s:List UInt8)(hs:s.length<=9223372036854775806):Ct Pz 269 [.str s] [] (.int .u32 (Cr.sum s:Nat)) []:=by
 have hΓ:=zC zRk (zC zLR zD);refine zK Tryz.func269 rfl ?_;simp only[Tryz.ntmps269,q7Z,q8Z,qbZ,q9Z,qaZ]
 refine Sim.step hmix hΓ (n:=0) (by simp;exact⟨rfl,rfl⟩) (by simp) ?_
 refine Sim.step hmix hΓ (n:=0) (by simp[zLl];exact⟨rfl,rfl⟩) (by simp) ?_
 refine Sim.seq ?_
 refine Sim.step hmix hΓ (n:=0) (by simp;exact⟨rfl,rfl⟩) (by simp) ?_
 refine Sim.block (Sim.loopW (fun k:Nat=>k<=s.length)
   (fun k=>[.str s,.top,.top,.int .u32 ((s.take k).foldl Cr.step 4294967295:Nat),.int .i64 k]++qbZ 25 .top)
   (fun _=>[]) (fun k=>s.length-k) 0 (by simp) (by omega) (Weak.mk' [] (by decide) (by decide) (by simp) (by simp)) fun k hk=>?_)
 by_cases hlt:k<s.length
 · obtain⟨n0,hq⟩:∃q,(s.take k).foldl Cr.step 4294967295=q:=⟨_,rfl⟩
   obtain⟨b,hbk⟩:∃b,s[k]? = some b:=⟨_,q3Z hlt⟩
   have hg:s[k]=b:=by rw[q3Z hlt]at hbk;cases hbk;rfl
   have ln0:n0<4294967296:=by rw[<-hq];exact Cr.steps_lt _ _ (by omega)
   have hnext:(s.take (k+1)).foldl Cr.step 4294967295=Cr.bits 8 n0 b.toNat:=by
     rw[List.take_add_one,hbk,List.foldl_append,hq,Cr.bits_step];rfl
   have hb:=b.toNat_lt;obtain⟨c0,hc0⟩:∃x,b.toNat=x:=⟨_,rfl⟩;rw[hc0]at hb hnext
   have ew:IntKind.u32.wrap (c0:Int)=(c0:Int):=zDQ (by omega) (by omega)
   have hw:IntKind.i64.wrap ((k:Int)+1)=k+1:=zX (by omega) (by omega)
   rw[hq];clear hbk hq
   refine Sim.step hmix hΓ (n:=0) (by simp[hlt];exact⟨rfl,rfl⟩) (by simp) ?_
   refine Sim.seq (Sim.block ?_)
   refine Sim.step hmix hΓ (n:=0) (by simp[hlt,hg,hc0,ew];exact⟨rfl,rfl⟩) (by simp) ?_
   refine Sim.step hmix hΓ (n:=0) (by simp;exact⟨rfl,rfl⟩) (by simp) ?_
   refine Sim.block (Sim.loopW (fun j:Nat=>j<=8)
     (fun j=>[.str s,.top,.top,.int .u32 (Cr.bits j n0 c0:Nat),.int .i64 k,.int .u32 (c0 / 2 ^ j:Nat),.int .i64 j]++qbZ 23 .top)
     (fun _=>[]) (fun j=>8-j) 0 (by simp) (by omega) (Weak.mk' [] (by decide) (by decide) (by simp[Cr.bits]) (by simp)) fun j hj=>?_)
   by_cases hj8:j<8
   · have hsucc:Cr.bits (j+1) n0 c0=Cr.bit (Cr.bits j n0 c0) (c0 / 2 ^ j % 2):=by rw[Cr.bits_add];rfl
     have hcs:c0 / 2 ^ (j+1)=c0 / 2 ^ j / 2:=by rw[Nat.pow_succ,Nat.div_div_eq_div_mul]
     have hnl:Cr.bits j n0 c0<4294967296:=Cr.bits_lt j n0 c0 ln0
     have hcl:c0 / 2 ^ j<=255:=Nat.le_trans (Nat.div_le_self _ _) (by omega)
     obtain⟨n,hn⟩:∃n,Cr.bits j n0 c0=n:=⟨_,rfl⟩;obtain⟨c,hc⟩:∃c,c0 / 2 ^ j=c:=⟨_,rfl⟩;rw[hn,hc]at hsucc;rw[hc]at hcs hcl;rw[hn]at hnl;obtain⟨m,hm⟩:∃x,c % 2=x:=⟨_,rfl⟩;obtain⟨d,hd⟩:∃x,c / 2=x:=⟨_,rfl⟩
     have em:(c:Int).tmod 2=(m:Int):=by rw[zC7 (by omega)];omega
     have ed:(c:Int).tdiv 2=(d:Int):=by rw[zFl (by omega)];omega
     have ewd:IntKind.u32.wrap (d:Int)=(d:Int):=zDQ (by omega) (by omega)
     have hwj:IntKind.i64.wrap ((j:Int)+1)=j+1:=zX (by omega) (by omega)
     have hji:(j:Int)<8:=by omega
     rw[hm]at hsucc;rw[hd]at hcs;rw[hn,hc];clear hn hc hm hd
     refine Sim.exec hmix hΓ (n:=0) (by simp[hji,zXs,hnl,em,ed,ewd,hwj];exact⟨rfl,rfl,rfl⟩) (by simp) ?_
     exact⟨j+1,by omega,Weak.mk' [] (by decide) (by decide) (by simp[hsucc,hcs]) (by simp),by omega⟩
   · obtain rfl:j=8:=by omega
     refine Sim.exec hmix hΓ (n:=0) (by simp;exact⟨rfl,rfl,rfl⟩) (by simp) ?_
     refine Sim.exec hmix hΓ (n:=0) (by simp[hw];exact⟨rfl,rfl,rfl⟩) (by simp) ?_
     exact⟨k+1,by omega,Weak.mk' [] (by decide) (by decide) (by simp[hnext]) (by simp),by omega⟩
 · obtain rfl:k=s.length:=by omega
   have hq32:s.foldl Cr.step 4294967295<4294967296:=Cr.steps_lt _ _ (by omega)
   have hsum:Cr.sum s=4294967295 ^^^ s.foldl Cr.step 4294967295:=by unfold Cr.sum Cr.more;rw[Nat.xor_zero]
   rw[List.take_length];obtain⟨q,hq⟩:∃q,s.foldl Cr.step 4294967295=q:=⟨_,rfl⟩;rw[hq]at hq32 hsum;rw[hq];obtain⟨m,hm⟩:∃m,Cr.sum s=m:=⟨_,rfl⟩;rw[hm]at hsum;rw[hm];clear hq hm
   refine Sim.exec hmix hΓ (n:=0) (by simp;exact⟨rfl,rfl,rfl⟩) (by simp) ?_
   refine Sim.exec hmix hΓ (n:=0) (by simp[zLl,hq32,<-hsum];exact⟨rfl,rfl,rfl⟩) (by simp) ?_
   refine ⟨.inr rfl,_,by simp;rfl,Weak.mk' [] (by decide) (by decide) (by simp) (by simp)⟩
def zWW:zc:=ZP fun | [.str s]=>if s.length<=9223372036854775806 then some (.int .u32 (Cr.sum s:Nat)) else none | _=>none
theorem zOd:Sound Pz 269 zWW:=by
 refine zP (zH Tryz.func269 rfl (by decide)) fun args v h=>?_
 split at h <;> try cases h
 rename_i s
 split at h <;> cases h
 exact⟨zVv s ‹_›,by simp,by simp⟩
theorem zUn(m:Nat)(hm:m<4294967296):Ct Pz 268 [.int .u32 m] [] (.str (Cr.four m)) []:=by
 obtain⟨c1,d1⟩:∃c,m % 256=c:=⟨_,rfl⟩;obtain⟨q2,p2⟩:∃c,m / 256=c:=⟨_,rfl⟩;obtain⟨c2,d2⟩:∃c,q2 % 256=c:=⟨_,rfl⟩;obtain⟨q3,p3⟩:∃c,m / 65536=c:=⟨_,rfl⟩;obtain⟨c3,d3⟩:∃c,q3 % 256=c:=⟨_,rfl⟩;obtain⟨c4,d4⟩:∃c,m / 16777216=c:=⟨_,rfl⟩
 have t1:(m:Int).tmod 256=(c1:Int):=by rw[zC7 (by omega)];omega
 have t2:(m:Int).tdiv 256=(q2:Int):=by rw[zFl (by omega)];omega
 have t3:(q2:Int).tmod 256=(c2:Int):=by rw[zC7 (by omega)];omega
 have t4:(m:Int).tdiv 65536=(q3:Int):=by rw[zFl (by omega)];omega
 have t5:(q3:Int).tmod 256=(c3:Int):=by rw[zC7 (by omega)];omega
 have t6:(m:Int).tdiv 16777216=(c4:Int):=by rw[zFl (by omega)];omega
 have u1:IntKind.u8.wrap (c1:Int)=c1:=zDb (by omega) (by omega)
 have u2:IntKind.u8.wrap (c2:Int)=c2:=zDb (by omega) (by omega)
 have u3:IntKind.u8.wrap (c3:Int)=c3:=zDb (by omega) (by omega)
 have u4:IntKind.u8.wrap (c4:Int)=c4:=zDb (by omega) (by omega)
 have v1:IntKind.u32.wrap (q2:Int)=q2:=zDQ (by omega) (by omega)
 have v2:IntKind.u32.wrap (q3:Int)=q3:=zDQ (by omega) (by omega)
 have v3:IntKind.u32.wrap (c4:Int)=c4:=zDQ (by omega) (by omega)
 have hres:Cr.four m=[UInt8.ofNat c1,UInt8.ofNat c2,UInt8.ofNat c3,UInt8.ofNat c4]:=by
   unfold Cr.four
   rw[d1,p2,d2,p3,d3,d4,show c4 % 256=c4 by omega]
 rw[hres];clear hres d1 d2 d3 d4 p2 p3
 refine zm hmix zD (n:=0) Tryz.func268 ?_ (by simp)
 unfold Tryz.f268;simp[t1,t2,t3,t4,t5,t6,u1,u2,u3,u4,v1,v2,v3]
def zWH:zc:=ZP fun | [.int .u32 n]=>if 0<=n/\n.toNat<4294967296 then some (.str (Cr.four n.toNat)) else none | _=>none
theorem zPo:Sound Pz 268 zWH:=by
 refine zP (zH Tryz.func268 rfl (by decide)) fun args v h=>?_
 split at h <;> try cases h
 rename_i n
 split at h <;> cases h
 rename_i hc
 have h0:=zUn n.toNat (by omega)
 rw[show ((n.toNat:Nat):Int)=n by omega]at h0
 exact⟨h0,by simp,by simp⟩
theorem zSu(s:List UInt8)(hs:s.length<=1000000000000):Ct Pz 230 [.str s] [] (.str (Cr.seal s)) []:=by
 have hΓ:=zC zOd (zC zPo zD)
 have h1:s.length<=9223372036854775806:=by omega
 have h2:s.length+4<=9223372036854775807:=by omega
 have h3:=Cr.sum_lt s;have hse:Cr.seal s=s++Cr.four (Cr.sum s):=rfl;obtain⟨m,hm⟩:∃m,Cr.sum s=m:=⟨_,rfl⟩;rw[hm]at h3 hse;obtain⟨f,hf⟩:∃f,Cr.four m=f:=⟨_,rfl⟩
 have h4:f.length=4:=by rw[<-hf];rfl
 rw[hf]at hse;rw[hse];clear hse
 refine zm hmix hΓ (n:=0) Tryz.func230 ?_ (by simp)
 unfold Tryz.f230;simp[zWW,zWH,h1,h2,h3,h4,hm,hf]
def zT9:zc:=ZP fun | [.str s]=>if s.length<=1000000000000 then some (.str (Cr.seal s)) else none | _=>none
theorem zOD:Sound Pz 230 zT9:=by
 refine zP (zH Tryz.func230 rfl (by decide)) fun args v h=>?_
 split at h <;> try cases h
 rename_i s
 split at h <;> cases h
 exact⟨zSu s ‹_›,by simp,by simp⟩
end
theorem Vy.get_rel(s:List UInt8)(k:Nat)(hk:k<=s.length):Vy.get s k=((Vy.get (s.drop k) 0).1,(k:Int)+(Vy.get (s.drop k) 0).2.1,(Vy.get (s.drop k) 0).2.2):=by
 have hl:(s.drop k).length=s.length-k:=qkZ;by_cases h:s.length<=k
 · have h1:Vy.get s k=(0,(k:Int),3):=by unfold Vy.get;rw[if_pos (by omega)]
   have h2:Vy.get (s.drop k) 0=(0,0,3):=by unfold Vy.get;rw[if_pos (by omega)]
   rw[h1,h2];simp
 · have n1:¬((k:Int)<0\/(s.length:Int)<=k):=by omega
   have n2:¬((0:Int)<0\/((s.drop k).length:Int)<=0):=by omega
   have e1:(s.drop k).getD 0 0=s.getD k 0:=by
     rw[q2Z,q2Z,r5Z];rfl
   have e2:(s.drop k).drop (0+1)=s.drop (k+1):=by
     rw[List.drop_drop]
   unfold Vy.get;rw[if_neg n1,if_neg n2];simp only[Int.toNat_natCast,Int.toNat_zero,e1,e2,hl,Nat.sub_zero];generalize s.getD k 0=c;generalize s.length-k=r;by_cases h1:c.toNat<248
   · simp[h1]
   · simp only[h1,if_false]
     by_cases h2:r<=c.toNat-247
     · simp[h2]
     · simp only[h2,if_false]
       split
       · simp[Int.add_assoc]
       · simp
theorem Cr.open_seal(s:List UInt8):Cr.openOk (Cr.seal s)=true:=by
 unfold Cr.openOk;have hl:=Cr.seal_length s
 have e:(Cr.seal s).take ((Cr.seal s).length-4)=s:=by
   rw[hl,Nat.add_sub_cancel];unfold Cr.seal;simp
 rw[e];simp[hl]
section
open Go
def Fr.get(s:List UInt8)(a:Int):List UInt8×Int×Int :=
 if a<0\/(s.length:Int)<a then ([],a,2) else
 if a=s.length then ([],a,9) else
 if (Vy.get s a).2.2≠0 then ([],a,(Vy.get s a).2.2) else
 if (Vy.get s a).1=0\/300<(Vy.get s a).1 then ([],a,4) else
 if (s.length:Int)<(Vy.get s a).2.1+(Vy.get s a).1+4 then ([],a,3) else
 if Cr.openOk ((s.drop a.toNat).take (((Vy.get s a).2.1+(Vy.get s a).1+4).toNat-a.toNat))=false then ([],a,16) else
 ((s.drop (Vy.get s a).2.1.toNat).take (Vy.get s a).1,(Vy.get s a).2.1+(Vy.get s a).1+4,0)
def zWR:List FuncId:=[253,283,252,201,254,255,256,257,258,259,260]
theorem zUR:GOk Pz (zAL Pz (zv [(146,zGB),(219,zQM)]) 8 zWR 4):=zq hmix (zC zKC (zC zOw zD)) 8 zWR 4
theorem zV4(s:List UInt8)(a:Int)(hs:s.length<=1000000000000):Ct Pz 215 [.str s,.int .i64 a] [] (.tuple [.str (Fr.get s a).1,.int .i64 (Fr.get s a).2.1,.int .i64 (Fr.get s a).2.2]) []:=by
 have hs2:s.length<=140737488351232:=by omega
 refine zm hmix zUR (n:=8) Tryz.func215 ?_ (by simp)
 unfold Tryz.f215;by_cases h0:a<0
 · have h1:¬0<=a:=by omega
   have e:Fr.get s a=([],a,2):=by unfold Fr.get;rw[if_pos (.inl h0)]
   rw[e];simp +decide [Tryz.f253,Tryz.f283,Tryz.f252,Tryz.f254,h1]
 have h0':0<=a:=by omega
 by_cases h1:(s.length:Int)<a
 · have h1':¬a<=(s.length:Int):=by omega
   have e:Fr.get s a=([],a,2):=by unfold Fr.get;rw[if_pos (.inr h1)]
   rw[e];simp +decide [Tryz.f253,Tryz.f283,Tryz.f252,Tryz.f254,h0',h1']
 have h1':a<=(s.length:Int):=by omega
 have hne:¬(a<0\/(s.length:Int)<a):=by omega
 by_cases h2:a=s.length
 · have h2':¬a<(s.length:Int):=by omega
   have e:Fr.get s a=([],a,9):=by unfold Fr.get;rw[if_neg hne,if_pos h2]
   rw[e];clear h2;simp +decide [Tryz.f253,Tryz.f283,Tryz.f252,Tryz.f254,Tryz.f255,h0',h1',h2']
 have h2':a<(s.length:Int):=by omega
 obtain⟨⟨n,x,e⟩,hr⟩:∃r,Vy.get s a=r:=⟨_,rfl⟩;by_cases h3:e=0;rotate_left
 · have e':Fr.get s a=([],a,e):=by unfold Fr.get;rw[if_neg hne,if_neg h2,hr];simp[h3]
   rw[e'];clear h2;simp +decide [Tryz.f253,Tryz.f283,Tryz.f252,Tryz.f254,Tryz.f255,Tryz.f256,h0',h1',h2',zGB,hs2,hr,h3]
 subst h3;have hok:=Vy.get_ok s a n x hr
 obtain⟨k,rfl⟩:∃k:Nat,a=k:=⟨a.toNat,by omega⟩
 obtain⟨m,rfl⟩:∃m:Nat,x=m:=⟨x.toNat,by omega⟩
 have h2n:k<s.length:=by omega
 have h1n:k<=s.length:=by omega
 by_cases h4:n=0\/300<n
 · have e':Fr.get s k=([],(k:Int),4):=by unfold Fr.get;rw[if_neg hne,if_neg h2,hr];simp[h4]
   rw[e'];rcases Nat.eq_zero_or_pos n with hz | hz
   · subst hz
     clear h2 h4;simp +decide [Tryz.f253,Tryz.f283,Tryz.f252,Tryz.f201,Tryz.f254,Tryz.f255,Tryz.f256,Tryz.f257,h1n,h2n,zGB,hs2,hr]
   · have hz':¬n<=300:=by omega
     have hz2:¬(n:Int)<=300:=by omega
     clear h2 h4;simp +decide [Tryz.f253,Tryz.f283,Tryz.f252,Tryz.f201,Tryz.f254,Tryz.f255,Tryz.f256,Tryz.f257,h1n,h2n,zGB,hs2,hr,hz,hz2]
 have hz:0<n:=by omega
 have hz':n<=300:=by omega
 have hz2:(n:Int)<=300:=by omega
 have w1:IntKind.i64.wrap (n:Int)=n:=zX (by omega) (by omega)
 have w2:IntKind.i64.wrap ((m:Int)+n)=(m:Int)+n:=zX (by omega) (by omega)
 have w3:IntKind.i64.wrap ((m:Int)+n+4)=(m:Int)+n+4:=zX (by omega) (by omega)
 have t1:((m:Int)+n+4).toNat=m+n+4:=by omega
 have t2:((m:Int)+n).toNat=m+n:=by omega
 by_cases h5:(s.length:Int)<(m:Int)+n+4
 · have h5':¬(m:Int)+n+4<=(s.length:Int):=by omega
   have e':Fr.get s k=([],(k:Int),3):=by unfold Fr.get;rw[if_neg hne,if_neg h2,hr];simp[h4,h5]
   rw[e'];clear h2 h4;simp +decide [Tryz.f253,Tryz.f283,Tryz.f252,Tryz.f201,Tryz.f254,Tryz.f255,Tryz.f256,Tryz.f257,Tryz.f258,Tryz.f259,h1n,h2n,zGB,hs2,hr,hz,hz2,w1,w2,w3,h5']
 have h5':(m:Int)+n+4<=(s.length:Int):=by omega
 have h5a:0<=(m:Int)+n+4:=by omega
 have h5b:0<=(m:Int)+n:=by omega
 have h5c:(m:Int)+n<=(s.length:Int):=by omega
 have h5d:(k:Int)<=(m:Int)+n+4:=by omega
 have h5e:(m:Int)<=(m:Int)+n:=by omega
 obtain⟨t,ht⟩:∃t,(s.drop k).take (m+n+4-k)=t:=⟨_,rfl⟩
 have htl:t.length<=1000000000000:=by rw[<-ht];simp;omega
 by_cases h6:Cr.openOk t=true
 · have e':Fr.get s k=((s.drop m).take n,(m:Int)+n+4,0):=by
     unfold Fr.get;rw[if_neg hne,if_neg h2,hr];dsimp only;rw[t1];simp[h4,h5,ht,h6]
   rw[e'];clear h2 h4;simp +decide [Tryz.f253,Tryz.f283,Tryz.f252,Tryz.f201,Tryz.f254,Tryz.f255,Tryz.f256,Tryz.f257,Tryz.f258,Tryz.f259,Tryz.f260,h1n,h2n,zGB,hs2,hr,hz,hz2,w1,w2,w3,h5',h5a,h5b,h5c,h5d,h5e,t1,t2,ht,htl,zQM,h6]
 · have h6':Cr.openOk t=false:=by simpa using h6
   have e':Fr.get s k=([],(k:Int),16):=by
     unfold Fr.get;rw[if_neg hne,if_neg h2,hr];dsimp only;rw[t1];simp[h4,h5,ht,h6']
   rw[e'];clear h2 h4;simp +decide [Tryz.f253,Tryz.f283,Tryz.f252,Tryz.f201,Tryz.f254,Tryz.f255,Tryz.f256,Tryz.f257,Tryz.f258,Tryz.f259,Tryz.f260,h1n,h2n,zGB,hs2,hr,hz,hz2,w1,w2,w3,h5',h5a,h5d,t1,ht,htl,zQM,h6']
def zH4:zc:=ZP fun | [.str s,.int .i64 a]=>if s.length<=1000000000000 then some (.tuple [.str (Fr.get s a).1,.int .i64 (Fr.get s a).2.1,.int .i64 (Fr.get s a).2.2]) else none | _=>none
theorem zOn:Sound Pz 215 zH4:=by
 refine zP (zH Tryz.func215 rfl (by decide)) fun args v h=>?_
 split at h <;> try cases h
 rename_i s a
 split at h <;> cases h
 exact⟨zV4 s a ‹_›,by simp,by simp⟩
def Fr.put(p:List UInt8):List UInt8×Int:=if p.length=0\/300<p.length then ([],4) else (Cr.seal (Vy.enc p.length++p),0)
def zUH:zc:=ZP fun | [.str p]=>if p.length<=1000000000 then some (.tuple [.str (Fr.put p).1,.int .i64 (Fr.put p).2]) else none | _=>none
theorem zTC(p:List UInt8)(hp:p.length<=1000000000):Ct Pz 168 [.str p] [] (.tuple [.str (Fr.put p).1,.int .i64 (Fr.put p).2]) []:=by
 have hΓ:=zC zHm (zC zOD zD)
 have w1:IntKind.u64.wrap (p.length:Int)=p.length:=zJE (by omega) (by omega)
 obtain⟨n,hn⟩:∃n,p.length=n:=⟨_,rfl⟩
 refine zm hmix hΓ (n:=0) Tryz.func168 ?_ (by simp)
 unfold Tryz.f168;by_cases h4:n=0\/300<n
 · have e:Fr.put p=([],4):=by unfold Fr.put;rw[hn,if_pos h4]
   rw[e];rw[hn]at w1;rcases Nat.eq_zero_or_pos n with hz | hz
   · subst hz
     clear h4;simp[hn]
   · have hz':300<n:=by omega
     have hz2:300<(n:Int):=by omega
     have hz0:¬n=0:=by omega
     have hb0:((n:Int)==0)=false:=by simp;omega
     clear h4;simp[hn,hz2,hb0]
 · have hz0:¬n=0:=by omega
   have hb0:((n:Int)==0)=false:=by simp;omega
   have hz':¬300<n:=by omega
   have hz2:¬300<(n:Int):=by omega
   have he9:=Vy.size_bd n (by omega)
   rw[<-Vy.enc_length]at he9;obtain⟨e,he⟩:∃e,Vy.enc n=e:=⟨_,rfl⟩;rw[he]at he9
   have l1:e.length+n<=9223372036854775807:=by omega
   have l2:e.length+n<=1000000000000:=by omega
   have l3:n<18446744073709551616:=by omega
   obtain⟨q,hq⟩:∃q,Cr.seal (e++p)=q:=⟨_,rfl⟩
   have e':Fr.put p=(q,0):=by unfold Fr.put;rw[hn,if_neg h4,he,hq]
   rw[e'];rw[hn]at w1;clear h4;simp[hn,w1,hb0,hz2,zQG,zT9,he,l1,l2,l3,hq]
theorem zNn:Sound Pz 168 zUH:=by
 refine zP (zH Tryz.func168 rfl (by decide)) fun args v h=>?_
 split at h <;> try cases h
 rename_i p
 split at h <;> cases h
 exact⟨zTC p ‹_›,by simp,by simp⟩
theorem Fr.get_way(s:List UInt8)(a:Int)(h:(Fr.get s a).2.2=0):0<=a/\a<(Fr.get s a).2.1/\(Fr.get s a).2.1<=s.length:=by
 by_cases hne:a<0\/(s.length:Int)<a
 · exfalso
   unfold Fr.get at h;rw[if_pos hne]at h;cases h
 by_cases h2:a=s.length
 · exfalso
   unfold Fr.get at h;rw[if_neg hne,if_pos h2]at h;cases h
 obtain⟨⟨n,x,e⟩,hr⟩:∃r,Vy.get s a=r:=⟨_,rfl⟩;by_cases h3:e=0;rotate_left
 · exfalso
   unfold Fr.get at h;rw[if_neg hne,if_neg h2,hr]at h;simp[h3]at h
 subst h3;have hok:=Vy.get_ok s a n x hr;by_cases h4:n=0\/300<n
 · exfalso
   unfold Fr.get at h;rw[if_neg hne,if_neg h2,hr]at h;simp[h4]at h
 by_cases h5:(s.length:Int)<x+n+4
 · exfalso
   unfold Fr.get at h;rw[if_neg hne,if_neg h2,hr]at h;simp[h4,h5]at h
 have e':(Fr.get s a).2.1=x+n+4:=by
   unfold Fr.get at h ⊢;rw[if_neg hne,if_neg h2,hr]at h ⊢;simp only[h4,h5,ne_eq,not_true_eq_false,if_false]at h ⊢;split
   · rename_i h6
     rw[if_pos h6]at h;cases h
   · rfl
 rw[e'];omega
@[simp] theorem zRA(k:Nat):∀l:List (List UInt8),zAV k (l.map AV.str)=l.map AV.str
 | []=>rfl
 | x::l=>by simp[zRA k l]
end
theorem Fr.get_rel(s:List UInt8)(k:Nat)(hk:k<=s.length):Fr.get s k=((Fr.get (s.drop k) 0).1,(k:Int)+(Fr.get (s.drop k) 0).2.1,(Fr.get (s.drop k) 0).2.2):=by
 have hl:(s.drop k).length=s.length-k:=qkZ;have hv:=Vy.get_rel s k hk;obtain⟨⟨n,x,e⟩,hr⟩:∃r,Vy.get (s.drop k) 0=r:=⟨_,rfl⟩;rw[hr]at hv;dsimp only at hv
 have n1:((k:Int)<0\/(s.length:Int)<k)=False:=eq_false (by omega)
 have n2:((0:Int)<0\/((s.drop k).length:Int)<0)=False:=eq_false (by omega)
 unfold Fr.get;simp only[hv,hr,n1,n2,if_false];by_cases h:s.length=k
 · have c1:((k:Int)=s.length)=True:=eq_true (by omega)
   have c2:((0:Int)=((s.drop k).length:Int))=True:=eq_true (by omega)
   simp only[c1,c2,if_true];simp
 · have c1:((k:Int)=s.length)=False:=eq_false (by omega)
   have c2:((0:Int)=((s.drop k).length:Int))=False:=eq_false (by omega)
   simp only[c1,c2,if_false];by_cases h1:e=0;rotate_left
   · simp[h1]
   subst h1;have hok:=Vy.get_ok _ _ _ _ hr;simp only[ne_eq,not_true_eq_false,if_false];by_cases h2:n=0\/300<n
   · simp[h2]
   · simp only[h2,if_false]
     by_cases h3:(s.length:Int)<k+x+n+4
     · have c3:(((s.drop k).length:Int)<x+n+4)=True:=eq_true (by omega)
       simp only[h3,c3,if_true];simp
     · have c3:(((s.drop k).length:Int)<x+n+4)=False:=eq_false (by omega)
       simp only[h3,c3,if_false]
       obtain⟨m,rfl⟩:∃m:Nat,x=m:=⟨x.toNat,by omega⟩
       have e1:((k:Int)+m+n+4).toNat-(k:Int).toNat=((m:Int)+n+4).toNat-(0:Int).toNat:=by omega
       have e2:((k:Int)+m).toNat=k+m:=by omega
       rw[e1,e2];simp only[Int.toNat_natCast,List.drop_drop,Int.toNat_zero,Nat.add_zero];split
       · simp
       · simp;omega
theorem Fr.put_eq(p:List UInt8)(h:p.length≠0/\p.length<=300):Fr.put p=(Cr.seal (Vy.enc p.length++p),0):=by
 unfold Fr.put
 rw[if_neg (by omega)]
theorem Fr.put_no(p:List UInt8)(h:¬(p.length≠0/\p.length<=300)):Fr.put p=([],4):=by
 unfold Fr.put
 rw[if_pos (by omega)]
theorem Fr.put_length(p:List UInt8)(h:p.length≠0/\p.length<=300):(Fr.put p).1.length=Vy.size p.length+p.length+4:=by
 rw[Fr.put_eq p h,Cr.seal_length,qdZ,Vy.enc_length]
theorem Fr.size_bd(p:List UInt8)(h:p.length≠0/\p.length<=300):1<=Vy.size p.length/\Vy.size p.length<=9:=Vy.size_bd _ (by omega)
theorem Fr.put_le(p:List UInt8):(Fr.put p).1.length<=313:=by
 by_cases h:p.length≠0/\p.length<=300
 · rw[Fr.put_length p h]
   have:=Fr.size_bd p h;omega
 · rw[Fr.put_no p h];simp
theorem Fr.get_mid(p y:List UInt8)(h:p.length≠0/\p.length<=300):Fr.get ((Fr.put p).1++y) 0=(p,((Fr.put p).1.length:Int),0):=by
 have hl:=Fr.put_length p h;have hsz:=Fr.size_bd p h;rw[Fr.put_eq p h]at hl ⊢;dsimp only at hl ⊢
 have hv:=Vy.get_mid [] (p++Cr.four (Cr.sum (Vy.enc p.length++p))++y) p.length (by omega)
 have es:Cr.seal (Vy.enc p.length++p)++y=[]++Vy.enc p.length++(p++Cr.four (Cr.sum (Vy.enc p.length++p))++y):=by
   unfold Cr.seal;simp[qeZ]
 rw[<-es]at hv;simp only[q8Z,Int.ofNat_zero,Int.zero_add]at hv
 have hv':Vy.get (Cr.seal (Vy.enc p.length++p)++y) 0=(p.length,(Vy.size p.length:Int),0):=by simpa using hv
 have ht:(Cr.seal (Vy.enc p.length++p)++y).length=Vy.size p.length+p.length+4+y.length:=by rw[qdZ,hl]
 unfold Fr.get
 rw[hv',if_neg (by omega),if_neg (by rw[ht];omega)]
 dsimp only
 rw[if_neg (by simp),if_neg (by omega),if_neg (by rw[ht];omega)]
 have e1:((Vy.size p.length:Int)+p.length+4).toNat-(0:Int).toNat=(Cr.seal (Vy.enc p.length++p)).length:=by rw[hl];omega
 rw[e1,Int.toNat_zero,List.drop_zero,List.take_left,Cr.open_seal,if_neg (by simp)]
 have e2:((Cr.seal (Vy.enc p.length++p)++y).drop (Vy.size p.length:Int).toNat).take p.length=p:=by
   unfold Cr.seal
   rw[Int.toNat_natCast,qeZ,qeZ,sdZ,List.drop_of_length_le (by rw[Vy.enc_length];omega),Vy.enc_length,Nat.sub_self,List.drop_zero,qaZ,seZ,Nat.sub_self,List.take_length]
   simp
 rw[e2,hl];simp
theorem Fr.get_put(s p:List UInt8)(x:Int)(h:Fr.get s 0=(p,x,0)):(p.length≠0/\p.length<=300)/\x=((Fr.put p).1.length:Int)/\s.take x.toNat=(Fr.put p).1:=by
 unfold Fr.get at h;split at h
 · simp at h
 split at h
 · simp at h
 split at h
 · rename_i h1
   simp only[Prod.mk.injEq]at h;exact absurd h.2.2 h1
 split at h
 · simp at h
 split at h
 · simp at h
 split at h
 · simp at h
 rename_i h0 h1 h2 h3 h4 h5;obtain⟨⟨n,m,e⟩,hr⟩:∃r,Vy.get s 0=r:=⟨_,rfl⟩;rw[hr]at h h2 h3 h4 h5;dsimp only at h h2 h3 h4 h5
 have h2:e=0:=by simpa using h2
 subst h2;have hok:=Vy.get_ok _ _ _ _ hr
 obtain⟨m,rfl⟩:∃k:Nat,m=k:=⟨m.toNat,by omega⟩
 have hp:=Vy.get_put s 0 n m hr;obtain⟨hp,hn⟩:=hp;simp only[Int.toNat_natCast,List.drop_zero,Nat.sub_zero,Int.toNat_zero]at hp h h5;simp only[Prod.mk.injEq]at h;obtain⟨hpp,hx,_⟩:=h
 have hpl:p.length=n:=by rw[<-hpp,qjZ,qkZ];omega
 have hm:m=Vy.size n:=by
   rw[<-Vy.enc_length,hp,qjZ];omega
 have hbd:p.length≠0/\p.length<=300:=by omega
 have hl:=Fr.put_length p hbd
 refine ⟨hbd,by rw[hl,<-hx,hm,hpl];push_cast;omega,?_⟩
 have ex:x.toNat=m+n+4:=by omega
 have e5:((m:Int)+n+4).toNat=m+n+4:=by omega
 rw[e5]at h5
 have h5:Cr.openOk (s.take (m+n+4))=true:=by simpa using h5
 unfold Cr.openOk at h5
 have hlen:(s.take (m+n+4)).length=m+n+4:=by rw[qjZ];omega
 rw[hlen,Nat.add_sub_cancel,List.take_take,sfZ (by omega)]at h5
 have h6:Cr.seal (s.take (m+n))=s.take (m+n+4):=by
   simp only[qrZ,beq_iff_eq]at h5;exact h5.2
 rw[Fr.put_eq p hbd,ex];dsimp only;rw[<-h6,hpl,hp,<-hpp]
 congr 1
 rw[<-r6Z m (s.take (m+n)),List.take_take,sfZ (by omega),List.drop_take,s3Z]
theorem Fr.get_tail(s:List UInt8)(k:Nat)(hk:k<=s.length):Fr.get (s.drop k) 0=((Fr.get s k).1,(Fr.get s k).2.1-k,(Fr.get s k).2.2):=by
 have h2:=Fr.get_rel s k hk;rw[h2];dsimp only
 rw[show (k:Int)+(Fr.get (s.drop k) 0).2.1-k=(Fr.get (s.drop k) 0).2.1 by omega]
theorem Fr.get_own(s y:List UInt8)(k:Nat)(hk:k<=s.length)(h:(Fr.get s k).2.2=0):Fr.get (s.take (Fr.get s k).2.1.toNat++y) k=Fr.get s k:=by
 have hw:=Fr.get_way s k h;have h2:=Fr.get_tail s k hk;rw[h]at h2;obtain⟨⟨p,x,e⟩,hr⟩:∃r,Fr.get s k=r:=⟨_,rfl⟩;rw[hr]at h h2 hw ⊢;dsimp only at h h2 hw ⊢;subst h
 obtain⟨x,rfl⟩:∃n:Nat,x=n:=⟨x.toNat,by omega⟩
 obtain⟨g1,g2,g3⟩:=Fr.get_put _ _ _ h2
 have hl:(s.take (x:Int).toNat++y).length=x+y.length:=by simp;omega
 have e1:(s.take (x:Int).toNat++y).drop k=(Fr.put p).1++y:=by
   rw[<-g3,Int.toNat_natCast,sdZ,qjZ,List.drop_take]
   have:k-min x s.length=0:=by omega
   rw[this,List.drop_zero]
   congr 2
   omega
 have h3:=Fr.get_rel (s.take (x:Int).toNat++y) k (by omega)
 rw[e1,Fr.get_mid p y g1,<-g2]at h3;dsimp only at h3
 rw[h3,show (k:Int)+(x-k)=x by omega]
def Fr.cat(l:List (List UInt8)):List UInt8:=(l.map fun p=>(Fr.put p).1).flatten
@[simp] theorem Fr.cat_nil:Fr.cat []=[]:=rfl
section
open Go
attribute [-simp] zJ zY zn zL zl
@[simp] theorem zWM(s:List UInt8)(n:Nat):(ZR s).take n=ZR (s.take n):=by simp[ZR,List.map_take]
@[simp] theorem zWY(s:List UInt8)(n:Nat):(ZR s).drop n=ZR (s.drop n):=by simp[ZR,List.map_drop]
@[simp] theorem zTR(s:List UInt8)(i:Nat)(h:i<(ZR s).length):(ZR s)[i]=.int .u8 ((s[i]'(by simpa using h)).toNat:Int):=by simp[ZR]
end
end Go.Proofs.YtpmfecnajoojeaaGreatDoor
