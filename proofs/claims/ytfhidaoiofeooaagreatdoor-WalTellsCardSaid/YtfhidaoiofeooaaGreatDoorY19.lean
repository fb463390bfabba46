/- Parts of the proof of WalTells: lemmas, each with its own conditions. -/
import Derived.Test.YtfhidaoiofeooaaGreatDoorY5
import Derived.Test.YtfhidaoiofeooaaGreatDoorY18
set_option maxHeartbeats 64000000
open Option renaming map_eq_some_iff → qlZ
namespace Go.Proofs.YtfhidaoiofeooaaGreatDoor
open _root_.Go.Proofs.Tryz renaming prog → Pz
set_option maxRecDepth 100000
section
open Go
attribute [-simp] zH zc zq zK zy
abbrev En:=List UInt8×Int×Bool
def enA(s:En):List AV:=[.str s.1,.int .u32 s.2.1,.bool s.2.2]
def zb:List En->List AV
 | []=>[]
 | s::l=>enA s++zb l
@[simp] theorem Z4:∀l:List En,(zb l).length=l.length*3
 | []=>rfl
 | s::l=>by simp[zb,enA,Z4 l];omega
@[simp] theorem ZD:∀l:List En,zV (zb l)=true
 | []=>rfl
 | s::l=>by simp[zb,enA,ZD l]
theorem zGW:∀(l:List En) (k:Nat) (h:k<l.length),((zb l).drop (k*3)).take 3=enA l[k]
 | s::l,0,_=>by simp[zb,enA]
 | s::l,k+1,h=>by
   have:=zGW l k (by simpa using h);rw[show (k+1)*3=k*3+3 by omega];simpa[zb,enA] using this
def zDo:List AV->Option (List En)
 | []=>some []
 | .str a::.int .u32 b::.bool c::l=>(zDo l).map ((a,b,c)::·)
 | _=>none
theorem zGi:∀{xs:List AV} {l:List En},zDo xs=some l->xs=zb l
 | [],l,h=>by cases h;rfl
 | x::xs,l,h=>by
   unfold zDo at h;split at h
   · cases ‹_=[]›
   · rename_i a b c ys e
     cases e;obtain⟨l',hl',rfl⟩:=qlZ.1 h;rw[zGi hl'];rfl
   · cases h
@[simp] theorem zFR:∀l:List En,zDo (zb l)=some l
 | []=>rfl
 | s::l=>by simp[zb,enA,zDo,zFR l]
@[simp] theorem zZg(l:List En):(zb l).take (l.length*3)=zb l:=by rw[<-Z4,List.take_length]
@[simp] theorem zYZ(a b:List En):zb (a++b)=zb a++zb b:=by
 induction a with
 | nil=>rfl
 | cons x a ih=>simp[zb,ih]
def zGu(H:zA):AV->Option (List En)
 | .nils=>some []
 | .slice b off len 3 _=>match H[b]? with
   | some (.cells _ l)=>if off+len*3<=l.length then zDo ((l.drop off).take (len*3)) else none
   | _=>none
 | .sl b off len 3 _=>match H[b]? with
   | some (.cells _ l)=>if off+len*3<=l.length then zDo ((l.drop off).take (len*3)) else none
   | _=>none
 | _=>none
theorem zIl{H:zA}{x:AV}{a:List En}(h:zGu H x=some a):∃b off,(∀(i:Nat) (wd:List (Nat×Nat)),wd[i]? = some (b,off)->zC3 wd (.sl i 0 a.length 3 false) x) /\
   (match H[b]? with | some (.cells _ l)=>off+(zb a).length<=l.length/\zb a=(l.drop off).take (zb a).length | none=>True | _=>False):=by
 have key:∀(b off len:Nat) (o:Bool) (l:List AV),H[b]? = some (.cells o l)->off+len*3<=l.length->zDo ((l.drop off).take (len*3))=some a->len=a.length/\off+(zb a).length<=l.length/\zb a=(l.drop off).take (zb a).length:=by
   intro b off len o l hb hle hs;have e:=zGi hs;have hlen:len=a.length:=by
     have:=congrArg List.length e;simp at this;omega
   subst hlen;exact⟨rfl,by simpa using hle,by rw[Z4];exact e.symm⟩
 unfold zGu at h;split at h
 · cases h
   exact⟨H.length,0,fun i wd _=>by simp[zC3],by simp⟩
 · rename_i b off len c
   split at h;rotate_left
   · cases h
   rename_i o l hb;split at h;rotate_left
   · cases h
   rename_i hle;obtain⟨rfl,h1,h2⟩:=key b off len o l hb hle h;exact⟨b,off,fun i wd hw=>by simp[zC3,hw],by rw[hb];exact⟨h1,h2⟩⟩
 · rename_i b off len c
   split at h;rotate_left
   · cases h
   rename_i o l hb;split at h;rotate_left
   · cases h
   rename_i hle;obtain⟨rfl,h1,h2⟩:=key b off len o l hb hle h;exact⟨b,off,fun i wd hw=>by simp[zC3,hw],by rw[hb];exact⟨h1,h2⟩⟩
 · cases h
@[simp] theorem zTE:∀l:List En,(zb l).all ZG=true
 | []=>rfl
 | s::l=>by simp[zb,enA,zTE l]
def okW(w:List UInt8):Bool:=decide (1<=w.length/\w.length<=255)
def cdW(w:List UInt8):Int:=if okW w then 0 else 7
def zNn:List FuncId:=[316,315]
theorem zW9:GOk Pz (zAV Pz (zZ []) 4 zNn 2):=zp hmix zC 4 zNn 2
theorem zST(w:List UInt8):Ct Pz 263 [.slice 0 0 1 1 false] [.cells false [.str w]] (.int .i64 (cdW w)) [.cells false [.str w]]:=by
 refine zBt hmix zW9 (n:=0) Tryz.func263 ?_;unfold Tryz.f263 cdW okW;by_cases h0:w=[]
 · subst h0
   exact⟨_,_,(by simp[zNn,Tryz.f316,Tryz.f315];exact wR),Weak.mk' [0] (by decide) rfl (by simp) (by simp)⟩
 · have h1:1<=w.length:=by cases w with | nil=>exact absurd rfl h0 | cons=>simp
   have hE:w.isEmpty=false:=by cases w with | nil=>exact absurd rfl h0 | cons=>rfl
   by_cases h2:w.length<=255
   · have h3:(w.length:Int)<=255:=by omega
     exact⟨_,_,(by simp[zNn,Tryz.f316,Tryz.f315,h0,hE,h2,h3];exact wR),Weak.mk' [0] (by decide) rfl (by simp[h1,h2]) (by simp)⟩
   · have h3:¬(w.length:Int)<=255:=by omega
     exact⟨_,_,(by simp[zNn,Tryz.f316,Tryz.f315,h0,hE,h2,h3];exact wR),Weak.mk' [0] (by decide) rfl (by simp[h1,h2]) (by simp)⟩
def zFs:zJ:=ZS fun args H=>match args with
 | [.slice b off 1 1 _]=>match H[b]? with
   | some (.cells _ l)=>match (l.drop off).take 1 with
     | [.str w]=>if off+1<=l.length then some (.int .i64 (cdW w)) else none
     | _=>none
   | _=>none
 | _=>none
theorem zMu:Sound Pz 263 zFs:=by
 refine Zm (zD Tryz.func263 rfl (by decide)) fun args H v h=>?_;split at h <;> try cases h
 rename_i b off c;split at h <;> try cases h
 rename_i o l hb;split at h <;> try cases h
 rename_i w hw;split at h <;> cases h
 rename_i hle;refine zIu (zST w) rfl [(b,off)] ⟨?_,trivial⟩ ⟨?_,rfl,trivial⟩
 · simp[zC3]
 · rw[hb]
   exact⟨hle,hw.symm⟩
theorem zYx(w:List UInt8):Ct Pz 255 [.str w] [] (.bool (okW w)) []:=by
 unfold okW;refine zx hmix zC (n:=0) Tryz.func255 ?_ (by simp);unfold Tryz.f255;by_cases h1:1<=w.length
 · by_cases h2:w.length<=255
   · have h3:(w.length:Int)<=255:=by omega
     have h4:(1:Int)<=w.length:=by omega
     simp[h1,h2,h3,h4]
   · have h3:¬(w.length:Int)<=255:=by omega
     have h4:(1:Int)<=w.length:=by omega
     simp[h1,h2,h3,h4]
 · have h4:¬(1:Int)<=w.length:=by omega
   simp[h1,h4]
def zZY:zJ:=Zt fun | [.str w]=>some (.bool (okW w)) | _=>none
theorem zSJ:Sound Pz 255 zZY:=by
 refine zU (zD Tryz.func255 rfl (by decide)) fun args v h=>?_;split at h <;> cases h
 exact⟨zYx _,rfl,rfl⟩
theorem zTT(w:List UInt8):Ct Pz 181 [.str w] [] (.int .i64 (cdW w)) []:=by
 have hΓ:GOk Pz (zZ [(255,zZY)]):=zB zSJ zC;unfold cdW;refine zx hmix hΓ (n:=0) Tryz.func181 ?_ (by simp);unfold Tryz.f181;cases h:okW w <;> simp[zZY,h]
def zGY:zJ:=Zt fun | [.str w]=>some (.int .i64 (cdW w)) | _=>none
theorem zMO:Sound Pz 181 zGY:=by
 refine zU (zD Tryz.func181 rfl (by decide)) fun args v h=>?_;split at h <;> cases h
 exact⟨zTT _,rfl,rfl⟩
def zCJ(e:En):List UInt8×Int:=if okW e.1 then (if e.2.2 then (2::e.1,0) else (1::(Vy.enc e.2.1.toNat++e.1),0)) else ([],7)
def okN(n:Int):Bool:=decide (0<=n/\n<4294967296)
def zXc:Gam:=zZ [(263,zFs),(264,zRl)]
theorem zXa:GOk Pz zXc:=zB zMu (zB zK5 zC)
theorem zXq(e:En)(hn:okN e.2.1=true):Ct Pz 197 [.agg (enA e)] [] (.tuple [.str (zCJ e).1,.int .i64 (zCJ e).2]) []:=by
 obtain⟨w,n,g⟩:=e;simp only[okN,decide_eq_true_eq]at hn;obtain⟨hn0,hn1⟩:=hn;have c1:IntKind.u64.wrap n=n:=zIr hn0 (by omega);have hz:n.toNat<18446744073709551616:=by omega
 have hz2:n<18446744073709551616:=by omega
 unfold zCJ;have hw:okW w=true\/okW w=false:=by cases okW w <;> simp
 have hcd:cdW w=if okW w then 0 else 7:=rfl
 refine zBt hmix zXa (n:=0) Tryz.func197 ?_;unfold Tryz.f197;rcases hw with h | h
 · have hl:w.length<=255:=by simp only[okW,decide_eq_true_eq]at h;exact h.2
   rw[h,if_pos rfl]at hcd;have hb1:1+w.length<=9223372036854775807:=by omega
   have hb2:w.length+1<=9223372036854775807:=by omega
   obtain⟨q,hq⟩:∃q,Vy.put [n.toNat]=q:=⟨_,rfl⟩
   have hqe:Vy.enc n.toNat=q:=by rw[<-hq];simp[Vy.put]
   have hql:q.length<=9:=by
     rw[<-hqe,Vy.enc_length];have:=(Vy.size_bd n.toNat (by omega)).2;omega
   have hb3:1+q.length<=9223372036854775807:=by omega
   have hb4:q.length+1<=9223372036854775807:=by omega
   have hb5:q.length+1+w.length<=9223372036854775807:=by omega
   rw[hqe];cases g with
   | true =>
     exact⟨_,_,(by simp +decide [enA,zXc,zFs,ZS,hcd,h,hb1,hb2];exact wR),Weak.mk' [] (by decide) rfl (by simp[h]) (by simp)⟩
   | false =>
     exact⟨_,_,(by simp +decide [enA,zXc,zFs,zRl,ZS,hcd,h,c1,hz,hz2,hn0,hq,hb1,hb2,hb3,hb4,hb5];exact wR),Weak.mk' [] (by decide) rfl (by simp[h,Vy.put]) (by simp)⟩
 · rw[h]at hcd
   exact⟨_,_,(by simp[enA,zXc,zFs,ZS,hcd,h];exact wR),Weak.mk' [] (by decide) rfl (by simp[h]) (by simp)⟩
def zGB:zJ:=Zt fun | [.agg [.str w,.int .u32 n,.bool g]]=>if okN n=true then some (.tuple [.str (zCJ (w,n,g)).1,.int .i64 (zCJ (w,n,g)).2]) else none | _=>none
theorem zRA:Sound Pz 197 zGB:=by
 refine zU (zD Tryz.func197 rfl (by decide)) fun args v h=>?_;split at h <;> try cases h
 rename_i w n g;split at h <;> cases h
 rename_i hn;exact⟨zXq (w,n,g) hn,rfl,rfl⟩
def zX9:Gam:=zZ [(181,zGY),(182,zRg)]
theorem zWc:GOk Pz zX9:=zB zMO (zB zJm zC)
theorem zV6(e:En)(hn:okN e.2.1=true):Ct Pz 86 [.agg (enA e)] [] (.tuple [.str (zCJ e).1,.int .i64 (zCJ e).2]) []:=by
 obtain⟨w,n,g⟩:=e;simp only[okN,decide_eq_true_eq]at hn;obtain⟨hn0,hn1⟩:=hn;have c1:IntKind.u64.wrap n=n:=zIr hn0 (by omega);have hz:n.toNat<18446744073709551616:=by omega
 have hz2:n<18446744073709551616:=by omega
 unfold zCJ;have hw:okW w=true\/okW w=false:=by cases okW w <;> simp
 have hcd:cdW w=if okW w then 0 else 7:=rfl
 refine zBt hmix zWc (n:=0) Tryz.func86 ?_;unfold Tryz.f86;rcases hw with h | h
 · have hl:w.length<=255:=by simp only[okW,decide_eq_true_eq]at h;exact h.2
   rw[h,if_pos rfl]at hcd;have hb1:1+w.length<=9223372036854775807:=by omega
   have hb2:w.length+1<=9223372036854775807:=by omega
   obtain⟨q,hq⟩:∃q,Vy.enc n.toNat=q:=⟨_,rfl⟩
   have hql:q.length<=9:=by
     rw[<-hq,Vy.enc_length];have:=(Vy.size_bd n.toNat (by omega)).2;omega
   have hb3:1+q.length<=9223372036854775807:=by omega
   have hb4:q.length+1<=9223372036854775807:=by omega
   have hb5:q.length+1+w.length<=9223372036854775807:=by omega
   rw[hq];cases g with
   | true =>
     exact⟨_,_,(by simp +decide [enA,zX9,zGY,hcd,h,hb1,hb2];exact wR),Weak.mk' [] (by decide) rfl (by simp[h]) (by simp)⟩
   | false =>
     exact⟨_,_,(by simp +decide [enA,zX9,zGY,zRg,hcd,h,c1,hz,hz2,hn0,hq,hb1,hb2,hb3,hb4,hb5];exact wR),Weak.mk' [] (by decide) rfl (by simp[h]) (by simp)⟩
 · rw[h]at hcd
   exact⟨_,_,(by simp[enA,zX9,zGY,hcd,h];exact wR),Weak.mk' [] (by decide) rfl (by simp[h]) (by simp)⟩
theorem zNW:Sound Pz 86 zGB:=by
 refine zU (zD Tryz.func86 rfl (by decide)) fun args v h=>?_;split at h <;> try cases h
 rename_i w n g;split at h <;> cases h
 rename_i hn;exact⟨zV6 (w,n,g) hn,rfl,rfl⟩
end
section
open Go
end
end Go.Proofs.YtfhidaoiofeooaaGreatDoor
