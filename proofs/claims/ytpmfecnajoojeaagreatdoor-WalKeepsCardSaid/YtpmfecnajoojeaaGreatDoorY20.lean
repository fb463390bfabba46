/- Parts of the proof of WalKeeps: lemmas, each with its own conditions. -/
import Derived.Test.YtpmfecnajoojeaaGreatDoorY5
import Derived.Test.YtpmfecnajoojeaaGreatDoorY19
set_option maxHeartbeats 64000000
open List renaming take_of_length_le → q6Z, length_cons → q7Z, length_append → qdZ, length_drop → qkZ, flatten_cons → rcZ, map_cons → s1Z
open Option renaming map_eq_some_iff → qlZ
namespace Go.Proofs.YtpmfecnajoojeaaGreatDoor
open _root_.Go.Proofs.Tryz renaming prog → Pz
set_option maxRecDepth 100000
section
open Go
attribute [-simp] drawOk_eq adraw qrun acode aops
abbrev En:=List UInt8×Int×Bool
def enA(s:En):List AV:=[.str s.1,.int .u32 s.2.1,.bool s.2.2]
def ensA:List En→List AV
 | []=>[]
 | s::l=>enA s++ensA l
@[simp] theorem ensA_length:∀l:List En,(ensA l).length=l.length*3
 | []=>rfl
 | s::l=>by simp[ensA,enA,ensA_length l];omega
@[simp] theorem frees_ens:∀l:List En,frees (ensA l)=true
 | []=>rfl
 | s::l=>by simp[ensA,enA,frees_ens l]
theorem ens_get:∀(l:List En) (k:Nat) (h:k<l.length),((ensA l).drop (k*3)).take 3=enA l[k]
 | s::l,0,_=>by simp[ensA,enA]
 | s::l,k+1,h=>by
   have:=ens_get l k (by simpa using h)
   rw[show (k+1)*3=k*3+3 by omega]
   simpa[ensA,enA] using this
def ensOf:List AV→Option (List En)
 | []=>some []
 | .str a::.int .u32 b::.bool c::l=>(ensOf l).map ((a,b,c)::·)
 | _=>none
theorem ensOf_eq:∀{xs:List AV} {l:List En},ensOf xs=some l→xs=ensA l
 | [],l,h=>by cases h;rfl
 | x::xs,l,h=>by
   unfold ensOf at h;split at h
   · cases ‹_=[]›
   · rename_i a b c ys e
     cases e;obtain⟨l',hl',rfl⟩:=qlZ.1 h;rw[ensOf_eq hl'];rfl
   · cases h
@[simp] theorem ensOf_ensA:∀l:List En,ensOf (ensA l)=some l
 | []=>rfl
 | s::l=>by simp[ensA,enA,ensOf,ensOf_ensA l]
@[simp] theorem take_ensA(l:List En):(ensA l).take (l.length*3)=ensA l:=by rw[←ensA_length,List.take_length]
@[simp] theorem ensA_append(a b:List En):ensA (a++b)=ensA a++ensA b:=by
 induction a with
 | nil=>rfl
 | cons x a ih=>simp[ensA,ih]
def rowEns(H:AHeap):AV→Option (List En)
 | .nils=>some []
 | .slice b off len 3 _=>match H[b]? with
   | some (.cells _ l)=>if off+len*3≤l.length then ensOf ((l.drop off).take (len*3)) else none
   | _=>none
 | .sl b off len 3 _=>match H[b]? with
   | some (.cells _ l)=>if off+len*3≤l.length then ensOf ((l.drop off).take (len*3)) else none
   | _=>none
 | _=>none
theorem rowEns_win{H:AHeap}{x:AV}{a:List En}(h:rowEns H x=some a):∃b off,(∀(i:Nat) (wd:List (Nat×Nat)),wd[i]? = some (b,off)→winA wd (.sl i 0 a.length 3 false) x) ∧
   (match H[b]? with | some (.cells _ l)=>off+(ensA a).length≤l.length∧ensA a=(l.drop off).take (ensA a).length | none=>True | _=>False):=by
 have key:∀(b off len:Nat) (o:Bool) (l:List AV),H[b]? = some (.cells o l)→off+len*3≤l.length→ensOf ((l.drop off).take (len*3))=some a→len=a.length∧off+(ensA a).length≤l.length∧ensA a=(l.drop off).take (ensA a).length:=by
   intro b off len o l hb hle hs;have e:=ensOf_eq hs
   have hlen:len=a.length:=by
     have:=congrArg List.length e;simp at this;omega
   subst hlen
   exact⟨rfl,by simpa using hle,by rw[ensA_length];exact e.symm⟩
 unfold rowEns at h;split at h
 · cases h
   exact⟨H.length,0,fun i wd _=>by simp[winA],by simp⟩
 · rename_i b off len c
   split at h;rotate_left
   · cases h
   rename_i o l hb;split at h;rotate_left
   · cases h
   rename_i hle;obtain⟨rfl,h1,h2⟩:=key b off len o l hb hle h
   exact⟨b,off,fun i wd hw=>by simp[winA,hw],by rw[hb];exact⟨h1,h2⟩⟩
 · rename_i b off len c
   split at h;rotate_left
   · cases h
   rename_i o l hb;split at h;rotate_left
   · cases h
   rename_i hle;obtain⟨rfl,h1,h2⟩:=key b off len o l hb hle h
   exact⟨b,off,fun i wd hw=>by simp[winA,hw],by rw[hb];exact⟨h1,h2⟩⟩
 · cases h
@[simp] theorem cells_ens:∀l:List En,(ensA l).all isCell=true
 | []=>rfl
 | s::l=>by simp[ensA,enA,cells_ens l]
theorem ens_take:∀(l:List En) (n:Nat),(ensA l).take (n*3)=ensA (l.take n)
 | [],n=>by simp[ensA]
 | s::l,0=>by simp[ensA]
 | s::l,n+1=>by
   rw[show (n+1)*3=n*3+3 by omega]
   simp[ensA,enA,ens_take l n]
def okW(w:List UInt8):Bool:=decide (1≤w.length∧w.length≤255)
def cdW(w:List UInt8):Int:=if okW w then 0 else 7
def chInl:List FuncId:=[218,217]
theorem chΓ_ok:GOk Pz (runG Pz (gams []) 4 chInl 2):=gok_run hmix goks_nil 4 chInl 2
theorem wcheck_ct(w:List UInt8):Ct Pz 147 [.slice 0 0 1 1 false] [.cells false [.str w]] (.int .i64 (cdW w)) [.cells false [.str w]]:=by
 refine ct_runE hmix chΓ_ok (n:=0) Tryz.func147 ?_;unfold Tryz.f147 cdW okW;by_cases h0:w=[]
 · subst h0
   exact⟨_,_,(by simp[chInl,Tryz.f218,Tryz.f217];exact⟨rfl,rfl⟩),Weak.mk' [0] (by decide) rfl (by simp) (by simp)⟩
 · have h1:1≤w.length:=by cases w with | nil=>exact absurd rfl h0 | cons=>simp
   have hE:w.isEmpty=false:=by cases w with | nil=>exact absurd rfl h0 | cons=>rfl
   by_cases h2:w.length≤255
   · have h3:(w.length:Int)≤255:=by omega
     exact⟨_,_,(by simp[chInl,Tryz.f218,Tryz.f217,h0,hE,h2,h3];exact⟨rfl,rfl⟩),Weak.mk' [0] (by decide) rfl (by simp[h1,h2]) (by simp)⟩
   · have h3:¬(w.length:Int)≤255:=by omega
     exact⟨_,_,(by simp[chInl,Tryz.f218,Tryz.f217,h0,hE,h2,h3];exact⟨rfl,rfl⟩),Weak.mk' [0] (by decide) rfl (by simp[h1,h2]) (by simp)⟩
def wcheckS:Summ:=readS fun args H=>match args with
 | [.slice b off 1 1 _]=>match H[b]? with
   | some (.cells _ l)=>match (l.drop off).take 1 with
     | [.str w]=>if off+1≤l.length then some (.int .i64 (cdW w)) else none
     | _=>none
   | _=>none
 | _=>none
theorem wcheck_sound:Sound Pz 147 wcheckS:=by
 refine sound_read (enter_of Tryz.func147 rfl (by decide)) fun args H v h=>?_
 split at h <;> try cases h
 rename_i b off c
 split at h <;> try cases h
 rename_i o l hb
 split at h <;> try cases h
 rename_i w hw
 split at h <;> cases h
 rename_i hle;refine ct_win (wcheck_ct w) rfl [(b,off)] ⟨?_,trivial⟩ ⟨?_,rfl,trivial⟩
 · simp[winA]
 · rw[hb]
   exact⟨hle,hw.symm⟩
def eput(e:En):List UInt8×Int:=if okW e.1 then (if e.2.2 then (2::e.1,0) else (1::(Vy.enc e.2.1.toNat++e.1),0)) else ([],7)
def okN(n:Int):Bool:=decide (0≤n∧n<4294967296)
def epΓ:Gam:=gams [(147,wcheckS),(87,putS')]
theorem epΓ_ok:GOk Pz epΓ:=goks_cons wcheck_sound (goks_cons put_sound goks_nil)
theorem eput_ct(e:En)(hn:okN e.2.1=true):Ct Pz 128 [.agg (enA e)] [] (.tuple [.str (eput e).1,.int .i64 (eput e).2]) []:=by
 obtain⟨w,n,g⟩:=e;simp only[okN,decide_eq_true_eq]at hn;obtain⟨hn0,hn1⟩:=hn
 have c1:IntKind.u64.wrap n=n:=wr_u64 hn0 (by omega)
 have hz:n.toNat<18446744073709551616:=by omega
 have hz2:n<18446744073709551616:=by omega
 unfold eput
 have hw:okW w=true∨okW w=false:=by cases okW w <;> simp
 have hcd:cdW w=if okW w then 0 else 7:=rfl
 refine ct_runE hmix epΓ_ok (n:=0) Tryz.func128 ?_;unfold Tryz.f128;rcases hw with h | h
 · have hl:w.length≤255:=by simp only[okW,decide_eq_true_eq]at h;exact h.2
   rw[h,if_pos rfl]at hcd
   have hb1:1+w.length≤9223372036854775807:=by omega
   have hb2:w.length+1≤9223372036854775807:=by omega
   obtain⟨q,hq⟩:∃q,Vy.put [n.toNat]=q:=⟨_,rfl⟩
   have hqe:Vy.enc n.toNat=q:=by rw[←hq];simp[Vy.put]
   have hql:q.length≤9:=by
     rw[←hqe,Vy.enc_length]
     have:=(Vy.size_bd n.toNat (by omega)).2
     omega
   have hb3:1+q.length≤9223372036854775807:=by omega
   have hb4:q.length+1≤9223372036854775807:=by omega
   have hb5:q.length+1+w.length≤9223372036854775807:=by omega
   rw[hqe]
   cases g with
   | true =>
     exact⟨_,_,(by simp +decide [enA,epΓ,wcheckS,readS,hcd,h,hb1,hb2];exact⟨rfl,rfl⟩),Weak.mk' [] (by decide) rfl (by simp[h]) (by simp)⟩
   | false =>
     exact⟨_,_,(by simp +decide [enA,epΓ,wcheckS,putS',readS,hcd,h,c1,hz,hz2,hn0,hq,hb1,hb2,hb3,hb4,hb5];exact⟨rfl,rfl⟩),Weak.mk' [] (by decide) rfl (by simp[h,Vy.put]) (by simp)⟩
 · rw[h]at hcd
   exact⟨_,_,(by simp[enA,epΓ,wcheckS,readS,hcd,h];exact⟨rfl,rfl⟩),Weak.mk' [] (by decide) rfl (by simp[h]) (by simp)⟩
def eputS:Summ:=pureS fun | [.agg [.str w,.int .u32 n,.bool g]]=>if okN n=true then some (.tuple [.str (eput (w,n,g)).1,.int .i64 (eput (w,n,g)).2]) else none | _=>none
theorem eput_sound:Sound Pz 128 eputS:=by
 refine sound_pure (enter_of Tryz.func128 rfl (by decide)) fun args v h=>?_
 split at h <;> try cases h
 rename_i w n g
 split at h <;> cases h
 rename_i hn;exact⟨eput_ct (w,n,g) hn,rfl,rfl⟩
def noE:En:=([],0,false)
def eget(s:List UInt8):En×Int:=match s with
 | []=>(noE,3)
 | b::r =>
   if b.toNat=2 then (if okW r then ((r,0,true),0) else (noE,7))
   else if b.toNat=1 then
     (if (Vy.get s 1).2.2=0 then (if 4294967295<(Vy.get s 1).1 then (noE,17) else if okW (s.drop (Vy.get s 1).2.1.toNat) then ((s.drop (Vy.get s 1).2.1.toNat,((Vy.get s 1).1:Int),false),0) else (noE,7))
      else (noE,(Vy.get s 1).2.2))
   else (noE,6)
def egΓ:Gam:=gams [(147,wcheckS),(146,getS)]
theorem egΓ_ok:GOk Pz egΓ:=goks_cons wcheck_sound (goks_cons get_sound goks_nil)
theorem cdW_eq(w:List UInt8):cdW w=if okW w then 0 else 7:=rfl
theorem eget_ct(s:List UInt8)(hs:s.length≤1000000):Ct Pz 78 [.str s] [] (.tuple [.agg (enA (eget s).1),.int .i64 (eget s).2]) []:=by
 refine ct_runE hmix egΓ_ok (n:=0) Tryz.func78 ?_;unfold Tryz.f78
 cases s with
 | nil=>exact⟨_,_,(by simp[eget,enA,noE];exact⟨rfl,rfl⟩),Weak.mk' [] (by decide) rfl (by simp[eget,enA,noE]) (by simp)⟩
 | cons b r =>
   have hbl:=b.toNat_lt
   have hr:r.length+1≤1000000:=by simpa using hs
   have hr2:r.length+1≤140737488351232:=by omega
   have e1:(1:Int)≤(r.length:Int)+1:=by omega
   by_cases h2:b.toNat=2
   · have h2i:((b.toNat:Nat):Int)=2:=by omega
     cases hk:okW r with
     | true=>exact⟨_,_,(by simp +decide [egΓ,wcheckS,readS,h2i,e1,cdW_eq,hk];exact⟨rfl,rfl⟩),Weak.mk' [] (by decide) rfl (by simp[eget,enA,h2,hk]) (by simp)⟩
     | false=>exact⟨_,_,(by simp +decide [egΓ,wcheckS,readS,h2i,e1,cdW_eq,hk];exact⟨rfl,rfl⟩),Weak.mk' [] (by decide) rfl (by simp[eget,enA,noE,h2,hk]) (by simp)⟩
   · have h2i:¬((b.toNat:Nat):Int)=2:=by omega
     by_cases h1:b.toNat=1
     · have h1i:((b.toNat:Nat):Int)=1:=by omega
       obtain⟨m,x,c,hg⟩:∃m x c,Vy.get (b::r) 1=(m,x,c):=⟨_,_,_,rfl⟩;by_cases hc:c=0
       · subst hc
         obtain⟨g0,g1,g2⟩:=Vy.get_ok _ _ _ _ hg;have gv:=(Vy.get_put _ 1 m x hg).2
         have x0:(0:Int)≤x:=by omega
         have x1:x≤(r.length:Int)+1:=by simpa using g2
         by_cases hm:4294967295<m
         · have hmi:(4294967295:Int)<m:=by omega
           exact⟨_,_,(by simp +decide [egΓ,wcheckS,getS,readS,h2i,h1i,e1,hg,hr2,hmi,x0,x1];exact⟨rfl,rfl⟩),Weak.mk' [] (by decide) rfl (by simp[eget,enA,noE,h1,hg,hm]) (by simp)⟩
         · have hmi:¬(4294967295:Int)<m:=by omega
           have c2:IntKind.u32.wrap (m:Int)=m:=wr_u32 (by omega) (by omega)
           obtain⟨w,hw⟩:∃w,(b::r).drop x.toNat=w:=⟨_,rfl⟩
           have ht:w.take (r.length+1-x.toNat)=w:=by
             apply q6Z;rw[←hw,qkZ,q7Z];omega
           cases hk:okW w with
           | true=>exact⟨_,_,(by simp +decide [egΓ,wcheckS,getS,readS,h2i,h1i,e1,hg,hr2,hmi,x0,x1,hw,ht,cdW_eq,hk,c2];exact⟨rfl,rfl⟩),Weak.mk' [] (by decide) rfl (by simp[eget,enA,noE,h1,hg,hm,hw,hk]) (by simp)⟩
           | false=>exact⟨_,_,(by simp +decide [egΓ,wcheckS,getS,readS,h2i,h1i,e1,hg,hr2,hmi,x0,x1,hw,ht,cdW_eq,hk,c2];exact⟨rfl,rfl⟩),Weak.mk' [] (by decide) rfl (by simp[eget,enA,noE,h1,hg,hm,hw,hk]) (by simp)⟩
       · exact⟨_,_,(by simp +decide [egΓ,wcheckS,getS,readS,h2i,h1i,e1,hg,hr2,hc];exact⟨rfl,rfl⟩),Weak.mk' [] (by decide) rfl (by simp[eget,enA,noE,h1,hg,hc]) (by simp)⟩
     · have h1i:¬((b.toNat:Nat):Int)=1:=by omega
       exact⟨_,_,(by simp +decide [egΓ,h2i,h1i,e1];exact⟨rfl,rfl⟩),Weak.mk' [] (by decide) rfl (by simp[eget,enA,noE,h1,h2]) (by simp)⟩
def egetS:Summ:=pureS fun | [.str s]=>if s.length≤1000000 then some (.tuple [.agg (enA (eget s).1),.int .i64 (eget s).2]) else none | _=>none
theorem eget_sound:Sound Pz 78 egetS:=by
 refine sound_pure (enter_of Tryz.func78 rfl (by decide)) fun args v h=>?_
 split at h <;> try cases h
 rename_i s
 split at h <;> cases h
 rename_i hn;exact⟨eget_ct s hn,rfl,rfl⟩
end
section
open Go
def Rp.bytes(l:List En):List UInt8:=(l.map fun x=>(Fr.put (eput x).1).1).flatten
theorem Rp.bytes_le(l:List En):(Rp.bytes l).length≤313*l.length:=by
 induction l with
 | nil=>simp[Rp.bytes]
 | cons x l ih =>
   simp only[Rp.bytes,s1Z,rcZ,qdZ,q7Z]at ih ⊢;have:=Fr.put_le (eput x).1;omega
end
end Go.Proofs.YtpmfecnajoojeaaGreatDoor
