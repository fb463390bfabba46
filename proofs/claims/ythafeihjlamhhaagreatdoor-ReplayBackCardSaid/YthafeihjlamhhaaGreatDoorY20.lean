/- Parts of the proof of ReplayBack: lemmas, each with its own conditions. -/
import Derived.Test.YthafeihjlamhhaaGreatDoorY5
import Derived.Test.YthafeihjlamhhaaGreatDoorY19
set_option maxHeartbeats 64000000
open List renaming take_of_length_le → q6Z, length_cons → q7Z, length_append → qdZ, length_take → qjZ, length_drop → qkZ, flatten_cons → rcZ, map_cons → s1Z
open Option renaming map_eq_some_iff → qlZ
namespace Go.Proofs.YthafeihjlamhhaaGreatDoor
open _root_.Go.Proofs.Tryz renaming prog → Pz
set_option maxRecDepth 100000
section
open Go
attribute [-simp] zJ zT zk zL zm
abbrev En:=List UInt8×Int×Bool
def enA(s:En):List AV:=[.str s.1,.int .u32 s.2.1,.bool s.2.2]
def zM:List En->List AV
 | []=>[]
 | s::l=>enA s++zM l
@[simp] theorem zBP:∀l:List En,(zM l).length=l.length*3
 | []=>rfl
 | s::l=>by simp[zM,enA,zBP l];omega
@[simp] theorem zl:∀l:List En,zP (zM l)=true
 | []=>rfl
 | s::l=>by simp[zM,enA,zl l]
theorem zHK:∀(l:List En) (k:Nat) (h:k<l.length),((zM l).drop (k*3)).take 3=enA l[k]
 | s::l,0,_=>by simp[zM,enA]
 | s::l,k+1,h=>by
   have:=zHK l k (by simpa using h)
   rw[show (k+1)*3=k*3+3 by omega]
   simpa[zM,enA] using this
def zBy:List AV->Option (List En)
 | []=>some []
 | .str a::.int .u32 b::.bool c::l=>(zBy l).map ((a,b,c)::·)
 | _=>none
theorem zJN:∀{xs:List AV} {l:List En},zBy xs=some l->xs=zM l
 | [],l,h=>by cases h;rfl
 | x::xs,l,h=>by
   unfold zBy at h;split at h
   · cases ‹_=[]›
   · rename_i a b c ys e
     cases e;obtain⟨l',hl',rfl⟩:=qlZ.1 h;rw[zJN hl'];rfl
   · cases h
@[simp] theorem zA9:∀l:List En,zBy (zM l)=some l
 | []=>rfl
 | s::l=>by simp[zM,enA,zBy,zA9 l]
@[simp] theorem zXy(l:List En):(zM l).take (l.length*3)=zM l:=by rw[<-zBP,List.take_length]
@[simp] theorem zWe(a b:List En):zM (a++b)=zM a++zM b:=by
 induction a with
 | nil=>rfl
 | cons x a ih=>simp[zM,ih]
def zBY(H:zA):AV->Option (List En)
 | .nils=>some []
 | .slice b off len 3 _=>match H[b]? with
   | some (.cells _ l)=>if off+len*3<=l.length then zBy ((l.drop off).take (len*3)) else none
   | _=>none
 | .sl b off len 3 _=>match H[b]? with
   | some (.cells _ l)=>if off+len*3<=l.length then zBy ((l.drop off).take (len*3)) else none
   | _=>none
 | _=>none
theorem zE3{H:zA}{x:AV}{a:List En}(h:zBY H x=some a):∃b off,(∀(i:Nat) (wd:List (Nat×Nat)),wd[i]? = some (b,off)->zBq wd (.sl i 0 a.length 3 false) x) /\
   (match H[b]? with | some (.cells _ l)=>off+(zM a).length<=l.length/\zM a=(l.drop off).take (zM a).length | none=>True | _=>False):=by
 have key:∀(b off len:Nat) (o:Bool) (l:List AV),H[b]? = some (.cells o l)->off+len*3<=l.length->zBy ((l.drop off).take (len*3))=some a->len=a.length/\off+(zM a).length<=l.length/\zM a=(l.drop off).take (zM a).length:=by
   intro b off len o l hb hle hs;have e:=zJN hs
   have hlen:len=a.length:=by
     have:=congrArg List.length e;simp at this;omega
   subst hlen
   exact⟨rfl,by simpa using hle,by rw[zBP];exact e.symm⟩
 unfold zBY at h;split at h
 · cases h
   exact⟨H.length,0,fun i wd _=>by simp[zBq],by simp⟩
 · rename_i b off len c
   split at h;rotate_left
   · cases h
   rename_i o l hb;split at h;rotate_left
   · cases h
   rename_i hle;obtain⟨rfl,h1,h2⟩:=key b off len o l hb hle h
   exact⟨b,off,fun i wd hw=>by simp[zBq,hw],by rw[hb];exact⟨h1,h2⟩⟩
 · rename_i b off len c
   split at h;rotate_left
   · cases h
   rename_i o l hb;split at h;rotate_left
   · cases h
   rename_i hle;obtain⟨rfl,h1,h2⟩:=key b off len o l hb hle h
   exact⟨b,off,fun i wd hw=>by simp[zBq,hw],by rw[hb];exact⟨h1,h2⟩⟩
 · cases h
@[simp] theorem zSF:∀l:List En,(zM l).all Zy=true
 | []=>rfl
 | s::l=>by simp[zM,enA,zSF l]
theorem zF3:∀(l:List En) (n:Nat),(zM l).take (n*3)=zM (l.take n)
 | [],n=>by simp[zM]
 | s::l,0=>by simp[zM]
 | s::l,n+1=>by
   rw[show (n+1)*3=n*3+3 by omega]
   simp[zM,enA,zF3 l n]
theorem zNb:∀(l:List En) (n:Nat),(zM l).drop (n*3)=zM (l.drop n)
 | [],n=>by simp[zM]
 | s::l,0=>by simp[zM]
 | s::l,n+1=>by
   rw[show (n+1)*3=n*3+3 by omega]
   simp[zM,enA,zNb l n]
def okW(w:List UInt8):Bool:=decide (1<=w.length/\w.length<=255)
def cdW(w:List UInt8):Int:=if okW w then 0 else 7
def zNj:List FuncId:=[239,238]
theorem zUf:GOk Pz (zAJ Pz (zj []) 4 zNj 2):=zd hmix zE 4 zNj 2
theorem zSS(w:List UInt8):Ct Pz 175 [.slice 0 0 1 1 false] [.cells false [.str w]] (.int .i64 (cdW w)) [.cells false [.str w]]:=by
 refine zCF hmix zUf (n:=0) Tryz.func175 ?_;unfold Tryz.f175 cdW okW;by_cases h0:w=[]
 · subst h0
   exact⟨_,_,(by simp[zNj,Tryz.f239,Tryz.f238];exact⟨rfl,rfl⟩),Weak.mk' [0] (by decide) rfl (by simp) (by simp)⟩
 · have h1:1<=w.length:=by cases w with | nil=>exact absurd rfl h0 | cons=>simp
   have hE:w.isEmpty=false:=by cases w with | nil=>exact absurd rfl h0 | cons=>rfl
   by_cases h2:w.length<=255
   · have h3:(w.length:Int)<=255:=by omega
     exact⟨_,_,(by simp[zNj,Tryz.f239,Tryz.f238,h0,hE,h2,h3];exact⟨rfl,rfl⟩),Weak.mk' [0] (by decide) rfl (by simp[h1,h2]) (by simp)⟩
   · have h3:¬(w.length:Int)<=255:=by omega
     exact⟨_,_,(by simp[zNj,Tryz.f239,Tryz.f238,h0,hE,h2,h3];exact⟨rfl,rfl⟩),Weak.mk' [0] (by decide) rfl (by simp[h1,h2]) (by simp)⟩
def zAb:zU:=Zz fun args H=>match args with
 | [.slice b off 1 1 _]=>match H[b]? with
   | some (.cells _ l)=>match (l.drop off).take 1 with
     | [.str w]=>if off+1<=l.length then some (.int .i64 (cdW w)) else none
     | _=>none
   | _=>none
 | _=>none
theorem zFR:Sound Pz 175 zAb:=by
 refine Zx (zG Tryz.func175 rfl (by decide)) fun args H v h=>?_
 split at h <;> try cases h
 rename_i b off c
 split at h <;> try cases h
 rename_i o l hb
 split at h <;> try cases h
 rename_i w hw
 split at h <;> cases h
 rename_i hle;refine zEp (zSS w) rfl [(b,off)] ⟨?_,trivial⟩ ⟨?_,rfl,trivial⟩
 · simp[zBq]
 · rw[hb]
   exact⟨hle,hw.symm⟩
def zDW(e:En):List UInt8×Int:=if okW e.1 then (if e.2.2 then (2::e.1,0) else (1::(Vy.enc e.2.1.toNat++e.1),0)) else ([],7)
def okN(n:Int):Bool:=decide (0<=n/\n<4294967296)
def zWU:Gam:=zj [(175,zAb),(113,zQe)]
theorem zWR:GOk Pz zWU:=zC zFR (zC zJ5 zE)
theorem zV4(e:En)(hn:okN e.2.1=true):Ct Pz 146 [.agg (enA e)] [] (.tuple [.str (zDW e).1,.int .i64 (zDW e).2]) []:=by
 obtain⟨w,n,g⟩:=e;simp only[okN,decide_eq_true_eq]at hn;obtain⟨hn0,hn1⟩:=hn
 have c1:IntKind.u64.wrap n=n:=zHg hn0 (by omega)
 have hz:n.toNat<18446744073709551616:=by omega
 have hz2:n<18446744073709551616:=by omega
 unfold zDW
 have hw:okW w=true\/okW w=false:=by cases okW w <;> simp
 have hcd:cdW w=if okW w then 0 else 7:=rfl
 refine zCF hmix zWR (n:=0) Tryz.func146 ?_;unfold Tryz.f146;rcases hw with h | h
 · have hl:w.length<=255:=by simp only[okW,decide_eq_true_eq]at h;exact h.2
   rw[h,if_pos rfl]at hcd
   have hb1:1+w.length<=9223372036854775807:=by omega
   have hb2:w.length+1<=9223372036854775807:=by omega
   obtain⟨q,hq⟩:∃q,Vy.put [n.toNat]=q:=⟨_,rfl⟩
   have hqe:Vy.enc n.toNat=q:=by rw[<-hq];simp[Vy.put]
   have hql:q.length<=9:=by
     rw[<-hqe,Vy.enc_length]
     have:=(Vy.size_bd n.toNat (by omega)).2
     omega
   have hb3:1+q.length<=9223372036854775807:=by omega
   have hb4:q.length+1<=9223372036854775807:=by omega
   have hb5:q.length+1+w.length<=9223372036854775807:=by omega
   rw[hqe]
   cases g with
   | true =>
     exact⟨_,_,(by simp +decide [enA,zWU,zAb,Zz,hcd,h,hb1,hb2];exact⟨rfl,rfl⟩),Weak.mk' [] (by decide) rfl (by simp[h]) (by simp)⟩
   | false =>
     exact⟨_,_,(by simp +decide [enA,zWU,zAb,zQe,Zz,hcd,h,c1,hz,hz2,hn0,hq,hb1,hb2,hb3,hb4,hb5];exact⟨rfl,rfl⟩),Weak.mk' [] (by decide) rfl (by simp[h,Vy.put]) (by simp)⟩
 · rw[h]at hcd
   exact⟨_,_,(by simp[enA,zWU,zAb,Zz,hcd,h];exact⟨rfl,rfl⟩),Weak.mk' [] (by decide) rfl (by simp[h]) (by simp)⟩
def zUN:zU:=zAP fun | [.agg [.str w,.int .u32 n,.bool g]]=>if okN n=true then some (.tuple [.str (zDW (w,n,g)).1,.int .i64 (zDW (w,n,g)).2]) else none | _=>none
theorem zPI:Sound Pz 146 zUN:=by
 refine zo (zG Tryz.func146 rfl (by decide)) fun args v h=>?_
 split at h <;> try cases h
 rename_i w n g
 split at h <;> cases h
 rename_i hn;exact⟨zV4 (w,n,g) hn,rfl,rfl⟩
def noE:En:=([],0,false)
def zBt(s:List UInt8):En×Int:=match s with
 | []=>(noE,3)
 | b::r =>
   if b.toNat=2 then (if okW r then ((r,0,true),0) else (noE,7))
   else if b.toNat=1 then
     (if (Vy.get s 1).2.2=0 then (if 4294967295<(Vy.get s 1).1 then (noE,17) else if okW (s.drop (Vy.get s 1).2.1.toNat) then ((s.drop (Vy.get s 1).2.1.toNat,((Vy.get s 1).1:Int),false),0) else (noE,7))
      else (noE,(Vy.get s 1).2.2))
   else (noE,6)
def zM5:Gam:=zj [(175,zAb),(174,zGO)]
theorem zVh:GOk Pz zM5:=zC zFR (zC zKR zE)
theorem zLj(w:List UInt8):cdW w=if okW w then 0 else 7:=rfl
theorem zWP(s:List UInt8)(hs:s.length<=1000000):Ct Pz 108 [.str s] [] (.tuple [.agg (enA (zBt s).1),.int .i64 (zBt s).2]) []:=by
 refine zCF hmix zVh (n:=0) Tryz.func108 ?_;unfold Tryz.f108
 cases s with
 | nil=>exact⟨_,_,(by simp[zBt,enA,noE];exact⟨rfl,rfl⟩),Weak.mk' [] (by decide) rfl (by simp[zBt,enA,noE]) (by simp)⟩
 | cons b r =>
   have hbl:=b.toNat_lt
   have hr:r.length+1<=1000000:=by simpa using hs
   have hr2:r.length+1<=140737488351232:=by omega
   have e1:(1:Int)<=(r.length:Int)+1:=by omega
   by_cases h2:b.toNat=2
   · have h2i:((b.toNat:Nat):Int)=2:=by omega
     cases hk:okW r with
     | true=>exact⟨_,_,(by simp +decide [zM5,zAb,Zz,h2i,e1,zLj,hk];exact⟨rfl,rfl⟩),Weak.mk' [] (by decide) rfl (by simp[zBt,enA,h2,hk]) (by simp)⟩
     | false=>exact⟨_,_,(by simp +decide [zM5,zAb,Zz,h2i,e1,zLj,hk];exact⟨rfl,rfl⟩),Weak.mk' [] (by decide) rfl (by simp[zBt,enA,noE,h2,hk]) (by simp)⟩
   · have h2i:¬((b.toNat:Nat):Int)=2:=by omega
     by_cases h1:b.toNat=1
     · have h1i:((b.toNat:Nat):Int)=1:=by omega
       obtain⟨m,x,c,hg⟩:∃m x c,Vy.get (b::r) 1=(m,x,c):=⟨_,_,_,rfl⟩;by_cases hc:c=0
       · subst hc
         obtain⟨g0,g1,g2⟩:=Vy.get_ok _ _ _ _ hg;have gv:=(Vy.get_put _ 1 m x hg).2
         have x0:(0:Int)<=x:=by omega
         have x1:x<=(r.length:Int)+1:=by simpa using g2
         by_cases hm:4294967295<m
         · have hmi:(4294967295:Int)<m:=by omega
           exact⟨_,_,(by simp +decide [zM5,zAb,zGO,Zz,h2i,h1i,e1,hg,hr2,hmi,x0,x1];exact⟨rfl,rfl⟩),Weak.mk' [] (by decide) rfl (by simp[zBt,enA,noE,h1,hg,hm]) (by simp)⟩
         · have hmi:¬(4294967295:Int)<m:=by omega
           have c2:IntKind.u32.wrap (m:Int)=m:=zTW (by omega) (by omega)
           obtain⟨w,hw⟩:∃w,(b::r).drop x.toNat=w:=⟨_,rfl⟩
           have ht:w.take (r.length+1-x.toNat)=w:=by
             apply q6Z;rw[<-hw,qkZ,q7Z];omega
           cases hk:okW w with
           | true=>exact⟨_,_,(by simp +decide [zM5,zAb,zGO,Zz,h2i,h1i,e1,hg,hr2,hmi,x0,x1,hw,ht,zLj,hk,c2];exact⟨rfl,rfl⟩),Weak.mk' [] (by decide) rfl (by simp[zBt,enA,noE,h1,hg,hm,hw,hk]) (by simp)⟩
           | false=>exact⟨_,_,(by simp +decide [zM5,zAb,zGO,Zz,h2i,h1i,e1,hg,hr2,hmi,x0,x1,hw,ht,zLj,hk,c2];exact⟨rfl,rfl⟩),Weak.mk' [] (by decide) rfl (by simp[zBt,enA,noE,h1,hg,hm,hw,hk]) (by simp)⟩
       · exact⟨_,_,(by simp +decide [zM5,zAb,zGO,Zz,h2i,h1i,e1,hg,hr2,hc];exact⟨rfl,rfl⟩),Weak.mk' [] (by decide) rfl (by simp[zBt,enA,noE,h1,hg,hc]) (by simp)⟩
     · have h1i:¬((b.toNat:Nat):Int)=1:=by omega
       exact⟨_,_,(by simp +decide [zM5,h2i,h1i,e1];exact⟨rfl,rfl⟩),Weak.mk' [] (by decide) rfl (by simp[zBt,enA,noE,h1,h2]) (by simp)⟩
def zL8:zU:=zAP fun | [.str s]=>if s.length<=1000000 then some (.tuple [.agg (enA (zBt s).1),.int .i64 (zBt s).2]) else none | _=>none
theorem zO4:Sound Pz 108 zL8:=by
 refine zo (zG Tryz.func108 rfl (by decide)) fun args v h=>?_
 split at h <;> try cases h
 rename_i s
 split at h <;> cases h
 rename_i hn;exact⟨zWP s hn,rfl,rfl⟩
end
section
open Go
def Rp.one(s:List UInt8)(a:Int):Option (En×Int):=if (Fr.get s a).2.2=0/\(zBt (Fr.get s a).1).2=0 then some ((zBt (Fr.get s a).1).1,(Fr.get s a).2.1) else none
def Rp.rdF(s:List UInt8):Nat->Int->List En×Int
 | 0,a=>([],a)
 | k+1,a=>match Rp.one s a with
   | some (x,b)=>(x::(Rp.rdF s k b).1,(Rp.rdF s k b).2)
   | none=>([],a)
def Rp.rd(s:List UInt8)(a:Int):List En×Int:=Rp.rdF s ((s.length:Int)+1-a).toNat a
theorem Rp.one_way{s:List UInt8}{a:Int}{x:En}{b:Int}(h:Rp.one s a=some (x,b)):0<=a/\a<b/\b<=s.length/\(Fr.get s a).2.2=0/\(zBt (Fr.get s a).1)=(x,0)/\b=(Fr.get s a).2.1:=by
 unfold Rp.one at h;split at h
 · rename_i hc
   cases h;obtain⟨h1,h2,h3⟩:=Fr.get_way s a hc.1;exact⟨h1,h2,h3,hc.1,Prod.ext rfl hc.2,rfl⟩
 · cases h
theorem Rp.rdF_fuel(s:List UInt8):∀(k m:Nat) (a:Int),(s.length:Int)<a+k->(s.length:Int)<a+m->a<=s.length->Rp.rdF s k a=Rp.rdF s m a
 | 0,_,a,h,_,h3=>by omega
 | _+1,0,a,_,h,h3=>by omega
 | k+1,m+1,a,h1,h2,h3=>by
   unfold Rp.rdF
   cases h:Rp.one s a with
   | none=>rfl
   | some y =>
     obtain⟨x,b⟩:=y;obtain⟨_,w2,w3,_⟩:=Rp.one_way h;dsimp only
     rw[Rp.rdF_fuel s k m b (by push_cast at h1;omega) (by push_cast at h2;omega) w3]
theorem Rp.rd_some{s:List UInt8}{a:Int}{x:En}{b:Int}(h:Rp.one s a=some (x,b)):Rp.rd s a=(x::(Rp.rd s b).1,(Rp.rd s b).2):=by
 obtain⟨w1,w2,w3,_⟩:=Rp.one_way h
 obtain⟨k,hk⟩:∃k:Nat,((s.length:Int)+1-a).toNat=k+1:=⟨((s.length:Int)-a).toNat,by omega⟩
 have e:Rp.rdF s k b=Rp.rd s b:=Rp.rdF_fuel s _ _ _ (by omega) (by omega) w3
 unfold Rp.rd;rw[hk]
 conv=>lhs;unfold Rp.rdF
 rw[h];dsimp only;rw[e];rfl
theorem Rp.rd_none{s:List UInt8}{a:Int}(ha:a<=s.length)(h:Rp.one s a=none):Rp.rd s a=([],a):=by
 obtain⟨k,hk⟩:∃k:Nat,((s.length:Int)+1-a).toNat=k+1:=⟨((s.length:Int)-a).toNat,by omega⟩
 unfold Rp.rd;rw[hk]
 conv=>lhs;unfold Rp.rdF
 rw[h]
def Rp.bytes(l:List En):List UInt8:=(l.map fun x=>(Fr.put (zDW x).1).1).flatten
theorem Rp.bytes_le(l:List En):(Rp.bytes l).length<=313*l.length:=by
 induction l with
 | nil=>simp[Rp.bytes]
 | cons x l ih =>
   simp only[Rp.bytes,s1Z,rcZ,qdZ,q7Z]at ih ⊢;have:=Fr.put_le (zDW x).1;omega
def Rp.At(s:List UInt8)(p:List En×Int):Prop:=0<=p.2/\p.2<=s.length/\(p.1.length:Int)<=p.2/\Rp.rd s 0=(p.1++(Rp.rd s p.2).1,(Rp.rd s p.2).2)
theorem Rp.at0(s:List UInt8):Rp.At s ([],0):=⟨Int.le_refl _,by dsimp only;omega,by simp,by simp⟩
theorem Rp.at_next{s:List UInt8}{acc:List En}{a:Int}{x:En}{b:Int}(h:Rp.At s (acc,a))(h1:Rp.one s a=some (x,b)):Rp.At s (acc++[x],b):=by
 obtain⟨g1,g2,g3,g4⟩:=h;obtain⟨w1,w2,w3,_⟩:=Rp.one_way h1;dsimp only at g1 g2 g3 g4
 refine ⟨by dsimp only;omega,w3,by simp;omega,?_⟩
 dsimp only;rw[g4,Rp.rd_some h1];simp
theorem Rp.at_end{s:List UInt8}{acc:List En}{a:Int}(h:Rp.At s (acc,a))(h1:Rp.one s a=none):Rp.rd s 0=(acc,a):=by
 obtain⟨g1,g2,g3,g4⟩:=h;dsimp only at g1 g2 g3 g4;rw[g4,Rp.rd_none g2 h1];simp
theorem Rp.get_le(s:List UInt8)(a:Int):(Fr.get s a).1.length<=300:=by
 unfold Fr.get
 repeat' split
 all_goals first | (simp;done) | (simp only[qjZ];omega)
end
end Go.Proofs.YthafeihjlamhhaaGreatDoor
