/- Parts of the proof of ReplayMends: lemmas, each with its own conditions. -/
import Derived.Test.YtpmfecnajoojeaaGreatDoorY6
import Derived.Test.YtpmfecnajoojeaaGreatDoorTypes
set_option maxHeartbeats 64000000
open Option renaming map_eq_some_iff → qlZ
namespace Go.Proofs.YtpmfecnajoojeaaGreatDoor
set_option maxRecDepth 100000
section
open Go
attribute [-simp] zJ zY zn zL zl
abbrev En:=List UInt8×Int×Bool
def enA(s:En):List AV:=[.str s.1,.int .u32 s.2.1,.bool s.2.2]
def zS:List En->List AV
 | []=>[]
 | s::l=>enA s++zS l
@[simp] theorem zBO:∀l:List En,(zS l).length=l.length*3
 | []=>rfl
 | s::l=>by simp[zS,enA,zBO l];omega
@[simp] theorem zp:∀l:List En,zZ (zS l)=true
 | []=>rfl
 | s::l=>by simp[zS,enA,zp l]
theorem zHP:∀(l:List En) (k:Nat) (h:k<l.length),((zS l).drop (k*3)).take 3=enA l[k]
 | s::l,0,_=>by simp[zS,enA]
 | s::l,k+1,h=>by
   have:=zHP l k (by simpa using h)
   rw[show (k+1)*3=k*3+3 by omega]
   simpa[zS,enA] using this
def zDg:List AV->Option (List En)
 | []=>some []
 | .str a::.int .u32 b::.bool c::l=>(zDg l).map ((a,b,c)::·)
 | _=>none
theorem zIr:∀{xs:List AV} {l:List En},zDg xs=some l->xs=zS l
 | [],l,h=>by cases h;rfl
 | x::xs,l,h=>by
   unfold zDg at h;split at h
   · cases ‹_=[]›
   · rename_i a b c ys e
     cases e;obtain⟨l',hl',rfl⟩:=qlZ.1 h;rw[zIr hl'];rfl
   · cases h
@[simp] theorem zBq:∀l:List En,zDg (zS l)=some l
 | []=>rfl
 | s::l=>by simp[zS,enA,zDg,zBq l]
@[simp] theorem zXi(l:List En):(zS l).take (l.length*3)=zS l:=by rw[<-zBO,List.take_length]
@[simp] theorem zWJ(a b:List En):zS (a++b)=zS a++zS b:=by
 induction a with
 | nil=>rfl
 | cons x a ih=>simp[zS,ih]
def zE4(H:zA):AV->Option (List En)
 | .nils=>some []
 | .slice b off len 3 _=>match H[b]? with
   | some (.cells _ l)=>if off+len*3<=l.length then zDg ((l.drop off).take (len*3)) else none
   | _=>none
 | .sl b off len 3 _=>match H[b]? with
   | some (.cells _ l)=>if off+len*3<=l.length then zDg ((l.drop off).take (len*3)) else none
   | _=>none
 | _=>none
theorem zFC{H:zA}{x:AV}{a:List En}(h:zE4 H x=some a):∃b off,(∀(i:Nat) (wd:List (Nat×Nat)),wd[i]? = some (b,off)->zBo wd (.sl i 0 a.length 3 false) x) /\
   (match H[b]? with | some (.cells _ l)=>off+(zS a).length<=l.length/\zS a=(l.drop off).take (zS a).length | none=>True | _=>False):=by
 have key:∀(b off len:Nat) (o:Bool) (l:List AV),H[b]? = some (.cells o l)->off+len*3<=l.length->zDg ((l.drop off).take (len*3))=some a->len=a.length/\off+(zS a).length<=l.length/\zS a=(l.drop off).take (zS a).length:=by
   intro b off len o l hb hle hs;have e:=zIr hs
   have hlen:len=a.length:=by
     have:=congrArg List.length e;simp at this;omega
   subst hlen
   exact⟨rfl,by simpa using hle,by rw[zBO];exact e.symm⟩
 unfold zE4 at h;split at h
 · cases h
   exact⟨H.length,0,fun i wd _=>by simp[zBo],by simp⟩
 · rename_i b off len c
   split at h;rotate_left
   · cases h
   rename_i o l hb;split at h;rotate_left
   · cases h
   rename_i hle;obtain⟨rfl,h1,h2⟩:=key b off len o l hb hle h
   exact⟨b,off,fun i wd hw=>by simp[zBo,hw],by rw[hb];exact⟨h1,h2⟩⟩
 · rename_i b off len c
   split at h;rotate_left
   · cases h
   rename_i o l hb;split at h;rotate_left
   · cases h
   rename_i hle;obtain⟨rfl,h1,h2⟩:=key b off len o l hb hle h
   exact⟨b,off,fun i wd hw=>by simp[zBo,hw],by rw[hb];exact⟨h1,h2⟩⟩
 · cases h
@[simp] theorem zR9:∀l:List En,(zS l).all ZA=true
 | []=>rfl
 | s::l=>by simp[zS,enA,zR9 l]
end
end Go.Proofs.YtpmfecnajoojeaaGreatDoor
