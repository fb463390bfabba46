/- Parts of the proof of SweepTells: lemmas, each with its own conditions. -/
import Derived.Test.YtfhidaoiofeooaaGreatDoorY7
set_option maxHeartbeats 64000000
open List renaming getElem?_eq_getElem → q3Z, take_of_length_le → q6Z, length_cons → q7Z, length_nil → q8Z, cons_append → q9Z, nil_append → qaZ, replicate → qbZ, length_take → qjZ, mem_cons → qwZ, mem_append → qxZ, append_nil → r2Z, getElem_mem → r3Z, take_append_drop → r6Z, length_map → r7Z, mem_map → reZ, map_append → roZ, replicate_succ → rvZ, getElem_append_right → scZ, drop_append → sdZ
open Option renaming map_eq_some_iff → qlZ
open Bool renaming false_eq_true → qsZ
open Nat renaming zero_add → s8Z
namespace Go.Proofs.YtfhidaoiofeooaaGreatDoor
open _root_.Go.Proofs.Tryz renaming prog → Pz
set_option maxRecDepth 100000
section
open Go
attribute [-simp] zG zT zc zJ zn
abbrev Sg:=Int×Int×Int
def sgA(s:Sg):List AV:=[.int .i64 s.1,.int .i64 s.2.1,.int .i64 s.2.2]
def zN:List Sg->List AV
 | []=>[]
 | s::l=>sgA s++zN l
@[simp] theorem zDg:∀l:List Sg,(zN l).length=l.length*3
 | []=>rfl
 | s::l=>by simp[zN,sgA,zDg l];omega
@[simp] theorem zDm:∀l:List Sg,zL (zN l)=true
 | []=>rfl
 | s::l=>by simp[zN,sgA,zDm l]
theorem zEx:∀(l:List Sg) (k:Nat) (h:k<l.length),((zN l).drop (k*3)).take 3=sgA l[k]
 | s::l,0,_=>by simp[zN,sgA]
 | s::l,k+1,h=>by
   have:=zEx l k (by simpa using h);rw[show (k+1)*3=k*3+3 by omega];simpa[zN,sgA] using this
end
section
open Go
def zCW:List AV->Option (List Sg)
 | []=>some []
 | .int .i64 a::.int .i64 b::.int .i64 c::l=>(zCW l).map ((a,b,c)::·)
 | _=>none
theorem zBq:∀{xs:List AV} {l:List Sg},zCW xs=some l->xs=zN l
 | [],l,h=>by cases h;rfl
 | x::xs,l,h=>by
   unfold zCW at h;split at h
   · cases ‹_=[]›
   · rename_i a b c ys e
     cases e;obtain⟨l',hl',rfl⟩:=qlZ.1 h;rw[zBq hl'];rfl
   · cases h
@[simp] theorem zN7:∀l:List Sg,zCW (zN l)=some l
 | []=>rfl
 | s::l=>by simp[zN,sgA,zCW,zN7 l]
@[simp] theorem zVX(l:List Sg):(zN l).take (l.length*3)=zN l:=by rw[<-zDg,List.take_length]
@[simp] theorem zUW(a b:List Sg):zN (a++b)=zN a++zN b:=by
 induction a with
 | nil=>rfl
 | cons x a ih=>simp[zN,ih]
def zAe(H:zA):AV->Option (List Sg)
 | .nils=>some []
 | .slice b off len 3 _=>match H[b]? with
   | some (.cells _ l)=>if off+len*3<=l.length then zCW ((l.drop off).take (len*3)) else none
   | _=>none
 | .sl b off len 3 _=>match H[b]? with
   | some (.cells _ l)=>if off+len*3<=l.length then zCW ((l.drop off).take (len*3)) else none
   | _=>none
 | _=>none
theorem zNW{H:zA}{x:AV}{a:List Sg}(h:zAe H x=some a):∃b off,(∀(i:Nat) (wd:List (Nat×Nat)),wd[i]? = some (b,off)->zAR wd (.sl i 0 a.length 3 false) x) /\
   (match H[b]? with | some (.cells _ l)=>off+(zN a).length<=l.length/\zN a=(l.drop off).take (zN a).length | none=>True | _=>False):=by
 have key:∀(b off len:Nat) (o:Bool) (l:List AV),H[b]? = some (.cells o l)->off+len*3<=l.length->zCW ((l.drop off).take (len*3))=some a->len=a.length/\off+(zN a).length<=l.length/\zN a=(l.drop off).take (zN a).length:=by
   intro b off len o l hb hle hs;have e:=zBq hs;have hlen:len=a.length:=by
     have:=congrArg List.length e;simp at this;omega
   subst hlen;exact⟨rfl,by simpa using hle,by rw[zDg];exact e.symm⟩
 unfold zAe at h;split at h
 · cases h
   exact⟨H.length,0,fun i wd _=>by simp[zAR],by simp⟩
 · rename_i b off len c
   split at h;rotate_left
   · cases h
   rename_i o l hb;split at h;rotate_left
   · cases h
   rename_i hle;obtain⟨rfl,h1,h2⟩:=key b off len o l hb hle h;exact⟨b,off,fun i wd hw=>by simp[zAR,hw],by rw[hb];exact⟨h1,h2⟩⟩
 · rename_i b off len c
   split at h;rotate_left
   · cases h
   rename_i o l hb;split at h;rotate_left
   · cases h
   rename_i hle;obtain⟨rfl,h1,h2⟩:=key b off len o l hb hle h;exact⟨b,off,fun i wd hw=>by simp[zAR,hw],by rw[hb];exact⟨h1,h2⟩⟩
 · cases h
end
section
open Go
attribute [-simp] zG zT zc zJ zn
structure Mf where
 v:Int
 f:Int
 n:Int
 segs:List Sg
 deriving DecidableEq
def mfA(b:Nat)(m:Mf):AV:=.agg [.int .i64 m.v,.int .i64 m.f,.int .i64 m.n,.sl b 0 m.segs.length 3 false]
def zEP(H:zA):AV->Option Mf
 | .agg [.int .i64 v,.int .i64 f,.int .i64 n,x]=>(zAe H x).map fun l=>⟨v,f,n,l⟩
 | _=>none
@[simp] theorem zVs(H:zA)(v f n:Int)(x:AV):zEP H (.agg [.int .i64 v,.int .i64 f,.int .i64 n,x])=(zAe H x).map fun l=>⟨v,f,n,l⟩:=rfl
theorem zFx{H:zA}{x:AV}{m:Mf}(h:zEP H x=some m):∃b off,(∀(i:Nat) (wd:List (Nat×Nat)),wd[i]? = some (b,off)->zAR wd (mfA i m) x) /\
   (match H[b]? with | some (.cells _ l)=>off+(zN m.segs).length<=l.length/\zN m.segs=(l.drop off).take (zN m.segs).length | none=>True | _=>False):=by
 unfold zEP at h;split at h
 · rename_i v f n x
   obtain⟨l,hl,rfl⟩:=qlZ.1 h;obtain⟨b,off,w,g⟩:=zNW hl;refine ⟨b,off,fun i wd hw=>?_,g⟩;unfold mfA zAR;refine ⟨?_,?_,?_,w i wd hw,trivial⟩ <;> (unfold zAR;exact wR)
 · cases h
end
section
open Go
end
section
open Go
attribute [-simp] zG zT zc zJ zn
end
section
open Go
attribute [-simp] zG zT zc zJ zn
@[simp] theorem zQz:∀l:List Sg,(zN l).all zx=true
 | []=>rfl
 | s::l=>by simp[zN,sgA,zQz l]
mutual
theorem zMF(g:Nat->Nat):∀x:AV,free x=true->reA g x=x
 | .top,_ | .bool _,_ | .int _ _,_ | .str _,_ | .nilp,_ | .nils,_ | .nilm,_ | .nilf,_=>rfl
 | .ptr ..,h | .slice ..,h | .sl ..,h | .map _,h | .yld _,h=>by simp[free]at h
 | .func f xs ys,h=>by simp at h;simp[Zd g xs h.1,Zd g ys h.2]
 | .agg l,h=>by simp at h;simp[Zd g l h]
 | .tuple l,h=>by simp at h;simp[Zd g l h]
theorem Zd(g:Nat->Nat):∀xs:List AV,zL xs=true->ZV g xs=xs
 | [],_=>rfl
 | x::xs,h=>by simp at h;simp[zMF g x h.1,Zd g xs h.2]
end
mutual
theorem zQ8(k:Nat):∀x:AV,free x=true->shA k x=x
 | .top,_ | .bool _,_ | .int _ _,_ | .str _,_ | .nilp,_ | .nils,_ | .nilm,_ | .nilf,_=>rfl
 | .ptr ..,h | .slice ..,h | .sl ..,h | .map _,h | .yld _,h=>by simp[free]at h
 | .func f xs ys,h=>by simp at h;simp[Z0 k xs h.1,Z0 k ys h.2]
 | .agg l,h=>by simp at h;simp[Z0 k l h]
 | .tuple l,h=>by simp at h;simp[Z0 k l h]
theorem Z0(k:Nat):∀xs:List AV,zL xs=true->zAK k xs=xs
 | [],_=>rfl
 | x::xs,h=>by simp at h;simp[zQ8 k x h.1,Z0 k xs h.2]
end
@[simp] theorem zUt(n:Nat)(l:List Sg):ze n (zN l)=true:=zk n _ (zDm l)
@[simp] theorem zVl(g:Nat->Nat)(l:List Sg):ZV g (zN l)=zN l:=Zd g _ (zDm l)
@[simp] theorem zVi(k:Nat)(l:List Sg):zAK k (zN l)=zN l:=Z0 k _ (zDm l)
end
section
open Go
attribute [-simp] zG zT zc zJ zn
def Mf.fit(m:Mf)(s:List Sg):Prop:=m.segs.length<=1000000/\s.length<=1000000/\-4611686018427387904<=m.v/\m.v<=4611686018427387904/\-4611686018427387904<=m.n/\m.n<=4611686018427387904
instance (m:Mf) (s:List Sg):Decidable (m.fit s):=by unfold Mf.fit;infer_instance
end
section
open Go Go.Lib
def Zp(m:Mf)(s:List UInt8):Bool :=
 if (Zx s).1=1 then true else if (Zx s).1=3 then decide (m.f<=(Zx s).2) else if (Zx s).1=4 then m.segs.any (fun g=>decide (g.1=(Zx s).2)) else false
end
section
open Go Go.Lib
attribute [-simp] zG zT zc zJ zn
def zCa:List FuncId:=[119,207,208,209,272]
theorem zTN:GOk Pz (zAF Pz (zh [(118,zG4)]) 0 zCa 3):=zq hmix (zC zD7 zB) 0 zCa 3
def zBv(n:Int):List Sg->Nat->Int
 | [],_=>-1
 | g::l,k=>if g.1=n then k else zBv n l (k+1)
theorem zIt(n:Int):∀(l:List Sg) (k:Nat),decide (0<=zBv n l k)=l.any fun g=>decide (g.1=n)
 | [],k=>by simp[zBv]
 | g::l,k=>by
   by_cases h:g.1=n
   · simp[zBv,h]
   · have:=zIt n l (k+1)
     rw[show zBv n (g::l) k=zBv n l (k+1) from by simp[zBv,h],this];simp[h]
def zOt:List FuncId:=[273]
theorem zGi:GOk Pz (zAF Pz (zh []) 0 zOt 1):=zq hmix zB 0 zOt 1
def zF0:List (AV×AV):=[(.int .i64 1,.func 207 [] []),(.int .i64 3,.func 208 [] []),(.int .i64 4,.func 209 [] [])]
def lvH(mc:List AV)(l:List Sg)(n:Int):zA:=[.cells false (zN l),.cells true mc,.map zF0,.cells true mc,.cells true [.int .i64 n]]
def mcv(v f n:Int)(l:List Sg):List AV:=[.int .i64 v,.int .i64 f,.int .i64 n,.sl 0 0 l.length 3 false]
theorem zL0(v f nx n:Int)(l:List Sg)(hl:l.length<=1000000000000) :
   Ct Pz 325 [.sl 0 0 l.length 3 false,.func 273 [] [.ptr 4 0]] (lvH (mcv v f nx l) l n) (.int .i64 (zBv n l 0)) (lvH (mcv v f nx l) l n):=by
 unfold lvH mcv zF0;refine zE Tryz.func325 rfl ?_;simp only[Tryz.ntmps325,q7Z,q8Z,Nat.reduceAdd,Nat.reduceSub,qbZ,q9Z,qaZ];refine wS zB (by simp;exact wR) ?_;refine Sim.seq (wS zB (by simp;exact wR) ?_);refine Sim.block (Sim.loopW (fun k:Nat=>k<=l.length/\zBv n l 0=zBv n (l.drop k) k)
   (fun k=>[.sl 0 0 l.length 3 false,.func 273 [] [.ptr 4 0],.top,.top,.top,.top,.top,.int .i64 l.length,.int .i64 k]++qbZ 10 .top)
   (fun _=>lvH (mcv v f nx l) l n) (fun k=>l.length-k) 0 (by simp) (by simp) (wW [0,1,2,3,4] (by simp[lvH,mcv,zF0])) fun k hk=>?_)
 obtain⟨hk,hb⟩:=hk;unfold lvH mcv zF0;by_cases hlt:k<l.length;rotate_left
 · rw[List.drop_of_length_le (by omega)]at hb
   simp only[zBv]at hb;rw[hb];refine wE zGi (by simp[hlt];exact wT) ?_;dsimp only;rw[if_pos rfl];refine wE zGi (by simp;exact wT) ?_;exact⟨.inr rfl,_,by simp <;> rfl,wW [0,1,2,3,4] (by simp)⟩
 obtain⟨s,hs⟩:∃s,l[k]=s:=⟨_,rfl⟩
 have g1:=zEx l k hlt;have k1:k*3+3<=l.length*3:=by omega
 have hw:IntKind.i64.wrap ((k:Int)+1)=k+1:=zK (by omega) (by omega);rw[List.drop_eq_getElem_cons hlt]at hb;rw[hs]at g1 hb;obtain⟨x,y,z⟩:=s;rw[show zBv n ((x,y,z)::l.drop (k+1)) k=if x=n then (k:Int) else zBv n (l.drop (k+1)) (k+1) from rfl]at hb;by_cases hx:x=n
 · rw[if_pos hx]at hb
   rw[hb];subst hx;refine wE zGi (by simp +decide [hlt,g1,k1,sgA,zOt,Tryz.f273];exact wT) ?_;exact⟨.inr rfl,_,by simp <;> rfl,wW [0,1,2,3,4] (by simp)⟩
 · rw[if_neg hx]at hb
   have hx2:(x==n)=false:=by simpa using hx
   refine wE zGi (by simp +decide [hlt,g1,k1,sgA,zOt,hx,hx2,hw,Tryz.f273];exact wT) ?_;exact⟨k+1,⟨by omega,hb⟩,wW [0,1,2,3,4] (by simp[lvH,mcv,zF0]),by omega⟩
def zTI(v f nx n:Int)(l:List Sg):zS:=zEK [.sl 0 0 l.length 3 false,.func 273 [] [.ptr 4 0]] (lvH (mcv v f nx l) l n) (.int .i64 (zBv n l 0)) (lvH (mcv v f nx l) l n) []
theorem zRl(v f nx n:Int)(l:List Sg)(hl:l.length<=1000000000000):GOk Pz (zAF Pz (zh [(118,zG4),(325,zTI v f nx n l)]) 0 zCa 3):=by
 refine zq hmix (zC zD7 (zC (zC4 (zD Tryz.func325 rfl (by decide)) (zL0 v f nx n l hl) (by simp) fun b hb _=>rfl) zB)) 0 zCa 3
theorem zL6(m:Mf)(s:List UInt8)(hs:s.length<=140737488351232)(hl:m.segs.length<=1000000000000):Ct Pz 34 [mfA 0 m,.str s] [.cells false (zN m.segs)] (.bool (Zp m s)) [.cells false (zN m.segs)]:=by
 have hΓ:=zTN;obtain⟨mv,mf,mn,l⟩:=m;simp only[mfA]at hl ⊢;refine zE Tryz.func34 rfl ?_;simp only[Tryz.ntmps34,q7Z,q8Z,Nat.reduceAdd,Nat.reduceSub,qbZ,q9Z,qaZ];obtain⟨⟨k,n⟩,hk⟩:∃r,Zx s=r:=⟨_,rfl⟩
 unfold Zp;rw[hk];dsimp only;refine wS hΓ (by simp;exact wR) ?_;refine wS hΓ (by simp[zCa,zG4,hs,hk];exact wR) ?_;by_cases h1:k=1
 · subst h1
   refine wS hΓ (by simp +decide [zCa,Tryz.f119];exact wR) ?_;refine wE hΓ (by simp +decide [zCa,Tryz.f207];exact wT) ?_;exact⟨.inr rfl,_,by simp[Tryz.f34] <;> rfl,wW [0] (by simp)⟩
 by_cases h3:k=3
 · subst h3
   refine wS hΓ (by simp +decide [zCa,Tryz.f119];exact wR) ?_;refine wE hΓ (by simp +decide [zCa,Tryz.f208];exact wT) ?_;exact⟨.inr rfl,_,by simp[Tryz.f34] <;> rfl,wW [0] (by simp)⟩
 by_cases h4:k=4
 · subst h4
   have hΓ2:=zRl mv mf mn n l hl;have ha:=zIt n l 0;obtain⟨i,hi⟩:∃i,zBv n l 0=i:=⟨_,rfl⟩
   have hS:zTI mv mf mn n l=zTI mv mf mn n l:=rfl
   conv at hS=>rhs;unfold zTI lvH mcv zF0
   rw[hi]at hS ha;refine wS hΓ (by simp +decide [zCa,Tryz.f119];exact wR) ?_;rw[if_neg (by decide),if_neg (by decide),if_pos rfl,<-ha];refine wE hΓ2 (by simp +decide [zCa,hS,zEK,Tryz.f209,Tryz.f272];exact wT) ?_;exact⟨.inr rfl,_,by simp[Tryz.f34] <;> rfl,wW [0] (by simp)⟩
 have e1:(k==1)=false:=by simpa using h1
 have e3:(k==3)=false:=by simpa using h3
 have e4:(k==4)=false:=by simpa using h4
 rw[if_neg h1,if_neg h3,if_neg h4];refine wS hΓ (by simp +decide [zCa,e1,e3,e4,h1,h3,h4,Tryz.f119];exact wR) ?_;refine wE hΓ (by simp +decide [zCa];exact wT) ?_;exact⟨.inr rfl,_,by simp[Tryz.f34] <;> rfl,wW [0] (by simp)⟩
def zHT:zS:=ZD fun args H=>match args with
 | [x,.str s]=>match zEP H x with
   | some m=>if s.length<=1000000/\m.segs.length<=1000000000000 then some (.bool (Zp m s)) else none
   | none=>none
 | _=>none
theorem zGR:Sound Pz 34 zHT:=by
 refine ZU (zD Tryz.func34 rfl (by decide)) fun args H v h=>?_;split at h <;> try cases h
 rename_i x s;split at h <;> try cases h
 rename_i m hx;split at h <;> cases h
 rename_i hc;obtain⟨b1,o1,w1,g1⟩:=zFx hx;refine zJ7 (zL6 m s (by omega) hc.2) rfl [(b1,o1)] ?_ ?_
 · exact⟨w1 0 _ rfl,⟨rfl,rfl⟩,trivial⟩
 · exact⟨g1,by simp,trivial⟩
def zKp:zS:=ZD fun args H=>match args with
 | [x,.str s]=>match zEP H x with
   | some m=>if s.length<=140737488351232/\m.segs.length<=1000000000000 then some (.bool (Zp m s)) else none
   | none=>none
 | _=>none
theorem zKr:Sound Pz 34 zKp:=by
 refine ZU (zD Tryz.func34 rfl (by decide)) fun args H v h=>?_;split at h <;> try cases h
 rename_i x s;split at h <;> try cases h
 rename_i m hx;split at h <;> cases h
 rename_i hc;obtain⟨b1,o1,w1,g1⟩:=zFx hx;refine zJ7 (zL6 m s hc.1 hc.2) rfl [(b1,o1)] ?_ ?_
 · exact⟨w1 0 _ rfl,⟨rfl,rfl⟩,trivial⟩
 · exact⟨g1,by simp,trivial⟩
def zBj(m:Mf):List (List UInt8)->Nat->Int
 | [],_=>-1
 | s::l,k=>if Zp m s=true then k else zBj m l (k+1)
def zFK:List FuncId:=[123]
theorem zG2:GOk Pz (zAF Pz (zh [(34,zHT)]) 0 zFK 1):=zq hmix (zC zGR zB) 0 zFK 1
def dlH(m:Mf)(o:Bool)(N row:List AV):zA:=[.cells false (zN m.segs),.cells o N,.cells true [.int .i64 m.v,.int .i64 m.f,.int .i64 m.n,.sl 0 0 m.segs.length 3 false],.cells true row]
theorem zJD(m:Mf)(o:Bool)(N row:List AV)(s:List UInt8)(hs:s.length<=1000000)(hm:m.segs.length<=1000000000000) :
   zHT [.agg [.int .i64 m.v,.int .i64 m.f,.int .i64 m.n,.sl 0 0 m.segs.length 3 false],.str s] (dlH m o N row)=some (.bool (Zp m s),dlH m o N row,[]):=by
 have h0:(zN m.segs).take (m.segs.length*3)=zN m.segs:=q6Z (by simp);simp[zHT,ZD,zEP,zAe,dlH,h0,hs,hm]
theorem zL3(m:Mf)(o:Bool)(N:List AV)(hN:zL N=true)(l:List (List UInt8))(hm:m.segs.length<=1000000000000)(hl:l.length<=1000000000000)(hs:∀s∈l,s.length<=1000000) :
   Ct Pz 210 [.slice 3 0 l.length 1 false,.func 123 [] [.ptr 2 0]] (dlH m o N (l.map .str)) (.int .i64 (zBj m l 0)) (dlH m o N (l.map .str)):=by
 have hlv:=fun s h=>zJD m o N (l.map .str) s h hm;have hA1:∀rn:List Nat,AWs rn N N:=fun rn=>AWs.refl _ _ hN;have hA2:∀rn:List Nat,AWs rn (l.map AV.str) (l.map AV.str):=fun rn=>AWs.refl _ _ (zH _ _ fun _=>rfl);have hA3:∀rn:List Nat,AWs rn (zN m.segs) (zN m.segs):=fun rn=>AWs.refl _ _ (by simp);obtain⟨mv,mf,mn,sg⟩:=m;unfold dlH at hlv ⊢;dsimp only at hlv hm hA3 ⊢;refine zE Tryz.func210 rfl ?_;simp only[Tryz.ntmps210,q7Z,q8Z,Nat.reduceAdd,Nat.reduceSub,qbZ,q9Z,qaZ];refine wS zB (by simp;exact wR) ?_;refine Sim.seq (wS zB (by simp;exact wR) ?_);refine Sim.block (Sim.loopW (fun k:Nat=>k<=l.length/\zBj ⟨mv,mf,mn,sg⟩ l 0=zBj ⟨mv,mf,mn,sg⟩ (l.drop k) k)
   (fun k=>[.slice 3 0 l.length 1 false,.func 123 [] [.ptr 2 0],.top,.top,.top,.top,.top,.int .i64 l.length,.int .i64 k]++qbZ 10 .top)
   (fun _=>[.cells false (zN sg),.cells o N,.cells true [.int .i64 mv,.int .i64 mf,.int .i64 mn,.sl 0 0 sg.length 3 false],.cells true (l.map .str)]) (fun k=>l.length-k) 0 (by simp) (by simp) (wW [0,1,2,3] (by simp[AWg,AWb,hA1,hA2,hA3])) fun k hk=>?_)
 obtain⟨hk,hb⟩:=hk;by_cases hlt:k<l.length;rotate_left
 · rw[List.drop_of_length_le (by omega)]at hb
   simp only[zBj]at hb;rw[hb];refine wE zG2 (by simp[hlt];exact wT) ?_;dsimp only;rw[if_pos rfl];refine wE zG2 (by simp;exact wT) ?_;exact⟨.inr rfl,_,by simp <;> rfl,wW [0,1,2,3] (by simp[AWg,AWb,hA1,hA2,hA3])⟩
 obtain⟨s,hss⟩:∃s,l[k]=s:=⟨_,rfl⟩
 have hsl:s.length<=1000000:=hs s (hss▸r3Z hlt);have g1:∀h,(l.map AV.str)[k]'h=.str s:=fun h=>by simp[hss]
 have hw:IntKind.i64.wrap ((k:Int)+1)=k+1:=zK (by omega) (by omega);have hl1:=hlv s hsl;rw[List.drop_eq_getElem_cons hlt,hss,show zBj ⟨mv,mf,mn,sg⟩ (s::l.drop (k+1)) k=if Zp ⟨mv,mf,mn,sg⟩ s=true then (k:Int) else zBj ⟨mv,mf,mn,sg⟩ (l.drop (k+1)) (k+1) from rfl]at hb;obtain⟨t,ht⟩:∃t,Zp ⟨mv,mf,mn,sg⟩ s=t:=⟨_,rfl⟩
 rw[ht]at hb hl1;cases t
 · simp only[qsZ,if_false]at hb
   refine wE zG2 (by simp +decide [hlt,g1,hss,zFK,hl1,hw,Tryz.f123];exact wT) ?_;exact⟨k+1,⟨by omega,hb⟩,wW [0,1,2,3] (by simp[AWg,AWb,hA1,hA2,hA3]),by omega⟩
 · simp only[if_true]at hb
   rw[hb];refine wE zG2 (by simp +decide [hlt,g1,hss,zFK,hl1,Tryz.f123];exact wT) ?_;exact⟨.inr rfl,_,by simp <;> rfl,wW [0,1,2,3] (by simp[AWg,AWb,hA1,hA2,hA3])⟩
theorem zHX(m:Mf):∀(l:List (List UInt8)) (k:Nat),(zBj m l k = -1/\∀s∈l,Zp m s=false)\/∃(i:Nat) (h:i<l.length),zBj m l k=((k+i:Nat):Int)/\(∀s∈l.take i,Zp m s=false)/\Zp m l[i]=true
 | [],k=>.inl ⟨rfl,by simp⟩
 | s::l,k=>by
   cases h:Zp m s with
   | true=>exact .inr ⟨0,by simp,by simp[zBj,h],by simp,by simpa using h⟩
   | false =>
     have e:zBj m (s::l) k=zBj m l (k+1):=by simp[zBj,h]
     rcases zHX m l (k+1) with⟨h1,h2⟩ | ⟨i,hi,h1,h2,h3⟩
     · refine .inl ⟨by rw[e,h1],fun x hx=>?_⟩
       rcases qwZ.1 hx with rfl | hx
       · exact h
       · exact h2 x hx
     · refine .inr ⟨i+1,by simpa using hi,by rw[e,h1];congr 1;omega,fun x hx=>?_,by simpa using h3⟩
       rw[List.take_succ_cons]at hx;rcases qwZ.1 hx with rfl | hx
       · exact h
       · exact h2 x hx
def zY(m:Mf)(l:List (List UInt8)):List (List UInt8):=l.filter fun s=>!Zp m s
theorem zJR{m:Mf}{l:List (List UInt8)}(h:∀s∈l,Zp m s=false):zY m l=l:=List.filter_eq_self.2 fun s hs=>by simp[h s hs]
theorem zER(m:Mf)(l:List (List UInt8))(s:List UInt8):zY m (l++[s])=zY m l++if Zp m s=true then [] else [s]:=by
 unfold zY;rw[List.filter_append];cases h:Zp m s <;> simp[h]
theorem zHw(m:Mf)(l:List (List UInt8)):(zY m l).length<=l.length:=List.length_filter_le _ _
def zTi(m:Mf)(o:Bool)(N:List AV)(l:List (List UInt8)):zS:=zEK [.slice 3 0 l.length 1 false,.func 123 [] [.ptr 2 0]] (dlH m o N (l.map .str)) (.int .i64 (zBj m l 0)) (dlH m o N (l.map .str)) []
theorem zTs(m:Mf)(o:Bool)(N:List AV)(hN:zL N=true)(l:List (List UInt8))(hm:m.segs.length<=1000000000000)(hl:l.length<=1000000000000)(hs:∀s∈l,s.length<=1000000) :
   GOk Pz (zAF Pz (zh [(34,zHT),(210,zTi m o N l)]) 0 zFK 1) :=
 zq hmix (zC zGR (zC (zC4 (zD Tryz.func210 rfl (by decide)) (zL3 m o N hN l hm hl hs) (by simp) fun b hb _=>rfl) zB)) 0 zFK 1
theorem zHv(m:Mf)(o:Bool)(N:List AV)(hN:zL N=true)(l:List (List UInt8))(hm:m.segs.length<=1000000000000)(hl:l.length<=1000000000000)(hs:∀s∈l,s.length<=1000000) :
   Ct Pz 121 [.slice 3 0 l.length 1 false,.func 123 [] [.ptr 2 0]] (dlH m o N (l.map .str)) (.slice 3 0 (zY m l).length 1 false)
     (dlH m o N ((zY m l).map .str++qbZ (l.length-(zY m l).length) (.str []))):=by
 have hΓ:=zTs m o N hN l hm hl hs;have hA1:∀rn:List Nat,AWs rn N N:=fun rn=>AWs.refl _ _ hN;have hA3:∀rn:List Nat,AWs rn (zN m.segs) (zN m.segs):=fun rn=>AWs.refl _ _ (by simp);have hsp:=zHX m l 0;obtain⟨i0,hi0⟩:∃i,zBj m l 0=i:=⟨_,rfl⟩
 have hS:zTi m o N l=zTi m o N l:=rfl
 conv at hS=>rhs;unfold zTi dlH
 rw[hi0]at hS hsp;unfold dlH;refine zE Tryz.func121 rfl ?_;simp only[Tryz.ntmps121,q7Z,q8Z,Nat.reduceAdd,Nat.reduceSub,qbZ,q9Z,qaZ];refine wS hΓ (by simp;exact wR) ?_;refine wS hΓ (by simp +decide [zFK,hS,zEK];exact wR) ?_;rcases hsp with⟨rfl,hno⟩ | ⟨i,hil,hi1,hno,hyes⟩
 · rw[zJR hno,Nat.sub_self]
   refine wE hΓ (by simp +decide;exact wT) ?_;have hA2:∀rn:List Nat,AWs rn (l.map AV.str) (l.map AV.str):=fun rn=>AWs.refl _ _ (zH _ _ fun _=>rfl);exact⟨.inr rfl,_,by simp <;> rfl,wW [0,1,2,3] (by simp[AWg,AWb,hA1,hA2,hA3])⟩
 · rw[s8Z]at hi1
   subst hi1;have hne:¬((i:Int) = -1):=by omega
   have hneb:((i:Int) == -1)=false:=beq_eq_false_iff_ne.2 hne;have hw0:IntKind.i64.wrap ((i:Int)+1)=(i:Int)+1:=zK (by omega) (by omega);refine wS hΓ (by simp +decide [hne,hneb];exact wR) ?_;refine Sim.seq (wS hΓ (by simp +decide [hw0];exact wR) ?_);have hK0:zY m (l.take (i+1))=l.take i:=by
     rw[List.take_add_one,q3Z hil];show zY m (l.take i++[l[i]])=_;rw[zER,zJR hno,hyes];simp
   refine Sim.block (Sim.loopW (fun k:Nat=>i+1<=k/\k<=l.length/\(zY m (l.take k)).length<k)
     (fun k=>[.slice 3 0 l.length 1 false,.func 123 [] [.ptr 2 0],.top,.top,.top,.int .i64 (zY m (l.take k)).length,.int .i64 k]++qbZ 35 .top)
     (fun k=>[.cells false (zN m.segs),.cells o N,.cells true [.int .i64 m.v,.int .i64 m.f,.int .i64 m.n,.sl 0 0 m.segs.length 3 false],.cells true ((zY m (l.take k)).map .str++(l.drop (zY m (l.take k)).length).map .str)]) (fun k=>l.length-k) (i+1) (by simp) ⟨by omega,by omega,by rw[hK0];simp;omega⟩ ?_ fun k hk=>?_)
   · rw[hK0]
     have hlt:(l.take i).length=i:=by rw[qjZ];omega
     have hrow:(l.take i).map AV.str++(l.drop i).map AV.str=l.map AV.str:=by rw[<-roZ,r6Z]
     rw[hlt,hrow];have hA2:∀rn:List Nat,AWs rn (l.map AV.str) (l.map AV.str):=fun rn=>AWs.refl _ _ (zH _ _ fun _=>rfl);exact wW [0,1,2,3] (by simp[AWg,AWb,hA1,hA2,hA3])
   · obtain⟨hk1,hk2,hk3⟩:=hk
     obtain⟨K,hK⟩:∃K,zY m (l.take k)=K:=⟨_,rfl⟩
     rw[hK]at hk3 ⊢;obtain⟨kl,hkl⟩:∃n,K.length=n:=⟨_,rfl⟩
     rw[hkl]at hk3 ⊢;obtain⟨B,hB⟩:∃B,K.map AV.str++(l.drop kl).map AV.str=B:=⟨_,rfl⟩
     have hBl:B.length=l.length:=by rw[<-hB];simp;omega
     have hBf:zL B=true:=by rw[<-hB,<-roZ];exact zH _ _ fun _=>rfl
     have hA2:∀rn:List Nat,AWs rn B B:=fun rn=>AWs.refl _ _ hBf;rw[hB];by_cases hlt:k<l.length
     · obtain⟨s,hss⟩:∃s,l[k]=s:=⟨_,rfl⟩
       have hsl:s.length<=1000000:=hs s (hss▸r3Z hlt);have hBk:∀h,B[k]'h=.str s:=fun h=>by
         subst hB;rw[scZ (by simp;omega)];simp only[r7Z,List.getElem_map,List.getElem_drop];rw[<-hss]
         congr 2
         omega
       have hBset:B.take kl++AV.str s::B.drop (kl+1)=(K++[s]).map AV.str++(l.drop (kl+1)).map AV.str:=by
         rw[<-hB,List.take_append_of_le_length (by simp;omega),q6Z (by simp;omega),sdZ,List.drop_of_length_le (by simp;omega)];simp[hkl,List.map_drop]
       have hlti:(k:Int)<l.length:=by omega
       have hw:IntKind.i64.wrap ((k:Int)+1)=(k:Int)+1:=zK (by omega) (by omega);have hwl:IntKind.i64.wrap ((kl:Int)+1)=(kl:Int)+1:=zK (by omega) (by omega);have hkll:kl<l.length:=by omega
       have hkB:k<B.length:=by omega
       have hlB:kl<B.length:=by omega
       have hlB1:kl+1<=B.length:=by omega
       have hl1:=zJD m o N B s hsl hm;unfold dlH at hl1;have hnx:zY m (l.take (k+1))=K++if Zp m s=true then [] else [s]:=by
         rw[List.take_add_one,q3Z hlt,hss];show zY m (l.take k++[s])=_;rw[zER,hK]
       refine wS hΓ (by simp +decide [hlti];exact wR) ?_;cases ht:Zp m s with
       | true =>
         rw[ht]at hl1 hnx;simp only[if_true,r2Z]at hnx;refine wE hΓ (by simp +decide [hlt,hlti,hBk,hkB,zFK,hl1,hw,Tryz.f123];exact wT) ?_;dsimp only;refine ⟨k+1,⟨by omega,by omega,by rw[hnx,hkl];omega⟩,?_,by omega⟩;rw[hnx,hkl,hB];exact wW [0,1,2,3] (by simp[AWg,AWb,hA1,hA2,hA3])
       | false =>
         rw[ht]at hl1 hnx;simp only[qsZ,if_false]at hnx;refine wE hΓ (by simp +decide [hlt,hlti,hBk,hkB,hlB,hlB1,hkll,zFK,hl1,hw,hwl,hBset,Tryz.f123];exact wT) ?_;dsimp only;refine ⟨k+1,⟨by omega,by omega,by rw[hnx];simp;omega⟩,?_,by omega⟩;have hfr4:zL (K.map AV.str++AV.str s::(l.map AV.str).drop (kl+1))=true:=frees_iff.2 fun v hv=>by
           rcases qxZ.1 hv with h | h
           · obtain⟨_,_,rfl⟩:=reZ.1 h;rfl
           · rcases qwZ.1 h with rfl | h
             · rfl
             · obtain⟨_,_,rfl⟩:=reZ.1 (List.mem_of_mem_drop h);rfl
         have hA4:∀rn:List Nat,AWs rn (K.map AV.str++AV.str s::(l.map AV.str).drop (kl+1)) (K.map AV.str++AV.str s::(l.map AV.str).drop (kl+1)):=fun rn=>AWs.refl _ _ hfr4;rw[hnx];exact Weak.mk' [0,1,2,3] (by decide) (by decide) (by simp[hkl]) (by simp[AWg,AWb,hA1,hA3,hA4,hkl,List.map_drop])
     · have hke:k=l.length:=by omega
       subst hke;rw[List.take_length]at hK;refine wE hΓ (by simp +decide;exact wT) ?_;dsimp only;rw[if_pos rfl];have hkll:kl<=l.length:=by omega
       have hkli:(kl:Int)<=l.length:=by omega
       have hnz:¬(l.length-kl=0):=by omega
       have hsum:kl+(l.length-kl)=l.length:=by omega
       have hz1:∀n,Zf [AV.str []] n=qbZ n (.str []):=fun n=>by
         induction n with
         | zero=>rfl
         | succ n ih=>simp[Zf,ih,rvZ]
       have hBt:B.take kl=K.map AV.str:=by rw[<-hB,List.take_append_of_le_length (by simp;omega),q6Z (by simp;omega)]
       have hBd:B.drop l.length=[]:=List.drop_of_length_le (by omega);refine wS hΓ (by simp +decide [zHM,hkll,hkli,hBl,hnz,hsum,hz1,hBt,hBd,zx];exact wR) ?_;rw[hK,hkl];have hfr5:zL (K.map AV.str++qbZ (l.length-kl) (AV.str []))=true:=frees_iff.2 fun v hv=>by
         rcases qxZ.1 hv with h | h
         · obtain⟨_,_,rfl⟩:=reZ.1 h;rfl
         · rw[List.eq_of_mem_replicate h];rfl
       have hA5:∀rn:List Nat,AWs rn (K.map AV.str++qbZ (l.length-kl) (AV.str [])) (K.map AV.str++qbZ (l.length-kl) (AV.str [])):=fun rn=>AWs.refl _ _ hfr5;have hln:(K.map AV.str++qbZ (l.length-kl) (AV.str [])).length=l.length:=by simp;omega
       refine wE hΓ (by simp +decide [hkll,hkli,hnz,hsum];exact wT) ?_;exact⟨.inr rfl,_,by simp <;> rfl,wW [0,1,2,3] (by simp[AWg,AWb,hA1,hA3,hA5])⟩
end
end Go.Proofs.YtfhidaoiofeooaaGreatDoor
