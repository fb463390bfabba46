/- Parts of the proof of SweepLess: lemmas, each with its own conditions. -/
import Derived.Test.YtpmfecnajoojeaaGreatDoorY7
set_option maxHeartbeats 64000000
open List renaming getElem?_eq_getElem → q3Z, take_of_length_le → q6Z, length_cons → q7Z, length_nil → q8Z, cons_append → q9Z, nil_append → qaZ, replicate → qbZ, length_take → qjZ, mem_cons → qwZ, mem_append → qxZ, append_nil → r2Z, getElem_mem → r3Z, take_append_drop → r6Z, length_map → r7Z, mem_map → reZ, map_append → roZ, replicate_succ → rvZ, getElem_append_right → scZ, drop_append → sdZ
open Option renaming map_eq_some_iff → qlZ
open Bool renaming false_eq_true → qsZ
open Nat renaming zero_add → s8Z
namespace Go.Proofs.YtpmfecnajoojeaaGreatDoor
open _root_.Go.Proofs.Tryz renaming prog → Pz
set_option maxRecDepth 100000
section
open Go
attribute [-simp] drawOk_eq adraw qrun acode aops
abbrev Sg:=Int×Int×Int
def sgA(s:Sg):List AV:=[.int .i64 s.1,.int .i64 s.2.1,.int .i64 s.2.2]
def sgsA:List Sg→List AV
 | []=>[]
 | s::l=>sgA s++sgsA l
@[simp] theorem sgsA_length:∀l:List Sg,(sgsA l).length=l.length*3
 | []=>rfl
 | s::l=>by simp[sgsA,sgA,sgsA_length l];omega
@[simp] theorem frees_sgs:∀l:List Sg,frees (sgsA l)=true
 | []=>rfl
 | s::l=>by simp[sgsA,sgA,frees_sgs l]
theorem sgs_get:∀(l:List Sg) (k:Nat) (h:k<l.length),((sgsA l).drop (k*3)).take 3=sgA l[k]
 | s::l,0,_=>by simp[sgsA,sgA]
 | s::l,k+1,h=>by
   have:=sgs_get l k (by simpa using h)
   rw[show (k+1)*3=k*3+3 by omega]
   simpa[sgsA,sgA] using this
end
section
open Go
def sgsOf:List AV→Option (List Sg)
 | []=>some []
 | .int .i64 a::.int .i64 b::.int .i64 c::l=>(sgsOf l).map ((a,b,c)::·)
 | _=>none
theorem sgsOf_eq:∀{xs:List AV} {l:List Sg},sgsOf xs=some l→xs=sgsA l
 | [],l,h=>by cases h;rfl
 | x::xs,l,h=>by
   unfold sgsOf at h;split at h
   · cases ‹_=[]›
   · rename_i a b c ys e
     cases e;obtain⟨l',hl',rfl⟩:=qlZ.1 h;rw[sgsOf_eq hl'];rfl
   · cases h
@[simp] theorem sgsOf_sgsA:∀l:List Sg,sgsOf (sgsA l)=some l
 | []=>rfl
 | s::l=>by simp[sgsA,sgA,sgsOf,sgsOf_sgsA l]
@[simp] theorem take_sgsA(l:List Sg):(sgsA l).take (l.length*3)=sgsA l:=by rw[←sgsA_length,List.take_length]
@[simp] theorem sgsA_append(a b:List Sg):sgsA (a++b)=sgsA a++sgsA b:=by
 induction a with
 | nil=>rfl
 | cons x a ih=>simp[sgsA,ih]
def rowSgs(H:AHeap):AV→Option (List Sg)
 | .nils=>some []
 | .slice b off len 3 _=>match H[b]? with
   | some (.cells _ l)=>if off+len*3≤l.length then sgsOf ((l.drop off).take (len*3)) else none
   | _=>none
 | .sl b off len 3 _=>match H[b]? with
   | some (.cells _ l)=>if off+len*3≤l.length then sgsOf ((l.drop off).take (len*3)) else none
   | _=>none
 | _=>none
theorem rowSgs_win{H:AHeap}{x:AV}{a:List Sg}(h:rowSgs H x=some a):∃b off,(∀(i:Nat) (wd:List (Nat×Nat)),wd[i]? = some (b,off)→winA wd (.sl i 0 a.length 3 false) x) ∧
   (match H[b]? with | some (.cells _ l)=>off+(sgsA a).length≤l.length∧sgsA a=(l.drop off).take (sgsA a).length | none=>True | _=>False):=by
 have key:∀(b off len:Nat) (o:Bool) (l:List AV),H[b]? = some (.cells o l)→off+len*3≤l.length→sgsOf ((l.drop off).take (len*3))=some a→len=a.length∧off+(sgsA a).length≤l.length∧sgsA a=(l.drop off).take (sgsA a).length:=by
   intro b off len o l hb hle hs;have e:=sgsOf_eq hs
   have hlen:len=a.length:=by
     have:=congrArg List.length e;simp at this;omega
   subst hlen
   exact⟨rfl,by simpa using hle,by rw[sgsA_length];exact e.symm⟩
 unfold rowSgs at h;split at h
 · cases h
   exact⟨H.length,0,fun i wd _=>by simp[winA],by simp⟩
 · rename_i b off len c
   split at h;rotate_left
   · cases h
   rename_i o l hb;split at h;rotate_left
   · cases h
   rename_i hle;obtain⟨rfl,h1,h2⟩:=key b off len o l hb hle h
   exact⟨b,off,fun i wd hw=>by simp[winA,hw],by rw[hb];exact⟨h1,h2⟩⟩
 · rename_i b off len c
   split at h;rotate_left
   · cases h
   rename_i o l hb;split at h;rotate_left
   · cases h
   rename_i hle;obtain⟨rfl,h1,h2⟩:=key b off len o l hb hle h
   exact⟨b,off,fun i wd hw=>by simp[winA,hw],by rw[hb];exact⟨h1,h2⟩⟩
 · cases h
end
section
open Go
attribute [-simp] drawOk_eq adraw qrun acode aops
structure Mf where
 v:Int
 f:Int
 n:Int
 segs:List Sg
 deriving DecidableEq
def mfA(b:Nat)(m:Mf):AV:=.agg [.int .i64 m.v,.int .i64 m.f,.int .i64 m.n,.sl b 0 m.segs.length 3 false]
def mfOf(H:AHeap):AV→Option Mf
 | .agg [.int .i64 v,.int .i64 f,.int .i64 n,x]=>(rowSgs H x).map fun l=>⟨v,f,n,l⟩
 | _=>none
@[simp] theorem mfOf_mk(H:AHeap)(v f n:Int)(x:AV):mfOf H (.agg [.int .i64 v,.int .i64 f,.int .i64 n,x])=(rowSgs H x).map fun l=>⟨v,f,n,l⟩:=rfl
theorem mf_win{H:AHeap}{x:AV}{m:Mf}(h:mfOf H x=some m):∃b off,(∀(i:Nat) (wd:List (Nat×Nat)),wd[i]? = some (b,off)→winA wd (mfA i m) x) ∧
   (match H[b]? with | some (.cells _ l)=>off+(sgsA m.segs).length≤l.length∧sgsA m.segs=(l.drop off).take (sgsA m.segs).length | none=>True | _=>False):=by
 unfold mfOf at h;split at h
 · rename_i v f n x
   obtain⟨l,hl,rfl⟩:=qlZ.1 h;obtain⟨b,off,w,g⟩:=rowSgs_win hl
   refine ⟨b,off,fun i wd hw=>?_,g⟩
   unfold mfA winA
   refine ⟨?_,?_,?_,w i wd hw,trivial⟩ <;> (unfold winA;exact⟨rfl,rfl⟩)
 · cases h
end
section
open Go
end
section
open Go
attribute [-simp] drawOk_eq adraw qrun acode aops
end
section
open Go
attribute [-simp] drawOk_eq adraw qrun acode aops
@[simp] theorem cells_sgs:∀l:List Sg,(sgsA l).all isCell=true
 | []=>rfl
 | s::l=>by simp[sgsA,sgA,cells_sgs l]
mutual
theorem reA_free_Gm(g:Nat→Nat):∀x:AV,free x=true→reA g x=x
 | .top,_ | .bool _,_ | .int _ _,_ | .str _,_ | .nilp,_ | .nils,_ | .nilm,_ | .nilf,_=>rfl
 | .ptr ..,h | .slice ..,h | .sl ..,h | .map _,h | .yld _,h=>by simp[free]at h
 | .func f xs ys,h=>by simp at h;simp[reAs_free_Gm g xs h.1,reAs_free_Gm g ys h.2]
 | .agg l,h=>by simp at h;simp[reAs_free_Gm g l h]
 | .tuple l,h=>by simp at h;simp[reAs_free_Gm g l h]
theorem reAs_free_Gm(g:Nat→Nat):∀xs:List AV,frees xs=true→reAs g xs=xs
 | [],_=>rfl
 | x::xs,h=>by simp at h;simp[reA_free_Gm g x h.1,reAs_free_Gm g xs h.2]
end
mutual
theorem shA_free(k:Nat):∀x:AV,free x=true→shA k x=x
 | .top,_ | .bool _,_ | .int _ _,_ | .str _,_ | .nilp,_ | .nils,_ | .nilm,_ | .nilf,_=>rfl
 | .ptr ..,h | .slice ..,h | .sl ..,h | .map _,h | .yld _,h=>by simp[free]at h
 | .func f xs ys,h=>by simp at h;simp[shAs_free k xs h.1,shAs_free k ys h.2]
 | .agg l,h=>by simp at h;simp[shAs_free k l h]
 | .tuple l,h=>by simp at h;simp[shAs_free k l h]
theorem shAs_free(k:Nat):∀xs:List AV,frees xs=true→shAs k xs=xs
 | [],_=>rfl
 | x::xs,h=>by simp at h;simp[shA_free k x h.1,shAs_free k xs h.2]
end
@[simp] theorem belows_sgs(n:Nat)(l:List Sg):belows n (sgsA l)=true:=belows_free n _ (frees_sgs l)
@[simp] theorem reAs_sgs(g:Nat→Nat)(l:List Sg):reAs g (sgsA l)=sgsA l:=reAs_free_Gm g _ (frees_sgs l)
@[simp] theorem shAs_sgs(k:Nat)(l:List Sg):shAs k (sgsA l)=sgsA l:=shAs_free k _ (frees_sgs l)
end
section
open Go
attribute [-simp] drawOk_eq adraw qrun acode aops
def Mf.fit(m:Mf)(s:List Sg):Prop:=m.segs.length≤1000000∧s.length≤1000000∧-4611686018427387904≤m.v∧m.v≤4611686018427387904∧-4611686018427387904≤m.n∧m.n≤4611686018427387904
instance (m:Mf) (s:List Sg):Decidable (m.fit s):=by unfold Mf.fit;infer_instance
end
section
open Go Go.Lib
def lives(m:Mf)(s:List UInt8):Bool :=
 if (nparse s).1=1 then true else if (nparse s).1=3 then decide (m.f≤(nparse s).2) else if (nparse s).1=4 then m.segs.any (fun g=>decide (g.1=(nparse s).2)) else false
end
section
open Go Go.Lib
attribute [-simp] drawOk_eq adraw qrun acode aops
def lvInl:List FuncId:=[50,121,122,123,153]
theorem lvΓ_ok:GOk Pz (runG Pz (gams [(49,nparseS)]) 0 lvInl 3):=gok_run hmix (goks_cons nparse_sound goks_nil) 0 lvInl 3
def segAt(n:Int):List Sg→Nat→Int
 | [],_=>-1
 | g::l,k=>if g.1=n then k else segAt n l (k+1)
theorem segAt_any(n:Int):∀(l:List Sg) (k:Nat),decide (0≤segAt n l k)=l.any fun g=>decide (g.1=n)
 | [],k=>by simp[segAt]
 | g::l,k=>by
   by_cases h:g.1=n
   · simp[segAt,h]
   · have:=segAt_any n l (k+1)
     rw[show segAt n (g::l) k=segAt n l (k+1) from by simp[segAt,h],this]
     simp[h]
def sgInl:List FuncId:=[188]
theorem sgΓ_ok:GOk Pz (runG Pz (gams []) 0 sgInl 1):=gok_run hmix goks_nil 0 sgInl 1
def needsA:List (AV×AV):=[(.int .i64 1,.func 121 [] []),(.int .i64 3,.func 122 [] []),(.int .i64 4,.func 123 [] [])]
def lvH(mc:List AV)(l:List Sg)(n:Int):AHeap:=[.cells false (sgsA l),.cells true mc,.map needsA,.cells true mc,.cells true [.int .i64 n]]
def mcv(v f n:Int)(l:List Sg):List AV:=[.int .i64 v,.int .i64 f,.int .i64 n,.sl 0 0 l.length 3 false]
theorem segIndex_ct(v f nx n:Int)(l:List Sg)(hl:l.length≤1000000000000) :
   Ct Pz 222 [.sl 0 0 l.length 3 false,.func 188 [] [.ptr 4 0]] (lvH (mcv v f nx l) l n) (.int .i64 (segAt n l 0)) (lvH (mcv v f nx l) l n):=by
 unfold lvH mcv needsA;refine ct_of_sim Tryz.func222 rfl ?_;simp only[Tryz.ntmps222,q7Z,q8Z,Nat.reduceAdd,Nat.reduceSub,qbZ,q9Z,qaZ]
 refine Sim.step hmix goks_nil (n:=0) (by simp;exact⟨rfl,rfl⟩) (by simp) ?_
 refine Sim.seq (Sim.step hmix goks_nil (n:=0) (by simp;exact⟨rfl,rfl⟩) (by simp) ?_)
 refine Sim.block (Sim.loopW (fun k:Nat=>k≤l.length∧segAt n l 0=segAt n (l.drop k) k)
   (fun k=>[.sl 0 0 l.length 3 false,.func 188 [] [.ptr 4 0],.top,.top,.top,.top,.top,.int .i64 l.length,.int .i64 k]++qbZ 10 .top)
   (fun _=>lvH (mcv v f nx l) l n) (fun k=>l.length-k) 0 (by simp) (by simp) (Weak.mk' [0,1,2,3,4] (by decide) (by decide) (by simp) (by simp[lvH,mcv,needsA])) fun k hk=>?_)
 obtain⟨hk,hb⟩:=hk;unfold lvH mcv needsA;by_cases hlt:k<l.length;rotate_left
 · rw[List.drop_of_length_le (by omega)]at hb
   simp only[segAt]at hb;rw[hb]
   refine Sim.exec hmix sgΓ_ok (n:=0) (by simp[hlt];exact⟨rfl,rfl,rfl⟩) (by simp) ?_
   dsimp only;rw[if_pos rfl]
   refine Sim.exec hmix sgΓ_ok (n:=0) (by simp;exact⟨rfl,rfl,rfl⟩) (by simp) ?_
   exact⟨.inr rfl,_,by simp <;> rfl,Weak.mk' [0,1,2,3,4] (by decide) (by decide) (by simp) (by simp)⟩
 obtain⟨s,hs⟩:∃s,l[k]=s:=⟨_,rfl⟩;have g1:=sgs_get l k hlt
 have k1:k*3+3≤l.length*3:=by omega
 have hw:IntKind.i64.wrap ((k:Int)+1)=k+1:=wr_i64 (by omega) (by omega)
 rw[List.drop_eq_getElem_cons hlt]at hb;rw[hs]at g1 hb;obtain⟨x,y,z⟩:=s
 rw[show segAt n ((x,y,z)::l.drop (k+1)) k=if x=n then (k:Int) else segAt n (l.drop (k+1)) (k+1) from rfl]at hb
 by_cases hx:x=n
 · rw[if_pos hx]at hb
   rw[hb];subst hx
   refine Sim.exec hmix sgΓ_ok (n:=0) (by simp +decide [hlt,g1,k1,sgA,sgInl,Tryz.f188];exact⟨rfl,rfl,rfl⟩) (by simp) ?_
   exact⟨.inr rfl,_,by simp <;> rfl,Weak.mk' [0,1,2,3,4] (by decide) (by decide) (by simp) (by simp)⟩
 · rw[if_neg hx]at hb
   have hx2:(x==n)=false:=by simpa using hx
   refine Sim.exec hmix sgΓ_ok (n:=0) (by simp +decide [hlt,g1,k1,sgA,sgInl,hx,hx2,hw,Tryz.f188];exact⟨rfl,rfl,rfl⟩) (by simp) ?_
   exact⟨k+1,⟨by omega,hb⟩,Weak.mk' [0,1,2,3,4] (by decide) (by decide) (by simp) (by simp[lvH,mcv,needsA]),by omega⟩
def sgxS(v f nx n:Int)(l:List Sg):Summ:=onceS [.sl 0 0 l.length 3 false,.func 188 [] [.ptr 4 0]] (lvH (mcv v f nx l) l n) (.int .i64 (segAt n l 0)) (lvH (mcv v f nx l) l n) []
theorem lvΓ2_ok(v f nx n:Int)(l:List Sg)(hl:l.length≤1000000000000):GOk Pz (runG Pz (gams [(49,nparseS),(222,sgxS v f nx n l)]) 0 lvInl 3):=by
 refine gok_run hmix (goks_cons nparse_sound (goks_cons (sound_once (enter_of Tryz.func222 rfl (by decide)) (segIndex_ct v f nx n l hl) (by simp) fun b hb _=>rfl) goks_nil)) 0 lvInl 3
theorem lives_ct(m:Mf)(s:List UInt8)(hs:s.length≤1000000)(hl:m.segs.length≤1000000000000):Ct Pz 10 [mfA 0 m,.str s] [.cells false (sgsA m.segs)] (.bool (lives m s)) [.cells false (sgsA m.segs)]:=by
 have hΓ:=lvΓ_ok;obtain⟨mv,mf,mn,l⟩:=m;simp only[mfA]at hl ⊢;refine ct_of_sim Tryz.func10 rfl ?_;simp only[Tryz.ntmps10,q7Z,q8Z,Nat.reduceAdd,Nat.reduceSub,qbZ,q9Z,qaZ];obtain⟨⟨k,n⟩,hk⟩:∃r,nparse s=r:=⟨_,rfl⟩;unfold lives;rw[hk];dsimp only
 refine Sim.step hmix hΓ (n:=0) (by simp;exact⟨rfl,rfl⟩) (by simp) ?_
 refine Sim.step hmix hΓ (n:=0) (by simp[lvInl,nparseS,hs,hk];exact⟨rfl,rfl⟩) (by simp) ?_
 by_cases h1:k=1
 · subst h1
   refine Sim.step hmix hΓ (n:=0) (by simp +decide [lvInl,Tryz.f50];exact⟨rfl,rfl⟩) (by simp) ?_
   refine Sim.exec hmix hΓ (n:=0) (by simp +decide [lvInl,Tryz.f121];exact⟨rfl,rfl,rfl⟩) (by simp) ?_
   exact⟨.inr rfl,_,by simp[Tryz.f10] <;> rfl,Weak.mk' [0] (by decide) (by decide) (by simp) (by simp)⟩
 by_cases h3:k=3
 · subst h3
   refine Sim.step hmix hΓ (n:=0) (by simp +decide [lvInl,Tryz.f50];exact⟨rfl,rfl⟩) (by simp) ?_
   refine Sim.exec hmix hΓ (n:=0) (by simp +decide [lvInl,Tryz.f122];exact⟨rfl,rfl,rfl⟩) (by simp) ?_
   exact⟨.inr rfl,_,by simp[Tryz.f10] <;> rfl,Weak.mk' [0] (by decide) (by decide) (by simp) (by simp)⟩
 by_cases h4:k=4
 · subst h4
   have hΓ2:=lvΓ2_ok mv mf mn n l hl;have ha:=segAt_any n l 0;obtain⟨i,hi⟩:∃i,segAt n l 0=i:=⟨_,rfl⟩;have hS:sgxS mv mf mn n l=sgxS mv mf mn n l:=rfl
   conv at hS=>rhs;unfold sgxS lvH mcv needsA
   rw[hi]at hS ha
   refine Sim.step hmix hΓ (n:=0) (by simp +decide [lvInl,Tryz.f50];exact⟨rfl,rfl⟩) (by simp) ?_
   rw[if_neg (by decide),if_neg (by decide),if_pos rfl,←ha]
   refine Sim.exec hmix hΓ2 (n:=0) (by simp +decide [lvInl,hS,onceS,Tryz.f123,Tryz.f153];exact⟨rfl,rfl,rfl⟩) (by simp) ?_
   exact⟨.inr rfl,_,by simp[Tryz.f10] <;> rfl,Weak.mk' [0] (by decide) (by decide) (by simp) (by simp)⟩
 have e1:(k==1)=false:=by simpa using h1
 have e3:(k==3)=false:=by simpa using h3
 have e4:(k==4)=false:=by simpa using h4
 rw[if_neg h1,if_neg h3,if_neg h4]
 refine Sim.step hmix hΓ (n:=0) (by simp +decide [lvInl,e1,e3,e4,h1,h3,h4,Tryz.f50];exact⟨rfl,rfl⟩) (by simp) ?_
 refine Sim.exec hmix hΓ (n:=0) (by simp +decide [lvInl];exact⟨rfl,rfl,rfl⟩) (by simp) ?_
 exact⟨.inr rfl,_,by simp[Tryz.f10] <;> rfl,Weak.mk' [0] (by decide) (by decide) (by simp) (by simp)⟩
def livesS:Summ:=readS fun args H=>match args with
 | [x,.str s]=>match mfOf H x with
   | some m=>if s.length≤1000000∧m.segs.length≤1000000000000 then some (.bool (lives m s)) else none
   | none=>none
 | _=>none
theorem lives_sound:Sound Pz 10 livesS:=by
 refine sound_read (enter_of Tryz.func10 rfl (by decide)) fun args H v h=>?_
 split at h <;> try cases h
 rename_i x s
 split at h <;> try cases h
 rename_i m hx
 split at h <;> cases h
 rename_i hc;obtain⟨b1,o1,w1,g1⟩:=mf_win hx;refine ct_win (lives_ct m s hc.1 hc.2) rfl [(b1,o1)] ?_ ?_
 · exact⟨w1 0 _ rfl,⟨rfl,rfl⟩,trivial⟩
 · exact⟨g1,by simp,trivial⟩
def livAt(m:Mf):List (List UInt8)→Nat→Int
 | [],_=>-1
 | s::l,k=>if lives m s=true then k else livAt m l (k+1)
def orInl:List FuncId:=[53]
theorem orΓ_ok:GOk Pz (runG Pz (gams [(10,livesS)]) 0 orInl 1):=gok_run hmix (goks_cons lives_sound goks_nil) 0 orInl 1
def dlH(m:Mf)(o:Bool)(N row:List AV):AHeap:=[.cells false (sgsA m.segs),.cells o N,.cells true [.int .i64 m.v,.int .i64 m.f,.int .i64 m.n,.sl 0 0 m.segs.length 3 false],.cells true row]
theorem livesS_dl(m:Mf)(o:Bool)(N row:List AV)(s:List UInt8)(hs:s.length≤1000000)(hm:m.segs.length≤1000000000000) :
   livesS [.agg [.int .i64 m.v,.int .i64 m.f,.int .i64 m.n,.sl 0 0 m.segs.length 3 false],.str s] (dlH m o N row)=some (.bool (lives m s),dlH m o N row,[]):=by
 have h0:(sgsA m.segs).take (m.segs.length*3)=sgsA m.segs:=q6Z (by simp)
 simp[livesS,readS,mfOf,rowSgs,dlH,h0,hs,hm]
theorem livIndex_ct(m:Mf)(o:Bool)(N:List AV)(hN:frees N=true)(l:List (List UInt8))(hm:m.segs.length≤1000000000000)(hl:l.length≤1000000000000)(hs:∀s∈l,s.length≤1000000) :
   Ct Pz 124 [.slice 3 0 l.length 1 false,.func 53 [] [.ptr 2 0]] (dlH m o N (l.map .str)) (.int .i64 (livAt m l 0)) (dlH m o N (l.map .str)):=by
 have hlv:=fun s h=>livesS_dl m o N (l.map .str) s h hm
 have hA1:∀rn:List Nat,AWs rn N N:=fun rn=>AWs.refl _ _ hN
 have hA2:∀rn:List Nat,AWs rn (l.map AV.str) (l.map AV.str):=fun rn=>AWs.refl _ _ (frees_map _ _ fun _=>rfl)
 have hA3:∀rn:List Nat,AWs rn (sgsA m.segs) (sgsA m.segs):=fun rn=>AWs.refl _ _ (by simp)
 obtain⟨mv,mf,mn,sg⟩:=m;unfold dlH at hlv ⊢;dsimp only at hlv hm hA3 ⊢;refine ct_of_sim Tryz.func124 rfl ?_;simp only[Tryz.ntmps124,q7Z,q8Z,Nat.reduceAdd,Nat.reduceSub,qbZ,q9Z,qaZ]
 refine Sim.step hmix goks_nil (n:=0) (by simp;exact⟨rfl,rfl⟩) (by simp) ?_
 refine Sim.seq (Sim.step hmix goks_nil (n:=0) (by simp;exact⟨rfl,rfl⟩) (by simp) ?_)
 refine Sim.block (Sim.loopW (fun k:Nat=>k≤l.length∧livAt ⟨mv,mf,mn,sg⟩ l 0=livAt ⟨mv,mf,mn,sg⟩ (l.drop k) k)
   (fun k=>[.slice 3 0 l.length 1 false,.func 53 [] [.ptr 2 0],.top,.top,.top,.top,.top,.int .i64 l.length,.int .i64 k]++qbZ 10 .top)
   (fun _=>[.cells false (sgsA sg),.cells o N,.cells true [.int .i64 mv,.int .i64 mf,.int .i64 mn,.sl 0 0 sg.length 3 false],.cells true (l.map .str)]) (fun k=>l.length-k) 0 (by simp) (by simp) (Weak.mk' [0,1,2,3] (by decide) (by decide) (by simp) (by simp[AWg,AWb,hA1,hA2,hA3])) fun k hk=>?_)
 obtain⟨hk,hb⟩:=hk;by_cases hlt:k<l.length;rotate_left
 · rw[List.drop_of_length_le (by omega)]at hb
   simp only[livAt]at hb;rw[hb]
   refine Sim.exec hmix orΓ_ok (n:=0) (by simp[hlt];exact⟨rfl,rfl,rfl⟩) (by simp) ?_
   dsimp only;rw[if_pos rfl]
   refine Sim.exec hmix orΓ_ok (n:=0) (by simp;exact⟨rfl,rfl,rfl⟩) (by simp) ?_
   exact⟨.inr rfl,_,by simp <;> rfl,Weak.mk' [0,1,2,3] (by decide) (by decide) (by simp) (by simp[AWg,AWb,hA1,hA2,hA3])⟩
 obtain⟨s,hss⟩:∃s,l[k]=s:=⟨_,rfl⟩;have hsl:s.length≤1000000:=hs s (hss▸r3Z hlt)
 have g1:∀h,(l.map AV.str)[k]'h=.str s:=fun h=>by simp[hss]
 have hw:IntKind.i64.wrap ((k:Int)+1)=k+1:=wr_i64 (by omega) (by omega)
 have hl1:=hlv s hsl
 rw[List.drop_eq_getElem_cons hlt,hss,show livAt ⟨mv,mf,mn,sg⟩ (s::l.drop (k+1)) k=if lives ⟨mv,mf,mn,sg⟩ s=true then (k:Int) else livAt ⟨mv,mf,mn,sg⟩ (l.drop (k+1)) (k+1) from rfl]at hb
 obtain⟨t,ht⟩:∃t,lives ⟨mv,mf,mn,sg⟩ s=t:=⟨_,rfl⟩;rw[ht]at hb hl1;cases t
 · simp only[qsZ,if_false]at hb
   refine Sim.exec hmix orΓ_ok (n:=0) (by simp +decide [hlt,g1,hss,orInl,hl1,hw,Tryz.f53];exact⟨rfl,rfl,rfl⟩) (by simp) ?_
   exact⟨k+1,⟨by omega,hb⟩,Weak.mk' [0,1,2,3] (by decide) (by decide) (by simp) (by simp[AWg,AWb,hA1,hA2,hA3]),by omega⟩
 · simp only[if_true]at hb
   rw[hb]
   refine Sim.exec hmix orΓ_ok (n:=0) (by simp +decide [hlt,g1,hss,orInl,hl1,Tryz.f53];exact⟨rfl,rfl,rfl⟩) (by simp) ?_
   exact⟨.inr rfl,_,by simp <;> rfl,Weak.mk' [0,1,2,3] (by decide) (by decide) (by simp) (by simp[AWg,AWb,hA1,hA2,hA3])⟩
theorem livAt_spec(m:Mf):∀(l:List (List UInt8)) (k:Nat),(livAt m l k = -1∧∀s∈l,lives m s=false)∨∃(i:Nat) (h:i<l.length),livAt m l k=((k+i:Nat):Int)∧(∀s∈l.take i,lives m s=false)∧lives m l[i]=true
 | [],k=>.inl ⟨rfl,by simp⟩
 | s::l,k=>by
   cases h:lives m s with
   | true=>exact .inr ⟨0,by simp,by simp[livAt,h],by simp,by simpa using h⟩
   | false =>
     have e:livAt m (s::l) k=livAt m l (k+1):=by simp[livAt,h]
     rcases livAt_spec m l (k+1) with⟨h1,h2⟩ | ⟨i,hi,h1,h2,h3⟩
     · refine .inl ⟨by rw[e,h1],fun x hx=>?_⟩
       rcases qwZ.1 hx with rfl | hx
       · exact h
       · exact h2 x hx
     · refine .inr ⟨i+1,by simpa using hi,by rw[e,h1];congr 1;omega,fun x hx=>?_,by simpa using h3⟩
       rw[List.take_succ_cons]at hx;rcases qwZ.1 hx with rfl | hx
       · exact h
       · exact h2 x hx
def keepL(m:Mf)(l:List (List UInt8)):List (List UInt8):=l.filter fun s=>!lives m s
theorem keepL_all{m:Mf}{l:List (List UInt8)}(h:∀s∈l,lives m s=false):keepL m l=l:=List.filter_eq_self.2 fun s hs=>by simp[h s hs]
theorem keepL_snoc(m:Mf)(l:List (List UInt8))(s:List UInt8):keepL m (l++[s])=keepL m l++if lives m s=true then [] else [s]:=by
 unfold keepL;rw[List.filter_append]
 cases h:lives m s <;> simp[h]
theorem keepL_le(m:Mf)(l:List (List UInt8)):(keepL m l).length≤l.length:=List.length_filter_le _ _
def livX(m:Mf)(o:Bool)(N:List AV)(l:List (List UInt8)):Summ:=onceS [.slice 3 0 l.length 1 false,.func 53 [] [.ptr 2 0]] (dlH m o N (l.map .str)) (.int .i64 (livAt m l 0)) (dlH m o N (l.map .str)) []
theorem dlΓ_ok(m:Mf)(o:Bool)(N:List AV)(hN:frees N=true)(l:List (List UInt8))(hm:m.segs.length≤1000000000000)(hl:l.length≤1000000000000)(hs:∀s∈l,s.length≤1000000) :
   GOk Pz (runG Pz (gams [(10,livesS),(124,livX m o N l)]) 0 orInl 1) :=
 gok_run hmix (goks_cons lives_sound (goks_cons (sound_once (enter_of Tryz.func124 rfl (by decide)) (livIndex_ct m o N hN l hm hl hs) (by simp) fun b hb _=>rfl) goks_nil)) 0 orInl 1
theorem deleteT_ct(m:Mf)(o:Bool)(N:List AV)(hN:frees N=true)(l:List (List UInt8))(hm:m.segs.length≤1000000000000)(hl:l.length≤1000000000000)(hs:∀s∈l,s.length≤1000000) :
   Ct Pz 51 [.slice 3 0 l.length 1 false,.func 53 [] [.ptr 2 0]] (dlH m o N (l.map .str)) (.slice 3 0 (keepL m l).length 1 false)
     (dlH m o N ((keepL m l).map .str++qbZ (l.length-(keepL m l).length) (.str []))):=by
 have hΓ:=dlΓ_ok m o N hN l hm hl hs
 have hA1:∀rn:List Nat,AWs rn N N:=fun rn=>AWs.refl _ _ hN
 have hA3:∀rn:List Nat,AWs rn (sgsA m.segs) (sgsA m.segs):=fun rn=>AWs.refl _ _ (by simp)
 have hsp:=livAt_spec m l 0;obtain⟨i0,hi0⟩:∃i,livAt m l 0=i:=⟨_,rfl⟩;have hS:livX m o N l=livX m o N l:=rfl
 conv at hS=>rhs;unfold livX dlH
 rw[hi0]at hS hsp;unfold dlH;refine ct_of_sim Tryz.func51 rfl ?_;simp only[Tryz.ntmps51,q7Z,q8Z,Nat.reduceAdd,Nat.reduceSub,qbZ,q9Z,qaZ]
 refine Sim.step hmix hΓ (n:=0) (by simp;exact⟨rfl,rfl⟩) (by simp) ?_
 refine Sim.step hmix hΓ (n:=0) (by simp +decide [orInl,hS,onceS];exact⟨rfl,rfl⟩) (by simp) ?_
 rcases hsp with⟨rfl,hno⟩ | ⟨i,hil,hi1,hno,hyes⟩
 · rw[keepL_all hno,Nat.sub_self]
   refine Sim.exec hmix hΓ (n:=0) (by simp +decide;exact⟨rfl,rfl,rfl⟩) (by simp) ?_
   have hA2:∀rn:List Nat,AWs rn (l.map AV.str) (l.map AV.str):=fun rn=>AWs.refl _ _ (frees_map _ _ fun _=>rfl)
   exact⟨.inr rfl,_,by simp <;> rfl,Weak.mk' [0,1,2,3] (by decide) (by decide) (by simp) (by simp[AWg,AWb,hA1,hA2,hA3])⟩
 · rw[s8Z]at hi1
   subst hi1
   have hne:¬((i:Int) = -1):=by omega
   have hneb:((i:Int) == -1)=false:=beq_eq_false_iff_ne.2 hne
   have hw0:IntKind.i64.wrap ((i:Int)+1)=(i:Int)+1:=wr_i64 (by omega) (by omega)
   refine Sim.step hmix hΓ (n:=0) (by simp +decide [hne,hneb];exact⟨rfl,rfl⟩) (by simp) ?_
   refine Sim.seq (Sim.step hmix hΓ (n:=0) (by simp +decide [hw0];exact⟨rfl,rfl⟩) (by simp) ?_)
   have hK0:keepL m (l.take (i+1))=l.take i:=by
     rw[List.take_add_one,q3Z hil];show keepL m (l.take i++[l[i]])=_;rw[keepL_snoc,keepL_all hno,hyes];simp
   refine Sim.block (Sim.loopW (fun k:Nat=>i+1≤k∧k≤l.length∧(keepL m (l.take k)).length<k)
     (fun k=>[.slice 3 0 l.length 1 false,.func 53 [] [.ptr 2 0],.top,.top,.top,.int .i64 (keepL m (l.take k)).length,.int .i64 k]++qbZ 35 .top)
     (fun k=>[.cells false (sgsA m.segs),.cells o N,.cells true [.int .i64 m.v,.int .i64 m.f,.int .i64 m.n,.sl 0 0 m.segs.length 3 false],.cells true ((keepL m (l.take k)).map .str++(l.drop (keepL m (l.take k)).length).map .str)]) (fun k=>l.length-k) (i+1) (by simp) ⟨by omega,by omega,by rw[hK0];simp;omega⟩ ?_ fun k hk=>?_)
   · rw[hK0]
     have hlt:(l.take i).length=i:=by rw[qjZ];omega
     have hrow:(l.take i).map AV.str++(l.drop i).map AV.str=l.map AV.str:=by rw[←roZ,r6Z]
     rw[hlt,hrow]
     have hA2:∀rn:List Nat,AWs rn (l.map AV.str) (l.map AV.str):=fun rn=>AWs.refl _ _ (frees_map _ _ fun _=>rfl)
     exact Weak.mk' [0,1,2,3] (by decide) (by decide) (by simp) (by simp[AWg,AWb,hA1,hA2,hA3])
   · obtain⟨hk1,hk2,hk3⟩:=hk
     obtain⟨K,hK⟩:∃K,keepL m (l.take k)=K:=⟨_,rfl⟩;rw[hK]at hk3 ⊢;obtain⟨kl,hkl⟩:∃n,K.length=n:=⟨_,rfl⟩;rw[hkl]at hk3 ⊢;obtain⟨B,hB⟩:∃B,K.map AV.str++(l.drop kl).map AV.str=B:=⟨_,rfl⟩
     have hBl:B.length=l.length:=by rw[←hB];simp;omega
     have hBf:frees B=true:=by rw[←hB,←roZ];exact frees_map _ _ fun _=>rfl
     have hA2:∀rn:List Nat,AWs rn B B:=fun rn=>AWs.refl _ _ hBf
     rw[hB];by_cases hlt:k<l.length
     · obtain⟨s,hss⟩:∃s,l[k]=s:=⟨_,rfl⟩
       have hsl:s.length≤1000000:=hs s (hss▸r3Z hlt)
       have hBk:∀h,B[k]'h=.str s:=fun h=>by
         subst hB
         rw[scZ (by simp;omega)]
         simp only[r7Z,List.getElem_map,List.getElem_drop];rw[←hss]
         congr 2
         omega
       have hBset:B.take kl++AV.str s::B.drop (kl+1)=(K++[s]).map AV.str++(l.drop (kl+1)).map AV.str:=by
         rw[←hB,List.take_append_of_le_length (by simp;omega),q6Z (by simp;omega),sdZ,List.drop_of_length_le (by simp;omega)]
         simp[hkl,List.map_drop]
       have hlti:(k:Int)<l.length:=by omega
       have hw:IntKind.i64.wrap ((k:Int)+1)=(k:Int)+1:=wr_i64 (by omega) (by omega)
       have hwl:IntKind.i64.wrap ((kl:Int)+1)=(kl:Int)+1:=wr_i64 (by omega) (by omega)
       have hkll:kl<l.length:=by omega
       have hkB:k<B.length:=by omega
       have hlB:kl<B.length:=by omega
       have hlB1:kl+1≤B.length:=by omega
       have hl1:=livesS_dl m o N B s hsl hm;unfold dlH at hl1
       have hnx:keepL m (l.take (k+1))=K++if lives m s=true then [] else [s]:=by
         rw[List.take_add_one,q3Z hlt,hss];show keepL m (l.take k++[s])=_;rw[keepL_snoc,hK]
       refine Sim.step hmix hΓ (n:=0) (by simp +decide [hlti];exact⟨rfl,rfl⟩) (by simp) ?_
       cases ht:lives m s with
       | true =>
         rw[ht]at hl1 hnx;simp only[if_true,r2Z]at hnx
         refine Sim.exec hmix hΓ (n:=0) (by simp +decide [hlt,hlti,hBk,hkB,orInl,hl1,hw,Tryz.f53];exact⟨rfl,rfl,rfl⟩) (by simp) ?_
         dsimp only
         refine ⟨k+1,⟨by omega,by omega,by rw[hnx,hkl];omega⟩,?_,by omega⟩
         rw[hnx,hkl,hB]
         exact Weak.mk' [0,1,2,3] (by decide) (by decide) (by simp) (by simp[AWg,AWb,hA1,hA2,hA3])
       | false =>
         rw[ht]at hl1 hnx;simp only[qsZ,if_false]at hnx
         refine Sim.exec hmix hΓ (n:=0) (by simp +decide [hlt,hlti,hBk,hkB,hlB,hlB1,hkll,orInl,hl1,hw,hwl,hBset,Tryz.f53];exact⟨rfl,rfl,rfl⟩) (by simp) ?_
         dsimp only
         refine ⟨k+1,⟨by omega,by omega,by rw[hnx];simp;omega⟩,?_,by omega⟩
         have hfr4:frees (K.map AV.str++AV.str s::(l.map AV.str).drop (kl+1))=true:=frees_iff.2 fun v hv=>by
           rcases qxZ.1 hv with h | h
           · obtain⟨_,_,rfl⟩:=reZ.1 h;rfl
           · rcases qwZ.1 h with rfl | h
             · rfl
             · obtain⟨_,_,rfl⟩:=reZ.1 (List.mem_of_mem_drop h);rfl
         have hA4:∀rn:List Nat,AWs rn (K.map AV.str++AV.str s::(l.map AV.str).drop (kl+1)) (K.map AV.str++AV.str s::(l.map AV.str).drop (kl+1)):=fun rn=>AWs.refl _ _ hfr4
         rw[hnx]
         exact Weak.mk' [0,1,2,3] (by decide) (by decide) (by simp[hkl]) (by simp[AWg,AWb,hA1,hA3,hA4,hkl,List.map_drop])
     · have hke:k=l.length:=by omega
       subst hke;rw[List.take_length]at hK
       refine Sim.exec hmix hΓ (n:=0) (by simp +decide;exact⟨rfl,rfl,rfl⟩) (by simp) ?_
       dsimp only;rw[if_pos rfl]
       have hkll:kl≤l.length:=by omega
       have hkli:(kl:Int)≤l.length:=by omega
       have hnz:¬(l.length-kl=0):=by omega
       have hsum:kl+(l.length-kl)=l.length:=by omega
       have hz1:∀n,zerosA [AV.str []] n=qbZ n (.str []):=fun n=>by
         induction n with
         | zero=>rfl
         | succ n ih=>simp[zerosA,ih,rvZ]
       have hBt:B.take kl=K.map AV.str:=by rw[←hB,List.take_append_of_le_length (by simp;omega),q6Z (by simp;omega)]
       have hBd:B.drop l.length=[]:=List.drop_of_length_le (by omega)
       refine Sim.step hmix hΓ (n:=0) (by simp +decide [clearA,hkll,hkli,hBl,hnz,hsum,hz1,hBt,hBd,isCell];exact⟨rfl,rfl⟩) (by simp) ?_
       rw[hK,hkl]
       have hfr5:frees (K.map AV.str++qbZ (l.length-kl) (AV.str []))=true:=frees_iff.2 fun v hv=>by
         rcases qxZ.1 hv with h | h
         · obtain⟨_,_,rfl⟩:=reZ.1 h;rfl
         · rw[List.eq_of_mem_replicate h];rfl
       have hA5:∀rn:List Nat,AWs rn (K.map AV.str++qbZ (l.length-kl) (AV.str [])) (K.map AV.str++qbZ (l.length-kl) (AV.str [])):=fun rn=>AWs.refl _ _ hfr5
       have hln:(K.map AV.str++qbZ (l.length-kl) (AV.str [])).length=l.length:=by simp;omega
       refine Sim.exec hmix hΓ (n:=0) (by simp +decide [hkll,hkli,hnz,hsum];exact⟨rfl,rfl,rfl⟩) (by simp) ?_
       exact⟨.inr rfl,_,by simp <;> rfl,Weak.mk' [0,1,2,3] (by decide) (by decide) (by simp) (by simp[AWg,AWb,hA1,hA3,hA5])⟩
end
end Go.Proofs.YtpmfecnajoojeaaGreatDoor
