/- Parts of the proof of ReplayBack: lemmas, each with its own conditions. -/
import Derived.Test.YthafeihjlamhhaaGreatDoorY43
import Derived.Test.YthafeihjlamhhaaGreatDoorY46
set_option maxHeartbeats 64000000
open List renaming getElem?_eq_getElem → q3Z, take_of_length_le → q6Z, length_cons → q7Z, length_nil → q8Z, cons_append → q9Z, nil_append → qaZ, replicate → qbZ
namespace Go.Proofs.YthafeihjlamhhaaGreatDoor
open _root_.Go.Proofs.Tryz renaming prog → Pz
set_option maxRecDepth 100000
section
open Go
attribute [-simp] zJ zT zk zL zm
mutual
theorem zRg(k:Nat):∀x:AV,free x=true->shA k x=x
 | .top,_ | .bool _,_ | .int _ _,_ | .str _,_ | .nilp,_ | .nils,_ | .nilm,_ | .nilf,_=>rfl
 | .ptr ..,h | .slice ..,h | .sl ..,h | .map _,h | .yld _,h=>by simp[free]at h
 | .func f xs ys,h=>by simp at h;simp[zBC k xs h.1,zBC k ys h.2]
 | .agg l,h=>by simp at h;simp[zBC k l h]
 | .tuple l,h=>by simp at h;simp[zBC k l h]
theorem zBC(k:Nat):∀xs:List AV,zP xs=true->Z6 k xs=xs
 | [],_=>rfl
 | x::xs,h=>by simp at h;simp[zRg k x h.1,zBC k xs h.2]
end
@[simp] theorem zYG(k:Nat)(l:List En):Z6 k (zM l)=zM l:=zBC k _ (zl l)
end
section
open Go
attribute [-simp] zJ zT zk zL zm
theorem zXL(x y:En):(x.1==y.1&&(x.2.1==y.2.1&&(x.2.2==y.2.2&&true)))=decide (x=y):=by
 obtain⟨a,b,c⟩:=x;obtain⟨a',b',c'⟩:=y;rw[Bool.eq_iff_iff];simp
theorem zP6(a b:List En)(ha:a.length<=1000000000000) :
   Ct Pz 46 [.sl 0 0 a.length 3 false,.sl 1 0 b.length 3 false] [.cells false (zM a),.cells false (zM b)] (.bool (decide (a=b))) [.cells false (zM a),.cells false (zM b)]:=by
 refine zI Tryz.func46 rfl ?_;simp only[Tryz.ntmps46,q7Z,q8Z,Nat.reduceAdd,Nat.reduceSub,qbZ,q9Z,qaZ]
 refine Sim.step hmix zE (n:=0) (by simp;exact⟨rfl,rfl⟩) (by simp) ?_
 by_cases hl:a.length=b.length;rotate_left
 · have e:decide (a=b)=false:=by simp;rintro rfl;exact hl rfl
   rw[e]
   have hl3:((a.length:Int) != (b.length:Int))=true:=by simp;omega
   refine Sim.exec hmix zE (n:=0) (by simp[hl3];exact⟨rfl,rfl,rfl⟩) (by simp) ?_
   exact⟨.inr rfl,_,by simp;rfl,Weak.mk' [0,1] (by decide) (by decide) (by simp) (by simp)⟩
 refine Sim.step hmix zE (n:=0) (by simp[hl];exact⟨rfl,rfl⟩) (by simp) ?_
 refine Sim.seq (Sim.step hmix zE (n:=0) (by simp;exact⟨rfl,rfl⟩) (by simp) ?_)
 refine Sim.block (Sim.loopW (fun k:Nat=>k<=a.length/\a.take k=b.take k)
   (fun k=>[.sl 0 0 a.length 3 false,.sl 1 0 b.length 3 false,.top,.top,.bool false,.int .i64 k]++qbZ 20 .top)
   (fun _=>[.cells false (zM a),.cells false (zM b)]) (fun k=>a.length-k) 0 (by simp) (by simp) (Weak.mk' [0,1] (by decide) (by decide) (by simp[hl]) (by simp)) fun k hk=>?_)
 obtain⟨hk,hak⟩:=hk;by_cases hlt:k<a.length
 · have hltb:k<b.length:=by omega
   have hlti:(k:Int)<a.length:=by omega
   have hw:IntKind.i64.wrap ((k:Int)+1)=k+1:=zW (by omega) (by omega)
   have g1:=zHK a k hlt;have g2:=zHK b k hltb
   have k1:k*3+3<=a.length*3:=by omega
   have k2:k*3+3<=b.length*3:=by omega
   obtain⟨x,hx⟩:∃x,a[k]=x:=⟨_,rfl⟩;obtain⟨y,hy⟩:∃y,b[k]=y:=⟨_,rfl⟩;rw[hx]at g1;rw[hy]at g2;have hq:=zXL x y;by_cases he:x=y
   · have ht:a.take (k+1)=b.take (k+1):=by
       rw[List.take_add_one,List.take_add_one,hak,q3Z hlt,q3Z hltb,hx,hy,he]
     subst he
     refine Sim.exec hmix zE (n:=0) (by simp +decide [hlti,hltb,g1,g2,hw,k1,k2,enA];exact⟨rfl,rfl,rfl⟩) (by simp) ?_
     exact⟨k+1,⟨by omega,ht⟩,Weak.mk' [0,1] (by decide) (by decide) (by simp) (by simp),by omega⟩
   · have e:decide (a=b)=false:=by
       simp;rintro rfl;apply he;rw[<-hx,<-hy]
     rw[e]
     have hf:decide (x=y)=false:=by simpa using he
     rw[hf]at hq
     refine Sim.exec hmix zE (n:=0) (by simp +decide [hlti,hltb,g1,g2,k1,k2,enA,-Bool.and_true,hq];exact⟨rfl,rfl,rfl⟩) (by simp) ?_
     exact⟨.inr rfl,_,by simp;rfl,Weak.mk' [0,1] (by decide) (by decide) (by simp) (by simp)⟩
 · have e:decide (a=b)=true:=by
     rw[q6Z (by omega),q6Z (by omega)]at hak
     simpa using hak
   have hlti:¬(k:Int)<a.length:=by omega
   rw[e]
   refine Sim.exec hmix zE (n:=0) (by simp[hlti];exact⟨rfl,rfl,rfl⟩) (by simp) ?_
   dsimp only;rw[if_pos rfl]
   refine Sim.exec hmix zE (n:=0) (by simp;exact⟨rfl,rfl,rfl⟩) (by simp) ?_
   exact⟨.inr rfl,_,by simp;rfl,Weak.mk' [0,1] (by decide) (by decide) (by simp) (by simp)⟩
def zCZ:zU:=Zz fun args H=>match args with
 | [x,y]=>match zBY H x,zBY H y with
   | some a,some b=>if a.length<=1000000000000 then some (.bool (decide (a=b))) else none
   | _,_=>none
 | _=>none
theorem zJY:Sound Pz 46 zCZ:=by
 refine Zx (zG Tryz.func46 rfl (by decide)) fun args H v h=>?_
 split at h <;> try cases h
 rename_i x y
 split at h <;> try cases h
 rename_i a b hx hy
 split at h <;> cases h
 rename_i hc;obtain⟨b1,o1,w1,g1⟩:=zE3 hx;obtain⟨b2,o2,w2,g2⟩:=zE3 hy;refine zEp (zP6 a b hc) rfl [(b1,o1),(b2,o2)] ?_ ?_
 · exact⟨w1 0 _ rfl,w2 1 _ rfl,trivial⟩
 · exact⟨g1,zl _,g2,zl _,trivial⟩
end
section
open Go Go.Lib
attribute [-simp] zJ zT zk zL zm
end
end Go.Proofs.YthafeihjlamhhaaGreatDoor
