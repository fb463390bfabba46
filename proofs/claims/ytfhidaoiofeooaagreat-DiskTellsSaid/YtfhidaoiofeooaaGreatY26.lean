/- Parts of the proof of DiskTells: lemmas, each with its own conditions. -/
import Derived.Test.YtfhidaoiofeooaaGreatY21
import Derived.Test.YtfhidaoiofeooaaGreatY25
set_option maxHeartbeats 64000000
open List renaming getElem?_eq_some_iff → q1Z, getD_eq_getElem?_getD → q2Z, getElem?_eq_getElem → q3Z, getElem?_append_left → q4Z, take_of_length_le → q6Z, length_cons → q7Z, length_nil → q8Z, cons_append → q9Z, nil_append → qaZ, replicate → qbZ, length_take → qjZ, mem_append → qxZ, mem_singleton → r1Z, getElem?_take → r4Z, length_map → r7Z
open Nat renaming le_refl → qnZ, zero_le → qqZ
namespace Go.Proofs.YtfhidaoiofeooaaGreat
open _root_.Go.Proofs.Tryz renaming prog → Pz
set_option maxRecDepth 100000
section
open Go Go.Lib
def zFD(H:zA):AV->Option (List (List UInt8))
 | .nils=>some []
 | .slice b off len 1 _=>match H[b]? with
   | some (.cells _ l)=>if off+len<=l.length then ZF ((l.drop off).take len) else none
   | _=>none
 | .sl b off len 1 _=>match H[b]? with
   | some (.cells _ l)=>if off+len<=l.length then ZF ((l.drop off).take len) else none
   | _=>none
 | _=>none
theorem zJr{H:zA}{x:AV}{a:List (List UInt8)}(h:zFD H x=some a):∃b off,(∀(i:Nat) (wd:List (Nat×Nat)),wd[i]? = some (b,off)->zFe wd (.sl i 0 a.length 1 false) x) /\
   (match H[b]? with | some (.cells _ l)=>off+(a.map AV.str).length<=l.length/\a.map AV.str=(l.drop off).take (a.map AV.str).length | none=>True | _=>False):=by
 have key:∀(b off len:Nat) (o:Bool) (l:List AV),H[b]? = some (.cells o l)->off+len<=l.length->ZF ((l.drop off).take len)=some a->len=a.length/\off+(a.map AV.str).length<=l.length/\a.map AV.str=(l.drop off).take (a.map AV.str).length:=by
   intro b off len o l hb hle hs;have e:=zBP hs
   have hlen:len=a.length:=by
     have:=congrArg List.length e;simp at this;omega
   subst hlen
   exact⟨rfl,by simpa using hle,by rw[r7Z];exact e.symm⟩
 unfold zFD at h;split at h
 · cases h
   exact⟨H.length,0,fun i wd _=>by simp[zFe],by simp⟩
 · rename_i b off len c
   split at h;rotate_left
   · cases h
   rename_i o l hb;split at h;rotate_left
   · cases h
   rename_i hle;obtain⟨rfl,h1,h2⟩:=key b off len o l hb hle h
   exact⟨b,off,fun i wd hw=>by simp[zFe,hw],by rw[hb];exact⟨h1,h2⟩⟩
 · rename_i b off len c
   split at h;rotate_left
   · cases h
   rename_i o l hb;split at h;rotate_left
   · cases h
   rename_i hle;obtain⟨rfl,h1,h2⟩:=key b off len o l hb hle h
   exact⟨b,off,fun i wd hw=>by simp[zFe,hw],by rw[hb];exact⟨h1,h2⟩⟩
 · cases h
end
section
open Go Go.Lib
attribute [-simp] zN zr ZI zT ZL
open Classical in
noncomputable def zD1:zU:=zMp zDQ fun r=>if r.small then some (.int .i64 r.used) else none
theorem zKu:Sound Pz 66 zD1 :=
 zDh (zE Tryz.func66 rfl (by decide)) (fun _ _=>zAJ) fun r v h=>by
   split at h <;> cases h
   rename_i hs
   exact⟨rfl,zTS (zM2 r.blks_at hs (by decide) (by decide) r.blks_self) rfl⟩
theorem zSE(x:List (List UInt8×List UInt8))(hx:x.length<=1000000000):Ct Pz 65 [.sl 0 0 x.length 2 false] [.cells true (flA x)] (.sl 1 0 x.length 1 false) [.cells true (flA x),.cells true (x.map fun e=>.str e.1)]:=by
 obtain⟨L,hL⟩:∃L,x.length=L:=⟨_,rfl⟩;refine zG Tryz.func65 rfl ?_;rw[hL]at hx ⊢;simp only[Tryz.ntmps65,q7Z,q8Z,Nat.reduceAdd,Nat.reduceSub,qbZ,q9Z,qaZ];have hfr:=ZS x
 have hA1:∀rn:List Nat,AWs rn (flA x) (flA x):=fun rn=>AWs.refl _ _ hfr
 refine Sim.step hmix zC (n:=0) (by simp;exact⟨rfl,rfl⟩) (by simp) ?_
 refine Sim.step hmix zC (n:=0) (by simp;exact⟨rfl,rfl⟩) (by simp) ?_
 refine Sim.seq (Sim.step hmix zC (n:=0) (by simp;exact⟨rfl,rfl⟩) (by simp) ?_)
 refine Sim.block (Sim.loopW (fun k:Nat=>k<=L) (fun k=>[.sl 0 0 L 2 false,.top,.top,.sl 1 0 k 1 false,.int .i64 k]++qbZ 15 .top)
   (fun k=>[.cells true (flA x),.cells true ((x.take k).map fun e=>.str e.1)]) (fun k=>L-k) 0 (by simp) (qqZ _) (Weak.mk' [0,100] (by decide) (by decide) (by simp) (by simp[AWb])) fun k hk=>?_)
 by_cases hlt:k<L
 · have hltI:(k:Int)<L:=by omega
   have hke:k<x.length:=by omega
   obtain⟨e,he⟩:∃e,x[k]=e:=⟨_,rfl⟩;have hg:=zCY x k hke;rw[he]at hg
   have hg1:(flA x)[k*2]? = some (.str e.1):=by
     have:=congrArg (·[0]?) hg
     simpa[r4Z] using this
   have hg1':∀h,(flA x)[k*2]'h=.str e.1:=fun h=>(q1Z.1 hg1).2
   have hnext:(x.take (k+1)).map (fun e=>AV.str e.1)=(x.take k).map (fun e=>AV.str e.1)++[AV.str e.1]:=by
     rw[List.take_add_one,q3Z hke,he];simp
   obtain⟨R,hR⟩:∃R,(x.take k).map (fun e=>AV.str e.1)=R:=⟨_,rfl⟩
   have hRl:R.length=k:=by rw[<-hR,r7Z,qjZ];omega
   have hRf:zh R=true:=by rw[<-hR];exact ZG _ _ fun _=>rfl
   have hRt:R.take k=R:=q6Z (by omega)
   rw[hR]at hnext ⊢
   have y1:IntKind.i64.wrap ((k:Int)+1)=k+1:=zV (by omega) (by omega)
   have k3:k*2+2<=L*2:=by omega
   have b1:(k+1)*16<=140737488355328:=by omega
   have b2:k+1<=9223372036854775807:=by omega
   refine Sim.step hmix zC (n:=0) (by simp[hltI];exact⟨rfl,rfl⟩) (by simp) ?_
   refine Sim.seq (Sim.block ?_)
   refine Sim.exec hmix zC (n:=0) (by simp +decide [hlt,hL,hg1',hRl,hRt,b1,b2];exact⟨rfl,rfl,rfl⟩) (by simp) ?_
   dsimp only
   refine Sim.exec hmix zC (n:=0) (by simp[y1];exact⟨rfl,rfl,rfl⟩) (by simp) ?_
   refine ⟨k+1,by omega,?_,by omega⟩
   rw[hnext]
   have hR1:∀rn:List Nat,AWs rn (R++[AV.str e.1]) (R++[AV.str e.1]):=fun rn=>AWs.refl _ _ (frees_iff.2 fun v hv=>by
     rcases qxZ.1 hv with h | h
     · exact frees_iff.1 hRf v h
     · rw[r1Z.1 h];rfl)
   exact Weak.mk' [0,3] (by decide) (by decide) (by simp) (by simp[AWb,hR1])
 · have hke:k=L:=by omega
   subst hke
   have ht:x.take k=x:=q6Z (by omega)
   rw[ht]
   refine Sim.exec hmix zC (n:=0) (by simp;exact⟨rfl,rfl,rfl⟩) (by simp) ?_
   dsimp only;rw[if_pos rfl]
   have hR1:∀rn:List Nat,AWs rn (x.map fun e=>AV.str e.1) (x.map fun e=>AV.str e.1):=fun rn=>AWs.refl _ _ (ZG _ _ fun _=>rfl)
   refine Sim.exec hmix zC (n:=0) (by simp;exact⟨rfl,rfl,rfl⟩) (by simp) ?_
   exact⟨.inr rfl,_,by simp[Tryz.f65] <;> rfl,Weak.mk' [0,1] (by decide) (by decide) (by simp) (by simp[AWb,hR1])⟩
noncomputable def zB9:zU:=fun args H=>match args with
 | [.sl b 0 n 2 _c]=>match H[b]? with
   | some (.cells true l)=>match flD l with
     | some x=>if n=x.length/\x.length<=1000000000 then some (.sl H.length 0 n 1 false,H++[.cells true (x.map fun e=>.str e.1)],[]) else none
     | none=>none
   | _=>none
 | _=>none
theorem zLv:Sound Pz 65 zB9:=by
 refine ⟨zE Tryz.func65 rfl (by decide),fun args H v H' W hs=>?_,fun args H v H' W hs=>?_⟩ <;> (unfold zB9 at hs;split at hs <;> try cases hs) <;> (rename_i b n c;split at hs <;> try cases hs) <;> (rename_i l hb;split at hs <;> try cases hs) <;> (rename_i x hx;split at hs <;> cases hs;rename_i hk)
 · obtain⟨rfl,h1⟩:=hk
   have e:=zGn hx;subst e;have hbl:b<H.length:=(q1Z.1 hb).1
   have:=zc (H:=H) (args:=[.sl b 0 x.length 2 c]) (zSE x h1) [b] (by simp) ⟨⟨rfl,rfl,rfl,by simp⟩,trivial⟩ ⟨by rw[q2Z,hb];exact⟨by simp,ZD _ (Zj x)⟩,hbl,trivial⟩ rfl
   have s1:H.set b (.cells true (flA x))=H:=by
     obtain⟨h1,h2⟩:=q1Z.1 hb;rw[<-h2,List.set_getElem_self]
   have hfa:=Zj x
   have r1:∀g,ZY g (flA x)=flA x:=fun g=>zAG g _ hfa
   have r2:∀g,ZY g (x.map fun e=>AV.str e.1)=x.map fun e=>AV.str e.1:=fun g=>zAG g _ (by simp[zk,Zx])
   simpa[zb,ABlk.own,reA,reB,ZQ,s1,r1,r2] using this
 · exact⟨by simp,fun c hc _=>by rw[q4Z hc]⟩
theorem zTE(a:List (List UInt8))(ha:a.length<=1000000000000) :
   Ct Pz 63 [.sl 0 0 a.length 1 false,.sl 1 0 a.length 1 false] [.cells false (a.map AV.str),.cells false (a.map AV.str)] (.bool true) [.cells false (a.map AV.str),.cells false (a.map AV.str)]:=by
 have hA:∀(l:List (List UInt8)) (rn:List Nat),AWs rn (l.map AV.str) (l.map AV.str):=fun l rn=>AWs.refl _ _ (ZG _ _ fun _=>rfl)
 have hA0:=hA a;refine zG Tryz.func63 rfl ?_;simp only[Tryz.ntmps63,q7Z,q8Z,Nat.reduceAdd,Nat.reduceSub,qbZ,q9Z,qaZ]
 refine Sim.step hmix zC (n:=0) (by simp;exact⟨rfl,rfl⟩) (by simp) ?_
 refine Sim.step hmix zC (n:=0) (by simp;exact⟨rfl,rfl⟩) (by simp) ?_
 refine Sim.seq (Sim.step hmix zC (n:=0) (by simp;exact⟨rfl,rfl⟩) (by simp) ?_)
 refine Sim.block (Sim.loopW (fun k:Nat=>k<=a.length)
   (fun k=>[.sl 0 0 a.length 1 false,.sl 1 0 a.length 1 false,.top,.top,.top,.int .i64 k]++qbZ 20 .top)
   (fun _=>[.cells false (a.map AV.str),.cells false (a.map AV.str)]) (fun k=>a.length-k) 0 (by simp) (qqZ _) (Weak.mk' [0,1] (by decide) (by decide) (by simp) (by simp[AWg,AWb])) fun k hk=>?_)
 by_cases hlt:k<a.length
 · have hltI:(k:Int)<a.length:=by omega
   obtain⟨s,hs⟩:∃s,a[k]=s:=⟨_,rfl⟩
   have g1:∀h,(a.map AV.str)[k]'h=.str s:=fun h=>by simp[hs]
   have y1:IntKind.i64.wrap ((k:Int)+1)=k+1:=zV (by omega) (by omega)
   refine Sim.step hmix zC (n:=0) (by simp[hlt];exact⟨rfl,rfl⟩) (by simp) ?_
   refine Sim.seq (Sim.block (Sim.exec hmix zC (n:=0) (by simp +decide [hlt,g1];exact⟨rfl,rfl,rfl⟩) (by simp) ?_))
   dsimp only
   refine Sim.exec hmix zC (n:=0) (by simp[y1];exact⟨rfl,rfl,rfl⟩) (by simp) ?_
   exact⟨k+1,by omega,Weak.mk' [0,1] (by decide) (by decide) (by simp) (by simp[AWg,AWb]),by omega⟩
 · have hke:k=a.length:=by omega
   subst hke
   refine Sim.exec hmix zC (n:=0) (by simp;exact⟨rfl,rfl,rfl⟩) (by simp) ?_
   dsimp only;rw[if_pos rfl]
   refine Sim.exec hmix zC (n:=0) (by simp;exact⟨rfl,rfl,rfl⟩) (by simp) ?_
   exact⟨.inr rfl,_,by simp <;> rfl,Weak.mk' [0,1] (by decide) (by decide) (by simp) (by simp[AWg,AWb])⟩
def zEF:zU:=Zl fun args H=>match args with
 | [x,y]=>match zFD H x,zFD H y with
   | some a,some b=>if a=b/\a.length<=1000000000000 then some (.bool true) else none
   | _,_=>none
 | _=>none
theorem zMY:Sound Pz 63 zEF:=by
 refine zBQ (zE Tryz.func63 rfl (by decide)) fun args H v h=>?_
 split at h <;> try cases h
 rename_i x y
 split at h <;> try cases h
 rename_i a b hx hy
 split at h <;> cases h
 rename_i hc;obtain⟨rfl,hc⟩:=hc;obtain⟨b1,o1,w1,g1⟩:=zJr hx;obtain⟨b2,o2,w2,g2⟩:=zJr hy;refine zWT (zTE a hc) rfl [(b1,o1),(b2,o2)] ?_ ?_
 · exact⟨w1 0 _ rfl,w2 1 _ rfl,trivial⟩
 · exact⟨g1,ZG _ _ fun _=>rfl,g2,ZG _ _ fun _=>rfl,trivial⟩
noncomputable def zOg:Gam:=zo [(61,zB7),(62,zDT),(60,zDG),(64,zDH),(65,zB9),(63,zEF),(32,zDs),(66,zD1),
 (67,zHa),(68,zHY),(69,zHZ)]
theorem zT5:GOk Pz zOg:=zB zLZ (zB zNU (zB zMf (zB zM9 (zB zLv (zB zMY (zB zLr (zB zKu (zB zMq (zB zMl (zB zMo zC))))))))))
theorem zRP(r:RS)(d:DS)(h:RD r d 800000 1000000000000):Ct Pz 13 [.ptr 0 0,.ptr 1 0] [.obj true d.blks,.obj true r.blks] (.bool true) [.obj true d.blks,.obj true r.blks]:=by
 have hΓ:=zT5
 have hd:d.small:=DS.ok_mono h.ok (by decide) (qnZ _)
 have hr:r.small:=(h.mono (by decide) (qnZ _)).rok
 have hf:=h.files;have hu:=h.used;have h1:=h.room;have h2:=h.steps;have h3:=h.down
 have hl:d.files.map (fun e=>AV.str e.1)=d.list.map AV.str:=by simp[DS.files,Function.comp_def]
 have hll:d.files.length=d.list.length:=by simp[DS.files]
 have hlen:=DS.list_le h.ok
 have b1:d.list.length<=1000000000:=by omega
 have b2:d.list.length<=9223372036854775807:=by omega
 have b3:d.list.length<=1000000000000:=by omega
 obtain⟨tl,htl⟩:∃tl,r.blks=.cells true [.ptr 1 0,.sl 2 0 r.F.length 1 false,.int .i64 r.room,.int .i64 r.steps,.int .i64 r.left,.bool r.down]::tl:=⟨_,rfl⟩
 have hrs:zDQ (.cells true [.ptr 1 0,.sl 2 0 r.F.length 1 false,.int .i64 r.room,.int .i64 r.steps,.int .i64 r.left,.bool r.down]::tl)=some r:=by rw[<-htl,zRm]
 have tk1:(d.list.map AV.str).take d.list.length=d.list.map AV.str:=q6Z (by simp)
 have so1:ZF (d.list.map AV.str)=some d.list:=zOP d.list;refine zG Tryz.func13 rfl ?_;rw[htl];rw[h1,h2,h3]at hrs ⊢;simp only[Tryz.ntmps13,q7Z,q8Z,Nat.reduceAdd,Nat.reduceSub,qbZ,q9Z,qaZ]
 refine Sim.step hmix hΓ (n:=0) (by simp;exact⟨rfl,rfl⟩) (by simp) ?_
 refine Sim.seq (Sim.draw hmix (by simp) ?_)
 refine SimR.many hΓ 6 (by simp[zI];rfl) (by omega) (by kernel_rfl) (by simp +decide [zOg,zB7,zDT,zDG,zDH,zB9,zEF,zDs,zD1,zHa,zHY,zHZ,hd,hr,hf,hrs,hll,b2,Zl,zFD,free];first | exact⟨rfl,rfl⟩ | exact⟨by kernel_rfl,rfl,rfl⟩) ?_
 refine SimR.many hΓ 14 (by simp[zI,zS];rfl) (by omega) (by kernel_rfl) (by simp +decide [zOg,zB7,zDT,zDG,zDH,zB9,zEF,zDs,zD1,zHa,zHY,zHZ,hd,hr,hf,hrs,hl,hll,b1,b3,Zl,zFD,free,tk1,so1];first | exact⟨rfl,rfl⟩ | exact⟨by kernel_rfl,rfl,rfl⟩) ?_
 refine SimR.many hΓ 21 (by simp[zI,zS];rfl) (by omega) (by kernel_rfl) (by simp +decide [zOg,zB7,zDT,zDG,zDH,zB9,zEF,zDs,zD1,zHa,zHY,zHZ,hd,hr,hu,hrs,Zl,zFD,free];first | exact⟨rfl,rfl⟩ | exact⟨by kernel_rfl,rfl,rfl⟩) ?_
 refine SimR.many hΓ 30 (by simp[zI,zS];rfl) (by omega) (by kernel_rfl) (by simp +decide [zOg,zB7,zDT,zDG,zDH,zB9,zEF,zDs,zD1,zHa,zHY,zHZ,Zl,zFD,free];first | exact⟨rfl,rfl⟩ | exact⟨by kernel_rfl,rfl,rfl⟩) ?_
 refine SimR.many hΓ 39 (by simp[zI,zS];rfl) (by omega) (by kernel_rfl) (by simp +decide [zOg,zB7,zDT,zDG,zDH,zB9,zEF,zDs,zD1,zHa,zHY,zHZ,Zl,zFD,free];first | exact⟨rfl,rfl⟩ | exact⟨by kernel_rfl,rfl,rfl⟩) ?_
 refine SimR.many hΓ 48 (by simp[zI,zS];rfl) (by omega) (by kernel_rfl) (by simp +decide [zOg,zB7,zDT,zDG,zDH,zB9,zEF,zDs,zD1,zHa,zHY,zHZ,Zl,zFD,free];first | exact⟨rfl,rfl⟩ | exact⟨by kernel_rfl,rfl,rfl⟩) ?_
 refine SimR.done rfl ?_;dsimp only
 refine Sim.exec hmix hΓ (n:=0) (by simp;exact⟨rfl,rfl,rfl⟩) (by simp) ?_
 exact⟨.inr rfl,_,by simp[Tryz.f13] <;> rfl,Weak.mk' [0,1] (by decide) (by decide) (by simp) (by simp[AWb])⟩
end
end Go.Proofs.YtfhidaoiofeooaaGreat
