/- Parts of the proof of ReplayBack: lemmas, each with its own conditions. -/
import Derived.Test.YthafeihjlamhhaaGreatDoorY27
import Derived.Test.YthafeihjlamhhaaGreatDoorY38
set_option maxHeartbeats 64000000
open List renaming getElem?_eq_some_iff → q1Z, getElem?_eq_getElem → q3Z, length_cons → q7Z, length_nil → q8Z, cons_append → q9Z, nil_append → qaZ, replicate → qbZ, length_take → qjZ, length_drop → qkZ, getElem?_take → r4Z, getElem?_drop → r5Z
open Nat renaming le_refl → qnZ, zero_le → qqZ
namespace Go.Proofs.YthafeihjlamhhaaGreatDoor
open _root_.Go.Proofs.Tryz renaming prog → Pz
set_option maxRecDepth 100000
section
open Go Go.Lib
attribute [-simp] zJ zT zk zL zm
theorem zRd(a b:List Int)(ha:a.length<=1000000000000) :
   Ct Pz 69 [.sl 0 0 a.length 1 false,.sl 1 0 b.length 1 false] [.cells false (zR a),.cells false (zR b)] (.bool (decide (a=b))) [.cells false (zR a),.cells false (zR b)]:=by
 have hA:∀(l:List Int) (rn:List Nat),AWs rn (zR l) (zR l):=fun l rn=>AWs.refl _ _ (ZV _)
 have hA0:=hA a;have hA1:=hA b;refine zI Tryz.func69 rfl ?_;simp only[Tryz.ntmps69,q7Z,q8Z,Nat.reduceAdd,Nat.reduceSub,qbZ,q9Z,qaZ]
 refine Sim.step hmix zE (n:=0) (by simp;exact⟨rfl,rfl⟩) (by simp) ?_
 by_cases hl:a.length=b.length;rotate_left
 · have hne:a≠b:=fun h=>hl (by rw[h])
   rw[decide_eq_false hne]
   have hb1:((a.length:Int)==(b.length:Int))=false:=by rw[beq_eq_false_iff_ne];omega
   have hb2:¬((a.length:Int)=(b.length:Int)):=by omega
   refine Sim.exec hmix zE (n:=0) (by simp[hl,hb1,hb2];exact⟨rfl,rfl,rfl⟩) (by simp) ?_
   exact⟨.inr rfl,_,by simp <;> rfl,Weak.mk' [0,1] (by decide) (by decide) (by simp) (by simp[AWg,AWb,hA0,hA1])⟩
 refine Sim.step hmix zE (n:=0) (by simp[hl];exact⟨rfl,rfl⟩) (by simp) ?_
 refine Sim.seq (Sim.step hmix zE (n:=0) (by simp;exact⟨rfl,rfl⟩) (by simp) ?_)
 refine Sim.block (Sim.loopW (fun k:Nat=>k<=a.length/\(decide (a=b))=decide (a.drop k=b.drop k))
   (fun k=>[.sl 0 0 a.length 1 false,.sl 1 0 b.length 1 false,.top,.top,.top,.int .i64 k]++qbZ 20 .top)
   (fun _=>[.cells false (zR a),.cells false (zR b)]) (fun k=>a.length-k) 0 (by simp) ⟨qqZ _,rfl⟩ (Weak.mk' [0,1] (by decide) (by decide) (by simp[hl]) (by simp[AWg,AWb,hA0,hA1])) fun k hk=>?_)
 obtain⟨hk,hk1⟩:=hk;by_cases hlt:k<a.length
 · have hltb:k<b.length:=by omega
   have hltI:(k:Int)<a.length:=by omega
   rw[List.drop_eq_getElem_cons hlt,List.drop_eq_getElem_cons hltb]at hk1;obtain⟨s,hs⟩:∃s,a[k]=s:=⟨_,rfl⟩;obtain⟨t,htt⟩:∃t,b[k]=t:=⟨_,rfl⟩
   have g1:∀h,(zR a)[k]'h=.int .i64 s:=fun h=>by simp[zR,hs]
   have g2:∀h,(zR b)[k]'h=.int .i64 t:=fun h=>by simp[zR,htt]
   have y1:IntKind.i64.wrap ((k:Int)+1)=k+1:=zW (by omega) (by omega)
   rw[hs,htt]at hk1
   refine Sim.step hmix zE (n:=0) (by simp[hlt];exact⟨rfl,rfl⟩) (by simp) ?_
   by_cases hst:s=t
   · subst hst
     have e:decide (s::a.drop (k+1)=s::b.drop (k+1))=decide (a.drop (k+1)=b.drop (k+1)):=by simp
     rw[e]at hk1
     refine Sim.seq (Sim.block (Sim.exec hmix zE (n:=0) (by simp +decide [hlt,hltb,g1,g2,hs,htt];exact⟨rfl,rfl,rfl⟩) (by simp) ?_))
     dsimp only
     refine Sim.exec hmix zE (n:=0) (by simp[y1];exact⟨rfl,rfl,rfl⟩) (by simp) ?_
     exact⟨k+1,⟨by omega,hk1⟩,Weak.mk' [0,1] (by decide) (by decide) (by simp) (by simp[AWg,AWb,hA0,hA1]),by omega⟩
   · have hsb:(s==t)=false:=by simpa using hst
     have e:decide (s::a.drop (k+1)=t::b.drop (k+1))=false:=by simp[hst]
     rw[e]at hk1;rw[hk1]
     refine Sim.seq (Sim.block (Sim.exec hmix zE (n:=0) (by simp +decide [hlt,hltb,g1,g2,hs,htt,hst,hsb];exact⟨rfl,rfl,rfl⟩) (by simp) ?_))
     exact⟨.inr rfl,_,by simp <;> rfl,Weak.mk' [0,1] (by decide) (by decide) (by simp) (by simp[AWg,AWb,hA0,hA1])⟩
 · have hke:k=a.length:=by omega
   subst hke
   rw[List.drop_of_length_le (qnZ _),List.drop_of_length_le (by omega)]at hk1
   rw[hk1]
   refine Sim.exec hmix zE (n:=0) (by simp;exact⟨rfl,rfl,rfl⟩) (by simp) ?_
   dsimp only;rw[if_pos rfl]
   refine Sim.exec hmix zE (n:=0) (by simp;exact⟨rfl,rfl,rfl⟩) (by simp) ?_
   exact⟨.inr rfl,_,by simp <;> rfl,Weak.mk' [0,1] (by decide) (by decide) (by simp) (by simp[AWg,AWb,hA0,hA1])⟩
def zHV:zU:=Zz fun args H=>match args with
 | [x,y]=>match zGu H x,zGu H y with
   | some a,some b=>if a.length<=1000000000000 then some (.bool (decide (a=b))) else none
   | _,_=>none
 | _=>none
theorem zKw:Sound Pz 69 zHV:=by
 refine Zx (zG Tryz.func69 rfl (by decide)) fun args H v h=>?_
 split at h <;> try cases h
 rename_i x y
 split at h <;> try cases h
 rename_i a b hx hy
 split at h <;> cases h
 rename_i hc;obtain⟨b1,o1,w1,g1⟩:=zGU hx;obtain⟨b2,o2,w2,g2⟩:=zGU hy;refine zEp (zRd a b hc) rfl [(b1,o1),(b2,o2)] ?_ ?_
 · exact⟨w1 0 _ rfl,w2 1 _ rfl,trivial⟩
 · exact⟨g1,ZV _,g2,ZV _,trivial⟩
end
section
open Go Go.Lib
theorem zSy{B:List AV}{l:List Int}{p:Nat}(hp:p<=B.length)(h:∀k n,l[k]? = some n->B[p+k]? = some (.int .i64 n)):zA5 ((B.drop p).take l.length)=some l/\p+l.length<=B.length:=by
 have hle:p+l.length<=B.length:=by
   by_cases h0:l.length=0
   · omega
   · have:=(q1Z.1 (h (l.length-1) _ (q3Z (by omega)))).1
     omega
 refine ⟨?_,hle⟩
 have e:(B.drop p).take l.length=zR l:=by
   refine List.ext_getElem? fun k=>?_
   rw[r4Z,r5Z];split
   · rename_i hk
     rw[h k _ (q3Z hk)];simp[zR,hk]
   · rename_i hk
     simp[zR,hk]
 rw[e];exact zDD _
theorem zFX{d:DS}{x:Int}{f:Fnd}(h:d.load x=(f,0)):zA5 (((lgB d.list).drop (zBE x (Z3 3 d.list))).take f.logs.length)=some f.logs/\zBE x (Z3 3 d.list)+f.logs.length<=(lgB d.list).length/\f.logs.length<=d.list.length:=by
 obtain⟨_,_,_,hl⟩:=zLh h
 have hp:zBE x (Z3 3 d.list)<=(Z3 3 d.list).length:=by
   unfold zBE;exact (List.takeWhile_prefix _).length_le
 have:=zLe d.list;have hn:=zHw d.list
 obtain⟨h1,h2⟩:=zSy (B:=lgB d.list) (l:=f.logs) (p:=zBE x (Z3 3 d.list)) (by omega) fun k n hk=>(zQn (x:=x) (names:=d.list) (by rw[<-hl];exact hk)).2
 refine ⟨h1,h2,?_⟩;rw[hl];rcases zBp x d.list with e | e
 · rw[e];simp
 · rw[e];unfold zCB;rw[qkZ];omega
structure Bw (most:Int) (all:List En) (i at' su:Nat) (w:WL):Prop where
 wri:Wri 1 most (all.take at') su w
 bd:Bd (6*at'+i) (1048576*at') (1+at') at' w
structure Bo (all:List En) (su:Nat) (d:DS):Prop where
 wb:WB 1 (all.map frE) su d.fd d.fs
 ok:d.ok 500 70000000
theorem Bw.out{most:Int}{all:List En}{i at' su:Nat}{w:WL}(h:Bw most all i at' su w)(hl:all.length<=60)(hat:at'<=all.length)(hi:i<=41):Bo all su w.d :=
 ⟨h.wri.wb (by rw[qjZ];omega) (List.take_prefix _ _),DS.ok_mono h.bd.ok (by omega) (by omega)⟩
theorem zUS(all:List En){a n:Nat}(h:a<=n):all.take a++(all.drop a).take (n-a)=all.take n:=by
 rw[show n=a+(n-a) by omega,List.take_add]
 congr 2
 omega
theorem Bw.append{most:Int}{all:List En}{i at' su:Nat}{w:WL}(h:Bw most all i at' su w)(hl:all.length<=60){n:Nat}(h1:at'<=n)(h2:n<=all.length)(hi:i<=40) :
   ((w.appends ((all.drop at').take (n-at'))).2=0/\Bw most all i n su (w.appends ((all.drop at').take (n-at'))).1)\/((w.appends ((all.drop at').take (n-at'))).2=13/\Bo all su (w.appends ((all.drop at').take (n-at'))).1.d):=by
 have hlo:((all.drop at').take (n-at')).length=n-at':=by rw[qjZ,qkZ];omega
 have hb:=h.bd.append ((all.drop at').take (n-at'));rw[hlo]at hb
 have hb2:Bd (6*n+i) (1048576*n) (1+n) n (w.appends ((all.drop at').take (n-at'))).1:=hb.mono (by omega) (by omega) (by omega) (by omega)
 have hw:=h.wri.append (qnZ _) ((all.drop at').take (n-at')) (by rw[hlo,qjZ];omega)
 rw[zUS all h1]at hw;rcases hw with⟨e,g,_⟩ | ⟨e,g⟩
 · exact .inl ⟨e,g,hb2⟩
 · exact .inr ⟨e,g.wb_more (List.take_prefix _ _),DS.ok_mono hb2.ok (by omega) (by omega)⟩
theorem Bw.sync{most:Int}{all:List En}{i at' su:Nat}{w:WL}(h:Bw most all i at' su w)(hl:all.length<=60)(h2:at'<=all.length)(hi:i<=40) :
   (w.syncs.2=0/\Bw most all (i+1) at' at' w.syncs.1)\/(w.syncs.2=13/\Bo all su w.syncs.1.d):=by
 have hb:=h.bd.sync
 have hlt:(all.take at').length=at':=by rw[qjZ];omega
 have hw:=h.wri.sync (qnZ _) (by rw[hlt];omega)
 rw[hlt]at hw;rcases hw with⟨e,g,_⟩ | ⟨e,g⟩
 · exact .inl ⟨e,g,hb⟩
 · exact .inr ⟨e,g.wb_more (List.take_prefix _ _),DS.ok_mono hb.ok (by omega) (by omega)⟩
theorem Bw.next{most:Int}{all:List En}{i at' su:Nat}{w:WL}(h:Bw most all i at' su w):Bw most all (i+1) at' su w:=⟨h.wri,h.bd.mono (by omega) (by omega) (by omega) (by omega)⟩
theorem Bw.wok{most:Int}{all:List En}{i at' su:Nat}{w:WL}(h:Bw most all i at' su w)(hi:i<=41)(ha:at'<=60){k:Nat}(hk:k<=60):WOk w k:=h.bd.wok k (by omega) (by omega) (by omega) (by omega)
theorem Bw.small{most:Int}{all:List En}{i at' su:Nat}{w:WL}(h:Bw most all i at' su w)(hi:i<=41)(ha:at'<=60):w.d.small:=DS.ok_mono h.bd.ok (by omega) (by omega)
theorem Bw.new(most:Int)(all:List En):Bw most all 0 0 0 ⟨DS.new 1048576,most,0,1,0,false⟩:=⟨Wri.new most 1,Bd.new most 1⟩
theorem Bw.arm{most:Int}{all:List En}{i at' su:Nat}{w:WL}(h:Bw most all i at' su w){t:Int}(ht:t<=4611686018427387903):Bw most all i at' su ⟨w.d.arm t,w.most,w.file,w.next,w.done,w.bad⟩:=⟨h.wri.arm t,h.bd.arm ht⟩
end
end Go.Proofs.YthafeihjlamhhaaGreatDoor
