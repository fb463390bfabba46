/- Parts of the proof of SweepLess: lemmas, each with its own conditions. -/
import Derived.Test.YtpmfecnajoojeaaGreatDoorY26
import Derived.Test.YtpmfecnajoojeaaGreatDoorY27
import Derived.Test.YtpmfecnajoojeaaGreatDoorY21
set_option maxHeartbeats 64000000
open List renaming getElem?_eq_some_iff → q1Z, getElem?_eq_getElem → q3Z, take_of_length_le → q6Z, length_cons → q7Z, length_nil → q8Z, cons_append → q9Z, nil_append → qaZ, replicate → qbZ, mem_of_getElem? → qcZ, length_append → qdZ, length_take → qjZ, length_drop → qkZ, mem_cons → qwZ, mem_append → qxZ, mem_singleton → r1Z, getElem?_take → r4Z, getElem?_drop → r5Z, length_map → r7Z, map_append → roZ, not_mem_nil → rtZ, map_cons → s1Z
open Option renaming map_eq_some_iff → qlZ
open Nat renaming le_refl → qnZ, zero_le → qqZ, lt_or_ge → s2Z
open Int renaming tmod_eq_emod_of_nonneg → rrZ
namespace Go.Proofs.YtpmfecnajoojeaaGreatDoor
open _root_.Go.Proofs.Tryz renaming prog → Pz
set_option maxRecDepth 100000
section
open Go Go.Lib
theorem mkN_length(k n:Int):(mk k n).length≤14:=by
 unfold mk;split
 · decide
 split
 · decide
 split
 · decide
 rename_i h
 have hd:=(dg_len n.toNat (by omega)).2
 split
 · rw[qdZ,show walW.length=4 from rfl];omega
 split
 · rw[qdZ,show segW.length=4 from rfl];omega
 · decide
end
section
open Go Go.Lib
attribute [-simp] drawOk_eq adraw qrun acode aops
abbrev Nm:=Nat×Nat×List UInt8
def nmS(x:Nm):List UInt8 :=
 if x.1 % 8=0 then x.2.2.take 64 else if x.1 % 8=1 then manifW else if x.1 % 8=2 then tempW else if x.1 % 8=3 then [119,97,108,45,48]++(mk 3 (1+((x.2.1 % 12:Nat):Int))).drop 4
 else if x.1 % 8=4∨x.1 % 8=5 then mk 3 (1+((x.2.1 % 12:Nat):Int)) else mk 4 (1+((x.2.1 % 12:Nat):Int))
theorem nmS_len(x:Nm):(nmS x).length≤64:=by
 have h3:=mkN_length 3 (1+((x.2.1 % 12:Nat):Int));have h4:=mkN_length 4 (1+((x.2.1 % 12:Nat):Int));unfold nmS
 repeat' split
 · rw[qjZ];omega
 · decide
 · decide
 · rw[qdZ,qkZ];simp only[q7Z,q8Z];omega
 · exact Nat.le_trans h3 (by decide)
 · exact Nat.le_trans h4 (by decide)
theorem mk3_four(j:Nat)(hj:j<12):4≤(mk 3 (1+(j:Int))).length:=by
 have e:(1+(j:Int))=((1+j:Nat):Int):=by push_cast;rfl
 rw[e,mk3 (by omega) (by omega),qdZ]
 simp[walW]
def smΓ:Gam:=gams [(101,mkS)]
theorem smΓ_ok:GOk Pz smΓ:=goks_cons rmake_sound goks_nil
theorem sname_ct(k n:Nat)(hk:k<256)(hn:n<256)(s:List UInt8)(hs:s.length≤9223372036854775807) :
   Ct Pz 48 [.agg [.int .u8 k,.int .u8 n,.str s]] [] (.str (nmS (k,n,s))) []:=by
 have hΓ:=smΓ_ok
 have t8:(k:Int).tmod 8=((k % 8:Nat):Int):=by rw[rrZ (by omega)];omega
 have t12:(n:Int).tmod 12=((n % 12:Nat):Int):=by rw[rrZ (by omega)];omega
 unfold nmS;dsimp only
 have h4:=mk3_four (n % 12) (by omega)
 obtain⟨q,hq⟩:∃q,k % 8=q:=⟨_,rfl⟩;obtain⟨j,hj⟩:∃j,n % 12=j:=⟨_,rfl⟩
 have hq8:q<8:=by omega
 have hj8:j<12:=by omega
 rw[hq]at t8 ⊢;rw[hj]at t12 h4 ⊢
 have u1:IntKind.u8.wrap (q:Int)=q:=wr_u8 (by omega) (by omega)
 have u2:IntKind.u8.wrap (j:Int)=j:=wr_u8 (by omega) (by omega)
 have u3:IntKind.i64.wrap (j:Int)=j:=wr_i64 (by omega) (by omega)
 have u4:IntKind.i64.wrap (1+(j:Int))=1+j:=wr_i64 (by omega) (by omega)
 obtain⟨M3,hM3⟩:∃M,mk 3 (1+(j:Int))=M:=⟨_,rfl⟩;obtain⟨M4,hM4⟩:∃M,mk 4 (1+(j:Int))=M:=⟨_,rfl⟩;have h14:=mkN_length 3 (1+(j:Int));rw[hM3]at h4 h14
 have h4i:(4:Int)≤(M3.length:Int):=by omega
 obtain⟨D,hD⟩:∃D,M3.drop 4=D:=⟨_,rfl⟩
 have hDl:D.length=M3.length-4:=by rw[←hD,qkZ]
 have hDt:D.take (M3.length-4)=D:=q6Z (by omega)
 have hDb:5+D.length≤9223372036854775807:=by omega
 have hDc:D.length+5≤9223372036854775807:=by omega
 obtain⟨z,hz,hz1,hz2⟩:∃z:Nat,(if (64:Int)<(s.length:Int) then (64:Int) else (s.length:Int))=(z:Int)∧z≤s.length∧s.take z=s.take 64:=by
   by_cases h:(64:Int)<(s.length:Int)
   · exact⟨64,by rw[if_pos h];rfl,by omega,rfl⟩
   · exact⟨s.length,by rw[if_neg h],qnZ _,by rw[q6Z (by omega),q6Z (by omega)]⟩
 refine ct_of_sim Tryz.func48 rfl ?_;simp only[Tryz.ntmps48,q7Z,q8Z,Nat.reduceAdd,Nat.reduceSub,qbZ,q9Z,qaZ]
 refine Sim.step hmix hΓ (n:=0) (by simp;exact⟨rfl,rfl⟩) (by simp) ?_
 refine Sim.seq (Sim.step hmix hΓ (n:=0) (by simp[t8,u1];exact⟨rfl,rfl⟩) (by simp) ?_)
 match q,hq8 with
 | 0,_ =>
   refine Sim.exec hmix hΓ (n:=0) (by simp[smΓ,hz,hz1,hz2];exact⟨rfl,rfl,rfl⟩) (by simp) ?_
   exact⟨.inr rfl,_,by simp[Tryz.f48] <;> rfl,Weak.mk' [] (by decide) (by decide) (by simp) (by simp)⟩
 | 1,_ =>
   refine Sim.exec hmix hΓ (n:=0) (by simp[smΓ];exact⟨rfl,rfl,rfl⟩) (by simp) ?_
   exact⟨.inr rfl,_,by simp[Tryz.f48] <;> rfl,Weak.mk' [] (by decide) (by decide) (by simp[manifW]) (by simp)⟩
 | 2,_ =>
   refine Sim.exec hmix hΓ (n:=0) (by simp[smΓ];exact⟨rfl,rfl,rfl⟩) (by simp) ?_
   exact⟨.inr rfl,_,by simp[Tryz.f48] <;> rfl,Weak.mk' [] (by decide) (by decide) (by simp[tempW]) (by simp)⟩
 | 3,_ =>
   refine Sim.exec hmix hΓ (n:=0) (by simp +decide [smΓ,mkS,t12,u2,u3,u4,hM3,h4,h4i,hD,hDt,hDb,hDc];exact⟨rfl,rfl,rfl⟩) (by simp) ?_
   exact⟨.inr rfl,_,by simp[Tryz.f48] <;> rfl,Weak.mk' [] (by decide) (by decide) (by simp[hM3,hD]) (by simp)⟩
 | 4,_ =>
   refine Sim.exec hmix hΓ (n:=0) (by simp +decide [smΓ,mkS,t12,u2,u3,u4,hM3];exact⟨rfl,rfl,rfl⟩) (by simp) ?_
   exact⟨.inr rfl,_,by simp[Tryz.f48] <;> rfl,Weak.mk' [] (by decide) (by decide) (by simp[hM3]) (by simp)⟩
 | 5,_ =>
   refine Sim.exec hmix hΓ (n:=0) (by simp +decide [smΓ,mkS,t12,u2,u3,u4,hM3];exact⟨rfl,rfl,rfl⟩) (by simp) ?_
   exact⟨.inr rfl,_,by simp[Tryz.f48] <;> rfl,Weak.mk' [] (by decide) (by decide) (by simp[hM3]) (by simp)⟩
 | 6,_ =>
   refine Sim.exec hmix hΓ (n:=0) (by simp +decide [smΓ,mkS,t12,u2,u3,u4,hM4];exact⟨rfl,rfl,rfl⟩) (by simp) ?_
   dsimp only
   refine Sim.exec hmix hΓ (n:=0) (by simp +decide [smΓ,mkS,t12,u2,u3,u4,hM4];exact⟨rfl,rfl,rfl⟩) (by simp) ?_
   exact⟨.inr rfl,_,by simp[Tryz.f48] <;> rfl,Weak.mk' [] (by decide) (by decide) (by simp[hM4]) (by simp)⟩
 | 7,_ =>
   refine Sim.exec hmix hΓ (n:=0) (by simp +decide [smΓ,mkS,t12,u2,u3,u4,hM4];exact⟨rfl,rfl,rfl⟩) (by simp) ?_
   dsimp only
   refine Sim.exec hmix hΓ (n:=0) (by simp +decide [smΓ,mkS,t12,u2,u3,u4,hM4];exact⟨rfl,rfl,rfl⟩) (by simp) ?_
   exact⟨.inr rfl,_,by simp[Tryz.f48] <;> rfl,Weak.mk' [] (by decide) (by decide) (by simp[hM4]) (by simp)⟩
def snameS:Summ:=pureS fun
 | [.agg [.int .u8 k,.int .u8 n,.str s]]=>if (0≤k∧k.toNat<256)∧(0≤n∧n.toNat<256)∧s.length≤9223372036854775807 then some (.str (nmS (k.toNat,n.toNat,s))) else none
 | _=>none
theorem sname_sound:Sound Pz 48 snameS:=by
 refine sound_pure (enter_of Tryz.func48 rfl (by decide)) fun args v h=>?_
 split at h;rotate_left
 · cases h
 rename_i k n s
 split at h <;> cases h
 rename_i hc;obtain⟨⟨h1,h2⟩,⟨h3,h4⟩,h5⟩:=hc;have:=sname_ct k.toNat n.toNat h2 h4 s h5
 rw[show ((k.toNat:Nat):Int)=k by omega,show ((n.toNat:Nat):Int)=n by omega]at this
 exact⟨this,rfl,rfl⟩
def sdSg(c:Nat):Sg:=(1+((c % 12:Nat):Int),1,1)
def sdM(f:Nat)(ls:List Nat):Mf:=⟨0,1+((f % 12:Nat):Int),40,(ls.take 6).map sdSg⟩
def nmA(l:List Nm):List AV:=l.flatMap fun x=>[.int .u8 x.1,.int .u8 x.2.1,.str x.2.2]
@[simp] theorem nmA_length:∀l,(nmA l).length=l.length*3
 | []=>rfl
 | x::l=>by
   have:=nmA_length l;simp only[nmA,List.flatMap_cons,qdZ,q7Z,q8Z]at this ⊢;omega
theorem frees_nmA(l:List Nm):frees (nmA l)=true:=frees_iff.2 fun v hv=>by
 obtain⟨x,_,hx⟩:=List.mem_flatMap.1 hv;simp only[qwZ,rtZ,or_false]at hx
 rcases hx with rfl | rfl | rfl <;> rfl
theorem nmA_get:∀(l:List Nm) (k:Nat) (x:Nm),l[k]? = some x→((nmA l).drop (k*3)).take 3=[.int .u8 x.1,.int .u8 x.2.1,.str x.2.2]
 | [],k,x,h=>by simp at h
 | a::l,0,x,h=>by
   simp at h;subst h;simp[nmA]
 | a::l,k+1,x,h=>by
   have:=nmA_get l k x (by simpa using h)
   rw[show (k+1)*3=3+k*3 by omega,←List.drop_drop]
   simpa[nmA] using this
theorem smade_ct(f:Nat)(hf:f<256)(ls:List Nat)(hl:∀c∈ls,c<256)(hll:ls.length≤9223372036854775807)(l:List Nm) :
   Ct Pz 8 [.agg [.int .u8 f,.sl 0 0 ls.length 1 false,.sl 1 0 l.length 3 false]] [.cells false (ls.map aB),.cells false (nmA l)] (mfA 2 (sdM f ls)) [.cells false (ls.map aB),.cells false (nmA l),.cells true (sgsA (sdM f ls).segs)]:=by
 have hΓ:GOk Pz (gams []):=goks_nil
 have hA1:∀rn:List Nat,AWs rn (nmA l) (nmA l):=fun rn=>AWs.refl _ _ (frees_nmA l)
 unfold sdM mfA;refine ct_of_sim Tryz.func8 rfl ?_;simp only[Tryz.ntmps8,q7Z,q8Z,Nat.reduceAdd,Nat.reduceSub,qbZ,q9Z,qaZ]
 have t12:(f:Int).tmod 12=((f % 12:Nat):Int):=by rw[rrZ (by omega)];omega
 obtain⟨j,hj⟩:∃j,f % 12=j:=⟨_,rfl⟩
 have hj8:j<12:=by omega
 rw[hj]at t12 ⊢
 have w2:IntKind.u8.wrap (j:Int)=j:=wr_u8 (by omega) (by omega)
 have w3:IntKind.i64.wrap (j:Int)=j:=wr_i64 (by omega) (by omega)
 have w1:IntKind.i64.wrap (1+(j:Int))=1+j:=wr_i64 (by omega) (by omega)
 refine Sim.step hmix hΓ (n:=0) (by simp;exact⟨rfl,rfl⟩) (by simp) ?_
 refine Sim.step hmix hΓ (n:=0) (by simp +decide [t12,w1,w2,w3];exact⟨rfl,rfl⟩) (by simp) ?_
 refine Sim.seq (Sim.step hmix hΓ (n:=0) (by simp;exact⟨rfl,rfl⟩) (by simp) ?_)
 refine Sim.block (Sim.loopW (fun k:Nat=>k≤ls.length∧k≤6)
   (fun k=>[.top,.ptr 2 0,.ptr 3 0,.ptr 4 0,.int .i64 k]++qbZ 32 .top)
   (fun k=>[.cells false (ls.map aB),.cells false (nmA l),.cells true [.int .u8 f,.sl 0 0 ls.length 1 false,.sl 1 0 l.length 3 false],.cells true [.int .i64 0,.int .i64 0,.int .i64 0,.nils],.cells true [.int .i64 0,.int .i64 (1+(j:Int)),.int .i64 40,.sl 5 0 k 3 false],.cells true (sgsA ((ls.take k).map sdSg))]) (fun k=>ls.length-k) 0 (by simp) (by simp) (Weak.mk' [0,1,2,3,4,100] (by decide) (by decide) (by simp) (by simp[AWb,AWg,AW,hA1])) fun k hk=>?_)
 obtain⟨hk,hk5⟩:=hk;by_cases hlt:k<ls.length∧k<6
 · obtain⟨c1,c2⟩:=hlt
   have c2':(k:Int)<6:=by omega
   obtain⟨c,hc⟩:∃c,ls[k]? = some c:=⟨_,q3Z c1⟩;have hcb:=hl c (qcZ hc)
   have e:(ls.take (k+1)).map sdSg=(ls.take k).map sdSg++[sdSg c]:=by
     rw[List.take_add_one,hc,Option.toList_some];simp
   obtain⟨L,eL⟩:∃L,(ls.take k).map sdSg=L:=⟨_,rfl⟩
   have hL:L.length=k:=by rw[←eL];simp;omega
   rw[eL]at e ⊢;have q1:=bytesB_get ls k c hc
   have t7:(c:Int).tmod 12=((c % 12:Nat):Int):=by rw[rrZ (by omega)];omega
   obtain⟨m7,hm7⟩:∃m:Nat,c % 12=m:=⟨_,rfl⟩
   have hm7b:m7<12:=by omega
   have hsg:sdSg c=(1+(m7:Int),1,1):=by unfold sdSg;rw[hm7]
   rw[hm7]at t7
   have y0:IntKind.u8.wrap (m7:Int)=m7:=wr_u8 (by omega) (by omega)
   have y1:IntKind.i64.wrap (m7:Int)=m7:=wr_i64 (by omega) (by omega)
   have y2:IntKind.i64.wrap (1+(m7:Int))=1+m7:=wr_i64 (by omega) (by omega)
   have y6:IntKind.i64.wrap ((k:Int)+1)=k+1:=wr_i64 (by omega) (by omega)
   have tkL:(sgsA L).take (k*3)=sgsA L:=q6Z (by simp;omega)
   have b1:(k+1)*24≤140737488355328:=by omega
   have b2:k+1≤9223372036854775807:=by omega
   refine Sim.step hmix hΓ (n:=0) (by simp[c1,c2'];exact⟨rfl,rfl⟩) (by simp) ?_
   refine Sim.seq (Sim.block (Sim.draw hmix (by simp) ?_))
   refine SimR.many hΓ 12 (by simp[stageOps];rfl) (by omega) (by kernel_rfl) (by simp +decide [c1,q1,t7,y0,y1,y2];exact⟨rfl,rfl⟩) ?_
   refine SimR.one hΓ _ rfl (by kernel_rfl) (by simp +decide [hL,tkL,b1,b2];exact⟨rfl,rfl⟩) ?_
   refine SimR.many hΓ 15 (by simp[stageOps,blankOp];rfl) (by omega) (by kernel_rfl) (by simp +decide;exact⟨rfl,rfl⟩) ?_
   refine SimR.done rfl ?_;dsimp only
   refine Sim.exec hmix hΓ (n:=0) (by simp[y6];exact⟨rfl,rfl,rfl⟩) (by simp) ?_
   exact⟨k+1,by omega,Weak.mk' [0,1,2,3,4,7] (by decide) (by decide) (by simp) (by simp[AWb,AWg,AW,hA1,e,sgsA,sgA,hsg]),by omega⟩
 have e1:(ls.map sdSg).take k=(ls.map sdSg).take 6∧k=min ls.length 6:=by
   rcases s2Z k 6 with h1 | h1
   · rw[q6Z (by rw[r7Z];omega),q6Z (by rw[r7Z];omega)];exact⟨rfl,by omega⟩
   · rw[show k=6 by omega];exact⟨rfl,by omega⟩
 obtain⟨e1,e2⟩:=e1;by_cases c1:k<ls.length
 · have c2:¬((k:Int)<6):=by omega
   refine Sim.exec hmix hΓ (n:=0) (by simp[c1,c2];exact⟨rfl,rfl,rfl⟩) (by simp) ?_
   dsimp only;rw[if_pos rfl]
   refine Sim.step hmix hΓ (n:=0) (by simp;exact⟨rfl,rfl⟩) (by simp) ?_
   refine Sim.exec hmix hΓ (n:=0) (by simp;exact⟨rfl,rfl,rfl⟩) (by simp) ?_
   exact⟨.inr rfl,_,by simp[Tryz.f8] <;> rfl,Weak.mk' [0,1,5] (by decide) (by decide) (by simp;omega) (by simp[AWb,AWg,AW,hA1,e1])⟩
 · refine Sim.exec hmix hΓ (n:=0) (by simp[c1];exact⟨rfl,rfl,rfl⟩) (by simp) ?_
   dsimp only;rw[if_pos rfl]
   refine Sim.step hmix hΓ (n:=0) (by simp;exact⟨rfl,rfl⟩) (by simp) ?_
   refine Sim.exec hmix hΓ (n:=0) (by simp;exact⟨rfl,rfl,rfl⟩) (by simp) ?_
   exact⟨.inr rfl,_,by simp[Tryz.f8] <;> rfl,Weak.mk' [0,1,5] (by decide) (by decide) (by simp;omega) (by simp[AWb,AWg,AW,hA1,e1])⟩
def swOut(l:List Nm):Nat→List (List UInt8×List UInt8)
 | 0=>[]
 | k+1=>match l[k]? with
   | some x=>if nmS x=[]∨nmS x∈(swOut l k).map Prod.fst then swOut l k else swOut l k++[(nmS x,[UInt8.ofNat (97+k)])]
   | none=>swOut l k
def swFiles(l:List Nm):List (List UInt8×List UInt8):=swOut l (min l.length 30)
theorem swOut_len(l:List Nm):∀k,(swOut l k).length≤k
 | 0=>qnZ _
 | k+1=>by
   have:=swOut_len l k;unfold swOut
   repeat' split
   · omega
   · simp;omega
   · omega
theorem swOut_ok(l:List Nm):∀k,(∀e∈swOut l k,mayF e.1∧e.2.length≤9)∧((swOut l k).map Prod.fst).Nodup
 | 0=>⟨fun e he=>by simp[swOut]at he,List.nodup_nil⟩
 | k+1=>by
   obtain⟨h1,h2⟩:=swOut_ok l k;unfold swOut;split
   · rename_i x hx
     split
     · exact⟨h1,h2⟩
     · rename_i hn
       refine ⟨fun e he=>?_,?_⟩
       · rcases qxZ.1 he with he | he
         · exact h1 e he
         · simp only[r1Z]at he
           subst he;have:=nmS_len x
           refine ⟨⟨?_,this⟩,by simp⟩
           exact List.length_pos_iff.2 fun h=>hn (.inl h)
       · rw[roZ,List.nodup_append]
         refine ⟨h2,by simp,fun a ha b hb=>?_⟩
         simp only[s1Z,List.map_nil,r1Z]at hb;subst hb;rintro rfl;exact hn (.inr ha)
   · exact⟨h1,h2⟩
theorem flA_cell(l:List (List UInt8×List UInt8))(k:Nat)(h:k<l.length):(∀h',(flA l)[k*2]'h'=.str l[k].1)∧(flA l)[k*2]? = some (.str l[k].1):=by
 have e:(flA l)[k*2]? = some (.str l[k].1):=by
   have:=flA_get l k h
   have h2:(((flA l).drop (k*2)).take 2)[0]? = some (.str l[k].1):=by rw[this];rfl
   rw[r4Z,if_pos (by decide),r5Z,Nat.add_zero]at h2
   exact h2
 exact⟨fun h'=>(q1Z.1 e).2,e⟩
def sfΓ:Gam:=gams [(48,snameS)]
theorem sfΓ_ok:GOk Pz sfΓ:=goks_cons sname_sound goks_nil
def nmOk(l:List Nm):Prop:=∀x∈l,x.1<256∧x.2.1<256∧x.2.2.length≤9223372036854775807
theorem sfiles_ct(f:Nat)(ls:List Nat)(l:List Nm)(hl:nmOk l)(hll:l.length≤9223372036854775807) :
   Ct Pz 9 [.agg [.int .u8 f,.sl 0 0 ls.length 1 false,.sl 1 0 l.length 3 false]] [.cells false (ls.map aB),.cells false (nmA l)] (.sl 2 0 (swFiles l).length 2 false) [.cells false (ls.map aB),.cells false (nmA l),.cells true (flA (swFiles l))]:=by
 have hΓ:=sfΓ_ok
 have hA0:∀rn:List Nat,AWs rn (ls.map aB) (ls.map aB):=fun rn=>AWs.refl _ _ (frees_aB ls)
 have hA1:∀rn:List Nat,AWs rn (nmA l) (nmA l):=fun rn=>AWs.refl _ _ (frees_nmA l)
 refine ct_of_sim Tryz.func9 rfl ?_;simp only[Tryz.ntmps9,q7Z,q8Z,Nat.reduceAdd,Nat.reduceSub,qbZ,q9Z,qaZ]
 refine Sim.step hmix hΓ (n:=0) (by simp;exact⟨rfl,rfl⟩) (by simp) ?_
 refine Sim.step hmix hΓ (n:=0) (by simp;exact⟨rfl,rfl⟩) (by simp) ?_
 refine Sim.seq (Sim.step hmix hΓ (n:=0) (by simp;exact⟨rfl,rfl⟩) (by simp) ?_)
 refine Sim.block (Sim.loopW (fun k:Nat=>k≤l.length∧k≤30)
   (fun k=>[.top,.ptr 2 0,.top,.sl 3 0 (swOut l k).length 2 false,.int .i64 k]++qbZ 53 .top)
   (fun k=>[.cells false (ls.map aB),.cells false (nmA l),.cells true [.int .u8 f,.sl 0 0 ls.length 1 false,.sl 1 0 l.length 3 false],.cells true (flA (swOut l k))]) (fun k=>l.length-k) 0 (by simp) (by simp) (Weak.mk' [0,1,2,100] (by decide) (by decide) (by simp[swOut]) (by simp[AWb,AWg,AW,hA0,hA1,swOut,flA])) fun k hk=>?_)
 obtain⟨hk,hk5⟩:=hk;have hfo:=frees_flA (swOut l k);have hol:=swOut_len l k;by_cases hlt:k<l.length∧k<30
 · obtain⟨c1,c2⟩:=hlt
   have c2':(k:Int)<30:=by omega
   obtain⟨x,hx⟩:∃x,l[k]? = some x:=⟨_,q3Z c1⟩;obtain⟨x1,x2,x3⟩:=hl x (qcZ hx);have hg:=nmA_get l k x hx
   have k1:k*3+3≤l.length*3:=by omega
   have hnext:swOut l (k+1)=if nmS x=[]∨nmS x∈(swOut l k).map Prod.fst then swOut l k else swOut l k++[(nmS x,[UInt8.ofNat (97+k)])]:=by
     conv=>lhs;unfold swOut
     rw[hx]
   have hnl:=nmS_len x;obtain⟨out,hout⟩:∃out,swOut l k=out:=⟨_,rfl⟩;rw[hout]at hnext hol hfo ⊢;obtain⟨M,hM⟩:∃M,out.length=M:=⟨_,rfl⟩;rw[hM]at hol ⊢
   have hAo:∀rn:List Nat,AWs rn (flA out) (flA out):=fun rn=>AWs.refl _ _ hfo
   obtain⟨a,b,s⟩:=x;dsimp only at x1 x2 x3 hg;obtain⟨nm,hnm⟩:∃nm,nmS (a,b,s)=nm:=⟨_,rfl⟩;rw[hnm]at hnext hnl
   have y0:IntKind.u8.wrap (k:Int)=k:=wr_u8 (by omega) (by omega)
   have y1:IntKind.u8.wrap (97+(k:Int))=97+k:=wr_u8 (by omega) (by omega)
   have y6:IntKind.i64.wrap ((k:Int)+1)=k+1:=wr_i64 (by omega) (by omega)
   have hb:(97+(k:Int))=((97+k:Nat):Int):=by push_cast;rfl
   have hfl:(flA out).length=M*2:=by rw[flA_length,hM]
   refine Sim.step hmix hΓ (n:=0) (by simp[c1,c2'];exact⟨rfl,rfl⟩) (by simp) ?_
   refine Sim.seq (Sim.block ?_)
   have y2:(97+(k:Int)).toNat=97+k:=by omega
   have e9:UInt8.ofNat (97+k)=97+UInt8.ofNat k:=by simp
   rw[e9]at hnext;obtain⟨tx,htx⟩:∃tx,[97+UInt8.ofNat k]=tx:=⟨_,rfl⟩
   have x1i:(a:Int)<256:=by omega
   have x2i:(b:Int)<256:=by omega
   refine Sim.step hmix hΓ (n:=0) (by simp +decide [sfΓ,snameS,c1,k1,hg,x1,x2,x3,x1i,x2i,hnm,y0,y1,y2,htx];first | exact⟨rfl,rfl⟩ | exact⟨by kernel_rfl,rfl,rfl⟩) (by simp) ?_
   rw[htx]at hnext
   obtain⟨C,hC⟩:∃C:Nat→Bool,∀i,C i=decide (nm=[]∨nm∈(out.take i).map Prod.fst):=⟨_,fun _=>rfl⟩
   have hC0:C 0=nm.isEmpty:=by rw[hC];cases nm <;> simp
   have hCs:∀i (h:i<out.length),C (i+1)=(C i || decide (out[i].1=nm)):=fun i h=>by
     rw[hC,hC,List.take_succ_eq_append_getElem h];rw[Bool.eq_iff_iff];simp only[roZ,s1Z,List.map_nil,qxZ,r1Z,Bool.or_eq_true,decide_eq_true_eq,eq_comm (a:=nm) (b:=out[i].1),or_assoc]
   have hCe:C M=decide (nm=[]∨nm∈out.map Prod.fst):=by rw[hC,←hM,List.take_length]
   refine Sim.step hmix hΓ (n:=0) (by simp;exact⟨rfl,rfl⟩) (by simp) ?_
   refine Sim.seq (Sim.step hmix hΓ (n:=0) (by simp;exact⟨rfl,rfl⟩) (by simp) ?_)
   refine Sim.block (Sim.loopW (fun i:Nat=>i≤M)
     (fun i=>[.top,.ptr 2 0,.top,.sl 3 0 M 2 false,.int .i64 k,.ptr 4 0,.bool (C i),.int .i64 i]++qbZ 50 .top)
     (fun _=>[.cells false (ls.map aB),.cells false (nmA l),.cells true [.int .u8 f,.sl 0 0 ls.length 1 false,.sl 1 0 l.length 3 false],.cells true (flA out),.cells true [.str nm,.str tx]]) (fun i=>M-i) 0 (by simp) (qqZ _) (Weak.mk' [0,1,2,3,5] (by decide) (by decide) (by simp[hC0]) (by simp[AWb,AWg,AW,hA0,hA1,hAo])) fun i hi=>?_)
   by_cases hiM:i<M
   · have hio:i<out.length:=by omega
     have hiI:(i:Int)<M:=by omega
     obtain⟨f1,f2⟩:=flA_cell out i hio;have hCn:=hCs i hio;obtain⟨on,hon⟩:∃on,out[i].1=on:=⟨_,rfl⟩;rw[hon]at f1 f2 hCn
     have i1:i*2<M*2:=by omega
     have i2:i*2+2≤M*2:=by omega
     have i3:i*2<(flA out).length:=by omega
     have y7:IntKind.i64.wrap ((i:Int)+1)=i+1:=wr_i64 (by omega) (by omega)
     obtain⟨ci,hci⟩:∃c,C i=c:=⟨_,rfl⟩;rw[hci]at hCn ⊢
     refine Sim.step hmix hΓ (n:=0) (by simp[hiI,hiM];exact⟨rfl,rfl⟩) (by simp) ?_
     cases ci with
     | true =>
       rw[Bool.true_or]at hCn
       refine Sim.seq (Sim.block (Sim.exec hmix hΓ (n:=0) (by simp +decide;first | exact⟨rfl,rfl,rfl⟩ | exact⟨by kernel_rfl,rfl,rfl,rfl⟩) (by simp) ?_))
       dsimp only
       refine Sim.exec hmix hΓ (n:=0) (by simp[y7];exact⟨rfl,rfl,rfl⟩) (by simp) ?_
       exact⟨i+1,by omega,Weak.mk' [0,1,2,3,4] (by decide) (by decide) (by simp[hCn]) (by simp[AWb,AWg,AW,hA0,hA1,hAo]),by omega⟩
     | false =>
       rw[Bool.false_or,show decide (on=nm)=(on==nm) by rw[Bool.eq_iff_iff];simp]at hCn
       refine Sim.seq (Sim.block (Sim.exec hmix hΓ (n:=0) (by simp +decide [f1,f2,hiM,i1,i2,i3];first | exact⟨rfl,rfl,rfl⟩ | exact⟨by kernel_rfl,rfl,rfl,rfl⟩) (by simp) ?_))
       dsimp only
       refine Sim.exec hmix hΓ (n:=0) (by simp[y7];exact⟨rfl,rfl,rfl⟩) (by simp) ?_
       exact⟨i+1,by omega,Weak.mk' [0,1,2,3,4] (by decide) (by decide) (by simp[hCn]) (by simp[AWb,AWg,AW,hA0,hA1,hAo]),by omega⟩
   · have hie:i=M:=by omega
     subst hie;obtain⟨ci,hci⟩:∃c,C i=c:=⟨_,rfl⟩;rw[hci]at hCe ⊢
     refine Sim.exec hmix hΓ (n:=0) (by simp;exact⟨rfl,rfl,rfl⟩) (by simp) ?_
     dsimp only;rw[if_pos rfl]
     have tk:(flA out).take (i*2)=flA out:=q6Z (by omega)
     have b1:(i+1)*32≤140737488355328:=by omega
     have b2:i+1≤9223372036854775807:=by omega
     cases ci with
     | true =>
       have hc:nm=[]∨nm∈out.map Prod.fst:=by simpa using hCe.symm
       rw[if_pos hc]at hnext
       refine Sim.exec hmix hΓ (n:=0) (by simp;exact⟨rfl,rfl,rfl⟩) (by simp) ?_
       dsimp only
       refine Sim.exec hmix hΓ (n:=0) (by simp[y6];exact⟨rfl,rfl,rfl⟩) (by simp) ?_
       exact⟨k+1,by omega,Weak.mk' [0,1,2,3] (by decide) (by decide) (by simp[hnext,hM]) (by simp[AWb,AWg,AW,hA0,hA1,hAo,hnext]),by omega⟩
     | false =>
       have hc:¬(nm=[]∨nm∈out.map Prod.fst):=by simpa using hCe.symm
       rw[if_neg hc]at hnext
       have hfa:flA (out++[(nm,tx)])=flA out++[.str nm,.str tx]:=by rw[flA_append];rfl
       have hAn:∀rn:List Nat,AWs rn (flA out++[.str nm,.str tx]) (flA out++[.str nm,.str tx]):=fun rn=>AWs.refl _ _ (by rw[←hfa];exact frees_flA _)
       refine Sim.exec hmix hΓ (n:=0) (by simp[tk,b1,b2,hM];exact⟨rfl,rfl,rfl⟩) (by simp) ?_
       dsimp only
       refine Sim.exec hmix hΓ (n:=0) (by simp[y6];exact⟨rfl,rfl,rfl⟩) (by simp) ?_
       exact⟨k+1,by omega,Weak.mk' [0,1,2,6] (by decide) (by decide) (by simp[hnext,hM]) (by simp[AWb,AWg,AW,hA0,hA1,hAn,hnext,hfa]),by omega⟩
 have e1:swOut l k=swFiles l:=by
   unfold swFiles
   rw[show min l.length 30=k by omega]
 rw[e1]at hfo hol ⊢
 have hAo:∀rn:List Nat,AWs rn (flA (swFiles l)) (flA (swFiles l)):=fun rn=>AWs.refl _ _ hfo
 by_cases c1:k<l.length
 · have c2:¬((k:Int)<30):=by omega
   refine Sim.exec hmix hΓ (n:=0) (by simp[c1,c2];exact⟨rfl,rfl,rfl⟩) (by simp) ?_
   dsimp only;rw[if_pos rfl]
   refine Sim.exec hmix hΓ (n:=0) (by simp;exact⟨rfl,rfl,rfl⟩) (by simp) ?_
   exact⟨.inr rfl,_,by simp[Tryz.f9] <;> rfl,Weak.mk' [0,1,3] (by decide) (by decide) (by simp) (by simp[AWb,AWg,AW,hA0,hA1,hAo])⟩
 · refine Sim.exec hmix hΓ (n:=0) (by simp[c1];exact⟨rfl,rfl,rfl⟩) (by simp) ?_
   dsimp only;rw[if_pos rfl]
   refine Sim.exec hmix hΓ (n:=0) (by simp;exact⟨rfl,rfl,rfl⟩) (by simp) ?_
   exact⟨.inr rfl,_,by simp[Tryz.f9] <;> rfl,Weak.mk' [0,1,3] (by decide) (by decide) (by simp) (by simp[AWb,AWg,AW,hA0,hA1,hAo])⟩
def nmOf:List AV→Option (List Nm)
 | []=>some []
 | .int .u8 a::.int .u8 b::.str s::l=>if 0≤a∧0≤b then (nmOf l).map ((a.toNat,b.toNat,s)::·) else none
 | _=>none
theorem nmOf_eq:∀{xs:List AV} {l:List Nm},nmOf xs=some l→xs=nmA l
 | [],l,h=>by cases h;rfl
 | x::xs,l,h=>by
   unfold nmOf at h;split at h
   · cases ‹_=[]›
   · rename_i a b s ys e
     cases e;split at h
     · rename_i hc
       obtain⟨l',hl',rfl⟩:=qlZ.1 h;rw[nmOf_eq hl'];simp only[nmA,List.flatMap_cons,q9Z,qaZ]
       rw[show ((a.toNat:Nat):Int)=a by omega,show ((b.toNat:Nat):Int)=b by omega]
     · cases h
   · cases h
@[simp] theorem nmOf_nmA:∀l:List Nm,nmOf (nmA l)=some l
 | []=>rfl
 | x::l=>by
   have:=nmOf_nmA l;simp only[nmA]at this;simp[nmA,nmOf,this]
def rowNm(H:AHeap):AV→Option (List Nm)
 | .sl b off len 3 _=>match H[b]? with
   | some (.cells _ l)=>if off+len*3≤l.length then nmOf ((l.drop off).take (len*3)) else none
   | _=>none
 | _=>none
theorem rowNm_win{H:AHeap}{x:AV}{a:List Nm}(h:rowNm H x=some a):∃b off,(∀(i:Nat) (wd:List (Nat×Nat)),wd[i]? = some (b,off)→winA wd (.sl i 0 a.length 3 false) x) ∧
   (match H[b]? with | some (.cells _ l)=>off+(nmA a).length≤l.length∧nmA a=(l.drop off).take (nmA a).length | none=>True | _=>False):=by
 unfold rowNm at h;split at h
 · rename_i b off len c
   split at h;rotate_left
   · cases h
   rename_i o l hb;split at h;rotate_left
   · cases h
   rename_i hle;have e:=nmOf_eq h
   have hlen:len=a.length:=by
     have:=congrArg List.length e;simp at this;omega
   subst hlen
   exact⟨b,off,fun i wd hw=>by simp[winA,hw],by rw[hb];exact⟨by simpa using hle,by rw[nmA_length];exact e.symm⟩⟩
 · cases h
def smadeS:Summ:=readNewS fun args H=>match args with
 | [.agg [.int .u8 f,x,y]]=>match rowNs H x,rowNm H y with
   | some ls,some _l=>if 0≤f∧f.toNat<256 then some (mfA 0 (sdM f.toNat ls),[.cells true (sgsA (sdM f.toNat ls).segs)]) else none
   | _,_=>none
 | _=>none
theorem smade_sound:Sound Pz 8 smadeS:=by
 refine sound_readNew (enter_of Tryz.func8 rfl (by decide)) fun args H v N h=>?_
 split at h <;> try cases h
 rename_i f x y
 split at h <;> try cases h
 rename_i ls l hx hy
 split at h <;> cases h
 rename_i hc;obtain⟨h1,h2,b1,o1,w1,g1⟩:=rowNs_win hx;obtain⟨b2,o2,w2,g2⟩:=rowNm_win hy;refine ct_winN (H0:=[.cells false (ls.map aB),.cells false (nmA l)]) (args0:=[.agg [.int .u8 f,.sl 0 0 ls.length 1 false,.sl 1 0 l.length 3 false]]) ?_ rfl [(b1,o1),(b2,o2)] ?_ ⟨g1,frees_aB _,g2,frees_nmA _,trivial⟩
 · have:=smade_ct f.toNat hc.2 ls h1 h2 l
   rw[show ((f.toNat:Nat):Int)=f by omega]at this
   simpa[mfA] using this
 · refine ⟨?_,trivial⟩
   unfold winA;refine ⟨?_,w1 0 _ rfl,w2 1 _ rfl,trivial⟩;unfold winA;exact⟨rfl,rfl⟩
open Classical in
noncomputable def sfilesS:Summ:=readNewS fun args H=>match args with
 | [.agg [.int .u8 f,x,y]]=>match rowNs H x,rowNm H y with
   | some _ls,some l=>if 0≤f∧nmOk l∧l.length≤9223372036854775807 then some (.sl 0 0 (swFiles l).length 2 false,[.cells true (flA (swFiles l))]) else none
   | _,_=>none
 | _=>none
theorem sfiles_sound:Sound Pz 9 sfilesS:=by
 refine sound_readNew (enter_of Tryz.func9 rfl (by decide)) fun args H v N h=>?_
 split at h <;> try cases h
 rename_i f x y
 split at h <;> try cases h
 rename_i ls l hx hy
 split at h <;> cases h
 rename_i hc;obtain⟨h1,h2,b1,o1,w1,g1⟩:=rowNs_win hx;obtain⟨b2,o2,w2,g2⟩:=rowNm_win hy;refine ct_winN (H0:=[.cells false (ls.map aB),.cells false (nmA l)]) (args0:=[.agg [.int .u8 f,.sl 0 0 ls.length 1 false,.sl 1 0 l.length 3 false]]) ?_ rfl [(b1,o1),(b2,o2)] ?_ ⟨g1,frees_aB _,g2,frees_nmA _,trivial⟩
 · have:=sfiles_ct f.toNat ls l hc.2.1 hc.2.2
   rw[show ((f.toNat:Nat):Int)=f by omega]at this
   simpa[shA,shB,shAs_free 2 _ (frees_flA (swFiles l))] using this
 · refine ⟨?_,trivial⟩
   unfold winA;refine ⟨?_,w1 0 _ rfl,w2 1 _ rfl,trivial⟩;unfold winA;exact⟨rfl,rfl⟩
end
end Go.Proofs.YtpmfecnajoojeaaGreatDoor
