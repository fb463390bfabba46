/- Parts of the proof of WalTells: lemmas, each with its own conditions. -/
import Derived.Test.YtfhidaoiofeooaaGreatDoorY14
set_option maxHeartbeats 64000000
open List renaming getElem?_eq_some_iff → q1Z, getD_eq_getElem?_getD → q2Z, getElem?_eq_getElem → q3Z, getElem?_append_left → q4Z, getElem?_append_right → q5Z, take_of_length_le → q6Z, length_cons → q7Z, length_nil → q8Z, cons_append → q9Z, nil_append → qaZ, replicate → qbZ, mem_of_getElem? → qcZ, length_append → qdZ, append_assoc → qeZ, getElem?_set_ne → qfZ, mem_cons_self → qhZ, mem_cons_of_mem → qiZ, length_take → qjZ, mem_cons → qwZ, mem_append → qxZ, getElem?_map → qzZ, mem_singleton → r1Z, append_nil → r2Z, getElem_mem → r3Z, getElem?_drop → r5Z, length_map → r7Z, getElem?_cons_succ → r9Z, getElem?_cons_zero → raZ, nodup_cons → rdZ, mem_map → reZ, getElem?_range → rfZ, map_cons → s1Z, getElem?_eq_none → s4Z, set_cons_zero → s9Z, drop_append → sdZ
open Option renaming map_eq_some_iff → qlZ, getD_some → rgZ, map_some → rhZ
open Nat renaming le_refl → qnZ, zero_le → qqZ, add_sub_cancel_left → s3Z, zero_add → s8Z, min_eq_left → sfZ
namespace Go.Proofs.YtfhidaoiofeooaaGreatDoor
open _root_.Go.Proofs.Tryz renaming prog → Pz
set_option maxRecDepth 100000
section
open Go Go.Lib
attribute [-simp] zH zc zq zK zy
noncomputable def zTP(args:List AV)(H:zA)(v:AV):zJ:=open Classical in fun a h=>if a=args/\h=H then some (v,H,[]) else none
theorem zKM{P:Program}{f:FuncId}{args:List AV}{H:zA}{v:AV}(he:∀cargs w,(callFunc f cargs).run P w=.ok (.enter f cargs) w)(h:Ct P f args H v H):Sound P f (zTP args H v):=by
 refine ⟨he,fun a h1 v1 H1 W hs=>?_,fun a h1 v1 H1 W hs=>?_⟩ <;> (unfold zTP at hs;split at hs <;> cases hs) <;> (rename_i hc;obtain⟨rfl,rfl⟩:=hc)
 · exact h
 · exact⟨qnZ _,fun _ _ _=>rfl⟩
@[simp] theorem zaG(args:List AV)(H:zA)(v:AV):zTP args H v args H=some (v,H,[]):=by
 unfold zTP;rw[if_pos ⟨rfl,rfl⟩]
theorem DS.used_more(d:DS){A B:Nat}(hok:d.ok A B)(hA:A<=1000000)(hB:B<=1000000000000)(T:zA):Ct Pz 97 [.ptr 0 0] (d.heap T) (.int .i64 d.used) (d.heap T):=by
 have h:=zX2 d hok hA hB;rw[DS.heap_eq,r2Z]at h;have:=zYD (T:=T) (N:=[]) (N':=[]) (args:=[.ptr 0 0]) (v':=.int .i64 d.used) (by rw[r2Z];exact h) (fun rn hr=>⟨⟨hr 0 (by rw[DS.blks_length];omega),rfl⟩,trivial⟩) (d.blks_id) (d.blks_fix) rfl (fun _ _ _=>⟨rfl,rfl⟩);rw[r2Z]at this;rw[DS.heap_eq];exact this
noncomputable def zYV(d:DS)(T:zA)(x:AV)(s:List UInt8):Gam:=zZ [(96,zTP [x,.str []] (d.heap T) (.str s)),(97,zTP [.ptr 0 0] (d.heap T) (.int .i64 d.used)),(98,zRw)]
theorem zPQ(d:DS){A B:Nat}(hok:d.ok A B)(hA:A<=1000000)(hB:B<=1000000000000)(hq:d.quota<=1000000000000)(row:ABlk)(x:AV)(s:List UInt8)(U:zA)(hs:s.length<=9223372036854775807)
   (hj:Ct Pz 96 [x,.str []] (d.heap (row::ZU::.cells true [x]::U)) (.str s) (d.heap (row::ZU::.cells true [x]::U))) (v:Int) (f:PF) (hf:FS.get d.fs v=some f) :
   ∃N,Ct Pz 95 [.ptr (FS.at d.fs v+3) 0,.ptr (d.fs.length+5) 0,.ptr (d.fs.length+4) 0] (d.heap (row::ZU::.cells true [x]::U)) (.int .i64 (if d.room<s.length then 10 else 0))
     ((d.fileTo v (if d.room<s.length then f.add (s.take d.room) else f.add s)).heap (row::ZU::.cells true [x]::(U++N))):=by
 obtain⟨T,hT⟩:∃T,row::ZU::.cells true [x]::U=T:=⟨_,rfl⟩
 have hT1:T[1]? = some (.cells true [.ptr 0 0]):=by rw[<-hT];rfl
 have hT2:T[2]? = some (.cells true [x]):=by rw[<-hT];rfl
 rw[hT]at hj;have hTU:∀N:zA,row::ZU::.cells true [x]::(U++N)=T++N:=fun N=>by rw[<-hT];rfl
 have hΓ:GOk Pz (zYV d T x s):=zB (zKM (zD Tryz.func96 rfl (by decide)) hj) (zB (zKM (zD Tryz.func97 rfl (by decide)) (DS.used_more d hok hA hB T)) (zB zPf zC));have hq0:=zGo hf;have hfok:f.small:=PF.ok_mono (hok.fine _ (FS.get_mem hf)) hB;have hX:=behind d.fs;obtain⟨n,hn⟩:∃n,d.fs.length=n:=⟨_,rfl⟩
 rw[hn]at hX;have hXl:=hX.len;have hXg:=hX.get;have hXg0:=hX.get0;have hu:=DS.sum_le hok hA hB d.files.length;rw[List.take_length,<-DS.used_sum]at hu;have hw:IntKind.i64.wrap (d.quota-(d.used:Int))=d.quota-d.used:=by have:=hok.q0;exact zI (by omega) (by omega)
 have hroom:max 0 (d.quota-(d.used:Int))=(d.room:Int):=by unfold DS.room;omega
 have hrl:(d.room:Int)<=d.quota:=d.room_le hok.q0;have hX1:∀U2:zA,(zT d.fs++(T++U2))[n+1]? = some (.cells true [.ptr 0 0]):=fun U2=>by
   rw[hXg,q4Z (q1Z.1 hT1).1];exact hT1
 have hX2:∀U2:zA,(zT d.fs++(T++U2))[n+2]? = some (.cells true [x]):=fun U2=>by
   rw[hXg,q4Z (q1Z.1 hT2).1];exact hT2
 have hX1':=hX1 [];have hX2':=hX2 [];simp only[r2Z]at hX1' hX2';have hql:FS.at d.fs v<(zT d.fs).length:=by rw[zl];exact FS.at_lt hf
 obtain⟨q,hqe⟩:∃q,FS.at d.fs v=q:=⟨_,rfl⟩
 rw[hqe]at hq0 hql;obtain⟨R,hR⟩:∃R,d.room=R:=⟨_,rfl⟩
 rw[hR]at hroom hrl;have hXT:(zT d.fs++T).length=n+T.length:=by rw[qdZ,hXl]
 have main:∀(e:Int) (m:List UInt8),(e=10/\R<s.length/\m=s.take R\/e=0/\¬R<s.length/\m=s) ->
     Ct Pz 95 [.ptr (q+3) 0,.ptr (n+5) 0,.ptr (n+4) 0] (d.heap T) (.int .i64 e) (d.cell0 1 2::.obj true d.fd.blks::.map (zf (fun i=>i+3) 0 d.fs)::(zT d.fs++(T++[ABlk.cells true [AV.str m]])).set q (.obj true (f.add m).blks)):=by
   intro e m hc;refine zL Tryz.func95 rfl ?_;simp only[Tryz.ntmps95,q7Z,q8Z,Nat.reduceAdd,Nat.reduceSub,qbZ,q9Z,qaZ];have hml:m.length<=1000000000000:=by
     rcases hc with⟨_,_,rfl⟩ | ⟨_,h,rfl⟩
     · rw[qjZ];omega
     · omega
   have hq1:∀U2:zA,(zT d.fs++(T++U2))[q]? = some (.obj true f.blks):=fun U2=>hq0 (T++U2);have hqT:=hq0 T;unfold zYV at hΓ;unfold DS.heap DS.cell0 at hΓ ⊢;obtain⟨X,eX⟩:∃X,zT d.fs=X:=⟨_,rfl⟩
   rw[eX]at hXl hX1' hX2' hq1 hqT hXT hql hΓ ⊢;rw[<-qeZ];have hq2:∀U2:zA,(X++T++U2)[q]? = some (.obj true f.blks):=fun U2=>by rw[qeZ];exact hq1 U2
   obtain⟨Y,eY⟩:∃Y,X++T=Y:=⟨_,rfl⟩
   rw[eY]at hX1' hX2' hqT hXT hq2 hΓ ⊢;have hYg:∀U2:zA,(Y++U2)[Y.length]? = U2[0]?:=fun U2=>(ZC Y rfl).get0 U2;refine wS hΓ (by simp;exact wR) ?_;refine wS hΓ (by simp[hX2'];exact wR) ?_;refine Sim.seq (wS hΓ (by simp +decide [-zAx,zAW,hX1',hw,hroom];first | exact wR | exact⟨by kernel_rfl,wR⟩) ?_);rcases hc with⟨rfl,hc,rfl⟩ | ⟨rfl,hc,rfl⟩
   · have hci:(R:Int)<s.length:=by omega
     have hc2:R<=s.length:=by omega
     have hR12:R<=1000000000000:=by omega
     have hc3:(R:Int)<=s.length:=by omega
     refine wE hΓ (by simp +decide [hci,hc2,hc3,zRw,zAG,hq2,hfok,zt,zAT,hR12];exact wT) ?_;dsimp only;exact⟨.inr rfl,by simp[Tryz.f95],by simp⟩
   · have hci:¬(R:Int)<m.length:=by omega
     refine wE hΓ (by simp[hci];exact wT) ?_;dsimp only;refine wE hΓ (by simp +decide [zRw,zAG,hq2,hfok,zt,zAT,hml];exact wT) ?_;exact⟨.inr rfl,by simp[Tryz.f95],by simp⟩
 by_cases hc:R<s.length
 · refine ⟨[.cells true [.str (s.take R)]],?_⟩
   rw[hTU,hT,hqe,hn,hR,if_pos hc,if_pos hc,zD5 _ hf,hqe];exact main 10 _ (.inl ⟨rfl,hc,rfl⟩)
 · refine ⟨[.cells true [.str s]],?_⟩
   rw[hTU,hT,hqe,hn,hR,if_neg hc,if_neg hc,zD5 _ hf,hqe];exact main 0 _ (.inr ⟨rfl,hc,rfl⟩)
theorem AWh.ofs{rn:List Nat}{H:zA}:∀(xs:zA) (bs:List Nat),xs.length=bs.length->(∀(i:Nat) x b,xs[i]? = some x->bs[i]? = some b->∃y,H[b]? = some y/\AWb rn x y)->AWh rn H xs bs
 | [],[],_,_=>trivial
 | [],_::_,h,_=>by simp at h
 | _::_,[],h,_=>by simp at h
 | x::xs,b::bs,h,hall=>by
   obtain⟨y,h1,h2⟩:=hall 0 x b rfl rfl;refine ⟨?_,(q1Z.1 h1).1,AWh.ofs xs bs (by simpa using h) fun i y c hy hc=>hall (i+1) y c (by simpa using hy) (by simpa using hc)⟩;rw[q2Z,h1];exact h2
theorem zRP{P:Program}{f:FuncId}{xs:List AV}{v v':AV}{sub T HO H' H'':zA}(hO:zY (.obj true sub::T) 0 sub=HO)(h:Ct P f xs HO v H')(hA:Aft (T.length+1) [v] H' fun F H=>F=[v']/\H=H'')(hl:T.length+1<=HO.length):Ct P f xs (.obj true sub::T) v' H'':=by
 intro j w cargs hR hargs;obtain⟨j1,hle,s1⟩:=Step.open (n:=T.length+1) hR (b:=0) rfl (by simp);rw[hO]at s1;refine (h j1 w cargs s1.rel (VRs.mono hle _ _ hargs)).mono ?_;rintro e w' ⟨cv,j2,rfl,hv,s2⟩;obtain⟨F3,H3,j3,⟨rfl,rfl⟩,h3,s3⟩:=hA j2 w' [cv] s2.rel ⟨cv,[],rfl,hv,rfl⟩;obtain⟨cv',ws,e1,h4,h5⟩:=h3;cases e1;exact⟨cv,j3,rfl,h4,(s1.trans s2 hl).trans s3 (qnZ _)⟩
theorem Aft.closeAt{n0:Nat}{F:List AV}{H:zA}{K:List AV->zA->Prop}{d:DS}{b fo m:Nat}{g:Nat->Nat}(h:DAt H d b fo m g)(hn:n0<=H.length)
   (k:Aft n0 F (ZH H b (fo::m::(List.range d.fs.length).map g) true d.blks) K):Aft n0 F H K:=by
 refine Aft.close (o:=true) (b:=b) (sub:=d.blks) (rs:=b::fo::m::(List.range d.fs.length).map g) (ks:=fo::m::(List.range d.fs.length).map g) rfl h.nd (q1Z.1 h.c0).1 ?_ (h.awg _ fun _ _=>rfl) ⟨d.cell0 1 2,rfl,rfl⟩ ?_ hn k
 · intro c x hc hcb _ _
   rcases qwZ.1 hc with e | hc
   · exact absurd e hcb
   · exact hc
 · intro i y hy hd
   have hm:=qcZ hy;simp only[DS.blks,DS.cell0,qwZ]at hm;rcases hm with rfl | rfl | rfl | hm
   · rfl
   · rfl
   · rfl
   · obtain⟨e,_,rfl⟩:=reZ.1 hm
     rfl
def emR(n:Nat):List Nat:=0::2::3::((List.range n).map (·+4)++[1])
theorem zDG(n:Nat):(emR n).length=n+4:=by simp[emR]
theorem zCM(n i:Nat):(emR n)[i]? = if i=0 then some 0 else if i<n+3 then some (i+1) else if i=n+3 then some 1 else none:=by
 unfold emR
 match i with
 | 0=>rfl
 | 1=>simp
 | 2=>simp
 | i+3 =>
   simp only[r9Z];rw[if_neg (by omega)];by_cases h:i<n
   · rw[if_pos (by omega),q4Z (by simpa using h),qzZ,rfZ h];rfl
   · rw[if_neg (by omega),q5Z (by simp;omega)]
     simp only[r7Z,List.length_range];by_cases h2:i=n
     · subst h2;simp
     · rw[if_neg (by omega),s4Z (by simp;omega)]
theorem zLS(n:Nat):(emR n).Nodup:=by
 have h0:((List.range n).map (·+4)++[1]).Nodup:=by
   rw[List.nodup_append];refine ⟨?_,by simp,fun a ha b hb=>?_⟩
   · rw[List.nodup_iff_pairwise_ne,List.pairwise_map]
     exact (List.nodup_iff_pairwise_ne.1 (List.nodup_range (n:=n))).imp fun h e=>h (by omega)
   · obtain⟨c,_,rfl⟩:=reZ.1 ha
     simp at hb;omega
 have hm:∀x,x∈(List.range n).map (·+4)++[1]->x=1\/4<=x:=by
   intro x hx;rcases qxZ.1 hx with h | h
   · obtain⟨c,_,rfl⟩:=reZ.1 h;exact .inr (by omega)
   · exact .inl (by simpa using h)
 unfold emR;refine rdZ.2 ⟨fun h=>?_,rdZ.2 ⟨fun h=>?_,rdZ.2 ⟨fun h=>?_,h0⟩⟩⟩
 · rcases qwZ.1 h with h | h
   · omega
   rcases qwZ.1 h with h | h
   · omega
   · have:=hm _ h;omega
 · rcases qwZ.1 h with h | h
   · omega
   · have:=hm _ h;omega
 · have:=hm _ h;omega
def ggR(n i:Nat):Nat:=if i=0 then 0 else if i<n+3 then i+1 else if i=n+3 then 1 else i
theorem zVm(n i:Nat):zn (emR n) (n+4) i=ggR n i:=by
 unfold zn ggR;rw[zCM,zDG];repeat' split
 all_goals first | rfl | (simp_all;done) | (simp_all;omega)
theorem zH1(n i j:Nat)(h:ggR n i=ggR n j):i=j:=by
 unfold ggR at h;repeat' split at h
 all_goals omega
theorem zUP(d:DS)(l:List AV):zY [.obj true d.blks,.cells false l] 0 d.blks=d.cell0 2 3::.cells false l::.obj true d.fd.blks::.map (zf (fun i=>i+4) 0 d.fs)::zT d.fs:=by
 unfold zY DS.blks;simp only[q7Z,q8Z,List.getD_cons_zero,s9Z,List.drop_succ_cons,List.drop_zero,s1Z,q9Z,qaZ,s8Z,Nat.reduceAdd];have e1:reB (Zr 0 2) (d.cell0 1 2)=d.cell0 2 3:=by simp[DS.cell0,reB,zj,reA,Zr]
 have e2:reB (Zr 0 2) (.map (zf (fun i=>i+3) 0 d.fs))=.map (zf (fun i=>i+4) 0 d.fs):=by
   simp only[reB];rw[zEg,zBX 0 d.fs fun i _ _=>?_];simp only[Zr];rw[if_neg (by omega)];omega
 have e3:(zT d.fs).map (reB (Zr 0 2))=zT d.fs:=by
   simp[zT,reB]
 rw[e1,e2,e3];rfl
theorem zKB{P:Program}{f:FuncId}{ys ys':List AV}{v:AV}{d d':DS}{l:List AV}{H1:zA}{m:Nat}{g:Nat->Nat}(h:Ct P f (.ptr 0 0::ys) (d.heap [.cells false l]) v H1)(hv:zBl v=true)(hys:AWs (emR d.fs.length) ys ys')(hl:zt l=true)
   (hat:DAt H1 d' 0 1 m g) (hne:d.fs.length+3∉0::1::m::(List.range d'.fs.length).map g) (hown:zA5 (H1.drop (d.fs.length+4))=true) (hlen:d.fs.length+4<=H1.length) :
   Ct P f (.ptr 0 0::ys') [.obj true d.blks,.cells false l] v [.obj true d'.blks,.cells false l]:=by
 have h0l:(d.heap [.cells false l]).length=d.fs.length+4:=by rw[DS.heap_length];simp
 obtain⟨n,hn⟩:∃n,d.fs.length=n:=⟨_,rfl⟩
 rw[hn]at hys hne hown hlen h0l;obtain⟨HO,hHO⟩:∃HO:zA,HO=d.cell0 2 3::.cells false l::.obj true d.fd.blks::.map (zf (fun i=>i+4) 0 d.fs)::zT d.fs:=⟨_,rfl⟩
 have hHOl:HO.length=n+4:=by rw[hHO];simp[hn]
 have hg0:∀i,i<n+4->∃x y,(d.heap [.cells false l])[i]? = some x/\HO[ggR n i]? = some y/\AWb (emR n) x y/\(i≠n+3->x.own=true):=by
   intro i hi;unfold ggR
   match i,hi with
   | 0,_ =>
     refine ⟨d.cell0 1 2,d.cell0 2 3,rfl,by rw[hHO];rfl,⟨id,⟨by rw[zCM];simp,rfl⟩,by simp[AW,zCM],⟨rfl,rfl⟩,⟨rfl,rfl⟩,⟨rfl,rfl⟩,rfl,trivial⟩,fun _=>rfl⟩
   | 1,_ =>
     rw[if_neg (by omega),if_pos (by omega),hHO];exact⟨_,_,rfl,rfl,⟨rfl,rfl⟩,fun _=>rfl⟩
   | 2,_ =>
     rw[if_neg (by omega),if_pos (by omega),hHO];refine ⟨_,_,rfl,rfl,zEu fun i hi=>?_,fun _=>rfl⟩;rw[zCM,if_neg (by omega),if_pos (by omega)]
   | i+3,hi =>
     rw[if_neg (by omega)];by_cases h1:i<n
     · rw[if_pos (by omega),hHO]
       have he:=q3Z (l:=d.fs) (i:=i) (by omega);refine ⟨.obj true d.fs[i].2.blks,.obj true d.fs[i].2.blks,?_,?_,⟨rfl,rfl⟩,fun _=>rfl⟩
       · unfold DS.heap
         simp only[r9Z];rw[q4Z (by rw[zl];omega)];exact Z6 he
       · simp only[r9Z]
         exact Z6 he
     · have:i=n:=by omega
       subst this;rw[if_neg (by omega),if_pos rfl,hHO];refine ⟨.cells false l,.cells false l,?_,rfl,⟨id,Z9 l hl⟩,fun h=>absurd rfl h⟩;unfold DS.heap;simp only[r9Z];rw[q5Z (by rw[zl];omega),zl,hn,Nat.sub_self];rfl
 have hem:∀i c,(emR n)[i]? = some c->i<n+4/\c=ggR n i:=by
   intro i c hc;have hi:i<n+4:=by rw[<-zDG];exact (q1Z.1 hc).1
   refine ⟨hi,?_⟩;rw[zCM]at hc;unfold ggR;repeat' split at hc
   all_goals simp_all
 have hfr:=zP (H:=HO) (args:=.ptr 0 0::ys') h (emR n) (zLS n) ⟨⟨by rw[zCM];simp,rfl⟩,hys⟩ (AWh.ofs _ _ (by rw[zDG,h0l]) fun i x c hx hc=>by
   obtain⟨hi,rfl⟩:=hem i c hc;obtain⟨x',y,h1,h2,h3,_⟩:=hg0 i hi;rw[h1]at hx;cases hx
   exact⟨y,h2,h3⟩) (by rw[h0l];exact hown)
 rw[zEZ _ hv,h0l,hHOl]at hfr;have hG:zn (emR n) (n+4)=ggR n:=funext (zVm n);rw[hG]at hfr;obtain⟨H2,hH2⟩:∃H2,zN (ggR n) HO (emR n) (d.heap [.cells false l]) H1++(H1.drop (n+4)).map (reB (ggR n))=H2:=⟨_,rfl⟩
 have hso:(zN (ggR n) HO (emR n) (d.heap [.cells false l]) H1).length=n+4:=by rw[zAD,hHOl]
 rw[hH2]at hfr;have hemL:∀x∈emR n,x<HO.length:=by
   intro x hx;obtain⟨i,hi⟩:=List.getElem?_of_mem hx;obtain⟨h1,rfl⟩:=hem i x hi;obtain⟨_,y,_,h2,_⟩:=hg0 i h1;exact (q1Z.1 h2).1
 have hpt:∀c B,c≠n+3->H1[c]? = some B->H2[ggR n c]? = some (reB (ggR n) B):=by
   intro c B hc hB;rw[<-hH2];by_cases h1:c<n+4
   · obtain⟨x,y,g1,g2,g3,g4⟩:=hg0 c h1
     have hemc:(emR n)[c]? = some (ggR n c):=by
       obtain⟨e,he⟩:∃e,(emR n)[c]? = some e:=⟨_,q3Z (by rw[zDG];exact h1)⟩
       rw[he,(hem c e he).2]
     rw[q4Z (by rw[hso,<-hHOl];exact (q1Z.1 g2).1)];exact zCv _ HO (emR n) _ H1 c _ x B (zLS n) hemL hemc g1 (g4 hc) hB
   · have e:ggR n c=c:=by unfold ggR;rw[if_neg (by omega),if_neg (by omega),if_neg (by omega)]
     rw[e,q5Z (by rw[hso];omega),hso,qzZ,r5Z,show n+4+(c-(n+4))=c by omega,hB];rfl
 have hrow:H2[1]? = some (.cells false l):=by
   rw[<-hH2,q4Z (by rw[hso];omega),zAQ _ HO _ _ _ 1 fun i B h1 h2=>?_]
   · rw[hHO];rfl
   · obtain⟨hi,e⟩:=hem i 1 h1
     have:i=n+3:=by
       unfold ggR at e;repeat' split at e
       all_goals omega
     subst this;unfold DS.heap at h2;simp only[r9Z]at h2;rw[q5Z (by rw[zl];omega),zl,hn,Nat.sub_self]at h2;cases h2;exact Bool.false_ne_true
 simp only[qwZ,not_or]at hne;have hat2:DAt H2 d' (ggR n 0) (ggR n 1) (ggR n m) (fun i=>ggR n (g i)):=by
   refine ⟨?_,?_,?_,fun i e he=>?_,?_⟩
   · have:=hpt 0 _ (by omega) hat.c0
     rw[this];simp[DS.cell0,reB,zj,reA]
   · exact hpt 1 _ (by omega) hat.fold
   · have:=hpt m _ (fun e=>hne.2.2.1 e.symm) hat.map
     rw[this];simp only[reB];rw[zEg]
   · refine hpt (g i) _ (fun e'=>hne.2.2.2 ?_) (hat.file i e he)
     exact reZ.2 ⟨i,List.mem_range.2 (q1Z.1 he).1,e'⟩
   · have:=hat.nd
     have h2:((0::1::m::(List.range d'.fs.length).map g).map (ggR n)).Nodup:=by
       rw[List.nodup_iff_pairwise_ne,List.pairwise_map];exact (List.nodup_iff_pairwise_ne.1 this).imp fun h e=>h (zH1 n _ _ e)
     simpa[Function.comp_def] using h2
 refine zRP (zUP d l) (by rw[<-hHO];exact hfr) ?_ (by simp);have h2l:n+4<=H2.length:=by rw[<-hH2,qdZ,hso];omega
 refine Aft.closeAt hat2 (by simp;omega) ?_;refine Aft.weak (Fn:=[v]) (Hn:=[.obj true d'.blks,.cells false l]) (Weak.mk' [0,1] (by decide) rfl ⟨zBc _ hv,trivial⟩ (zM (b:=ggR n 0) (by rw[show ggR n 0=0 from rfl];omega) _ _ rfl fun i c x h1 h2=>?_)) (by simp;omega) (Aft.done (by simp) ⟨rfl,rfl⟩)
 match i,h1,h2 with
 | 0,h1,h2=>cases h1;cases h2;exact .inl ⟨rfl,rfl⟩
 | 1,h1,h2 =>
   cases h1;cases h2
   have g1:ggR n (n+3)=1:=by unfold ggR;rw[if_neg (by omega),if_neg (by omega),if_pos rfl]
   refine .inr ⟨⟨by rw[show ggR n 0=0 from rfl];omega,?_⟩,?_⟩
   · simp only[qwZ,not_or]
     refine ⟨fun e=>?_,fun e=>?_,fun e=>?_⟩
     · rw[<-g1]at e;have:=zH1 n _ _ e;omega
     · rw[<-g1]at e;exact hne.2.2.1 (zH1 n _ _ e)
     · obtain⟨i,hi,e⟩:=reZ.1 e
       rw[<-g1]at e;exact hne.2.2.2 (reZ.2 ⟨i,hi,zH1 n _ _ e⟩)
   · rw[q2Z,hrow]
     exact⟨id,Z9 l hl⟩
theorem zTg(e:DS)(y:ABlk)(T:zA)(v:AV)(hv:zBl v=true):Weak (e.fs.length+4) [v] (e.heap (y::T)) [v] (e.heap [.dead]):=by
 have hl:=e.blks_length;refine Weak.mk' (List.range (e.fs.length+4)) List.nodup_range (by rw[q6Z (by simp)]) ⟨zBc _ hv,trivial⟩ (AWg.of _ _ (by rw[DS.heap_length];simp) fun i x b hx hb hlt=>?_);have hil:i<e.fs.length+4:=by
   have:=(q1Z.1 hx).1;rw[DS.heap_length]at this;simpa using this
 rw[rfZ hil]at hb;cases hb;rw[DS.heap_eq]at hx;by_cases h:i<e.fs.length+3
 · rw[q4Z (by omega)]at hx
   rw[q2Z,DS.heap_eq,q4Z (by omega),hx];exact e.blks_id _ (fun i hi=>rfZ (by omega)) x (qcZ hx)
 · rw[q5Z (by omega),hl,show i-(e.fs.length+3)=0 by omega]at hx
   cases hx;trivial
theorem zXF(d:DS)(T:zA)(g:Nat->Nat)(hg:∀i,i<d.fs.length->g i=i+3):DAt (d.heap T) d 0 1 2 g:=by
 refine ⟨rfl,rfl,?_,fun i e he=>?_,?_⟩
 · unfold DS.heap
   simp only[r9Z,raZ];rw[zBX 0 d.fs fun i _ hi=>hg i (by omega)]
 · have hi:=(q1Z.1 he).1
   rw[hg i hi];unfold DS.heap;simp only[r9Z];rw[q4Z (by rw[zl];exact hi)];exact Z6 he
 · have e:(List.range d.fs.length).map g=(List.range d.fs.length).map (·+3):=List.map_congr_left fun i hi=>hg i (List.mem_range.1 hi)
   rw[e,rdZ,rdZ,rdZ];refine ⟨fun h=>?_,fun h=>?_,fun h=>?_,?_⟩
   · rcases qwZ.1 h with h | h
     · omega
     rcases qwZ.1 h with h | h
     · omega
     · obtain⟨c,_,h⟩:=reZ.1 h;omega
   · rcases qwZ.1 h with h | h
     · omega
     · obtain⟨c,_,h⟩:=reZ.1 h;omega
   · obtain⟨c,_,h⟩:=reZ.1 h;omega
   · rw[List.nodup_iff_pairwise_ne,List.pairwise_map]
     exact (List.nodup_iff_pairwise_ne.1 List.nodup_range).imp fun h e=>h (by omega)
theorem zQy(d:DS){A B:Nat}(hok:d.ok A B)(hA:A<=999999)(hB:B<=1000000000000)(hq:d.quota<=1000000000000)(row:ABlk)(off m:Nat)(c:Bool)(k s:List UInt8)(hs:s.length<=9223372036854775807)
   (hj:∀H:zA,H[d.fs.length+3]? = some row->Ct Pz 96 [.sl (d.fs.length+3) off m 1 c,.str []] H (.str s) H) :
   Ct Pz 23 [.ptr 0 0,.str k,.sl (d.fs.length+3) off m 1 c] (d.heap [row]) (.int .i64 (d.append k s).2) ((d.append k s).1.heap [.dead]):=by
 have hc:=DS.ok_count hok;obtain⟨x,hx⟩:∃x:AV,x=.sl (d.fs.length+3) off m 1 c:=⟨_,rfl⟩
 rw[<-hx]at hj ⊢;obtain⟨caps,hcaps⟩:∃caps:List AV,caps=[.ptr (d.fs.length+5) 0,.ptr (d.fs.length+4) 0]:=⟨_,rfl⟩
 have hat:∀(e:DS) (T:zA),e.fs.length=d.fs.length->(e.heap (row::T))[d.fs.length+3]? = some row:=fun e T h=>by
   rw[DS.heap_eq,q5Z (by rw[DS.blks_length];omega),DS.blks_length,h,Nat.sub_self];rfl
 have key:∃H1,Ct Pz 94 [.ptr 0 0,.str k,.func 95 [] caps] (d.heap [row,ZU,.cells true [x]]) (.int .i64 (d.append k s).2) H1/\(d.heap [row,ZU,.cells true [x]]).length<=H1.length/\(∃T3,H1=(d.append k s).1.heap T3/\3<=T3.length)/\(d.append k s).1.fs.length=d.fs.length:=by
   cases hg:d.fd.now.get k with
   | none =>
     exact zQT d hok hA [row,ZU,.cells true [x]] [row,ZU,.cells true [x],.dead,.dead,.dead] k _ caps _ (zD Tryz.func95 rfl (by decide)) (by decide) (by decide) (by simp) fun v f h=>by rw[hg]at h;cases h
   | some v =>
     obtain⟨f,hf,_⟩:=DS.has_file hok hg;obtain⟨N,hN⟩:=zPQ d.count hc (by omega) hB (by rw[DS.count_quota];exact hq) row x s [ZU,zAn k,zFM 95 caps] hs (hj _ (hat _ _ (by rw[DS.count_fs]))) v f (by rw[DS.count_fs];exact hf);refine zQT d hok hA [row,ZU,.cells true [x]] (row::ZU::.cells true [x]::([ZU,zAn k,zFM 95 caps]++N)) k _ caps _ (zD Tryz.func95 rfl (by decide)) (by decide) (by decide) (by simp) fun v' f' h h'=>?_;rw[hg]at h;cases h
     rw[hf]at h';cases h'
     rw[DS.count_fs,<-hcaps]at hN;by_cases hr:d.count.room<s.length
     · rw[if_pos hr]at hN ⊢
       rw[if_pos hr]at hN;exact hN
     · rw[if_neg hr]at hN ⊢
       rw[if_neg hr]at hN;exact hN
 obtain⟨H1,hct,hl,⟨T3,hT3,hl3⟩,hfs⟩:=key;have hΓ:=zB (ZA (zD Tryz.func94 rfl (by decide)) hct hl) zC;have hfin:Weak (d.fs.length+4) [.int .i64 (d.append k s).2] H1 [.int .i64 (d.append k s).2] ((d.append k s).1.heap [.dead]):=by
   obtain⟨y,T4,rfl⟩:∃y T4,T3=y::T4:=by
     cases T3 with
     | nil=>simp at hl3
     | cons y T4=>exact⟨y,T4,rfl⟩
   rw[hT3,<-hfs];exact zTg _ y T4 _ rfl
 refine zE Tryz.func23 rfl ?_;simp only[Tryz.ntmps23,q7Z,q8Z,Nat.reduceAdd,Nat.reduceSub,qbZ,q9Z,qaZ];rw[DS.heap_length]at hl ⊢;simp only[q7Z,q8Z,s8Z]at hl ⊢;clear hct hT3 hat hj;generalize d.append k s=R at hΓ hfin ⊢;generalize R.1.heap [.dead]=HF at hfin ⊢;generalize R.2=e at hΓ hfin ⊢;have hX:=behind d.fs;obtain⟨n,hn⟩:∃n,d.fs.length=n:=⟨_,rfl⟩
 rw[hn]at hX hfin hcaps hl hx ⊢;have hXl:=hX.len;have hXg:=hX.get;have hXg0:=hX.get0;subst hcaps;subst hx;unfold DS.heap DS.cell0 ZU at hΓ;unfold DS.heap DS.cell0;obtain⟨X,eX⟩:∃X,zT d.fs=X:=⟨_,rfl⟩
 rw[eX]at hXl hXg hXg0 hΓ ⊢;rw[show n+1+3=n+4 by omega];refine wS hΓ (by simp[hXl];exact wR) ?_ (by simp[hXl]);refine wE hΓ (by simp[hXl];exact wT) ?_ (by simp[hXl]);exact⟨.inr rfl,_,by simp[Tryz.f23] <;> rfl,hfin⟩
theorem zS2(d:DS){A B:Nat}(hok:d.ok A B)(hA:A<=999999)(hB:B<=1000000000000)(hq:d.quota<=1000000000000)(l:List AV)(hl:zt l=true)(off m:Nat)(c:Bool)(k s:List UInt8)(hs:s.length<=9223372036854775807)
   (hj:∀(H:zA) (b:Nat),H[b]? = some (.cells false l)->Ct Pz 96 [.sl b off m 1 c,.str []] H (.str s) H) :
   Ct Pz 23 [.ptr 0 0,.str k,.sl 1 off m 1 c] [.obj true d.blks,.cells false l] (.int .i64 (d.append k s).2) [.obj true (d.append k s).1.blks,.cells false l]:=by
 have hfs:(d.append k s).1.fs.length=d.fs.length:=by
   unfold DS.append;rw[zRp];unfold DS.step;split
   · rw[DS.count_fs]
   · rw[zSA,DS.count_fs]
 refine zKB (zQy d hok hA hB hq (.cells false l) off m c k s hs (fun H h=>hj H _ h)) rfl ⟨rfl,?_,trivial⟩ hl (zXF _ _ (·+3) fun _ _=>rfl) ?_ ?_ (by rw[DS.heap_length,hfs];simp)
 · have:(emR d.fs.length)[d.fs.length+3]? = some 1:=by rw[zCM,if_neg (by omega),if_neg (by omega),if_pos rfl]
   exact⟨this,rfl,rfl,rfl,id⟩
 · rw[hfs]
   simp only[qwZ,reZ,List.mem_range,not_or];refine ⟨by omega,by omega,by omega,?_⟩;rintro⟨c,hc,h⟩;omega
 · rw[List.drop_eq_nil_of_le (by rw[DS.heap_length,hfs];simp)];rfl
noncomputable def zZV:Gam:=zZ [(116,zLw),(117,zJX)]
theorem zWs:GOk Pz zZV:=zB zNK (zB zHU zC)
theorem zYs(q:Int)(hq:0<=q):Ct Pz 32 [.nils,.int .i64 q] [] (.ptr 0 0) [.obj true (DS.new q).blks]:=by
 have hΓ:=zWs;have hq':¬q<0:=by omega
 refine zE Tryz.func32 rfl ?_;simp only[Tryz.ntmps32,q7Z,q8Z,Nat.reduceAdd,Nat.reduceSub,qbZ,q9Z,qaZ];refine wS hΓ (by simp;exact wR) ?_;refine wS hΓ (by simp[hq'];exact wR) ?_;refine wS hΓ (by simp[zZV,zLw];exact wR) ?_;refine Sim.seq (wS hΓ (by simp;exact wR) ?_);refine Sim.exec hmix hΓ (n:=2) (by simp;exact wT) (by simp) ?_;dsimp only;have hs:FD.new.acts.length<=1000000:=by decide
 have he:FD.new.survive FD.new.acts.length=FD.new:=rfl;refine wS hΓ (by simp[zZV,zJX,hs,he];exact wR) ?_;refine Sim.aft (Aft.closeAt (d:=DS.new q) (b:=2) (fo:=0) (m:=1) (g:=fun i=>i) ⟨rfl,rfl,rfl,fun i e h=>by simp[DS.new]at h,by simp[DS.new]⟩ (by simp) ?_);refine Aft.weak (Fn:=[.top,.top,.top,.top,.top,.ptr 0 0]++qbZ 44 .top) (Hn:=[.obj true (DS.new q).blks]) (wW [2] (zM (b:=2) (by simp) _ _ rfl fun i c x h1 h2=>?_)) (by simp) (Aft.done (by simp) ?_)
 · match i,h1,h2 with
   | 0,h1,h2=>cases h1;cases h2;exact .inl ⟨rfl,rfl⟩
 refine wE hΓ (by simp;exact wT) ?_;exact⟨.inr rfl,_,by simp[Tryz.f32] <;> rfl,wW [0] (by simp[AWb])⟩
noncomputable def zZx:zJ:=zL6 fun
 | [.nils,.int .i64 q]=>if 0<=q then some (.ptr 0 0,[.obj true (DS.new q).blks]) else none
 | _=>none
theorem zTu:Sound Pz 32 zZx:=by
 refine zEt (zD Tryz.func32 rfl (by decide)) fun args v H' h=>?_;split at h;rotate_left
 · cases h
 split at h <;> cases h
 rename_i hq;exact⟨zYs _ hq,rfl,rfl⟩
theorem zYA(q:Int)(hq:0<=q):Ct Pz 7 [.int .i64 q] [] (.ptr 0 0) [.obj true (DS.new q).blks]:=by
 have hΓ:=zB zTu zC;refine zE Tryz.func7 rfl ?_;simp only[Tryz.ntmps7,q7Z,q8Z,Nat.reduceAdd,Nat.reduceSub,qbZ,q9Z,qaZ];refine wS hΓ (by simp;exact wR) ?_;refine wE hΓ (by simp[zZx,zL6,hq];exact wT) ?_;exact⟨.inr rfl,_,by simp[Tryz.f7] <;> rfl,wW [0] (by simp[AWb])⟩
noncomputable def zWB:zJ:=zL6 fun
 | [.int .i64 q]=>if 0<=q then some (.ptr 0 0,[.obj true (DS.new q).blks]) else none
 | _=>none
theorem zPU:Sound Pz 7 zWB:=by
 refine zEt (zD Tryz.func7 rfl (by decide)) fun args v H' h=>?_;split at h;rotate_left
 · cases h
 split at h <;> cases h
 rename_i hq;exact⟨zYA _ hq,rfl,rfl⟩
theorem zWV(d:DS)(m:Int):Ct Pz 14 [.ptr 0 0,.int .i64 m] (d.heap []) (.tuple []) ((d.arm m).heap []):=by
 refine zL Tryz.func14 rfl ?_;simp only[Tryz.ntmps14,q7Z,q8Z,Nat.reduceAdd,Nat.reduceSub,qbZ,q9Z,qaZ];unfold DS.heap DS.cell0 DS.arm;obtain⟨k,hk⟩:∃k,max 0 m=k:=⟨_,rfl⟩
 rw[hk];refine wS zC (by simp;exact wR) ?_;refine wE zC (by simp +decide [-zAx,zAW,hk];exact wT) ?_;exact⟨.inl rfl,by simp[Tryz.f14],by simp⟩
theorem zUF(d:DS):Ct Pz 46 [.ptr 0 0] (d.heap []) (.bool d.down) (d.heap []):=by
 refine zL Tryz.func46 rfl ?_;simp only[Tryz.ntmps46,q7Z,q8Z,Nat.reduceAdd,Nat.reduceSub,qbZ,q9Z,qaZ];unfold DS.heap DS.cell0;refine wS zC (by simp;exact wR) ?_;refine wE zC (by simp +decide;exact wT) ?_;exact⟨.inr rfl,by simp[Tryz.f46],by simp⟩
theorem zDj{f:FuncId}{d d':DS}{xs:List AV}{v:AV}(h:Ct Pz f (.ptr 0 0::xs) (d.heap []) v (d'.heap []))(hv:zBl v=true):Ct Pz f (.ptr 0 0::xs) [.obj true d.blks] v [.obj true d'.blks]:=by
 rw[DS.heap_eq,DS.heap_eq,r2Z]at h;refine zB3 h (by simp[DS.blks]) ?_;have:=Aft.closeDS d' (T:=[]) (Tn:=[]) (v:=v) (v':=v) [] (by decide) rfl (zBc _ hv) (fun i t x h=>by simp at h);exact this
def ZE(l:List Int):List AV:=l.map (.int .u16)
@[simp] theorem zYR(l:List Int):(ZE l).length=l.length:=by simp[ZE]
@[simp] theorem zCI:∀l,zV (ZE l)=true
 | []=>rfl
 | _::l=>by have:=zCI l;simpa[ZE,free] using this
def nxt(l:List Int)(o n:Nat):Int:=((l.drop o).take n).headD 0
def nxO(o n:Nat):Nat:=o+min 1 n
def nxN(n:Nat):Nat:=n-1
def zZJ(l:List Int)(o n:Nat):Prop:=o+n<=l.length/\l.length<=9223372036854775807/\∀x∈l,0<=x/\x<=65535
theorem zXP(H:zA)(c b o n:Nat)(w cl:Bool)(l:List Int)(hok:zZJ l o n)(hc:H[c]? = some (.cells true [.sl b o n 1 cl]))(hb:H[b]? = some (.cells w (ZE l))) :
   Ct Pz 169 [.ptr c 0] H (.int .i64 (nxt l o n)) (H.set c (.cells true [.sl b (nxO o n) (nxN n) 1 cl])):=by
 obtain⟨ho,hl,hr⟩:=hok;have hcl:c<H.length:=(q1Z.1 hc).1;refine zL Tryz.func169 rfl ?_;simp only[Tryz.ntmps169,q7Z,q8Z,Nat.reduceAdd,Nat.reduceSub,qbZ,q9Z,qaZ];refine wS zC (by simp;exact wR) ?_;by_cases h:0<n
 · have hol:o<l.length:=by omega
   obtain⟨x,hx⟩:∃x,l[o]=x:=⟨_,rfl⟩
   have hxr:=hr x (by rw[<-hx];exact r3Z hol);have hd:nxt l o n=x:=by
     unfold nxt;obtain⟨m,rfl⟩:∃m,n=m+1:=⟨n-1,by omega⟩
     rw[List.drop_eq_getElem_cons hol,hx];rfl
   have hat:∀q,(ZE l)[o]'q=.int .u16 x:=fun q=>by simp[ZE,hx]
   have hlt:o<(ZE l).length:=by simpa using hol
   have hw:IntKind.i64.wrap x=x:=zI (by omega) (by omega);have p1:(0:Int)<(n:Int):=by omega
   have p3:1<=n:=by omega
   have p4:(1:Int)<=(n:Int):=by omega
   have e1:nxO o n=o+1:=by unfold nxO;omega
   have e2:nxN n=n-1:=rfl;rw[hd,e1,e2];refine Sim.seq (wS zC (by simp[hc,h];exact wR) (Sim.cond (t:=true) (by simp) ?_));rw[if_pos rfl];refine Sim.draw hmix (by simp) ?_;refine SimR.many zC 7 (by simp[zF];rfl) (by omega) (by kernel_rfl) (by simp +decide [hc,hb,hat,hol,h,hw,p4];first | exact wR | exact⟨by kernel_rfl,wR⟩) ?_;refine SimR.one zC _ rfl (by kernel_rfl) (by simp +decide [hc];exact wR) ?_;refine SimR.done rfl ?_;dsimp only;refine wE zC (by simp;exact wT) ?_;exact⟨.inr rfl,by simp[Tryz.f169],rfl⟩
 · have e:n=0:=by omega
   subst e;have hd:nxt l o 0=0:=by unfold nxt;rw[List.take_zero];rfl
   have hset:H.set c (.cells true [.sl b (nxO o 0) (nxN 0) 1 cl])=H:=by
     show H.set c (.cells true [.sl b o 0 1 cl])=H;obtain⟨h1,h2⟩:=q1Z.1 hc;rw[<-h2,List.set_getElem_self]
   rw[hd,hset];refine wS zC (by simp[hc];exact wR) ?_;refine wE zC (by simp;exact wT) ?_;exact⟨.inr rfl,by simp[Tryz.f169],rfl⟩
def numsOf:List AV->Option (List Int)
 | []=>some []
 | .int .u16 n::l=>(numsOf l).map (n::·)
 | _=>none
theorem zAS:∀l:List Int,numsOf (ZE l)=some l
 | []=>rfl
 | x::l=>by
   have:=zAS l;simp only[ZE,s1Z,numsOf]at this ⊢;rw[this];rfl
theorem zEh:∀{a:List AV} {l:List Int},numsOf a=some l->a=ZE l
 | [],_,h=>by cases h;rfl
 | x::a,l,h=>by
   unfold numsOf at h;split at h
   · rename_i h0;cases h0
   · rename_i n a' e
     cases e;obtain⟨l',h1,rfl⟩:=qlZ.1 h;rw[zEh h1];rfl
   · cases h
noncomputable def zLk:zJ:=open Classical in fun args H=>match args with
 | [.ptr c 0]=>match H[c]? with
   | some (.cells true [.sl b o n 1 cl])=>match H[b]? with
     | some (.cells _ a)=>match numsOf a with
       | some l=>if zZJ l o n then some (.int .i64 (nxt l o n),H.set c (.cells true [.sl b (nxO o n) (nxN n) 1 cl]),[c]) else none
       | none=>none
     | _=>none
   | _=>none
 | _=>none
theorem zPZ:Sound Pz 169 zLk:=by
 refine ⟨zD Tryz.func169 rfl (by decide),fun args H v H' W hs=>?_,fun args H v H' W hs=>?_⟩ <;> (unfold zLk at hs;split at hs <;> try cases hs) <;> (split at hs <;> try cases hs) <;> (rename_i c _ b o n cl hc;split at hs <;> try cases hs) <;> (rename_i w a hb;split at hs <;> try cases hs) <;> (rename_i l hl;split at hs <;> cases hs;rename_i hk)
 · have e:=zEh hl
   subst e;exact zXP H c b o n w cl l hk hc hb
 · refine ⟨by simp,fun d hd hn=>?_⟩
   simp only[r1Z]at hn;rw[qfZ (Ne.symm hn)]
def thM(g:Int->Nat)(th:List Int):List (AV×AV):=th.map fun n=>(.int .i64 n,.ptr (g n) 0)
theorem zMS(g:Int->Nat)(v:Int):∀(th:List Int) (i:Nat),zAL (thM g th) (.int .i64 v) i=some (if v∈th then some (i+th.idxOf v,.ptr (g v) 0) else none)
 | [],i=>by simp[thM,zAL]
 | a::th,i=>by
   have ih:=zMS g v th (i+1);simp only[thM]at ih;by_cases h:a=v
   · subst h
     simp[thM,zAL,Zz]
   · have h2:(v==a)=false:=by simpa using (fun q=>h q.symm)
     have h3:(a==v)=false:=by simpa using h
     simp only[thM,s1Z,zAL,Zz,h2,ih,qwZ,Ne.symm h,false_or];rw[List.idxOf_cons,h3];by_cases hm:v∈th <;> simp[hm]
     omega
theorem zZa(g:Int->Nat){v:Int}{th:List Int}(h:v∈th):(thM g th).set (th.idxOf v) (.int .i64 v,.ptr (g v) 0)=thM g th:=by
 have hl:th.idxOf v<th.length:=List.idxOf_lt_length_of_mem h;have e:(thM g th)[th.idxOf v]'(by simpa[thM] using hl)=(.int .i64 v,.ptr (g v) 0):=by
   simp[thM,List.getElem_idxOf hl]
 rw[<-e,List.set_getElem_self]
theorem FS.at_keys{l m:FS}(h:FS.keys l=FS.keys m)(n:Int):FS.at l n=FS.at m n:=by unfold FS.at;rw[h]
theorem DS.tail1(d:DS){row:ABlk}(hrow:∀rn:List Nat,AWb rn row row){T Tn:zA}{F Fn:List AV}(ts:List Nat)(hts:ts.Nodup)
   (hF:AWs (List.range (d.fs.length+4)++ts.map (d.fs.length+4+·)) Fn F) (hlen:Tn.length=ts.length)
   (hT:∀(i t:Nat) x y,ts[i]? = some t->Tn[i]? = some x->T[t]? = some y->AWb (List.range (d.fs.length+4)++ts.map (d.fs.length+4+·)) x y):Weak (d.fs.length+4) F (d.heap (row::T)) Fn (d.heap (row::Tn)):=by
 have hl:=d.blks_length;have e:∀U:zA,d.heap (row::U)=(d.blks++[row])++U:=fun U=>by rw[DS.heap_eq,qeZ];rfl
 rw[e,e];have hN:(d.blks++[row]).length=d.fs.length+4:=by rw[qdZ,hl];rfl
 refine Weak.tailG hN (fun rn hr B hB=>?_) ts hts hF (AWg.of _ _ (by simp[hlen]) fun i x b hx hb hlt=>?_)
 · rcases qxZ.1 hB with h | h
   · exact d.blks_id rn (fun i hi=>hr i (by omega)) B h
   · rw[r1Z.1 h];exact hrow rn
 · rw[qzZ]at hb
   obtain⟨t,ht,rfl⟩:=qlZ.1 hb;rw[qdZ,hN]at hlt;have htl:t<T.length:=by omega
   rw[q2Z,q5Z (by omega),hN,s3Z,q3Z htl];exact hT i t x _ ht hx (q3Z htl)
theorem zKv(fd:FD)(fs:FS)(ns:List Int):∀(ks:List (List UInt8)) (s:List Int×FS×List Int) (o:Nat),s.1=ns.drop o->(ks.foldl (zAF fd) s).1=ns.drop (o+2*ks.length)
 | [],s,o,h=>h
 | k::ks,s,o,h=>by
   rw[List.foldl_cons,zKv fd fs ns ks (zAF fd s k) (o+2) (by simp only[zAF,h];simp)]
   congr 1
   simp;omega
def zHP:List FuncId:=[73]
noncomputable def zHO:Gam:=zZ [(74,zJz),(75,zEX),(76,zBI),(77,zPv),(169,zLk)]
theorem zXx:GOk Pz (zAV Pz zHO 0 zHP 2):=zp hmix (zB zHH (zB zGf (zB zAf (zB zNY (zB zPZ zC))))) 0 zHP 2
def rsD(d:DS)(fd:FD)(s:List Int×FS×List Int):DS:=⟨fd,s.2.1,d.quota,d.steps,d.armed,d.down⟩
def rsT(d:DS)(n o L:Nat)(c:Bool)(s:List Int×FS×List Int)(ks:List (List UInt8)):zA :=
 [.cells true [.sl (n+3) o (L-o) 1 c],.cells true [.func 169 [] [.ptr (n+4) 0]],.map (thM (fun v=>FS.at d.fs v+3) s.2.2),.cells true (ks.map .str)]
abbrev rsF(n M i:Nat):List AV:=[.ptr 0 0,.top,.top,.top,.ptr (n+5) 0,.map (n+6)]++qbZ 22 .top++[.sl (n+7) 0 M 1 false,.int .i64 M,.int .i64 i]++qbZ 44 .top
theorem zGb{rn:List Nat}{g:Int->Nat}:∀{th:List Int},(∀v∈th,rn[g v]? = some (g v))->AWb rn (.map (thM g th)) (.map (thM g th))
 | [],_=>⟨trivial,trivial⟩
 | v::th,h=>by
   obtain⟨h1,h2⟩:=zGb (rn:=rn) (g:=g) (th:=th) fun w hw=>h w (qiZ _ hw);exact⟨⟨⟨rfl,rfl⟩,h1⟩,⟨⟨h v (qhZ ..),rfl⟩,h2⟩⟩
theorem zKF{fs:FS}{v:Int}(h:v∈FS.keys fs)(ts:List Nat):(List.range (fs.length+4)++ts)[FS.at fs v+3]? = some (FS.at fs v+3):=by
 obtain⟨f,hf⟩:=FS.get_some.2 h;have:=FS.at_lt hf;exact zCA _ _ (by omega)
theorem zUz{H Hn:zA}{F Fn:List AV}{N M:Nat}(_hM:H.length=M)(hN:N<=M)(hF:∀rn:List Nat,(∀i,i<M->rn[i]? = some i)->AWs rn Fn F)
   (hlen:Hn.length=M) (hH:∀rn:List Nat,(∀i,i<M->rn[i]? = some i)->∀(i:Nat) x y,Hn[i]? = some x->H[i]? = some y->AWb rn x y):Weak N F H Fn Hn:=by
 have hr:∀i,i<M->(List.range M)[i]? = some i:=fun i hi=>rfZ hi;refine Weak.mk' (List.range M) List.nodup_range (by rw[List.take_range,sfZ hN]) (hF _ hr) (AWg.of _ _ (by simp[hlen]) fun i x b hx hb hlt=>?_);have hi:i<M:=by rw[<-hlen];exact (q1Z.1 hx).1
 rw[hr i hi]at hb;cases hb
 rw[q2Z,q3Z hlt];exact hH _ hr i x _ hx (q3Z hlt)
def zJl(d:DS)(fd:FD)(s:List Int×FS×List Int)(n o L:Nat)(c:Bool)(row:List Int)(ks:List (List UInt8)):zA :=
 .cells true [.ptr 1 0,.map (n+6),.int .i64 d.quota,.int .i64 d.steps,.int .i64 0,.bool false]::.obj true fd.blks::.map (zf (fun i=>i+3) 0 s.2.1)::(zT s.2.1++(.cells false (ZE row)::rsT d n o L c s ks))
theorem zMU(d:DS){A B:Nat}(hok:d.ok A B)(hA:A<=1000000)(hB:B<=1000000000000)(row:List Int)(hrw:∀x∈row,0<=x/\x<=65535)(hrl:row.length<=9223372036854775807)(L:Nat)(hLr:L<=row.length)(ns:List Int)(hnsr:ns=row.take L)(c:Bool)(fd:FD)(hfd:d.fd.survive (ns.headD 0)=fd)(s:List Int×FS×List Int)(hs:zA0 fd ns.tail d.fs fd.names=s) :
   ∃o,Ct Pz 16 [.ptr 0 0,.sl (d.fs.length+3) 0 L 1 c] (d.heap [.cells false (ZE row)]) (.tuple []) (zJl d fd s d.fs.length o L c row fd.names):=by
 have hΓ:=zXx;have hsm:d.fd.small:=FD.ok_mono hok.fd hA;have hal:d.fd.acts.length<=1000000:=by have:=hok.fd.len;omega
 have hfds:fd.small:=by rw[<-hfd];exact FD.ok_survive hsm _
 have h3:fd.each (zOT d.fs):=by rw[<-hfd];exact FD.each_survive hok.has _
 have hkk:∀k∈fd.names,∃v,fd.find k=(v,true)/\v∈FS.keys d.fs:=fun k hk=>by
   obtain⟨v,hv⟩:=FD.names_get hk;exact⟨v,FD.find_get hv,FD.each_now h3 k v hv⟩
 have hkeys:∀k∈fd.names,(fd.find k).1∈FS.keys d.fs:=fun k hk=>by
   obtain⟨v,h1,h2⟩:=hkk k hk;rw[h1];exact h2
 have hM:fd.names.length<=1000000:=by
   have h1:=(FD.ok_now hfds).2;unfold FD.names;rw[(ZW _).length_eq];simpa[NM.keys] using h1
 obtain⟨ks,hks⟩:∃ks,fd.names=ks:=⟨_,rfl⟩
 rw[hks]at hkk hkeys hM hs ⊢;obtain⟨M,hMe⟩:∃M,ks.length=M:=⟨_,rfl⟩
 have hL:ns.length=L:=by rw[hnsr,qjZ,sfZ hLr]
 have hnxt:∀o,o<=L->nxt row o (L-o)=(ns.drop o).headD 0:=fun o _=>by unfold nxt;rw[hnsr,List.drop_take]
 have hnok:∀o,o<=L->zZJ row o (L-o):=fun o ho=>⟨by omega,hrl,hrw⟩
 have hnO:∀o,o<=L->nxO o (L-o)=min (o+1) L:=fun o ho=>by unfold nxO;omega
 have hnN:∀o,o<=L->nxN (L-o)=L-min (o+1) L:=fun o ho=>by unfold nxN;omega
 have hns:∀x∈ns,0<=x/\x<=65535:=fun x hx=>hrw x (by rw[hnsr]at hx;exact List.mem_of_mem_take hx);obtain⟨S,hS⟩:∃S:Nat->List Int×FS×List Int,S=fun i=>(ks.take i).foldl (zAF fd) (ns.tail,d.fs,[]):=⟨_,rfl⟩
 have hS0:S 0=(ns.tail,d.fs,[]):=by rw[hS];rfl
 have hSM:S M=s:=by rw[hS];dsimp only;rw[q6Z (by omega)];exact hs
 have hSn:∀i (h:i<ks.length),S (i+1)=zAF fd (S i) ks[i]:=fun i h=>by
   rw[hS];dsimp only
   rw[List.take_add_one,q3Z h,List.foldl_append];rfl
 have hSok:∀i,StOk fd B (S i) d.fs:=fun i=>by
   rw[hS];exact zDR _ ⟨rfl,hok.fine,List.nodup_nil,fun n hn=>by cases hn⟩ fun k hk=>hkeys k (List.mem_of_mem_take hk)
 have hSd:∀i,i<=M->(S i).1=ns.drop (1+2*i):=fun i hi=>by
   rw[hS];dsimp only
   rw[zKv fd d.fs ns (ks.take i) _ 1 (by simp),qjZ,sfZ (by omega)]
 have hSl:∀i,(S i).2.1.length=d.fs.length:=fun i=>by
   have:=congrArg List.length (hSok i).keys;simpa[FS.keys] using this
 refine ⟨min (1+2*M) L,?_⟩;have hlen:=d.heap_length [.cells false (ZE row)];obtain⟨n,hn⟩:∃n,d.fs.length=n:=⟨_,rfl⟩
 have hrow:∀rn:List Nat,AWb rn (.cells false (ZE row)) (.cells false (ZE row)):=fun rn=>⟨id,(zC0 (zCI row)).2 trivial⟩
 have tl:=fun (i:Nat) {T Tn F Fn}=>DS.tail1 (rsD d fd (S i)) hrow (T:=T) (Tn:=Tn) (F:=F) (Fn:=Fn);have hrl2:∀i,(rsD d fd (S i)).fs.length=n:=fun i=>by rw[<-hn];exact hSl i
 simp only[hrl2]at tl;refine zE Tryz.func16 rfl ?_;simp only[Tryz.ntmps16,q7Z,q8Z,Nat.reduceAdd,Nat.reduceSub,qbZ,q9Z,qaZ];rw[hlen,hn];simp only[q7Z,q8Z,s8Z];rw[show n+1+3=n+4 by omega];have hX:=behind d.fs;rw[hn]at hX;have hXl:=hX.len;have hXg:=hX.get;have hXg0:=hX.get0;have hXs:=hX.set;have hfd':d.fd.survive (ns.head?.getD 0)=fd:=by rw[<-hfd];cases ns <;> rfl
 have h0k:=hnok 0 (qqZ _);have h0v:=hnxt 0 (qqZ _);have h0o:=hnO 0 (qqZ _);have h0n:=hnN 0 (qqZ _);rw[Nat.sub_zero]at h0k h0v h0o h0n;rw[List.drop_zero]at h0v;rw[s8Z]at h0o h0n;have fks:∀rn:List Nat,AWs rn (ks.map AV.str) (ks.map AV.str):=fun rn=>(zC0 (ZO ks AV.str fun _=>rfl)).2 trivial;have start:∀{Q:AX->List AV->zA->Prop},Sim Pz none (n+4) (zAY 3 (zAU Tryz.f16)) ([.ptr 0 0,.top,.top,.top,.ptr (n+5) 0]++qbZ 70 .top) ((rsD d fd (S 0)).heap [.cells false (ZE row),.cells true [.sl (n+3) (min 1 L) (L-min 1 L) 1 c],.cells true [.func 169 [] [.ptr (n+4) 0]]]) Q ->
     Sim Pz none (n+4) (zAU Tryz.f16) ([.ptr 0 0,.sl (n+3) 0 L 1 c]++qbZ 73 zX) (d.heap [.cells false (ZE row)]) Q:=by
   intro Q k;simp only[zAU,Tryz.f16,rgZ,zAY]at k ⊢;simp only[qbZ,q9Z,qaZ]at k ⊢;unfold DS.heap DS.cell0;obtain⟨X,eX⟩:∃X,zT d.fs=X:=⟨_,rfl⟩
   rw[eX]at hXl hXg hXg0 hXs ⊢;refine wS hΓ (by simp;exact wR) ?_ (by simp[hXl]);refine wS hΓ (by simp[zHP,Tryz.f73,hXl,hXs];exact wR) ?_ (by simp[hXl]);refine Sim.seq (Sim.draw hmix (by simp[hXl]) ?_);refine SimR.hard hΓ 6 48 _ rfl (by simp[zF];rfl) (by omega) (by kernel_rfl) (by kernel_rfl) (by simp +decide [hXl];exact wT) (by kernel_rfl) (by simp +decide [zC8,List.range,List.range.loop];rfl) (by simp +decide [zHO,zLk,zAS,hXg,hXg0,hXs,h0k,h0v,h0o,h0n];exact wR) (by simp +decide [zFN,zMN,ZN,List.range,List.range.loop]) ?_;refine SimR.one hΓ _ rfl (by kernel_rfl) (by simp +decide [zHO,zJz,hal,hfd'];exact wR) ?_;refine SimR.done rfl ?_;dsimp only;have tlx:=fun {T Tn F Fn}=>tl 0 (T:=T) (Tn:=Tn) (F:=F) (Fn:=Fn) [0,2] (by decide);rw[hS0]at tlx;unfold rsD DS.heap DS.cell0 at tlx;dsimp only at tlx;rw[eX]at tlx;refine Sim.weak (tlx (Tn:=[.cells true [.sl (n+3) (min 1 L) (L-min 1 L) 1 c],.cells true [.func 169 [] [.ptr (n+4) 0]]]) (Fn:=[.ptr 0 0,.top,.top,.top,.ptr (n+5) 0]++qbZ 70 .top) ?_ rfl fun j t x y h1 h2 h3=>?_) (by simp[hXl]) ?_
   · simp[AW]
   · match j,h1,h2 with
     | 0,h1,h2=>cases h1;cases h2;cases h3;simp[AWb,AW]
     | 1,h1,h2=>cases h1;cases h2;cases h3;simp[AWb,AW]
   · rw[hS0]at k
     unfold rsD DS.heap DS.cell0 at k;dsimp only at k;rw[eX]at k;exact k
 refine Sim.mono (start (Q:=fun e F1 H1=>(e=.normal\/e=.ret)/\Weak (n+4) [.tuple []] H1 [.tuple []] (zJl d fd s n (min (1+2*M) L) L c row ks)) ?_) ?_;rotate_left
 · rintro e F1 H1 _ ⟨h1,h2⟩
   exact⟨h1,.tuple [],by simp[Tryz.f16],h2⟩
 simp only[zAU,Tryz.f16,rgZ,zAY];simp only[qbZ,q9Z,qaZ];refine wS hΓ (by simp;exact wR) ?_ (by simp[DS.heap_length,hrl2]);refine Sim.seq (Sim.mono (Q:=fun e F' H'=>e=.normal/\Weak (n+4) F' H' (rsF n M M) ((rsD d fd (S M)).heap (.cells false (ZE row)::rsT d n (min (1+2*M) L) L c (S M) ks))) ?_ ?_)
 · -- the rounds
   unfold DS.heap DS.cell0;have hXi:=behind (S 0).2.1;rw[hSl 0,hn]at hXi;have hXl:=hXi.len;have hXg:=hXi.get;have hXg0:=hXi.get0;have hXs:=hXi.set;have hfs0:(rsD d fd (S 0)).fs=(S 0).2.1:=rfl;rw[hfs0];obtain⟨X,eX⟩:∃X,zT (S 0).2.1=X:=⟨_,rfl⟩
   rw[eX]at hXl hXg hXg0 hXs ⊢;have hnm:(rsD d fd (S 0)).fd=fd:=rfl;rw[hnm];refine wS hΓ (by simp +decide [zHP,zHO,zEX,hfds,hXl,hks,hMe];exact wR) ?_ (by simp[hXl]);refine Sim.block (Sim.loopW (fun i:Nat=>i<=M) (fun i=>rsF n M i) (fun i=>(rsD d fd (S i)).heap (.cells false (ZE row)::rsT d n (min (1+2*i) L) L c (S i) ks)) (fun i=>M-i) 0 (by simp[hXl]) (by simp) ?_ fun i hi=>?_)
   · have tlx:=fun {T Tn F Fn}=>tl 0 (T:=T) (Tn:=Tn) (F:=F) (Fn:=Fn) [0,1,2,3] (by decide)
     have hg2:∀Tn:zA,(rsD d fd (S 0)).heap Tn=(rsD d fd (S 0)).cell0 1 2::.obj true fd.blks::.map (zf (fun i=>i+3) 0 (S 0).2.1)::(X++Tn):=fun Tn=>by rw[<-eX];rfl
     simp only[hg2]at tlx ⊢;refine tlx ?_ rfl fun j t x y h1 h2 h3=>?_
     · simp[AW]
     · match j,h1,h2 with
       | 0,h1,h2=>cases h1;cases h2;cases h3;simp[AWb,AW]
       | 1,h1,h2=>cases h1;cases h2;cases h3;simp[AWb,AW]
       | 2,h1,h2=>cases h1;cases h2;cases h3;rw[hS0];simp[AWb,thM]
       | 3,h1,h2=>cases h1;cases h2;cases h3;exact⟨id,fks _⟩
   · by_cases hlt:i<M
     rotate_left
     · have hin:i=M:=by omega
       subst hin;refine wE hΓ (by simp;exact wT) ?_ (by simp[DS.heap_length,hrl2,rsT]);dsimp only;rw[if_pos rfl];refine ⟨by trivial,?_⟩;refine tl i [0,1,2,3] (by decide) ?_ rfl fun j t x y h1 h2 h3=>?_
       · simp[AW]
       · match j,h1,h2 with
         | 0,h1,h2=>cases h1;cases h2;cases h3;simp[AWb,AW]
         | 1,h1,h2=>cases h1;cases h2;cases h3;simp[AWb,AW]
         | 2,h1,h2 =>
           cases h1;cases h2;cases h3
           exact zGb fun v hv=>by rw[<-hn];exact zKF ((hSok i).sub v hv) _
         | 3,h1,h2=>cases h1;cases h2;cases h3;exact⟨id,fks _⟩
     have hik:i<ks.length:=by omega
     have hltI:(i:Int)<M:=by omega
     obtain⟨k,hk⟩:∃k,ks[i]=k:=⟨_,rfl⟩
     have hg:∀h,ks[i]'h=k:=fun h=>hk;obtain⟨v,hv,hvm⟩:=hkk k (by rw[<-hk];exact r3Z hik);have hSi:=hSn i hik;rw[hk]at hSi;have hok1:=hSok i;have hdr:=hSd i hi;obtain⟨⟨l1,fs1,th⟩,hs1⟩:∃s,S i=s:=⟨_,rfl⟩
     rw[hs1]at hok1 hdr hSi;dsimp only at hdr;obtain⟨h1k,h1f,h1n,h1s⟩:=hok1;dsimp only at h1k h1f h1n h1s;obtain⟨f,hf⟩:=FS.get_some.2 (by rw[h1k];exact hvm:v∈FS.keys fs1);have hfsm:f.small:=PF.ok_mono (h1f _ (FS.get_mem hf)) hB;have hat:=FS.at_keys h1k v;have hl1:fs1.length=n:=by rw[<-hn];have:=congrArg List.length h1k;simpa[FS.keys] using this
     have hlook:=zBP (fun i=>i+3) v 0 fs1 0;rw[hf]at hlook;simp only[rhZ,s8Z]at hlook;have hfb:=Z6 (FS.at_get hf);have hql:=FS.at_lt hf;have hbu:=fun g=>zJQ (n:=v) g hf;have hthf:=zMS (fun v=>FS.at d.fs v+3) v th 0;rw[s8Z]at hthf;rw[hat]at hlook hfb hql hbu;obtain⟨q,hq⟩:∃q,FS.at d.fs v=q:=⟨_,rfl⟩
     rw[hq]at hlook hfb hql hbu;rw[hl1]at hql;dsimp only at hfb;have hths:v∈th->(thM (fun v=>FS.at d.fs v+3) th).set (th.idxOf v) (.int .i64 v,.ptr (q+3) 0)=thM (fun v=>FS.at d.fs v+3) th:=fun h=>by
       have:=zZa (fun v=>FS.at d.fs v+3) h;try dsimp only at this
       rw[hq]at this;exact this
     have htha:thM (fun v=>FS.at d.fs v+3) th++[(.int .i64 v,.ptr (q+3) 0)]=thM (fun v=>FS.at d.fs v+3) (th++[v]):=by simp[thM,hq]
     obtain⟨o,ho⟩:∃o,min (1+2*i) L=o:=⟨_,rfl⟩
     obtain⟨o1,ho1⟩:∃o1,min (o+1) L=o1:=⟨_,rfl⟩
     obtain⟨o2,ho2⟩:∃o2,min (o1+1) L=o2:=⟨_,rfl⟩
     have ho2':min (1+2*(i+1)) L=o2:=by omega
     have hoL:o<=L:=by omega
     have ho1L:o1<=L:=by omega
     have hdro:ns.drop (1+2*i)=ns.drop o:=by
       by_cases h:1+2*i<=L
       · rw[show o=1+2*i by omega]
       · rw[show o=L by omega,<-hL,List.drop_length,List.drop_of_length_le (by omega)]
     have hdr1:(ns.drop o).tail=ns.drop o1:=by
       rw[List.tail_drop];by_cases h:o+1<=L
       · rw[show o1=o+1 by omega]
       · rw[show o1=L by omega,<-hL,List.drop_length,List.drop_of_length_le (by omega)]
     have hk1:=hnok o hoL;have hk2:=hnok o1 ho1L;have ho1':=hnO o hoL;have ho2'':=hnO o1 ho1L;have hn1':=hnN o hoL;have hn2':=hnN o1 ho1L;rw[ho1]at ho1' hn1';rw[ho2]at ho2'' hn2';obtain⟨c1,hc1⟩:∃c1,nxt row o (L-o)=c1:=⟨_,rfl⟩
     obtain⟨c2,hc2⟩:∃c2,nxt row o1 (L-o1)=c2:=⟨_,rfl⟩
     have hc2b:c2<=4611686018427387903:=by
       have h1:=hnxt o1 ho1L;rw[hc2]at h1;cases hd:ns.drop o1 with
       | nil=>rw[hd]at h1;rw[h1];decide
       | cons x r =>
         rw[hd]at h1;have:=hns x (List.mem_of_mem_drop (by rw[hd];exact qhZ ..));rw[h1];simp;omega
     have hst:S (i+1)=(ns.drop (1+2*(i+1)),FS.upd fs1 v (fun f=>⟨f.stays c1 c2,[]⟩),if v∈th then th else th++[v]):=by
       rw[hSi];simp only[zAF];rw[hv,hdr,hdro,hdr1];have e1:(ns.drop o).headD 0=c1:=by rw[<-hc1,hnxt o hoL]
       have e2:(ns.drop o1).headD 0=c2:=by rw[<-hc2,hnxt o1 ho1L]
       have e3:(ns.drop o1).tail=ns.drop (1+2*(i+1)):=by
         rw[<-hdr1,<-hdro];simp only[List.tail_drop];congr 1
       rw[e1,e2,e3]
     have hXi:=behind fs1;rw[hl1]at hXi;have hXl:=hXi.len;have hXg:=hXi.get;have hXg0:=hXi.get0;have hXs:=hXi.set;have y1:IntKind.i64.wrap ((i:Int)+1)=i+1:=zI (by omega) (by omega);have hloop:∀th':List Int,th'=(if v∈th then th else th++[v])->Weak (n+4) (rsF n M (i+1)) ((rsD d fd (S (i+1))).heap (.cells false (ZE row)::rsT d n o2 L c (S (i+1)) ks)) (rsF n M (i+1)) ((rsD d fd (S (i+1))).heap (.cells false (ZE row)::rsT d n (min (1+2*(i+1)) L) L c (S (i+1)) ks)):=fun _ _=>by
       rw[ho2'];refine tl (i+1) [0,1,2,3] (by decide) ?_ rfl fun j t x y h1 h2 h3=>?_
       · simp[AW]
       · match j,h1,h2 with
         | 0,h1,h2=>cases h1;cases h2;cases h3;simp[AWb,AW]
         | 1,h1,h2=>cases h1;cases h2;cases h3;simp[AWb,AW]
         | 2,h1,h2 =>
           cases h1;cases h2;cases h3
           exact zGb fun v hv=>by rw[<-hn];exact zKF ((hSok (i+1)).sub v hv) _
         | 3,h1,h2=>cases h1;cases h2;cases h3;exact⟨id,fks _⟩
     clear hloop;have e1:(rsD d fd (l1,fs1,th)).fs=fs1:=rfl;have e2:(rsD d fd (l1,fs1,th)).fd=fd:=rfl;have e3:(rsD d fd (l1,fs1,th)).quota=d.quota:=rfl;have e4:(rsD d fd (l1,fs1,th)).steps=d.steps:=rfl;have e5:(rsD d fd (l1,fs1,th)).armed=d.armed:=rfl;have e6:(rsD d fd (l1,fs1,th)).down=d.down:=rfl;rw[hs1];unfold DS.heap DS.cell0 rsT;rw[e1,e2,e3,e4,e5,e6,ho];obtain⟨X,eX⟩:∃X,zT fs1=X:=⟨_,rfl⟩
     rw[eX]at hXl hXg hXg0 hXs hfb hbu ⊢;have hXq:∀T,(X++T)[q]? = some (.obj true f.blks):=fun T=>by rw[q4Z (by omega)];exact hfb
     have hXqs:∀(T:zA) B,(X++T).set q B=X.set q B++T:=fun T B=>by rw[List.set_append_left _ _ (by omega)]
     refine wS hΓ (by simp[hltI];exact wR) ?_ (by simp[hXl]);refine wS hΓ (by simp;exact wR) ?_ (by simp[hXl]);refine Sim.seq (Sim.block ?_);refine wS hΓ (by simp[hlt,hXl,hMe,hg];exact wR) ?_ (by simp[hXl]);refine wS hΓ (by simp[zHP,zHO,zBI,hv];exact wR) ?_ (by simp[hXl]);dsimp only;have hmap:∃th',th'=(if v∈th then th else th++[v])/\∀(T0 T1 T2 T4:ABlk),zA8 Pz (.cells true [.ptr 1 0,.map 2,.int .i64 d.quota,.int .i64 d.steps,.int .i64 d.armed,.bool d.down]::.obj true fd.blks::.map (zf (fun i=>i+3) 0 fs1)::(X++[T0,T1,T2,.map (thM (fun v=>FS.at d.fs v+3) th),T4])) 132 (.map (n+6)) (.int .i64 v) (.ptr (q+3) 0) =
         some (.cells true [.ptr 1 0,.map 2,.int .i64 d.quota,.int .i64 d.steps,.int .i64 d.armed,.bool d.down]::.obj true fd.blks::.map (zf (fun i=>i+3) 0 fs1)::(X++[T0,T1,T2,.map (thM (fun v=>FS.at d.fs v+3) th'),T4]))/\zAL (thM (fun v=>FS.at d.fs v+3) th') (.int .i64 v) 0=some (some (th'.idxOf v,.ptr (q+3) 0)):=by
       refine ⟨_,rfl,fun T0 T1 T2 T4=>?_⟩;by_cases hm:v∈th
       · rw[if_pos hm]at hthf ⊢
         simp[hthf,hXg,hXs,hq,hths hm]
       · rw[if_neg hm]at hthf ⊢
         have h2:=zMS (fun v=>FS.at d.fs v+3) v (th++[v]) 0;rw[if_pos (by simp),s8Z]at h2;try dsimp only at h2
         rw[hq]at h2;simp[hthf,hXg,hXs,htha,h2]
     obtain⟨th',hth',hmap⟩:=hmap;have hmf:=(hmap .dead .dead .dead .dead).2;refine wS hΓ (by simp[-zA8,hlook,(hmap _ _ _ _).1];exact wR) ?_ (by simp[hXl]);refine wS hΓ (by simp +decide [zHP,zHO,zLk,zAS,hXl,hXs,hk1,hc1,ho1',hn1'];exact wR) ?_ (by simp[hXl]);refine wS hΓ (by simp +decide [zHP,zHO,zLk,zAS,hXl,hXs,hk2,hc2,ho2'',hn2'];exact wR) ?_ (by simp[hXl]);refine wE hΓ (by simp +decide [zHP,zHO,zPv,hXl,hmf,hXq,hXqs,hfsm,hc2b];exact wT) ?_ (by simp[hXl]);dsimp only;refine wE hΓ (by simp[y1];exact wT) ?_ (by simp[hXl]);dsimp only;refine ⟨i+1,by omega,?_,by omega⟩;have tlx:=fun {T Tn F Fn}=>tl (i+1) (T:=T) (Tn:=Tn) (F:=F) (Fn:=Fn) [0,1,2,3] (by decide);rw[hst,<-hth']at tlx ⊢;have g1:∀Tn:zA,(rsD d fd (ns.drop (1+2*(i+1)),FS.upd fs1 v (fun f=>⟨f.stays c1 c2,[]⟩),th')).heap Tn=.cells true [.ptr 1 0,.map 2,.int .i64 d.quota,.int .i64 d.steps,.int .i64 d.armed,.bool d.down]::.obj true fd.blks::.map (zf (fun i=>i+3) 0 fs1)::(X.set q (.obj true (⟨f.stays c1 c2,[]⟩:PF).blks)++Tn):=fun Tn=>by
       unfold DS.heap DS.cell0 rsD;dsimp only;rw[zEs,hbu]
     simp only[g1]at tlx;unfold rsD;dsimp only;rw[zEs,hbu,ho2'];refine tlx ?_ rfl fun j t x y h1 h2 h3=>?_
     · simp[AW]
     · match j,h1,h2 with
       | 0,h1,h2=>cases h1;cases h2;cases h3;simp[AWb,AW]
       | 1,h1,h2=>cases h1;cases h2;cases h3;simp[AWb,AW]
       | 2,h1,h2 =>
         cases h1;cases h2;cases h3
         refine zGb fun w hw=>?_;have:=(hSok (i+1)).sub;rw[hst,<-hth']at this;rw[<-hn];exact zKF (this w hw) _
       | 3,h1,h2=>cases h1;cases h2;cases h3;exact⟨id,fks _⟩
 rintro e F' H' hlen1 ⟨rfl,hwk⟩;dsimp only;refine Sim.weak hwk hlen1 ?_;clear hwk hlen1;simp only[rsF,q9Z,qaZ,qbZ];rw[hSM];have tlx:=fun {T Tn F Fn}=>tl M (T:=T) (Tn:=Tn) (F:=F) (Fn:=Fn) [0,1,2,3] (by decide);have hsok:=hSok M;have hsl:=hSl M;rw[hSM]at tlx hsok hsl;have hXi:=behind s.2.1;rw[hsl,hn]at hXi;have hXl:=hXi.len;have hXg:=hXi.get;have hXg0:=hXi.get0;unfold zJl;unfold DS.heap DS.cell0 rsD rsT;dsimp only;obtain⟨X,eX⟩:∃X,zT s.2.1=X:=⟨_,rfl⟩
 rw[eX]at hXl hXg hXg0 ⊢;refine wE hΓ (by simp +decide;exact wT) ?_ (by simp[hXl]);refine ⟨.inl rfl,?_⟩;refine zUz (M:=n+8) (by simp[hXl]) (by omega) (fun rn hr=>by simp) (by simp[hXl]) fun rn hr i x y hx hy=>?_
 match i,hx,hy with
 | 0,hx,hy =>
   cases hx;cases hy
   simp[AWb,AW,hr 1 (by omega),hr (n+6) (by omega)]
 | 1,hx,hy=>cases hx;cases hy;exact⟨rfl,rfl⟩
 | 2,hx,hy =>
   cases hx;cases hy
   exact zEu fun i hi=>hr (i+3) (by rw[hsl,hn]at hi;omega)
 | i+3,hx,hy =>
   simp only[r9Z]at hx hy;by_cases hi:i<n
   · rw[q4Z (by omega)]at hx hy
     rw[hx]at hy;cases hy;rw[<-eX]at hx;obtain⟨e,_,rfl⟩:=reZ.1 (qcZ hx);exact⟨rfl,rfl⟩
   · obtain⟨j,rfl⟩:∃j,i=n+j:=⟨i-n,by omega⟩
     rw[hXg]at hx hy
     match j,hx,hy with
     | 0,hx,hy=>cases hx;cases hy;exact hrow rn
     | 1,hx,hy=>cases hx;cases hy;simp[AWb,AW,hr (n+3) (by omega)]
     | 2,hx,hy=>cases hx;cases hy;simp[AWb,AW,hr (n+4) (by omega)]
     | 3,hx,hy =>
       cases hx;cases hy
       refine zGb fun w hw=>?_;obtain⟨g,hg⟩:=FS.get_some.2 (hsok.sub w hw);have:=FS.at_lt hg;exact hr _ (by omega)
     | 4,hx,hy=>cases hx;cases hy;exact⟨id,fks _⟩
end
section
open Go Go.Lib
attribute [-simp] zH zc zq zK zy
theorem zOV(g:Nat->Nat)(G:Int->Nat)(fs:FS):∀(th:List Int) (k:Nat),(∀(j:Nat) v,th[j]? = some v->g (k+j)=G v)->zf g k (zBF fs th)=thM G th
 | [],_,_=>rfl
 | v::th,k,h=>by
   have h0:=h 0 v rfl;rw[Nat.add_zero]at h0;have ih:=zOV g G fs th (k+1) fun j w hj=>by rw[show k+1+j=k+(j+1) by omega];exact h (j+1) w (by simpa using hj)
   simp only[zBF,thM,s1Z,zf]at ih ⊢;rw[h0,ih]
theorem FS.at_inj{l:FS}{a b:Int}(ha:a∈FS.keys l)(hb:b∈FS.keys l)(h:FS.at l a=FS.at l b):a=b:=by
 obtain⟨f,hf⟩:=FS.get_some.2 ha;obtain⟨g,hg⟩:=FS.get_some.2 hb;have h1:=FS.at_get hf;have h2:=FS.at_get hg;rw[h,h2]at h1;cases h1;rfl
theorem zFG:∀l:List Int,zt (ZE l)=true
 | []=>rfl
 | _::l=>by simp[ZE,zt,zAT]
theorem zJo(d:DS){A B:Nat}(hok:d.ok A B)(hA:A<=1000000)(hB:B<=1000000000000)(row:List Int)(hrw:∀x∈row,0<=x/\x<=65535)(hrl:row.length<=9223372036854775807)(L:Nat)(hLr:L<=row.length)(c:Bool) :
   Ct Pz 16 [.ptr 0 0,.sl 1 0 L 1 c] [.obj true d.blks,.cells false (ZE row)] (.tuple []) [.obj true (d.restart (row.take L)).blks,.cells false (ZE row)]:=by
 obtain⟨ns,hnsr⟩:∃ns,ns=row.take L:=⟨_,rfl⟩
 rw[<-hnsr];obtain⟨fd,hfd⟩:∃fd,d.fd.survive (ns.headD 0)=fd:=⟨_,rfl⟩
 obtain⟨s,hs⟩:∃s,zA0 fd ns.tail d.fs fd.names=s:=⟨_,rfl⟩
 obtain⟨o,hct⟩:=zMU d hok hA hB row hrw hrl L hLr ns hnsr c fd hfd s hs;have hr:d.restart ns=⟨fd,zBF s.2.1 s.2.2,d.quota,d.steps,0,false⟩:=by unfold DS.restart;rw[hfd,hs]
 have h3:fd.each (zOT d.fs):=by rw[<-hfd];exact FD.each_survive hok.has _
 have hso:StOk fd B s d.fs:=by
   rw[<-hs];exact zDR _ ⟨rfl,hok.fine,List.nodup_nil,fun n hn=>by cases hn⟩ fun k hk=>by
     obtain⟨v,hv⟩:=FD.names_get hk;rw[FD.find_get hv];exact FD.each_now h3 k v hv
 have hsl:s.2.1.length=d.fs.length:=by
   have:=congrArg List.length hso.keys;simpa[FS.keys] using this
 have hatk:=FS.at_keys hso.keys;obtain⟨n,hn⟩:∃n,d.fs.length=n:=⟨_,rfl⟩
 have hX:=behind s.2.1;rw[hsl,hn]at hX;obtain⟨g,hg⟩:∃g:Nat->Nat,g=fun i=>FS.at d.fs (s.2.2.getD i 0)+3:=⟨_,rfl⟩
 have hgi:∀(i:Nat) v,s.2.2[i]? = some v->g i=FS.at d.fs v+3:=fun i v h=>by rw[hg];simp[q2Z,h]
 have hlt:∀v∈s.2.2,FS.at d.fs v<n:=fun v hv=>by
   obtain⟨f,hf⟩:=FS.get_some.2 (hso.sub v hv);rw[<-hn];exact FS.at_lt hf
 have hthl:(zBF s.2.1 s.2.2).length=s.2.2.length:=by simp[zBF]
 have hgr:∀x∈(List.range s.2.2.length).map g,∃v∈s.2.2,x=FS.at d.fs v+3:=by
   intro x hx;obtain⟨i,hi,rfl⟩:=reZ.1 hx;have hi':=List.mem_range.1 hi;exact⟨s.2.2[i],r3Z hi',hgi i _ (q3Z hi')⟩
 rw[hn]at hct;rw[hr];refine zKB (m:=n+6) (g:=g) hct rfl ?_ (zFG row) ?_ ?_ ?_ ?_
 · rw[hn]
   have:(emR n)[n+3]? = some 1:=by rw[zCM,if_neg (by omega),if_neg (by omega),if_pos rfl]
   exact⟨⟨this,rfl,rfl,rfl,id⟩,trivial⟩
 · unfold zJl
   refine ⟨rfl,rfl,?_,fun i e he=>?_,?_⟩
   · simp only[r9Z]
     rw[hX.get];simp only[rsT,r9Z,raZ];rw[zOV g (fun v=>FS.at d.fs v+3) s.2.1 s.2.2 0 fun j v hj=>by rw[s8Z];exact hgi j v hj]
   · dsimp only at he
     unfold zBF at he;rw[qzZ]at he;obtain⟨v,hv,rfl⟩:=qlZ.1 he;rw[hgi i v hv];simp only[r9Z];obtain⟨f,hf⟩:=FS.get_some.2 (by rw[hso.keys];exact hso.sub v (qcZ hv):v∈FS.keys s.2.1);rw[hf,q4Z (by rw[hX.len];exact hlt v (qcZ hv)),<-hatk];exact Z6 (FS.at_get hf)
   · dsimp only
     rw[hthl];refine rdZ.2 ⟨fun h=>?_,rdZ.2 ⟨fun h=>?_,rdZ.2 ⟨fun h=>?_,?_⟩⟩⟩
     · rcases qwZ.1 h with h | h
       · omega
       rcases qwZ.1 h with h | h
       · omega
       · obtain⟨v,_,h⟩:=hgr _ h;omega
     · rcases qwZ.1 h with h | h
       · omega
       · obtain⟨v,_,h⟩:=hgr _ h;omega
     · obtain⟨v,hv,h⟩:=hgr _ h;have:=hlt v hv;omega
     · rw[List.nodup_iff_pairwise_ne,List.pairwise_map,List.pairwise_iff_getElem]
       intro i j hi hj hij;simp only[List.length_range]at hi hj;simp only[List.getElem_range];rw[hgi i _ (q3Z hi),hgi j _ (q3Z hj)];intro e;have h1:=FS.at_inj (hso.sub _ (r3Z hi)) (hso.sub _ (r3Z hj)) (by omega);have:=(List.nodup_iff_pairwise_ne.1 hso.nd)
       exact (List.pairwise_iff_getElem.1 this i j hi hj hij) h1
 · dsimp only
   rw[hthl,hn];simp only[qwZ,not_or];refine ⟨by omega,by omega,by omega,fun h=>?_⟩;obtain⟨v,hv,h⟩:=hgr _ h;have:=hlt v hv;omega
 · rw[hn]
   have:(zJl d fd s n o L c row fd.names).drop (n+4)=rsT d n o L c s fd.names:=by
     unfold zJl;simp only[List.drop_succ_cons];rw[sdZ,List.drop_of_length_le (by rw[hX.len];omega),hX.len,show n+1-n=1 by omega];rfl
   rw[this];rfl
 · unfold zJl
   simp[hX.len,hn]
noncomputable section
open Classical
def DS.small(d:DS):Prop:=d.ok 900000 1000000000000
def zPL:zJ:=zAM dsD DS.blks fun d xs _=>match xs with
 | [.str k]=>if d.small/\k.length<=9223372036854775807 then some ((d.create k).1,.int .i64 (d.create k).2) else none
 | _=>none
theorem zI9:Sound Pz 21 zPL:=by
 refine zS (zD Tryz.func21 rfl (by decide)) (fun _ _=>Z7) fun d xs H s' v b hg hb=>?_;split at hg;rotate_left
 · cases hg
 split at hg <;> cases hg
 rename_i hs;exact ze (zDj (zPS d hs.1 (by decide) _ hs.2) rfl) rfl rfl hb
def zP4:zJ:=zAM dsD DS.blks fun d xs _=>match xs with
 | [.str k]=>if d.small then some ((d.sync k).1,.int .i64 (d.sync k).2) else none
 | _=>none
theorem zOH:Sound Pz 164 zP4:=by
 refine zS (zD Tryz.func164 rfl (by decide)) (fun _ _=>Z7) fun d xs H s' v b hg hb=>?_;split at hg;rotate_left
 · cases hg
 split at hg <;> cases hg
 rename_i hs;exact ze (zDj (zWG d hs (by decide) _) rfl) rfl rfl hb
def zLt:zJ:=zAM dsD DS.blks fun d xs _=>match xs with
 | []=>if d.small then some (d.syncDir.1,.int .i64 d.syncDir.2) else none
 | _=>none
theorem zMX:Sound Pz 131 zLt:=by
 refine zS (zD Tryz.func131 rfl (by decide)) (fun _ _=>Z7) fun d xs H s' v b hg hb=>?_;split at hg;rotate_left
 · cases hg
 split at hg <;> cases hg
 rename_i hs;exact ze (zDj (zND d hs (by decide)) rfl) rfl rfl hb
def zU1:zJ:=zAM dsD DS.blks fun d xs _=>match xs with
 | [.int .i64 m]=>some (d.arm m,.tuple [])
 | _=>none
theorem zQr:Sound Pz 14 zU1:=by
 refine zS (zD Tryz.func14 rfl (by decide)) (fun _ _=>Z7) fun d xs H s' v b hg hb=>?_;split at hg <;> cases hg
 exact ze (zDj (zWV d _) rfl) rfl rfl hb
end
end
section
open Go Go.Lib
attribute [-simp] zH zc zq zK zy
theorem zTr(d:DS){A B:Nat}(hok:d.ok A B)(hA:A<=1000000):Ct Pz 48 [.ptr 0 0] [.obj true d.blks] (.sl 1 0 d.files.length 2 false) [.obj true d.blks,.cells true (flA d.files)]:=by
 have h:=zNR d hok hA;rw[DS.heap_eq,DS.heap_eq,r2Z]at h;refine zB3 h (by simp[DS.blks]) (Aft.closeDS d [0] (by decide) rfl ?_ fun i t x h1 h2=>?_)
 · simp[AW]
 · match i,h1,h2 with
   | 0,h1,h2=>cases h1;cases h2;exact⟨_,rfl,id,(zC0 (zC7 d.files)).2 trivial⟩
theorem zXp{f:FuncId}{d:DS}{k sz:Nat}{l:List AV}(h:Ct Pz f [.ptr 0 0] [.obj true d.blks] (.sl 1 0 k sz false) [.obj true d.blks,.cells true l])(hl:∀g,zj g l=l){H:zA}{b:Nat}(hb:H[b]? = some (.obj true d.blks)) :
   Ct Pz f [.ptr b 0] H (.sl H.length 0 k sz false) (H++[.cells true l]):=by
 have hbl:b<H.length:=(q1Z.1 hb).1;have:=zP (H:=H) (args:=[.ptr b 0]) h [b] (by simp) ⟨⟨rfl,rfl⟩,trivial⟩ ⟨by rw[q2Z,hb];exact⟨rfl,rfl⟩,hbl,trivial⟩ rfl;obtain⟨h1,h2⟩:=q1Z.1 hb;have hset:H.set b (.obj true d.blks)=H:=by rw[<-h2,List.set_getElem_self]
 simpa[zN,ABlk.own,reB,reA,zn,hset,hl] using this
noncomputable section
open Classical
def zHv:zJ:=fun args H=>match args with
 | [.ptr b 0]=>match H[b]? with
   | some (.obj true sub)=>match dsD sub with
     | some d=>if d.small then some (.sl H.length 0 d.files.length 2 false,H++[.cells true (flA d.files)],[]) else none
     | none=>none
   | _=>none
 | _=>none
theorem zB8:∀l,zt (flA l)=true
 | []=>rfl
 | e::l=>by have:=zB8 l;simpa[flA,zt,zAT] using this
theorem zMl:Sound Pz 48 zHv:=by
 refine ⟨zD Tryz.func48 rfl (by decide),fun args H v H' W hs=>?_,fun args H v H' W hs=>?_⟩ <;> (unfold zHv at hs;split at hs <;> try cases hs) <;> (split at hs <;> try cases hs) <;> (rename_i b _ sub hb;split at hs <;> try cases hs) <;> (rename_i d hd;split at hs <;> cases hs;rename_i hk)
 · have e:=Z7 hd
   subst e;exact zXp (zTr d hk (by decide)) (fun g=>zBO g _ (zB8 _)) hb
 · exact⟨by simp,fun c hc _=>by rw[q4Z hc]⟩
def zCW:AV->Option (Nat×Nat×Bool)
 | .slice b 0 L 1 c=>some (b,L,c)
 | .sl b 0 L 1 c=>some (b,L,c)
 | _=>none
def zGm:zJ:=fun args H=>match args with
 | [.ptr b 0,x]=>match zCW x,H[b]? with
   | some (b2,L,_),some (.obj true sub)=>match dsD sub,H[b2]? with
     | some d,some (.cells _ a)=>match numsOf a with
       | some l=>if d.small/\L<=l.length/\l.length<=9223372036854775807/\(∀x∈l,0<=x/\x<=65535) then some (.tuple [],H.set b (.obj true (d.restart (l.take L)).blks),[b]) else none
       | none=>none
     | _,_=>none
   | _,_=>none
 | _=>none
theorem drest_sound:Sound Pz 16 zGm:=by
 have key:∀args H v H' W,zGm args H=some (v,H',W)->∃b B,W=[b]/\H'=H.set b B/\Ct Pz 16 args H v H':=by
   intro args H v H' W hs;unfold zGm at hs;split at hs;rotate_left
   · cases hs
   rename_i b x;split at hs <;> try cases hs
   rename_i b2 L c sub hx hb;split at hs <;> try cases hs
   rename_i d o a hd hb2;split at hs <;> try cases hs
   rename_i l hl;split at hs <;> cases hs
   rename_i hc;obtain⟨h1,h2,h3,h4⟩:=hc;have e:=Z7 hd;subst e;have e2:=zEh hl;subst e2;refine ⟨b,_,rfl,rfl,?_⟩;refine zH5 (x:=.sl 1 0 L 1 c) (xs:=[]) (zJo d h1 (by decide) (by decide) l h4 h3 L h2 c) rfl rfl (zFG l) hb hb2 ?_;unfold zCW at hx;split at hx <;> cases hx
   · exact⟨rfl,rfl,rfl,rfl,fun h=>h⟩
   · exact⟨rfl,rfl,rfl,rfl,fun h=>h⟩
 refine ⟨zD Tryz.func16 rfl (by decide),fun args H v H' W hs=>?_,fun args H v H' W hs=>?_⟩
 · obtain⟨b,B,_,_,h⟩:=key args H v H' W hs
   exact h
 · obtain⟨b,B,rfl,rfl,_⟩:=key args H v H' W hs
   refine ⟨by simp,fun c hc hn=>?_⟩;simp only[r1Z]at hn;rw[qfZ (Ne.symm hn)]
end
end
end Go.Proofs.YtfhidaoiofeooaaGreatDoor
