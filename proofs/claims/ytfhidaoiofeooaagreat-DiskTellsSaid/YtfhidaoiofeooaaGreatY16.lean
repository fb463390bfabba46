/- Parts of the proof of DiskTells: lemmas, each with its own conditions. -/
import Derived.Test.YtfhidaoiofeooaaGreatY15
set_option maxHeartbeats 64000000
open List renaming getElem?_eq_some_iff → q1Z, getD_eq_getElem?_getD → q2Z, getElem?_eq_getElem → q3Z, getElem?_append_left → q4Z, getElem?_append_right → q5Z, take_of_length_le → q6Z, length_cons → q7Z, length_nil → q8Z, cons_append → q9Z, nil_append → qaZ, replicate → qbZ, mem_of_getElem? → qcZ, length_append → qdZ, append_assoc → qeZ, getElem?_set_ne → qfZ, length_take → qjZ, mem_cons → qwZ, mem_append → qxZ, getElem?_map → qzZ, append_nil → r2Z, getElem_mem → r3Z, getElem?_drop → r5Z, length_map → r7Z, length_set → r8Z, getElem?_cons_succ → r9Z, getElem?_cons_zero → raZ, nodup_cons → rdZ, mem_map → reZ, getElem?_range → rfZ, map_cons → s1Z, getElem?_eq_none → s4Z, set_cons_zero → s9Z
open Nat renaming le_refl → qnZ, zero_le → qqZ, lt_irrefl → rnZ, lt_or_ge → s2Z, zero_add → s8Z
namespace Go.Proofs.YtfhidaoiofeooaaGreat
open _root_.Go.Proofs.Tryz renaming prog → Pz
set_option maxRecDepth 100000
section
open Go Go.Lib
attribute [-simp] zN zr ZI zT ZL
noncomputable def zSA(args:List AV)(H:zA)(v:AV):zU:=open Classical in fun a h=>if a=args/\h=H then some (v,H,[]) else none
theorem zIh{P:Program}{f:FuncId}{args:List AV}{H:zA}{v:AV}(he:∀cargs w,(callFunc f cargs).run P w=.ok (.enter f cargs) w)(h:Ct P f args H v H):Sound P f (zSA args H v):=by
 refine ⟨he,fun a h1 v1 H1 W hs=>?_,fun a h1 v1 H1 W hs=>?_⟩ <;> (unfold zSA at hs;split at hs <;> cases hs) <;> (rename_i hc;obtain⟨rfl,rfl⟩:=hc)
 · exact h
 · exact⟨qnZ _,fun _ _ _=>rfl⟩
@[simp] theorem zXJ(args:List AV)(H:zA)(v:AV):zSA args H v args H=some (v,H,[]):=by
 unfold zSA;rw[if_pos ⟨rfl,rfl⟩]
theorem zSw(H:zA)(b off:Nat)(c o:Bool)(l:List AV)(s sep:List UInt8)(hb:H[b]? = some (.cells o l))(hl:l[off]? = some (.str s)):Ct Pz 31 [.sl b off 1 1 c,.str sep] H (.str s) H:=by
 have hlt:off<l.length:=(q1Z.1 hl).1
 have hat:∀h,l[off]'h=.str s:=fun h=>by rw[q3Z h]at hl;exact Option.some.inj hl
 refine zR Tryz.func31 rfl ?_;simp only[Tryz.ntmps31,q7Z,q8Z,Nat.reduceAdd,Nat.reduceSub,qbZ,q9Z,qaZ]
 refine Sim.step hmix zC (n:=0) (by simp;exact⟨rfl,rfl⟩) (by simp) ?_
 refine Sim.exec hmix zC (n:=0) (by simp +decide [hb,hlt,hat];exact⟨rfl,rfl,rfl⟩) (by simp) ?_
 exact⟨.inr rfl,by simp[Tryz.f31],rfl⟩
theorem DS.used_more(d:DS){A B:Nat}(hok:d.ok A B)(hA:A<=1000000)(hB:B<=1000000000000)(T:zA):Ct Pz 32 [.ptr 0 0] (d.heap T) (.int .i64 d.used) (d.heap T):=by
 have h:=zQZ d hok hA hB;rw[DS.heap_eq,r2Z]at h
 have:=zVd (T:=T) (N:=[]) (N':=[]) (args:=[.ptr 0 0]) (v':=.int .i64 d.used) (by rw[r2Z];exact h) (fun rn hr=>⟨⟨hr 0 (by rw[DS.blks_length];omega),rfl⟩,trivial⟩) (d.blks_id) (d.blks_fix) rfl (fun _ _ _=>⟨rfl,rfl⟩)
 rw[r2Z]at this;rw[DS.heap_eq];exact this
noncomputable def zVp(d:DS)(T:zA)(x:AV)(s:List UInt8):Gam:=zo [(31,zSA [x,.str []] (d.heap T) (.str s)),(32,zSA [.ptr 0 0] (d.heap T) (.int .i64 d.used)),(33,zQu)]
theorem zOT(d:DS){A B:Nat}(hok:d.ok A B)(hA:A<=1000000)(hB:B<=1000000000000)(hq:d.quota<=1000000000000)(row:ABlk)(x:AV)(s:List UInt8)(U:zA)(hs:s.length<=9223372036854775807)
   (hj:Ct Pz 31 [x,.str []] (d.heap (row::ZA::.cells true [x]::U)) (.str s) (d.heap (row::ZA::.cells true [x]::U))) (v:Int) (f:PF) (hf:FS.get d.fs v=some f) :
   ∃N,Ct Pz 30 [.ptr (FS.at d.fs v+3) 0,.ptr (d.fs.length+5) 0,.ptr (d.fs.length+4) 0] (d.heap (row::ZA::.cells true [x]::U)) (.int .i64 (if d.room<s.length then 10 else 0))
     ((d.fileTo v (if d.room<s.length then f.add (s.take d.room) else f.add s)).heap (row::ZA::.cells true [x]::(U++N))):=by
 obtain⟨T,hT⟩:∃T,row::ZA::.cells true [x]::U=T:=⟨_,rfl⟩
 have hT1:T[1]? = some (.cells true [.ptr 0 0]):=by rw[<-hT];rfl
 have hT2:T[2]? = some (.cells true [x]):=by rw[<-hT];rfl
 rw[hT]at hj
 have hTU:∀N:zA,row::ZA::.cells true [x]::(U++N)=T++N:=fun N=>by rw[<-hT];rfl
 have hΓ:GOk Pz (zVp d T x s):=zB (zIh (zE Tryz.func31 rfl (by decide)) hj) (zB (zIh (zE Tryz.func32 rfl (by decide)) (DS.used_more d hok hA hB T)) (zB zO8 zC))
 have hq0:=zCz hf;have hfok:f.small:=PF.ok_mono (hok.fine _ (FS.get_mem hf)) hB;have hX:=behind d.fs;obtain⟨n,hn⟩:∃n,d.fs.length=n:=⟨_,rfl⟩;rw[hn]at hX;have hXl:=hX.len;have hXg:=hX.get;have hXg0:=hX.get0;have hu:=DS.sum_le hok hA hB d.files.length;rw[List.take_length,<-DS.used_sum]at hu
 have hw:IntKind.i64.wrap (d.quota-(d.used:Int))=d.quota-d.used:=by have:=hok.q0;exact zV (by omega) (by omega)
 have hroom:max 0 (d.quota-(d.used:Int))=(d.room:Int):=by unfold DS.room;omega
 have hrl:(d.room:Int)<=d.quota:=d.room_le hok.q0
 have hX1:∀U2:zA,(zK d.fs++(T++U2))[n+1]? = some (.cells true [.ptr 0 0]):=fun U2=>by
   rw[hXg,q4Z (q1Z.1 hT1).1];exact hT1
 have hX2:∀U2:zA,(zK d.fs++(T++U2))[n+2]? = some (.cells true [x]):=fun U2=>by
   rw[hXg,q4Z (q1Z.1 hT2).1];exact hT2
 have hX1':=hX1 [];have hX2':=hX2 [];simp only[r2Z]at hX1' hX2'
 have hql:FS.at d.fs v<(zK d.fs).length:=by rw[zu];exact FS.at_lt hf
 obtain⟨q,hqe⟩:∃q,FS.at d.fs v=q:=⟨_,rfl⟩;rw[hqe]at hq0 hql;obtain⟨R,hR⟩:∃R,d.room=R:=⟨_,rfl⟩;rw[hR]at hroom hrl
 have hXT:(zK d.fs++T).length=n+T.length:=by rw[qdZ,hXl]
 have main:∀(e:Int) (m:List UInt8),(e=10/\R<s.length/\m=s.take R\/e=0/\¬R<s.length/\m=s) ->
     Ct Pz 30 [.ptr (q+3) 0,.ptr (n+5) 0,.ptr (n+4) 0] (d.heap T) (.int .i64 e) (d.cell0 1 2::.obj true d.fd.blks::.map (zP (fun i=>i+3) 0 d.fs)::(zK d.fs++(T++[ABlk.cells true [AV.str m]])).set q (.obj true (f.add m).blks)):=by
   intro e m hc;refine zR Tryz.func30 rfl ?_;simp only[Tryz.ntmps30,q7Z,q8Z,Nat.reduceAdd,Nat.reduceSub,qbZ,q9Z,qaZ]
   have hml:m.length<=1000000000000:=by
     rcases hc with⟨_,_,rfl⟩ | ⟨_,h,rfl⟩
     · rw[qjZ];omega
     · omega
   have hq1:∀U2:zA,(zK d.fs++(T++U2))[q]? = some (.obj true f.blks):=fun U2=>hq0 (T++U2)
   have hqT:=hq0 T;unfold zVp at hΓ;unfold DS.heap DS.cell0 at hΓ ⊢;obtain⟨X,eX⟩:∃X,zK d.fs=X:=⟨_,rfl⟩;rw[eX]at hXl hX1' hX2' hq1 hqT hXT hql hΓ ⊢;rw[<-qeZ]
   have hq2:∀U2:zA,(X++T++U2)[q]? = some (.obj true f.blks):=fun U2=>by rw[qeZ];exact hq1 U2
   obtain⟨Y,eY⟩:∃Y,X++T=Y:=⟨_,rfl⟩;rw[eY]at hX1' hX2' hqT hXT hq2 hΓ ⊢
   have hYg:∀U2:zA,(Y++U2)[Y.length]? = U2[0]?:=fun U2=>(ZC Y rfl).get0 U2
   refine Sim.step hmix hΓ (n:=0) (by simp;exact⟨rfl,rfl⟩) (by simp) ?_
   refine Sim.step hmix hΓ (n:=0) (by simp[hX2'];exact⟨rfl,rfl⟩) (by simp) ?_
   refine Sim.seq (Sim.step hmix hΓ (n:=0) (by simp +decide [-ZK,zAk,hX1',hw,hroom];first | exact⟨rfl,rfl⟩ | exact⟨by kernel_rfl,rfl,rfl⟩) (by simp) ?_)
   rcases hc with⟨rfl,hc,rfl⟩ | ⟨rfl,hc,rfl⟩
   · have hci:(R:Int)<s.length:=by omega
     have hc2:R<=s.length:=by omega
     have hR12:R<=1000000000000:=by omega
     have hc3:(R:Int)<=s.length:=by omega
     refine Sim.exec hmix hΓ (n:=0) (by simp +decide [hci,hc2,hc3,zQu,zAL,hq2,hfok,zk,Zx,hR12];exact⟨rfl,rfl,rfl⟩) (by simp) ?_
     dsimp only
     exact⟨.inr rfl,by simp[Tryz.f30],by simp⟩
   · have hci:¬(R:Int)<m.length:=by omega
     refine Sim.exec hmix hΓ (n:=0) (by simp[hci];exact⟨rfl,rfl,rfl⟩) (by simp) ?_
     dsimp only
     refine Sim.exec hmix hΓ (n:=0) (by simp +decide [zQu,zAL,hq2,hfok,zk,Zx,hml];exact⟨rfl,rfl,rfl⟩) (by simp) ?_
     exact⟨.inr rfl,by simp[Tryz.f30],by simp⟩
 by_cases hc:R<s.length
 · refine ⟨[.cells true [.str (s.take R)]],?_⟩
   rw[hTU,hT,hqe,hn,hR,if_pos hc,if_pos hc,zCb _ hf,hqe];exact main 10 _ (.inl ⟨rfl,hc,rfl⟩)
 · refine ⟨[.cells true [.str s]],?_⟩
   rw[hTU,hT,hqe,hn,hR,if_neg hc,if_neg hc,zCb _ hf,hqe];exact main 0 _ (.inr ⟨rfl,hc,rfl⟩)
theorem AWh.ofs{rn:List Nat}{H:zA}:∀(xs:zA) (bs:List Nat),xs.length=bs.length->(∀(i:Nat) x b,xs[i]? = some x->bs[i]? = some b->∃y,H[b]? = some y/\AWb rn x y)->AWh rn H xs bs
 | [],[],_,_=>trivial
 | [],_::_,h,_=>by simp at h
 | _::_,[],h,_=>by simp at h
 | x::xs,b::bs,h,hall=>by
   obtain⟨y,h1,h2⟩:=hall 0 x b rfl rfl
   refine ⟨?_,(q1Z.1 h1).1,AWh.ofs xs bs (by simpa using h) fun i y c hy hc=>hall (i+1) y c (by simpa using hy) (by simpa using hc)⟩
   rw[q2Z,h1];exact h2
theorem zPD{P:Program}{f:FuncId}{xs:List AV}{v v':AV}{sub T HO H' H'':zA}(hO:zX (.obj true sub::T) 0 sub=HO)(h:Ct P f xs HO v H')(hA:Aft (T.length+1) [v] H' fun F H=>F=[v']/\H=H'')(hl:T.length+1<=HO.length):Ct P f xs (.obj true sub::T) v' H'':=by
 intro j w cargs hR hargs
 obtain⟨j1,hle,s1⟩:=Step.open (n:=T.length+1) hR (b:=0) rfl (by simp)
 rw[hO]at s1;refine (h j1 w cargs s1.rel (VRs.mono hle _ _ hargs)).mono ?_;rintro e w' ⟨cv,j2,rfl,hv,s2⟩;obtain⟨F3,H3,j3,⟨rfl,rfl⟩,h3,s3⟩:=hA j2 w' [cv] s2.rel ⟨cv,[],rfl,hv,rfl⟩;obtain⟨cv',ws,e1,h4,h5⟩:=h3;cases e1;exact⟨cv,j3,rfl,h4,(s1.trans s2 hl).trans s3 (qnZ _)⟩
theorem Aft.closeAt{n0:Nat}{F:List AV}{H:zA}{K:List AV->zA->Prop}{d:DS}{b fo m:Nat}{g:Nat->Nat}(h:DAt H d b fo m g)(hn:n0<=H.length)
   (k:Aft n0 F (zi H b (fo::m::(List.range d.fs.length).map g) true d.blks) K):Aft n0 F H K:=by
 refine Aft.close (o:=true) (b:=b) (sub:=d.blks) (rs:=b::fo::m::(List.range d.fs.length).map g) (ks:=fo::m::(List.range d.fs.length).map g) rfl h.nd (q1Z.1 h.c0).1 ?_ (h.awg _ fun _ _=>rfl) ⟨d.cell0 1 2,rfl,rfl⟩ ?_ hn k
 · intro c x hc hcb _ _
   rcases qwZ.1 hc with e | hc
   · exact absurd e hcb
   · exact hc
 · intro i y hy hd
   have hm:=qcZ hy;simp only[DS.blks,DS.cell0,qwZ]at hm;rcases hm with rfl | rfl | rfl | hm
   · rfl
   · rfl
   · rfl
   · obtain⟨e,_,rfl⟩:=reZ.1 hm
     rfl
def emR(n:Nat):List Nat:=0::2::3::((List.range n).map (·+4)++[1])
theorem zDt(n:Nat):(emR n).length=n+4:=by simp[emR]
theorem zCf(n i:Nat):(emR n)[i]? = if i=0 then some 0 else if i<n+3 then some (i+1) else if i=n+3 then some 1 else none:=by
 unfold emR
 match i with
 | 0=>rfl
 | 1=>simp
 | 2=>simp
 | i+3 =>
   simp only[r9Z]
   rw[if_neg (by omega)]
   by_cases h:i<n
   · rw[if_pos (by omega),q4Z (by simpa using h),qzZ,rfZ h];rfl
   · rw[if_neg (by omega),q5Z (by simp;omega)]
     simp only[r7Z,List.length_range];by_cases h2:i=n
     · subst h2;simp
     · rw[if_neg (by omega),s4Z (by simp;omega)]
theorem zKS(n:Nat):(emR n).Nodup:=by
 have h0:((List.range n).map (·+4)++[1]).Nodup:=by
   rw[List.nodup_append]
   refine ⟨?_,by simp,fun a ha b hb=>?_⟩
   · rw[List.nodup_iff_pairwise_ne,List.pairwise_map]
     exact (List.nodup_iff_pairwise_ne.1 (List.nodup_range (n:=n))).imp fun h e=>h (by omega)
   · obtain⟨c,_,rfl⟩:=reZ.1 ha
     simp at hb;omega
 have hm:∀x,x∈(List.range n).map (·+4)++[1]->x=1\/4<=x:=by
   intro x hx;rcases qxZ.1 hx with h | h
   · obtain⟨c,_,rfl⟩:=reZ.1 h;exact .inr (by omega)
   · exact .inl (by simpa using h)
 unfold emR
 refine rdZ.2 ⟨fun h=>?_,rdZ.2 ⟨fun h=>?_,rdZ.2 ⟨fun h=>?_,h0⟩⟩⟩
 · rcases qwZ.1 h with h | h
   · omega
   rcases qwZ.1 h with h | h
   · omega
   · have:=hm _ h;omega
 · rcases qwZ.1 h with h | h
   · omega
   · have:=hm _ h;omega
 · have:=hm _ h;omega
def ggR(n i:Nat):Nat:=if i=0 then 0 else if i<n+3 then i+1 else if i=n+3 then 1 else i
theorem zSu(n i:Nat):ZQ (emR n) (n+4) i=ggR n i:=by
 unfold ZQ ggR;rw[zCf,zDt]
 repeat' split
 all_goals first | rfl | (simp_all;done) | (simp_all;omega)
theorem zHw(n i j:Nat)(h:ggR n i=ggR n j):i=j:=by
 unfold ggR at h
 repeat' split at h
 all_goals omega
theorem zTp(d:DS)(l:List AV):zX [.obj true d.blks,.cells false l] 0 d.blks=d.cell0 2 3::.cells false l::.obj true d.fd.blks::.map (zP (fun i=>i+4) 0 d.fs)::zK d.fs:=by
 unfold zX DS.blks;simp only[q7Z,q8Z,List.getD_cons_zero,s9Z,List.drop_succ_cons,List.drop_zero,s1Z,q9Z,qaZ,s8Z,Nat.reduceAdd]
 have e1:reB (Zf 0 2) (d.cell0 1 2)=d.cell0 2 3:=by simp[DS.cell0,reB,ZY,reA,Zf]
 have e2:reB (Zf 0 2) (.map (zP (fun i=>i+3) 0 d.fs))=.map (zP (fun i=>i+4) 0 d.fs):=by
   simp only[reB]
   rw[zEx,zAU 0 d.fs fun i _ _=>?_]
   simp only[Zf]
   rw[if_neg (by omega)];omega
 have e3:(zK d.fs).map (reB (Zf 0 2))=zK d.fs:=by
   simp[zK,reB]
 rw[e1,e2,e3];rfl
theorem zIA{P:Program}{f:FuncId}{ys ys':List AV}{v:AV}{d d':DS}{l:List AV}{H1:zA}{m:Nat}{g:Nat->Nat}(h:Ct P f (.ptr 0 0::ys) (d.heap [.cells false l]) v H1)(hv:zBw v=true)(hys:AWs (emR d.fs.length) ys ys')(hl:zk l=true)
   (hat:DAt H1 d' 0 1 m g) (hne:d.fs.length+3∉0::1::m::(List.range d'.fs.length).map g) (hown:zBJ (H1.drop (d.fs.length+4))=true) (hlen:d.fs.length+4<=H1.length) :
   Ct P f (.ptr 0 0::ys') [.obj true d.blks,.cells false l] v [.obj true d'.blks,.cells false l]:=by
 have h0l:(d.heap [.cells false l]).length=d.fs.length+4:=by rw[DS.heap_length];simp
 obtain⟨n,hn⟩:∃n,d.fs.length=n:=⟨_,rfl⟩;rw[hn]at hys hne hown hlen h0l
 obtain⟨HO,hHO⟩:∃HO:zA,HO=d.cell0 2 3::.cells false l::.obj true d.fd.blks::.map (zP (fun i=>i+4) 0 d.fs)::zK d.fs:=⟨_,rfl⟩
 have hHOl:HO.length=n+4:=by rw[hHO];simp[hn]
 have hg0:∀i,i<n+4->∃x y,(d.heap [.cells false l])[i]? = some x/\HO[ggR n i]? = some y/\AWb (emR n) x y/\(i≠n+3->x.own=true):=by
   intro i hi;unfold ggR
   match i,hi with
   | 0,_ =>
     refine ⟨d.cell0 1 2,d.cell0 2 3,rfl,by rw[hHO];rfl,⟨id,⟨by rw[zCf];simp,rfl⟩,by simp[AW,zCf],⟨rfl,rfl⟩,⟨rfl,rfl⟩,⟨rfl,rfl⟩,rfl,trivial⟩,fun _=>rfl⟩
   | 1,_ =>
     rw[if_neg (by omega),if_pos (by omega),hHO]
     exact⟨_,_,rfl,rfl,⟨rfl,rfl⟩,fun _=>rfl⟩
   | 2,_ =>
     rw[if_neg (by omega),if_pos (by omega),hHO]
     refine ⟨_,_,rfl,rfl,zCD fun i hi=>?_,fun _=>rfl⟩
     rw[zCf,if_neg (by omega),if_pos (by omega)]
   | i+3,hi =>
     rw[if_neg (by omega)]
     by_cases h1:i<n
     · rw[if_pos (by omega),hHO]
       have he:=q3Z (l:=d.fs) (i:=i) (by omega)
       refine ⟨.obj true d.fs[i].2.blks,.obj true d.fs[i].2.blks,?_,?_,⟨rfl,rfl⟩,fun _=>rfl⟩
       · unfold DS.heap
         simp only[r9Z]
         rw[q4Z (by rw[zu];omega)]
         exact Zh he
       · simp only[r9Z]
         exact Zh he
     · have:i=n:=by omega
       subst this
       rw[if_neg (by omega),if_pos rfl,hHO]
       refine ⟨.cells false l,.cells false l,?_,rfl,⟨id,ZD l hl⟩,fun h=>absurd rfl h⟩
       unfold DS.heap;simp only[r9Z]
       rw[q5Z (by rw[zu];omega),zu,hn,Nat.sub_self]
       rfl
 have hem:∀i c,(emR n)[i]? = some c->i<n+4/\c=ggR n i:=by
   intro i c hc
   have hi:i<n+4:=by rw[<-zDt];exact (q1Z.1 hc).1
   refine ⟨hi,?_⟩;rw[zCf]at hc;unfold ggR
   repeat' split at hc
   all_goals simp_all
 have hfr:=zc (H:=HO) (args:=.ptr 0 0::ys') h (emR n) (zKS n) ⟨⟨by rw[zCf];simp,rfl⟩,hys⟩ (AWh.ofs _ _ (by rw[zDt,h0l]) fun i x c hx hc=>by
   obtain⟨hi,rfl⟩:=hem i c hc;obtain⟨x',y,h1,h2,h3,_⟩:=hg0 i hi
   rw[h1]at hx;cases hx
   exact⟨y,h2,h3⟩) (by rw[h0l];exact hown)
 rw[zEh _ hv,h0l,hHOl]at hfr;have hG:ZQ (emR n) (n+4)=ggR n:=funext (zSu n);rw[hG]at hfr;obtain⟨H2,hH2⟩:∃H2,zb (ggR n) HO (emR n) (d.heap [.cells false l]) H1++(H1.drop (n+4)).map (reB (ggR n))=H2:=⟨_,rfl⟩
 have hso:(zb (ggR n) HO (emR n) (d.heap [.cells false l]) H1).length=n+4:=by rw[zAH,hHOl]
 rw[hH2]at hfr
 have hemL:∀x∈emR n,x<HO.length:=by
   intro x hx;obtain⟨i,hi⟩:=List.getElem?_of_mem hx;obtain⟨h1,rfl⟩:=hem i x hi;obtain⟨_,y,_,h2,_⟩:=hg0 i h1;exact (q1Z.1 h2).1
 have hpt:∀c B,c≠n+3->H1[c]? = some B->H2[ggR n c]? = some (reB (ggR n) B):=by
   intro c B hc hB;rw[<-hH2];by_cases h1:c<n+4
   · obtain⟨x,y,g1,g2,g3,g4⟩:=hg0 c h1
     have hemc:(emR n)[c]? = some (ggR n c):=by
       obtain⟨e,he⟩:∃e,(emR n)[c]? = some e:=⟨_,q3Z (by rw[zDt];exact h1)⟩
       rw[he,(hem c e he).2]
     rw[q4Z (by rw[hso,<-hHOl];exact (q1Z.1 g2).1)]
     exact zC8 _ HO (emR n) _ H1 c _ x B (zKS n) hemL hemc g1 (g4 hc) hB
   · have e:ggR n c=c:=by unfold ggR;rw[if_neg (by omega),if_neg (by omega),if_neg (by omega)]
     rw[e,q5Z (by rw[hso];omega),hso,qzZ,r5Z,show n+4+(c-(n+4))=c by omega,hB]
     rfl
 have hrow:H2[1]? = some (.cells false l):=by
   rw[<-hH2,q4Z (by rw[hso];omega),zAY _ HO _ _ _ 1 fun i B h1 h2=>?_]
   · rw[hHO];rfl
   · obtain⟨hi,e⟩:=hem i 1 h1
     have:i=n+3:=by
       unfold ggR at e
       repeat' split at e
       all_goals omega
     subst this;unfold DS.heap at h2;simp only[r9Z]at h2
     rw[q5Z (by rw[zu];omega),zu,hn,Nat.sub_self]at h2
     cases h2;exact Bool.false_ne_true
 simp only[qwZ,not_or]at hne
 have hat2:DAt H2 d' (ggR n 0) (ggR n 1) (ggR n m) (fun i=>ggR n (g i)):=by
   refine ⟨?_,?_,?_,fun i e he=>?_,?_⟩
   · have:=hpt 0 _ (by omega) hat.c0
     rw[this];simp[DS.cell0,reB,ZY,reA]
   · exact hpt 1 _ (by omega) hat.fold
   · have:=hpt m _ (fun e=>hne.2.2.1 e.symm) hat.map
     rw[this];simp only[reB];rw[zEx]
   · refine hpt (g i) _ (fun e'=>hne.2.2.2 ?_) (hat.file i e he)
     exact reZ.2 ⟨i,List.mem_range.2 (q1Z.1 he).1,e'⟩
   · have:=hat.nd
     have h2:((0::1::m::(List.range d'.fs.length).map g).map (ggR n)).Nodup:=by
       rw[List.nodup_iff_pairwise_ne,List.pairwise_map]
       exact (List.nodup_iff_pairwise_ne.1 this).imp fun h e=>h (zHw n _ _ e)
     simpa[Function.comp_def] using h2
 refine zPD (zTp d l) (by rw[<-hHO];exact hfr) ?_ (by simp)
 have h2l:n+4<=H2.length:=by rw[<-hH2,qdZ,hso];omega
 refine Aft.closeAt hat2 (by simp;omega) ?_
 refine Aft.weak (Fn:=[v]) (Hn:=[.obj true d'.blks,.cells false l]) (Weak.mk' [0,1] (by decide) rfl ⟨zBm _ hv,trivial⟩ (zJ (b:=ggR n 0) (by rw[show ggR n 0=0 from rfl];omega) _ _ rfl fun i c x h1 h2=>?_)) (by simp;omega) (Aft.done (by simp) ⟨rfl,rfl⟩)
 match i,h1,h2 with
 | 0,h1,h2=>cases h1;cases h2;exact .inl ⟨rfl,rfl⟩
 | 1,h1,h2 =>
   cases h1;cases h2
   have g1:ggR n (n+3)=1:=by unfold ggR;rw[if_neg (by omega),if_neg (by omega),if_pos rfl]
   refine .inr ⟨⟨by rw[show ggR n 0=0 from rfl];omega,?_⟩,?_⟩
   · simp only[qwZ,not_or]
     refine ⟨fun e=>?_,fun e=>?_,fun e=>?_⟩
     · rw[<-g1]at e;have:=zHw n _ _ e;omega
     · rw[<-g1]at e;exact hne.2.2.1 (zHw n _ _ e)
     · obtain⟨i,hi,e⟩:=reZ.1 e
       rw[<-g1]at e;exact hne.2.2.2 (reZ.2 ⟨i,hi,zHw n _ _ e⟩)
   · rw[q2Z,hrow]
     exact⟨id,ZD l hl⟩
theorem zR0(e:DS)(y:ABlk)(T:zA)(v:AV)(hv:zBw v=true):Weak (e.fs.length+4) [v] (e.heap (y::T)) [v] (e.heap [.dead]):=by
 have hl:=e.blks_length
 refine Weak.mk' (List.range (e.fs.length+4)) List.nodup_range (by rw[q6Z (by simp)]) ⟨zBm _ hv,trivial⟩ (AWg.of _ _ (by rw[DS.heap_length];simp) fun i x b hx hb hlt=>?_)
 have hil:i<e.fs.length+4:=by
   have:=(q1Z.1 hx).1
   rw[DS.heap_length]at this;simpa using this
 rw[rfZ hil]at hb;cases hb;rw[DS.heap_eq]at hx;by_cases h:i<e.fs.length+3
 · rw[q4Z (by omega)]at hx
   rw[q2Z,DS.heap_eq,q4Z (by omega),hx]
   exact e.blks_id _ (fun i hi=>rfZ (by omega)) x (qcZ hx)
 · rw[q5Z (by omega),hl,show i-(e.fs.length+3)=0 by omega]at hx
   cases hx;trivial
theorem zQo(d:DS)(T:zA)(g:Nat->Nat)(hg:∀i,i<d.fs.length->g i=i+3):DAt (d.heap T) d 0 1 2 g:=by
 refine ⟨rfl,rfl,?_,fun i e he=>?_,?_⟩
 · unfold DS.heap
   simp only[r9Z,raZ]
   rw[zAU 0 d.fs fun i _ hi=>hg i (by omega)]
 · have hi:=(q1Z.1 he).1
   rw[hg i hi];unfold DS.heap;simp only[r9Z]
   rw[q4Z (by rw[zu];exact hi)]
   exact Zh he
 · have e:(List.range d.fs.length).map g=(List.range d.fs.length).map (·+3):=List.map_congr_left fun i hi=>hg i (List.mem_range.1 hi)
   rw[e,rdZ,rdZ,rdZ]
   refine ⟨fun h=>?_,fun h=>?_,fun h=>?_,?_⟩
   · rcases qwZ.1 h with h | h
     · omega
     rcases qwZ.1 h with h | h
     · omega
     · obtain⟨c,_,h⟩:=reZ.1 h;omega
   · rcases qwZ.1 h with h | h
     · omega
     · obtain⟨c,_,h⟩:=reZ.1 h;omega
   · obtain⟨c,_,h⟩:=reZ.1 h;omega
   · rw[List.nodup_iff_pairwise_ne,List.pairwise_map]
     exact (List.nodup_iff_pairwise_ne.1 List.nodup_range).imp fun h e=>h (by omega)
theorem zOO(d:DS){A B:Nat}(hok:d.ok A B)(hA:A<=999999)(hB:B<=1000000000000)(hq:d.quota<=1000000000000)(row:ABlk)(off m:Nat)(c:Bool)(k s:List UInt8)(hs:s.length<=9223372036854775807)
   (hj:∀H:zA,H[d.fs.length+3]? = some row->Ct Pz 31 [.sl (d.fs.length+3) off m 1 c,.str []] H (.str s) H) :
   Ct Pz 10 [.ptr 0 0,.str k,.sl (d.fs.length+3) off m 1 c] (d.heap [row]) (.int .i64 (d.append k s).2) ((d.append k s).1.heap [.dead]):=by
 have hc:=DS.ok_count hok;obtain⟨x,hx⟩:∃x:AV,x=.sl (d.fs.length+3) off m 1 c:=⟨_,rfl⟩;rw[<-hx]at hj ⊢;obtain⟨caps,hcaps⟩:∃caps:List AV,caps=[.ptr (d.fs.length+5) 0,.ptr (d.fs.length+4) 0]:=⟨_,rfl⟩
 have hat:∀(e:DS) (T:zA),e.fs.length=d.fs.length->(e.heap (row::T))[d.fs.length+3]? = some row:=fun e T h=>by
   rw[DS.heap_eq,q5Z (by rw[DS.blks_length];omega),DS.blks_length,h,Nat.sub_self];rfl
 have key:∃H1,Ct Pz 29 [.ptr 0 0,.str k,.func 30 [] caps] (d.heap [row,ZA,.cells true [x]]) (.int .i64 (d.append k s).2) H1/\(d.heap [row,ZA,.cells true [x]]).length<=H1.length/\(∃T3,H1=(d.append k s).1.heap T3/\3<=T3.length)/\(d.append k s).1.fs.length=d.fs.length:=by
   cases hg:d.fd.now.get k with
   | none =>
     exact zLO d hok hA [row,ZA,.cells true [x]] [row,ZA,.cells true [x],.dead,.dead,.dead] k _ caps _ (zE Tryz.func30 rfl (by decide)) (by decide) (by decide) (by simp) fun v f h=>by rw[hg]at h;cases h
   | some v =>
     obtain⟨f,hf,_⟩:=DS.has_file hok hg
     obtain⟨N,hN⟩:=zOT d.count hc (by omega) hB (by rw[DS.count_quota];exact hq) row x s [ZA,Zc k,zEQ 30 caps] hs (hj _ (hat _ _ (by rw[DS.count_fs]))) v f (by rw[DS.count_fs];exact hf)
     refine zLO d hok hA [row,ZA,.cells true [x]] (row::ZA::.cells true [x]::([ZA,Zc k,zEQ 30 caps]++N)) k _ caps _ (zE Tryz.func30 rfl (by decide)) (by decide) (by decide) (by simp) fun v' f' h h'=>?_
     rw[hg]at h;cases h
     rw[hf]at h';cases h'
     rw[DS.count_fs,<-hcaps]at hN;by_cases hr:d.count.room<s.length
     · rw[if_pos hr]at hN ⊢
       rw[if_pos hr]at hN;exact hN
     · rw[if_neg hr]at hN ⊢
       rw[if_neg hr]at hN;exact hN
 obtain⟨H1,hct,hl,⟨T3,hT3,hl3⟩,hfs⟩:=key
 have hΓ:=zB (ZH (zE Tryz.func29 rfl (by decide)) hct hl) zC
 have hfin:Weak (d.fs.length+4) [.int .i64 (d.append k s).2] H1 [.int .i64 (d.append k s).2] ((d.append k s).1.heap [.dead]):=by
   obtain⟨y,T4,rfl⟩:∃y T4,T3=y::T4:=by
     cases T3 with
     | nil=>simp at hl3
     | cons y T4=>exact⟨y,T4,rfl⟩
   rw[hT3,<-hfs];exact zR0 _ y T4 _ rfl
 refine zG Tryz.func10 rfl ?_;simp only[Tryz.ntmps10,q7Z,q8Z,Nat.reduceAdd,Nat.reduceSub,qbZ,q9Z,qaZ];rw[DS.heap_length]at hl ⊢;simp only[q7Z,q8Z,s8Z]at hl ⊢;clear hct hT3 hat hj;generalize d.append k s=R at hΓ hfin ⊢;generalize R.1.heap [.dead]=HF at hfin ⊢;generalize R.2=e at hΓ hfin ⊢;have hX:=behind d.fs;obtain⟨n,hn⟩:∃n,d.fs.length=n:=⟨_,rfl⟩;rw[hn]at hX hfin hcaps hl hx ⊢;have hXl:=hX.len;have hXg:=hX.get;have hXg0:=hX.get0;subst hcaps;subst hx;unfold DS.heap DS.cell0 ZA at hΓ;unfold DS.heap DS.cell0;obtain⟨X,eX⟩:∃X,zK d.fs=X:=⟨_,rfl⟩;rw[eX]at hXl hXg hXg0 hΓ ⊢
 rw[show n+1+3=n+4 by omega]
 refine Sim.step hmix hΓ (n:=0) (by simp[hXl];exact⟨rfl,rfl⟩) (by simp[hXl]) ?_
 refine Sim.exec hmix hΓ (n:=0) (by simp[hXl];exact⟨rfl,rfl,rfl⟩) (by simp[hXl]) ?_
 exact⟨.inr rfl,_,by simp[Tryz.f10] <;> rfl,hfin⟩
theorem zKI(d:DS){A B:Nat}(hok:d.ok A B)(hA:A<=999999)(hB:B<=1000000000000)(hq:d.quota<=1000000000000)(l:List AV)(hl:zk l=true)(off m:Nat)(c:Bool)(k s:List UInt8)(hs:s.length<=9223372036854775807)
   (hj:∀(H:zA) (b:Nat),H[b]? = some (.cells false l)->Ct Pz 31 [.sl b off m 1 c,.str []] H (.str s) H) :
   Ct Pz 10 [.ptr 0 0,.str k,.sl 1 off m 1 c] [.obj true d.blks,.cells false l] (.int .i64 (d.append k s).2) [.obj true (d.append k s).1.blks,.cells false l]:=by
 have hfs:(d.append k s).1.fs.length=d.fs.length:=by
   unfold DS.append;rw[zQm];unfold DS.step;split
   · rw[DS.count_fs]
   · rw[zQ0,DS.count_fs]
 refine zIA (zOO d hok hA hB hq (.cells false l) off m c k s hs (fun H h=>hj H _ h)) rfl ⟨rfl,?_,trivial⟩ hl (zQo _ _ (·+3) fun _ _=>rfl) ?_ ?_ (by rw[DS.heap_length,hfs];simp)
 · have:(emR d.fs.length)[d.fs.length+3]? = some 1:=by rw[zCf,if_neg (by omega),if_neg (by omega),if_pos rfl]
   exact⟨this,rfl,rfl,rfl,id⟩
 · rw[hfs]
   simp only[qwZ,reZ,List.mem_range,not_or]
   refine ⟨by omega,by omega,by omega,?_⟩
   rintro⟨c,hc,h⟩;omega
 · rw[List.drop_eq_nil_of_le (by rw[DS.heap_length,hfs];simp)];rfl
noncomputable def zWL:Gam:=zo [(15,zGw),(18,zFU)]
theorem zUa:GOk Pz zWL:=zB zHD (zB zD3 zC)
theorem zV5(q:Int)(hq:0<=q):Ct Pz 4 [.nils,.int .i64 q] [] (.ptr 0 0) [.obj true (DS.new q).blks]:=by
 have hΓ:=zUa
 have hq':¬q<0:=by omega
 refine zG Tryz.func4 rfl ?_;simp only[Tryz.ntmps4,q7Z,q8Z,Nat.reduceAdd,Nat.reduceSub,qbZ,q9Z,qaZ]
 refine Sim.step hmix hΓ (n:=0) (by simp;exact⟨rfl,rfl⟩) (by simp) ?_
 refine Sim.step hmix hΓ (n:=0) (by simp[hq'];exact⟨rfl,rfl⟩) (by simp) ?_
 refine Sim.step hmix hΓ (n:=0) (by simp[zWL,zGw];exact⟨rfl,rfl⟩) (by simp) ?_
 refine Sim.seq (Sim.step hmix hΓ (n:=0) (by simp;exact⟨rfl,rfl⟩) (by simp) ?_)
 refine Sim.exec hmix hΓ (n:=2) (by simp;exact⟨rfl,rfl,rfl⟩) (by simp) ?_
 dsimp only
 have hs:FD.new.acts.length<=1000000:=by decide
 have he:FD.new.survive FD.new.acts.length=FD.new:=rfl
 refine Sim.step hmix hΓ (n:=0) (by simp[zWL,zFU,hs,he];exact⟨rfl,rfl⟩) (by simp) ?_
 refine Sim.aft (Aft.closeAt (d:=DS.new q) (b:=2) (fo:=0) (m:=1) (g:=fun i=>i) ⟨rfl,rfl,rfl,fun i e h=>by simp[DS.new]at h,by simp[DS.new]⟩ (by simp) ?_)
 refine Aft.weak (Fn:=[.top,.top,.top,.top,.top,.ptr 0 0]++qbZ 44 .top) (Hn:=[.obj true (DS.new q).blks]) (Weak.mk' [2] (by decide) (by decide) (by simp) (zJ (b:=2) (by simp) _ _ rfl fun i c x h1 h2=>?_)) (by simp) (Aft.done (by simp) ?_)
 · match i,h1,h2 with
   | 0,h1,h2=>cases h1;cases h2;exact .inl ⟨rfl,rfl⟩
 refine Sim.exec hmix hΓ (n:=0) (by simp;exact⟨rfl,rfl,rfl⟩) (by simp) ?_
 exact⟨.inr rfl,_,by simp[Tryz.f4] <;> rfl,Weak.mk' [0] (by decide) (by decide) (by simp) (by simp[AWb])⟩
noncomputable def zW8:zU:=zD9 fun
 | [.nils,.int .i64 q]=>if 0<=q then some (.ptr 0 0,[.obj true (DS.new q).blks]) else none
 | _=>none
theorem zRJ:Sound Pz 4 zW8:=by
 refine zDD (zE Tryz.func4 rfl (by decide)) fun args v H' h=>?_
 split at h;rotate_left
 · cases h
 split at h <;> cases h
 rename_i hq;exact⟨zV5 _ hq,rfl,rfl⟩
theorem zVC(q:Int)(hq:0<=q):Ct Pz 6 [.int .i64 q] [] (.ptr 0 0) [.obj true (DS.new q).blks]:=by
 have hΓ:=zB zRJ zC;refine zG Tryz.func6 rfl ?_;simp only[Tryz.ntmps6,q7Z,q8Z,Nat.reduceAdd,Nat.reduceSub,qbZ,q9Z,qaZ]
 refine Sim.step hmix hΓ (n:=0) (by simp;exact⟨rfl,rfl⟩) (by simp) ?_
 refine Sim.exec hmix hΓ (n:=0) (by simp[zW8,zD9,hq];exact⟨rfl,rfl,rfl⟩) (by simp) ?_
 exact⟨.inr rfl,_,by simp[Tryz.f6] <;> rfl,Weak.mk' [0] (by decide) (by decide) (by simp) (by simp[AWb])⟩
theorem zVc(d:DS)(m:Int):Ct Pz 56 [.ptr 0 0,.int .i64 m] (d.heap []) (.tuple []) ((d.arm m).heap []):=by
 refine zR Tryz.func56 rfl ?_;simp only[Tryz.ntmps56,q7Z,q8Z,Nat.reduceAdd,Nat.reduceSub,qbZ,q9Z,qaZ];unfold DS.heap DS.cell0 DS.arm;obtain⟨k,hk⟩:∃k,max 0 m=k:=⟨_,rfl⟩;rw[hk]
 refine Sim.step hmix zC (n:=0) (by simp;exact⟨rfl,rfl⟩) (by simp) ?_
 refine Sim.exec hmix zC (n:=0) (by simp +decide [-ZK,zAk,hk];exact⟨rfl,rfl,rfl⟩) (by simp) ?_
 exact⟨.inl rfl,by simp[Tryz.f56],by simp⟩
theorem zSl(d:DS):Ct Pz 69 [.ptr 0 0] (d.heap []) (.bool d.down) (d.heap []):=by
 refine zR Tryz.func69 rfl ?_;simp only[Tryz.ntmps69,q7Z,q8Z,Nat.reduceAdd,Nat.reduceSub,qbZ,q9Z,qaZ];unfold DS.heap DS.cell0
 refine Sim.step hmix zC (n:=0) (by simp;exact⟨rfl,rfl⟩) (by simp) ?_
 refine Sim.exec hmix zC (n:=0) (by simp +decide;exact⟨rfl,rfl,rfl⟩) (by simp) ?_
 exact⟨.inr rfl,by simp[Tryz.f69],by simp⟩
theorem zAZ{f:FuncId}{d d':DS}{xs:List AV}{v:AV}(h:Ct Pz f (.ptr 0 0::xs) (d.heap []) v (d'.heap []))(hv:zBw v=true):Ct Pz f (.ptr 0 0::xs) [.obj true d.blks] v [.obj true d'.blks]:=by
 rw[DS.heap_eq,DS.heap_eq,r2Z]at h
 refine zBN h (by simp[DS.blks]) ?_
 have:=Aft.closeDS d' (T:=[]) (Tn:=[]) (v:=v) (v':=v) [] (by decide) rfl (zBm _ hv) (fun i t x h=>by simp at h)
 exact this
end
section
open Go Go.Lib
def zAD(g:Nat->Nat):Nat->Nat->List AV
 | _,0=>[]
 | k,n+1=>.ptr (g k) 0::zAD g (k+1) n
@[simp] theorem zCZ(g:Nat->Nat):∀(n k:Nat),(zAD g k n).length=n
 | 0,_=>rfl
 | n+1,k=>by simp[zAD,zCZ g n (k+1)]
theorem zQ3(g:Nat->Nat):∀(n k i:Nat),i<n->(zAD g k n)[i]? = some (.ptr (g (k+i)) 0)
 | n+1,k,0,_=>rfl
 | n+1,k,i+1,h=>by
   simp only[zAD,r9Z,zQ3 g n (k+1) i (by omega)]
   rw[show k+1+i=k+(i+1) by omega]
theorem zGe(g:Nat->Nat):∀(n k:Nat),zAD g k (n+1)=zAD g k n++[.ptr (g (k+n)) 0]
 | 0,k=>rfl
 | n+1,k=>by
   rw[zAD,zGe g n (k+1),zAD];simp only[q9Z]
   rw[show k+1+n=k+(n+1) by omega]
theorem zBU{g g':Nat->Nat}:∀(n k:Nat),(∀i,k<=i->i<k+n->g i=g' i)->zAD g k n=zAD g' k n
 | 0,_,_=>rfl
 | n+1,k,h=>by
   simp only[zAD]
   rw[h k (qnZ _) (by omega),zBU n (k+1) fun i h1 h2=>h i (by omega) (by omega)]
theorem zF9(rn:List Nat)(g g':Nat->Nat):∀(n k:Nat),(∀i,k<=i->i<k+n->rn[g i]? = some (g' i))->AWs rn (zAD g k n) (zAD g' k n)
 | 0,_,_=>trivial
 | n+1,k,h=>⟨by simp[AW,h k (qnZ _) (by omega)],zF9 rn g g' n (k+1) fun i h1 h2=>h i (by omega) (by omega)⟩
theorem zEz(h g:Nat->Nat):∀(n k:Nat),ZY h (zAD g k n)=zAD (fun i=>h (g i)) k n
 | 0,_=>rfl
 | n+1,k=>by simp only[zAD,ZY,reA,zEz h g n (k+1)]
theorem zD6(g:Nat->Nat):∀(n k:Nat),(zAD g k n).all zm=true
 | 0,_=>rfl
 | n+1,k=>by have:=zD6 g n (k+1);simp only[zAD,List.all_cons,this,zm,Bool.and_true]
def Z9(l:List PF):zA:=l.map fun f=>.obj true f.rblks
@[simp] theorem zE3(l:List PF):(Z9 l).length=l.length:=by simp[Z9]
theorem zDi{l:List PF}{i:Nat}{f:PF}(h:l[i]? = some f):(Z9 l)[i]? = some (.obj true f.rblks):=by simp[Z9,h]
def RS.cell0(r:RS)(x:AV)(fo:Nat):ABlk:=.cells true [.ptr fo 0,x,.int .i64 r.room,.int .i64 r.steps,.int .i64 r.left,.bool r.down]
def RS.blks(r:RS):zA:=r.cell0 (.sl 2 0 r.F.length 1 false) 1::.obj true r.dir.blks::.cells true (zAD (fun i=>i+3) 0 r.F.length)::Z9 r.F
theorem RS.blks_length(r:RS):r.blks.length=r.F.length+3:=by simp[RS.blks]
structure RAt (H:zA) (r:RS) (x:AV) (b fo m:Nat) (g:Nat->Nat):Prop where
 c0:H[b]? = some (r.cell0 x fo)
 hx:x=.sl m 0 r.F.length 1 false\/∃c,x=.slice m 0 r.F.length 1 c
 fold:H[fo]? = some (.obj true r.dir.blks)
 row:H[m]? = some (.cells true (zAD g 0 r.F.length))
 file:∀(i:Nat) f,r.F[i]? = some f->H[g i]? = some (.obj true f.rblks)
 nd:(b::fo::m::(List.range r.F.length).map g).Nodup
theorem RAt.awg{H:zA}{r:RS}{x:AV}{b fo m:Nat}{g:Nat->Nat}(h:RAt H r x b fo m g)(rn:List Nat)(hr:∀i,i<r.F.length+3->rn[i]? = (b::fo::m::(List.range r.F.length).map g)[i]?) :
   AWg rn H r.blks (b::fo::m::(List.range r.F.length).map g):=by
 refine AWg.of _ _ (by simp[RS.blks]) fun i y c hy hc hlt=>?_
 have hil:i<r.F.length+3:=by rw[<-RS.blks_length];exact (q1Z.1 hy).1
 rw[q2Z]
 match i,hy,hc with
 | 0,hy,hc =>
   cases hy;cases hc
   rw[h.c0]
   have h1:=hr 1 (by omega)
   have h2:=hr 2 (by omega)
   simp only[r9Z,raZ]at h1 h2
   rcases h.hx with e | ⟨c,e⟩ <;> rw[e] <;> exact⟨id,by simp[AWs,AW,h1,h2]⟩
 | 1,hy,hc =>
   cases hy;cases hc
   rw[h.fold];exact⟨rfl,rfl⟩
 | 2,hy,hc =>
   cases hy;cases hc
   rw[h.row]
   refine ⟨id,zF9 _ _ _ _ _ fun i _ hi=>?_⟩
   rw[hr (i+3) (by omega)]
   simp only[r9Z,qzZ]
   rw[rfZ (by omega)];rfl
 | i+3,hy,hc =>
   simp only[RS.blks,r9Z]at hy hc;rw[qzZ]at hc
   have hi:i<r.F.length:=by omega
   rw[rfZ hi]at hc;cases hc;have hw:=q3Z hi;rw[zDi hw]at hy;cases hy;rw[h.file i _ hw];exact⟨rfl,rfl⟩
theorem RS.blks_at(r:RS):RAt r.blks r (.sl 2 0 r.F.length 1 false) 0 1 2 (fun i=>i+3):=by
 refine ⟨rfl,.inl rfl,rfl,rfl,fun i f h=>?_,?_⟩
 · simp only[RS.blks,r9Z]
   exact zDi h
 · rw[rdZ,rdZ,rdZ]
   refine ⟨fun h=>?_,fun h=>?_,fun h=>?_,?_⟩
   · rcases qwZ.1 h with h | h
     · omega
     rcases qwZ.1 h with h | h
     · omega
     · obtain⟨a,_,h⟩:=reZ.1 h;omega
   · rcases qwZ.1 h with h | h
     · omega
     · obtain⟨a,_,h⟩:=reZ.1 h;omega
   · obtain⟨a,_,h⟩:=reZ.1 h;omega
   · rw[List.nodup_iff_pairwise_ne,List.pairwise_map]
     exact (List.nodup_iff_pairwise_ne.1 List.nodup_range).imp fun h e=>h (by omega)
section
variable {H:zA} {r:RS} {x:AV} {b fo m:Nat} {g:Nat->Nat}
theorem RAt.ne(h:RAt H r x b fo m g):fo≠b/\m≠b/\fo≠m/\(∀i,i<r.F.length->g i≠b/\g i≠fo/\g i≠m)/\∀i k,i<r.F.length->k<r.F.length->g i=g k->i=k:=by
 have h0:=h.nd;rw[rdZ,rdZ,rdZ]at h0;obtain⟨h1,h2,h3,h4⟩:=h0;simp only[qwZ,reZ,List.mem_range,not_or,not_exists,not_and]at h1 h2 h3
 refine ⟨fun e=>h1.1 e.symm,fun e=>h1.2.1 e.symm,h2.1,fun i hi=>⟨h1.2.2 i hi,h2.2 i hi,h3 i hi⟩,fun i k hi hk e=>?_⟩
 rw[List.nodup_iff_pairwise_ne,List.pairwise_map]at h4;rcases Nat.lt_trichotomy i k with hl | hl | hl
 · have:=List.pairwise_iff_getElem.1 h4 i k (by simpa using hi) (by simpa using hk) hl
   simp only[List.getElem_range]at this;exact absurd e this
 · exact hl
 · have:=List.pairwise_iff_getElem.1 h4 k i (by simpa using hk) (by simpa using hi) hl
   simp only[List.getElem_range]at this;exact absurd e.symm this
theorem RAt.c0set(h:RAt H r x b fo m g)(s l:Int)(w:Bool):RAt (H.set b ((⟨r.dir,r.F,r.room,s,l,w⟩:RS).cell0 x fo)) ⟨r.dir,r.F,r.room,s,l,w⟩ x b fo m g:=by
 obtain⟨n1,n2,_,n4,_⟩:=h.ne;have hl:b<H.length:=(q1Z.1 h.c0).1
 refine ⟨by rw[List.getElem?_set,if_pos rfl,if_pos hl],h.hx,by rw[qfZ (Ne.symm n1)];exact h.fold,by rw[qfZ (Ne.symm n2)];exact h.row,fun i f hf=>?_,h.nd⟩
 rw[qfZ (Ne.symm (n4 i (q1Z.1 hf).1).1)];exact h.file i f hf
theorem RAt.dirset(h:RAt H r x b fo m g)(d:RF):RAt (H.set fo (.obj true d.blks)) ⟨d,r.F,r.room,r.steps,r.left,r.down⟩ x b fo m g:=by
 obtain⟨n1,_,n3,n4,_⟩:=h.ne;have hl:fo<H.length:=(q1Z.1 h.fold).1
 refine ⟨by rw[qfZ n1];exact h.c0,h.hx,by rw[List.getElem?_set,if_pos rfl,if_pos hl],by rw[qfZ n3];exact h.row,fun i f hf=>?_,h.nd⟩
 rw[qfZ (Ne.symm (n4 i (q1Z.1 hf).1).2.1)];exact h.file i f hf
theorem RAt.fileset(h:RAt H r x b fo m g){i:Nat}(hi:i<r.F.length)(f:PF):RAt (H.set (g i) (.obj true f.rblks)) ⟨r.dir,r.F.set i f,r.room,r.steps,r.left,r.down⟩ x b fo m g:=by
 obtain⟨n1,n2,n3,n4,n5⟩:=h.ne;have hf0:=h.file i _ (q3Z hi);have hl:g i<H.length:=(q1Z.1 hf0).1;obtain⟨k1,k2,k3⟩:=n4 i hi
 refine ⟨by rw[qfZ k1];exact h.c0,by simpa using h.hx,by rw[qfZ k2];exact h.fold,by dsimp only;rw[r8Z,qfZ k3];exact h.row,fun j f' hj=>?_,by simpa using h.nd⟩
 dsimp only at hj;rw[List.getElem?_set]at hj;split at hj
 · rename_i e
   subst e;cases hj;rw[List.getElem?_set,if_pos rfl,if_pos hl]
 · rename_i e
   have hjl:=(q1Z.1 hj).1
   rw[qfZ fun e'=>e (n5 i j hi hjl e')]
   exact h.file j f' hj
theorem RAt.app(h:RAt H r x b fo m g)(T:zA):RAt (H++T) r x b fo m g:=by
 have key:∀(q:Nat) y,H[q]? = some y->(H++T)[q]? = some y:=fun q y hb=>by rw[q4Z (q1Z.1 hb).1];exact hb
 exact⟨key _ _ h.c0,h.hx,key _ _ h.fold,key _ _ h.row,fun i f hf=>key _ _ (h.file i f hf),h.nd⟩
theorem RAt.close(h:RAt H r x 0 fo m g){n0:Nat}{F:List AV}(Fn:List AV){K:List AV->zA->Prop}(hF:AWs [0] Fn F)(hk:K Fn [.obj true r.blks])(h01:n0<=1:=by decide):Aft n0 F H K:=by
 have hbl:0<H.length:=(q1Z.1 h.c0).1
 refine Aft.close (o:=true) (b:=0) (sub:=r.blks) (rs:=0::fo::m::(List.range r.F.length).map g) (ks:=fo::m::(List.range r.F.length).map g) rfl h.nd hbl ?_ (h.awg _ fun _ _=>rfl) ⟨_,rfl,rfl⟩ ?_ (by omega) ?_
 · intro c y hc hcb _ _
   exact (qwZ.1 hc).resolve_left hcb
 · intro i y hy hd
   have hm:=qcZ hy;simp only[RS.blks,RS.cell0,qwZ]at hm;rcases hm with rfl | rfl | rfl | hm
   · rfl
   · rfl
   · rfl
   · obtain⟨e,_,rfl⟩:=reZ.1 hm
     rfl
 · refine Aft.weak (Fn:=Fn) (Hn:=[.obj true r.blks]) (Weak.mk' [0] (by decide) (by match n0,h01 with | 0,_=>rfl | 1,_=>rfl) hF (zJ (b:=0) hbl _ _ rfl fun i c x h1 h2=>?_)) (by simp;omega) (Aft.done (by simp;omega) hk)
   match i,h1,h2 with
   | 0,h1,h2=>cases h1;cases h2;exact .inl ⟨rfl,rfl⟩
theorem RAt.close2(h:RAt H r x 0 fo m g){o:Bool}{l:List AV}(h1:H[1]? = some (.cells o l))(hl:∀rn,AWs rn l l)(hf:fo≠1)(hm:m≠1)(hg:∀i,i<r.F.length->g i≠1){F:List AV}(Fn:List AV){K:List AV->zA->Prop}(hF:AWs [0,1] Fn F)
   (hk:K Fn [.obj true r.blks,.cells o l]):Aft 2 F H K:=by
 have hbl:0<H.length:=(q1Z.1 h.c0).1;have hbl1:1<H.length:=(q1Z.1 h1).1
 refine Aft.close (o:=true) (b:=0) (sub:=r.blks) (rs:=0::fo::m::(List.range r.F.length).map g) (ks:=fo::m::(List.range r.F.length).map g) rfl h.nd hbl ?_ (h.awg _ fun _ _=>rfl) ⟨_,rfl,rfl⟩ ?_ hbl1 ?_
 · intro c y hc hcb _ _
   exact (qwZ.1 hc).resolve_left hcb
 · intro i y hy hd
   have hm:=qcZ hy;simp only[RS.blks,RS.cell0,qwZ]at hm;rcases hm with rfl | rfl | rfl | hm
   · rfl
   · rfl
   · rfl
   · obtain⟨e,_,rfl⟩:=reZ.1 hm
     rfl
 · refine Aft.weak (Fn:=Fn) (Hn:=[.obj true r.blks,.cells o l]) (Weak.mk' [0,1] (by decide) rfl hF (zJ (b:=0) hbl _ _ rfl fun i c y e1 e2=>?_)) (by simp;omega) (Aft.done (by simp) hk)
   match i,e1,e2 with
   | 0,e1,e2=>cases e1;cases e2;exact .inl ⟨rfl,rfl⟩
   | 1,e1,e2 =>
     cases e1;cases e2
     refine .inr ⟨⟨by decide,fun hc=>?_⟩,by rw[q2Z,h1];exact⟨id,hl _⟩⟩
     rcases qwZ.1 hc with e | hc
     · exact hf e.symm
     rcases qwZ.1 hc with e | hc
     · exact hm e.symm
     · obtain⟨a,ha,e⟩:=reZ.1 hc
       exact hg a (List.mem_range.1 ha) e
end
theorem zDk(r:RS):zX [.obj true r.blks] 0 r.blks=r.blks:=by
 have hg:∀i,Zf 0 1 i=i:=fun i=>by unfold Zf;split <;> omega
 unfold zX;simp only[RS.blks,q7Z,q8Z,List.getD_cons_zero,s9Z,List.drop_succ_cons,List.drop_zero,q9Z,qaZ,s8Z]
 rw[zBr hg,List.map_congr_left (fun B _=>zBr hg B)]
 simp
theorem zNg(r:RS)(o:Bool)(l:List AV):RAt (zX [.obj true r.blks,.cells o l] 0 r.blks) r (.sl 3 0 r.F.length 1 false) 0 2 3 (fun i=>i+4)/\(zX [.obj true r.blks,.cells o l] 0 r.blks)[1]? = some (.cells o l):=by
 have e:zX [.obj true r.blks,.cells o l] 0 r.blks=r.cell0 (.sl 3 0 r.F.length 1 false) 2::.cells o l::.obj true r.dir.blks::.cells true (zAD (fun i=>i+4) 0 r.F.length)::Z9 r.F:=by
   unfold zX;simp only[RS.blks,RS.cell0,q7Z,q8Z,List.getD_cons_zero,s9Z,List.drop_succ_cons,List.drop_zero,q9Z,qaZ,s8Z,Nat.reduceAdd,s1Z,reB,ZY,reA,Zf,zEz];simp only[Z9,List.map_map]
   rw[zBU (g':=fun i=>i+4) _ _ fun i _ _=>by rw[if_neg (by omega)];omega]
   simp[Function.comp_def,reB]
 rw[e]
 refine ⟨⟨rfl,.inl rfl,rfl,rfl,fun i f h=>?_,?_⟩,rfl⟩
 · simp only[r9Z]
   exact zDi h
 · rw[rdZ,rdZ,rdZ]
   refine ⟨fun h=>?_,fun h=>?_,fun h=>?_,?_⟩
   · rcases qwZ.1 h with h | h
     · omega
     rcases qwZ.1 h with h | h
     · omega
     · obtain⟨a,_,h⟩:=reZ.1 h;omega
   · rcases qwZ.1 h with h | h
     · omega
     · obtain⟨a,_,h⟩:=reZ.1 h;omega
   · obtain⟨a,_,h⟩:=reZ.1 h;omega
   · rw[List.nodup_iff_pairwise_ne,List.pairwise_map]
     exact (List.nodup_iff_pairwise_ne.1 List.nodup_range).imp fun h e=>h (by omega)
noncomputable def zDQ(sub:zA):Option RS:=open Classical in if h:∃r:RS,sub=r.blks then some h.choose else none
theorem zAJ{sub:zA}{r:RS}(h:zDQ sub=some r):sub=r.blks:=by
 unfold zDQ at h;split at h
 · rename_i hx
   cases h;exact hx.choose_spec
 · cases h
theorem zIP:∀{l m:List PF},Z9 l=Z9 m->l=m
 | [],[],_=>rfl
 | [],_::_,h=>by simp[Z9]at h
 | _::_,[],h=>by simp[Z9]at h
 | a::l,b::m,h=>by
   simp only[Z9,s1Z,List.cons.injEq,ABlk.obj.injEq,true_and]at h;have h3:=congrArg zD5 h.1;rw[zHJ,zHJ]at h3;rw[Option.some.inj h3,zIP (l:=l) (m:=m) h.2]
theorem zOV{r s:RS}(h:r.blks=s.blks):r=s:=by
 obtain⟨d,f,q,s1,a,w⟩:=r;obtain⟨d',f',q',s',a',w'⟩:=s;simp only[RS.blks,RS.cell0,List.cons.injEq,ABlk.cells.injEq,ABlk.obj.injEq,AV.int.injEq,AV.bool.injEq,true_and,and_true]at h;obtain⟨⟨_,h1,h2,h3,h4⟩,h5,_,h7⟩:=h;rw[h1,h2,h3,h4,zJB h5,zIP h7]
@[simp] theorem zRm(r:RS):zDQ r.blks=some r:=by
 unfold zDQ;have h:∃s:RS,r.blks=s.blks:=⟨r,rfl⟩;rw[dif_pos h];exact congrArg some (zOV h.choose_spec).symm
end
section
open Go Go.Lib
attribute [-simp] zN zr ZI zT ZL
def zCl(l:Int)(w:Bool):Int×Bool:=if 0<l/\w=false then (l-1,decide (l-1=0)) else (l,w)
theorem RS.count_eq(r:RS):r.count=⟨r.dir,r.F,r.room,r.steps+1,(zCl r.left r.down).1,(zCl r.left r.down).2⟩:=by
 unfold RS.count zCl;split <;> rfl
theorem zT1(x0 x1 x2:AV)(s l:Int)(w:Bool)(rest:zA)(hs:0<=s/\s<=4611686018427387903)(hl:0<=l/\l<=4611686018427387903) :
   Ct Pz 100 [.ptr 0 0] (.cells true [x0,x1,x2,.int .i64 s,.int .i64 l,.bool w]::rest) (.bool (!(zCl l w).2)) (.cells true [x0,x1,x2,.int .i64 (s+1),.int .i64 (zCl l w).1,.bool (zCl l w).2]::rest):=by
 have hΓ:GOk Pz (zo []):=zC
 have w1:IntKind.i64.wrap (s+1)=s+1:=zV (by omega) (by omega)
 refine zR Tryz.func100 rfl ?_;simp only[Tryz.ntmps100,q7Z,q8Z,Nat.reduceAdd,Nat.reduceSub,qbZ,q9Z,qaZ]
 refine Sim.step hmix hΓ (n:=0) (by simp;exact⟨rfl,rfl⟩) (by simp) ?_
 refine Sim.step hmix hΓ (n:=0) (by simp[w1];exact⟨rfl,rfl⟩) (by simp) ?_
 unfold zCl;by_cases h1:0<l
 · cases w with
   | true =>
     rw[if_neg (by simp)]
     refine Sim.exec hmix hΓ (n:=0) (by simp[h1];exact⟨rfl,rfl,rfl⟩) (by simp) ?_
     exact⟨.inr rfl,by simp[Tryz.f100],rfl⟩
   | false =>
     rw[if_pos ⟨h1,rfl⟩]
     have w2:IntKind.i64.wrap (l-1)=l-1:=zV (by omega) (by omega)
     obtain⟨l',hl'⟩:∃x,l-1=x:=⟨_,rfl⟩;rw[hl']at w2 ⊢;by_cases h2:l'=0
     · subst h2
       refine Sim.exec hmix hΓ (n:=0) (by simp[h1,hl',w2];exact⟨rfl,rfl,rfl⟩) (by simp) ?_
       exact⟨.inr rfl,by simp[Tryz.f100],rfl⟩
     · have h3:(l'==0)=false:=beq_eq_false_iff_ne.2 h2
       refine Sim.exec hmix hΓ (n:=0) (by simp[h1,h2,h3,hl',w2];exact⟨rfl,rfl,rfl⟩) (by simp) ?_
       exact⟨.inr rfl,by simp[Tryz.f100,h2],by simp[h2]⟩
 · rw[if_neg (fun h=>h1 h.1)]
   refine Sim.exec hmix hΓ (n:=0) (by simp[h1];exact⟨rfl,rfl,rfl⟩) (by simp) ?_
   exact⟨.inr rfl,by simp[Tryz.f100],rfl⟩
def zIg:zU:=fun args H=>match args with
 | [.ptr 0 0]=>match H[(0:Nat)]? with
   | some (.cells true [x0,x1,x2,.int .i64 s,.int .i64 l,.bool w])=>if (0<=s/\s<=4611686018427387903)/\(0<=l/\l<=4611686018427387903) then
       some (.bool (!(zCl l w).2),H.set 0 (.cells true [x0,x1,x2,.int .i64 (s+1),.int .i64 (zCl l w).1,.bool (zCl l w).2]),[0]) else none
   | _=>none
 | _=>none
theorem zMS:Sound Pz 100 zIg:=by
 refine ⟨zE Tryz.func100 rfl (by decide),fun args H v H' W hs=>?_,fun args H v H' W hs=>?_⟩ <;> (unfold zIg at hs;split at hs <;> try cases hs) <;> (split at hs <;> try cases hs) <;> (rename_i h0;split at hs <;> cases hs;rename_i hc)
 · cases H with
   | nil=>cases h0
   | cons B rest =>
     cases h0;exact zT1 _ _ _ _ _ _ rest hc.1 hc.2
 · exact⟨by simp,fun c hc hn=>by rw[qfZ (fun e=>hn (by simp[e]))]⟩
theorem RAt.step{H:zA}{r:RS}{x:AV}{fo m:Nat}{g:Nat->Nat}(h:RAt H r x 0 fo m g)(h1:0<=r.steps/\r.steps<=4611686018427387903)(h2:0<=r.left/\r.left<=4611686018427387903) :
   zIg [.ptr 0 0] H=some (.bool (!r.count.down),H.set 0 (r.count.cell0 x fo),[0]):=by
 have h0:=h.c0;unfold RS.cell0 at h0;simp only[zIg,h0]
 rw[if_pos ⟨h1,h2⟩,RS.count_eq];rfl
theorem RAt.count{H:zA}{r:RS}{x:AV}{fo m:Nat}{g:Nat->Nat}(h:RAt H r x 0 fo m g):RAt (H.set 0 (r.count.cell0 x fo)) r.count x 0 fo m g:=by
 rw[RS.count_eq];exact h.c0set _ _ _
theorem RS.ok_count{r:RS}{A B:Nat}(h:r.ok A B):r.count.ok (A+1) B:=by
 have h1:=h.s0;have h2:=h.s1;have h3:=h.a0;have h4:=h.a1
 have hd:r.dir.ok (A+1):=⟨h.dir.ne,by have:=h.dir.len;omega,fun W hW=>Nat.le_trans (h.dir.row W hW) (by omega),h.dir.lo,by have:=h.dir.hi;omega⟩
 unfold RS.count;split
 · exact⟨hd,h.flen,h.fine,h.has,h.q0,h.q1,by dsimp only;omega,by dsimp only;omega,by dsimp only;omega,by dsimp only;omega⟩
 · exact⟨hd,h.flen,h.fine,h.has,h.q0,h.q1,by dsimp only;omega,by dsimp only;omega,h3,h4⟩
theorem RF.ok_mono{r:RF}{A B:Nat}(h:r.ok A)(hab:A<=B):r.ok B:=⟨h.ne,by have:=h.len;omega,fun W hW=>Nat.le_trans (h.row W hW) hab,h.lo,by have:=h.hi;omega⟩
noncomputable def zSx:Gam:=zo [(76,zLe)]
theorem zRe:GOk Pz zSx:=zB zL8 zC
def zJG(dir:RF)(g:Nat->Nat)(k:List UInt8):AV:=match NM.get dir.now k with
 | some z=>.ptr (g (z-1).toNat) 0
 | none=>.nilp
theorem zEG{H:zA}{r:RS}{fo m:Nat}{g:Nat->Nat}{c:Bool}(h:RAt H r (.sl m 0 r.F.length 1 c) 0 fo m g){A B:Nat}(hok:r.ok A B)(hA:A<=1000000)(k:List UInt8) :
   Ct Pz 103 [.ptr 0 0,.str k] H (zJG r.dir g k) H:=by
 have hΓ:=zRe;have h0:=h.c0;have h1:=h.fold;have h2:=h.row;unfold RS.cell0 at h0;have hdo:r.dir.ok 1000000:=RF.ok_mono hok.dir hA
 have hset:H.set fo (.obj true r.dir.blks)=H:=by
   obtain⟨a,b⟩:=q1Z.1 h1;rw[<-b,List.set_getElem_self]
 have hFA:r.F.length<=1000000:=by have:=hok.flen;have:=hok.dir.hi;omega
 refine zR Tryz.func103 rfl ?_;simp only[Tryz.ntmps103,q7Z,q8Z,Nat.reduceAdd,Nat.reduceSub,qbZ,q9Z,qaZ]
 refine Sim.step hmix hΓ (n:=0) (by simp;exact⟨rfl,rfl⟩) (by simp) ?_
 unfold zJG
 cases hg:NM.get r.dir.now k with
 | none =>
   have hfv:Zw r.dir.now k=.tuple [.int .i64 0,.bool false]:=by unfold Zw;rw[hg]
   refine Sim.step hmix hΓ (n:=0) (by simp[zSx,zLe,h0,h1,hdo,hset,hfv];exact⟨rfl,rfl⟩) (by simp) ?_
   refine Sim.exec hmix hΓ (n:=0) (by simp;exact⟨rfl,rfl,rfl⟩) (by simp) ?_
   exact⟨.inr rfl,by simp[Tryz.f103],rfl⟩
 | some z =>
   have hfv:Zw r.dir.now k=.tuple [.int .i64 z,.bool true]:=by unfold Zw;rw[hg]
   obtain⟨z1,z2⟩:=hok.hasN k z hg
   obtain⟨i,hi⟩:∃i:Nat,z=i+1:=⟨(z-1).toNat,by omega⟩
   subst hi
   have hiF:i<r.F.length:=by omega
   have e1:=zQ3 g r.F.length 0 i hiF;rw[s8Z]at e1;have e2:=zCZ g r.F.length 0;obtain⟨R,hR⟩:∃R,zAD g 0 r.F.length=R:=⟨_,rfl⟩;rw[hR]at e1 e2 h2;obtain⟨n,hn⟩:∃n,r.F.length=n:=⟨_,rfl⟩;rw[hn]at h0 hiF e2 hFA
   have e3:∀h,R[i]'h=.ptr (g i) 0:=fun h=>(q1Z.1 e1).2
   have w1:IntKind.i64.wrap ((i:Int)+1-1)=i:=by rw[show (i:Int)+1-1=i by omega];exact zV (by omega) (by omega)
   have w2:IntKind.i64.wrap (i:Int)=i:=zV (by omega) (by omega)
   have i1:i<R.length:=by omega
   have i2:(i:Int)<n:=by omega
   have hzt:((i:Int)+1-1).toNat=i:=by omega
   dsimp only;rw[hzt]
   refine Sim.step hmix hΓ (n:=0) (by simp[zSx,zLe,h0,h1,hdo,hset,hfv];exact⟨rfl,rfl⟩) (by simp) ?_
   refine Sim.step hmix hΓ (n:=0) (by simp;exact⟨rfl,rfl⟩) (by simp) ?_
   refine Sim.exec hmix hΓ (n:=0) (by simp[h0,h2,e1,e2,e3,w1,w2,i1,i2,hiF];exact⟨rfl,rfl,rfl⟩) (by simp) ?_
   exact⟨.inr rfl,by simp[Tryz.f103],rfl⟩
theorem zKE{H:zA}{b:Nat}{x:ABlk}(h:H[b]? = some x):H.set b x=H:=by
 obtain⟨h1,h2⟩:=q1Z.1 h;rw[<-h2,List.set_getElem_self]
noncomputable def zPq:zU:=open Classical in Zl fun args H=>match args with
 | [.ptr b 0]=>match H[b]? with
   | some (.obj true sub)=>match zIW sub with
     | some f=>if f.ok 1000000 then some (.int .i64 ((f.was.length-1:Nat):Int)) else none
     | none=>none
   | _=>none
 | _=>none
theorem zL1:Sound Pz 81 zPq:=by
 refine zBQ (zE Tryz.func81 rfl (by decide)) fun args H v h=>?_
 split at h <;> try cases h
 split at h <;> try cases h
 rename_i b _ sub hb
 split at h <;> try cases h
 rename_i f hf
 split at h <;> cases h
 rename_i hk;rw[zDj hf]at hb;have:=zY (zVr (zTh f hk (qnZ _)) rfl) rfl rfl hb
 rwa [zKE hb]at this
noncomputable def zAb:Gam:=zo [(100,zIg),(19,zI7),(111,zQA),(114,zPy),(81,zPq),(20,zFh),(104,zSh),(107,zO1)]
theorem zCN:GOk Pz zAb:=zB zMS (zB zG3 (zB zNV (zB zNY (zB zL1 (zB zEJ (zB zPV (zB zL4 zC)))))))
theorem zOy{H:zA}{r:RS}{fo m:Nat}{g:Nat->Nat}{c:Bool}(h:RAt H r (.sl m 0 r.F.length 1 c) 0 fo m g){A B:Nat}(hok:r.ok A B)(hA:A<=1000000)(k:List UInt8) :
   GOk Pz (zo [(103,zCy [.ptr 0 0,.str k] H (zJG r.dir g k) H)]) :=
 zB (ZH (zE Tryz.func103 rfl (by decide)) (zEG h hok hA k) (qnZ _)) zC
theorem zAN{r:RS}{A B:Nat}(hok:r.ok A B){k:List UInt8}{z:Int}(hk:NM.get r.dir.now k=some z)(g:Nat->Nat):∃i f,(z-1).toNat=i/\i<r.F.length/\r.F[i]? = some f/\f.ok B/\zJG r.dir g k=.ptr (g i) 0:=by
 obtain⟨h1,h2⟩:=hok.hasN k z hk;obtain⟨i,hi⟩:∃i,(z-1).toNat=i:=⟨_,rfl⟩
 have hl:i<r.F.length:=by omega
 refine ⟨i,r.F[i],hi,hl,q3Z hl,hok.fine _ (r3Z hl),?_⟩;unfold zJG;rw[hk];show AV.ptr (g (z-1).toNat) 0=_;rw[hi]
theorem zCI{r:RS}{k:List UInt8}(hk:NM.get r.dir.now k=none)(g:Nat->Nat):zJG r.dir g k=.nilp:=by
 unfold zJG;rw[hk]
theorem zJp(r:RS){A B:Nat}(hok:r.ok A B)(hA:A<=900000)(hB:B<=1000000000000)(k:List UInt8)(n:Int) :
   Ct Pz 43 [.ptr 0 0,.str k,.int .i64 n] [.obj true r.blks] (.int .i64 (r.truncate k n).2) [.obj true (r.truncate k n).1.blks]:=by
 have hΓ:=zCN;refine zG Tryz.func43 rfl ?_;simp only[Tryz.ntmps43,q7Z,q8Z,Nat.reduceAdd,Nat.reduceSub,qbZ,q9Z,qaZ]
 refine Sim.aft (Aft.open (b:=0) rfl (by simp) (Aft.done (by simp[zX]) ?_))
 rw[zDk];have ha:=r.blks_at
 have hlen:1<=r.blks.length:=by rw[RS.blks_length];omega
 obtain⟨H,hH⟩:∃H,r.blks=H:=⟨_,rfl⟩;rw[hH]at ha hlen ⊢
 have hst:=ha.step ⟨hok.s0,by have:=hok.s1;omega⟩ ⟨hok.a0,hok.a1⟩
 have ha2:=ha.count;have hok2:=RS.ok_count hok
 rw[show r.F=r.count.F from (RS.count_F r).symm]at hst ha2
 unfold RS.truncate RS.of RS.step;obtain⟨q,hq⟩:∃q,r.count=q:=⟨_,rfl⟩;rw[hq]at hst ha2 hok2 ⊢;obtain⟨H2,hH2⟩:∃X,H.set 0 (q.cell0 (.sl 2 0 q.F.length 1 false) 1)=X:=⟨_,rfl⟩
 have hlen2:1<=H2.length:=by rw[<-hH2,r8Z];exact hlen
 rw[hH2]at hst ha2
 have hdo:q.dir.ok 1000000:=RF.ok_mono hok2.dir (by omega)
 have h0:=ha2.c0;unfold RS.cell0 at h0;have h1:=ha2.fold;clear hH2 hH hq
 refine Sim.step hmix hΓ (n:=0) (by simp;exact⟨rfl,rfl⟩) (by simp[hlen] <;> omega) ?_
 cases hd:q.down with
 | true =>
   rw[hd]at hst;simp only[Bool.not_true]at hst;rw[if_pos rfl]
   refine Sim.after (Sim.exec hmix hΓ (n:=0) (by simp[zAb,hst];exact⟨rfl,rfl,rfl⟩) (by simp[hlen] <;> omega) ?_)
   exact ha2.close ([.top,.top,.top,.top,.top,.top,.int .i64 13]++qbZ 12 .top) (by simp[AWs,AW]) ⟨.inr rfl,_,by simp[Tryz.f43] <;> rfl,Weak.mk' [0] (by decide) rfl (by simp) (by simp[AWb])⟩
 | false =>
   rw[hd]at hst;simp only[Bool.not_false]at hst
   rw[if_neg (by simp)]
   dsimp only
   refine Sim.step hmix hΓ (n:=0) (by simp[zAb,hst];exact⟨rfl,rfl⟩) (by simp[hlen] <;> omega) ?_
   have hΓf:=zOy ha2 hok2 (by omega) k
   cases hk:NM.get q.dir.now k with
   | none =>
     rw[zCI hk]at hΓf
     refine Sim.step hmix hΓf (n:=0) (by simp[zCs];exact⟨rfl,rfl⟩) (by omega) ?_
     refine Sim.after (Sim.exec hmix hΓ (n:=0) (by simp;exact⟨rfl,rfl,rfl⟩) (by omega) ?_)
     exact ha2.close ([.top,.top,.top,.top,.top,.top,.int .i64 9]++qbZ 12 .top) (by simp[AWs,AW]) ⟨.inr rfl,_,by simp[Tryz.f43] <;> rfl,Weak.mk' [0] (by decide) rfl (by simp) (by simp[AWb])⟩
   | some z =>
     obtain⟨i,f,e1,e2,e3,e4,e5⟩:=zAN hok2 hk (fun i=>i+3)
     have e6:=ha2.file i f e3;have e7:f.small:=PF.ok_mono e4 hB;rw[e5]at hΓf
     try dsimp only
     rw[e1,e3]
     try dsimp only
     have e8:=ha2.fileset e2 (f.cut n).1
     try dsimp only at e8
     refine Sim.step hmix hΓf (n:=0) (by simp[zCs];exact⟨rfl,rfl⟩) (by omega) ?_
     refine Sim.step hmix hΓ (n:=0) (by simp;exact⟨rfl,rfl⟩) (by omega) ?_
     refine Sim.after (Sim.exec hmix hΓ (n:=0) (by simp[zAb,zSh,e6,e7];exact⟨rfl,rfl,rfl⟩) (by omega) ?_)
     exact e8.close ([.top,.top,.top,.top,.top,.top,.int .i64 (f.cut n).2]++qbZ 12 .top) (by simp[AWs,AW]) ⟨.inr rfl,_,by simp[Tryz.f43] <;> rfl,Weak.mk' [0] (by decide) rfl (by simp) (by simp[AWb])⟩
theorem zRA(r:RS){A B:Nat}(hok:r.ok A B)(hA:A<=900000)(hB:B<=1000000000000)(k:List UInt8) :
   Ct Pz 45 [.ptr 0 0,.str k] [.obj true r.blks] (.int .i64 (r.sync k).2) [.obj true (r.sync k).1.blks]:=by
 have hΓ:=zCN;refine zG Tryz.func45 rfl ?_;simp only[Tryz.ntmps45,q7Z,q8Z,Nat.reduceAdd,Nat.reduceSub,qbZ,q9Z,qaZ]
 refine Sim.aft (Aft.open (b:=0) rfl (by simp) (Aft.done (by simp[zX]) ?_))
 rw[zDk];have ha:=r.blks_at
 have hlen:1<=r.blks.length:=by rw[RS.blks_length];omega
 obtain⟨H,hH⟩:∃H,r.blks=H:=⟨_,rfl⟩;rw[hH]at ha hlen ⊢
 have hst:=ha.step ⟨hok.s0,by have:=hok.s1;omega⟩ ⟨hok.a0,hok.a1⟩
 have ha2:=ha.count;have hok2:=RS.ok_count hok
 rw[show r.F=r.count.F from (RS.count_F r).symm]at hst ha2
 unfold RS.sync RS.of RS.step;obtain⟨q,hq⟩:∃q,r.count=q:=⟨_,rfl⟩;rw[hq]at hst ha2 hok2 ⊢;obtain⟨H2,hH2⟩:∃X,H.set 0 (q.cell0 (.sl 2 0 q.F.length 1 false) 1)=X:=⟨_,rfl⟩
 have hlen2:1<=H2.length:=by rw[<-hH2,r8Z];exact hlen
 rw[hH2]at hst ha2
 have hdo:q.dir.ok 1000000:=RF.ok_mono hok2.dir (by omega)
 have h0:=ha2.c0;unfold RS.cell0 at h0;have h1:=ha2.fold;clear hH2 hH hq
 refine Sim.step hmix hΓ (n:=0) (by simp;exact⟨rfl,rfl⟩) (by simp[hlen] <;> omega) ?_
 cases hd:q.down with
 | true =>
   rw[hd]at hst;simp only[Bool.not_true]at hst;rw[if_pos rfl]
   refine Sim.after (Sim.exec hmix hΓ (n:=0) (by simp[zAb,hst];exact⟨rfl,rfl,rfl⟩) (by simp[hlen] <;> omega) ?_)
   exact ha2.close ([.top,.top,.top,.top,.int .i64 13]++qbZ 11 .top) (by simp[AWs,AW]) ⟨.inr rfl,_,by simp[Tryz.f45] <;> rfl,Weak.mk' [0] (by decide) rfl (by simp) (by simp[AWb])⟩
 | false =>
   rw[hd]at hst;simp only[Bool.not_false]at hst
   rw[if_neg (by simp)]
   dsimp only
   refine Sim.step hmix hΓ (n:=0) (by simp[zAb,hst];exact⟨rfl,rfl⟩) (by simp[hlen] <;> omega) ?_
   have hΓf:=zOy ha2 hok2 (by omega) k
   cases hk:NM.get q.dir.now k with
   | none =>
     rw[zCI hk]at hΓf
     refine Sim.step hmix hΓf (n:=0) (by simp[zCs];exact⟨rfl,rfl⟩) (by omega) ?_
     refine Sim.after (Sim.exec hmix hΓ (n:=0) (by simp;exact⟨rfl,rfl,rfl⟩) (by omega) ?_)
     exact ha2.close ([.top,.top,.top,.top,.int .i64 9]++qbZ 11 .top) (by simp[AWs,AW]) ⟨.inr rfl,_,by simp[Tryz.f45] <;> rfl,Weak.mk' [0] (by decide) rfl (by simp) (by simp[AWb])⟩
   | some z =>
     obtain⟨i,f,e1,e2,e3,e4,e5⟩:=zAN hok2 hk (fun i=>i+3)
     have e6:=ha2.file i f e3;have e7:f.small:=PF.ok_mono e4 hB;rw[e5]at hΓf
     try dsimp only
     rw[e1,e3]
     try dsimp only
     have e8:=ha2.fileset e2 ⟨f.now,[]⟩
     try dsimp only at e8
     refine Sim.step hmix hΓf (n:=0) (by simp[zCs];exact⟨rfl,rfl⟩) (by omega) ?_
     refine Sim.step hmix hΓ (n:=0) (by simp;exact⟨rfl,rfl⟩) (by omega) ?_
     refine Sim.after (Sim.exec hmix hΓ (n:=0) (by simp[zAb,zO1,e6,e7];exact⟨rfl,rfl,rfl⟩) (by omega) ?_)
     exact e8.close ([.top,.top,.top,.top,.int .i64 0]++qbZ 11 .top) (by simp[AWs,AW]) ⟨.inr rfl,_,by simp[Tryz.f45] <;> rfl,Weak.mk' [0] (by decide) rfl (by simp) (by simp[AWb])⟩
theorem zLR(r:RS){A B:Nat}(hok:r.ok A B)(hA:A<=900000) :
   Ct Pz 47 [.ptr 0 0] [.obj true r.blks] (.int .i64 (r.syncDir).2) [.obj true (r.syncDir).1.blks]:=by
 have hΓ:=zCN;refine zG Tryz.func47 rfl ?_;simp only[Tryz.ntmps47,q7Z,q8Z,Nat.reduceAdd,Nat.reduceSub,qbZ,q9Z,qaZ]
 refine Sim.aft (Aft.open (b:=0) rfl (by simp) (Aft.done (by simp[zX]) ?_))
 rw[zDk];have ha:=r.blks_at
 have hlen:1<=r.blks.length:=by rw[RS.blks_length];omega
 obtain⟨H,hH⟩:∃H,r.blks=H:=⟨_,rfl⟩;rw[hH]at ha hlen ⊢
 have hst:=ha.step ⟨hok.s0,by have:=hok.s1;omega⟩ ⟨hok.a0,hok.a1⟩
 have ha2:=ha.count;have hok2:=RS.ok_count hok
 rw[show r.F=r.count.F from (RS.count_F r).symm]at hst ha2
 unfold RS.syncDir RS.step;obtain⟨q,hq⟩:∃q,r.count=q:=⟨_,rfl⟩;rw[hq]at hst ha2 hok2 ⊢;obtain⟨H2,hH2⟩:∃X,H.set 0 (q.cell0 (.sl 2 0 q.F.length 1 false) 1)=X:=⟨_,rfl⟩
 have hlen2:1<=H2.length:=by rw[<-hH2,r8Z];exact hlen
 rw[hH2]at hst ha2
 have hdo:q.dir.ok 1000000:=RF.ok_mono hok2.dir (by omega)
 have h0:=ha2.c0;unfold RS.cell0 at h0;have h1:=ha2.fold;clear hH2 hH hq
 refine Sim.step hmix hΓ (n:=0) (by simp;exact⟨rfl,rfl⟩) (by simp[hlen] <;> omega) ?_
 cases hd:q.down with
 | true =>
   rw[hd]at hst;simp only[Bool.not_true]at hst;rw[if_pos rfl]
   refine Sim.after (Sim.exec hmix hΓ (n:=0) (by simp[zAb,hst];exact⟨rfl,rfl,rfl⟩) (by simp[hlen] <;> omega) ?_)
   exact ha2.close ([.top,.top,.int .i64 13]++qbZ 13 .top) (by simp[AWs,AW]) ⟨.inr rfl,_,by simp[Tryz.f47] <;> rfl,Weak.mk' [0] (by decide) rfl (by simp) (by simp[AWb])⟩
 | false =>
   rw[hd]at hst;simp only[Bool.not_false]at hst
   rw[if_neg (by simp)]
   dsimp only
   refine Sim.step hmix hΓ (n:=0) (by simp[zAb,hst];exact⟨rfl,rfl⟩) (by simp[hlen] <;> omega) ?_
   obtain⟨p,hp⟩:∃p:Nat,q.dir.was.length-1=p:=⟨_,rfl⟩
   have hpl:(p:Int)<=9223372036854775807:=by have:=hdo.len;omega
   have hpl0:(-9223372036854775808:Int)<=p:=by omega
   rw[hp]
   refine Sim.seq (Sim.draw hmix (by omega) ?_)
   refine SimR.many hΓ 9 (by simp[zI];rfl) (by omega) (by kernel_rfl) (by simp +decide [zAb,zPq,Zl,h0,h1,hdo,hp];first | exact⟨rfl,rfl⟩ | exact⟨by kernel_rfl,rfl,rfl⟩) ?_
   refine SimR.one hΓ _ rfl (by kernel_rfl) (by simp +decide [zAb,zFh,h1,hdo,hpl,hpl0];exact⟨rfl,rfl⟩) ?_
   refine SimR.done rfl ?_;dsimp only
   refine Sim.after (Sim.exec hmix hΓ (n:=0) (by simp;exact⟨rfl,rfl,rfl⟩) (by simp <;> omega) ?_)
   exact (ha2.dirset (q.dir.survive p)).close ([.top,.top,.int .i64 0]++qbZ 13 .top) (by simp[AWs,AW]) ⟨.inr rfl,_,by simp[Tryz.f47] <;> rfl,Weak.mk' [0] (by decide) rfl (by simp) (by simp[AWb])⟩
theorem zM4(r:RS){A B:Nat}(hok:r.ok A B)(hA:A<=900000)(a b:List UInt8)(hb:b.length<=9223372036854775807) :
   Ct Pz 49 [.ptr 0 0,.str a,.str b] [.obj true r.blks] (.int .i64 (r.rename a b).2) [.obj true (r.rename a b).1.blks]:=by
 have hΓ:=zCN;refine zG Tryz.func49 rfl ?_;simp only[Tryz.ntmps49,q7Z,q8Z,Nat.reduceAdd,Nat.reduceSub,qbZ,q9Z,qaZ]
 refine Sim.aft (Aft.open (b:=0) rfl (by simp) (Aft.done (by simp[zX]) ?_))
 rw[zDk];have ha:=r.blks_at
 have hlen:1<=r.blks.length:=by rw[RS.blks_length];omega
 obtain⟨H,hH⟩:∃H,r.blks=H:=⟨_,rfl⟩;rw[hH]at ha hlen ⊢
 have hst:=ha.step ⟨hok.s0,by have:=hok.s1;omega⟩ ⟨hok.a0,hok.a1⟩
 have ha2:=ha.count;have hok2:=RS.ok_count hok
 rw[show r.F=r.count.F from (RS.count_F r).symm]at hst ha2
 unfold RS.rename RS.step;obtain⟨q,hq⟩:∃q,r.count=q:=⟨_,rfl⟩;rw[hq]at hst ha2 hok2 ⊢;obtain⟨H2,hH2⟩:∃X,H.set 0 (q.cell0 (.sl 2 0 q.F.length 1 false) 1)=X:=⟨_,rfl⟩
 have hlen2:1<=H2.length:=by rw[<-hH2,r8Z];exact hlen
 rw[hH2]at hst ha2
 have hdo:q.dir.ok 1000000:=RF.ok_mono hok2.dir (by omega)
 have h0:=ha2.c0;unfold RS.cell0 at h0;have h1:=ha2.fold;clear hH2 hH hq
 refine Sim.step hmix hΓ (n:=0) (by simp;exact⟨rfl,rfl⟩) (by simp[hlen] <;> omega) ?_
 cases hd:q.down with
 | true =>
   rw[hd]at hst;simp only[Bool.not_true]at hst;rw[if_pos rfl]
   refine Sim.after (Sim.exec hmix hΓ (n:=0) (by simp[zAb,hst];exact⟨rfl,rfl,rfl⟩) (by simp[hlen] <;> omega) ?_)
   exact ha2.close ([.top,.top,.top,.top,.top,.top,.int .i64 13]++qbZ 10 .top) (by simp[AWs,AW]) ⟨.inr rfl,_,by simp[Tryz.f49] <;> rfl,Weak.mk' [0] (by decide) rfl (by simp) (by simp[AWb])⟩
 | false =>
   rw[hd]at hst;simp only[Bool.not_false]at hst
   rw[if_neg (by simp)]
   dsimp only
   refine Sim.step hmix hΓ (n:=0) (by simp[zAb,hst];exact⟨rfl,rfl⟩) (by simp[hlen] <;> omega) ?_
   refine Sim.after (Sim.exec hmix hΓ (n:=0) (by simp[zAb,zQA,h0,h1,hdo,hb];exact⟨rfl,rfl,rfl⟩) (by omega) ?_)
   exact (ha2.dirset (q.dir.rename a b).1).close ([.top,.top,.top,.top,.top,.top,.int .i64 (q.dir.rename a b).2]++qbZ 10 .top) (by simp[AWs,AW]) ⟨.inr rfl,_,by simp[Tryz.f49] <;> rfl,Weak.mk' [0] (by decide) rfl (by simp) (by simp[AWb])⟩
theorem zMk(r:RS){A B:Nat}(hok:r.ok A B)(hA:A<=900000)(a:List UInt8) :
   Ct Pz 51 [.ptr 0 0,.str a] [.obj true r.blks] (.int .i64 (r.remove a).2) [.obj true (r.remove a).1.blks]:=by
 have hΓ:=zCN;refine zG Tryz.func51 rfl ?_;simp only[Tryz.ntmps51,q7Z,q8Z,Nat.reduceAdd,Nat.reduceSub,qbZ,q9Z,qaZ]
 refine Sim.aft (Aft.open (b:=0) rfl (by simp) (Aft.done (by simp[zX]) ?_))
 rw[zDk];have ha:=r.blks_at
 have hlen:1<=r.blks.length:=by rw[RS.blks_length];omega
 obtain⟨H,hH⟩:∃H,r.blks=H:=⟨_,rfl⟩;rw[hH]at ha hlen ⊢
 have hst:=ha.step ⟨hok.s0,by have:=hok.s1;omega⟩ ⟨hok.a0,hok.a1⟩
 have ha2:=ha.count;have hok2:=RS.ok_count hok
 rw[show r.F=r.count.F from (RS.count_F r).symm]at hst ha2
 unfold RS.remove RS.step;obtain⟨q,hq⟩:∃q,r.count=q:=⟨_,rfl⟩;rw[hq]at hst ha2 hok2 ⊢;obtain⟨H2,hH2⟩:∃X,H.set 0 (q.cell0 (.sl 2 0 q.F.length 1 false) 1)=X:=⟨_,rfl⟩
 have hlen2:1<=H2.length:=by rw[<-hH2,r8Z];exact hlen
 rw[hH2]at hst ha2
 have hdo:q.dir.ok 1000000:=RF.ok_mono hok2.dir (by omega)
 have h0:=ha2.c0;unfold RS.cell0 at h0;have h1:=ha2.fold;clear hH2 hH hq
 refine Sim.step hmix hΓ (n:=0) (by simp;exact⟨rfl,rfl⟩) (by simp[hlen] <;> omega) ?_
 cases hd:q.down with
 | true =>
   rw[hd]at hst;simp only[Bool.not_true]at hst;rw[if_pos rfl]
   refine Sim.after (Sim.exec hmix hΓ (n:=0) (by simp[zAb,hst];exact⟨rfl,rfl,rfl⟩) (by simp[hlen] <;> omega) ?_)
   exact ha2.close ([.top,.top,.top,.top,.int .i64 13]++qbZ 9 .top) (by simp[AWs,AW]) ⟨.inr rfl,_,by simp[Tryz.f51] <;> rfl,Weak.mk' [0] (by decide) rfl (by simp) (by simp[AWb])⟩
 | false =>
   rw[hd]at hst;simp only[Bool.not_false]at hst
   rw[if_neg (by simp)]
   dsimp only
   refine Sim.step hmix hΓ (n:=0) (by simp[zAb,hst];exact⟨rfl,rfl⟩) (by simp[hlen] <;> omega) ?_
   refine Sim.after (Sim.exec hmix hΓ (n:=0) (by simp[zAb,zPy,h0,h1,hdo];exact⟨rfl,rfl,rfl⟩) (by omega) ?_)
   exact (ha2.dirset (q.dir.remove a).1).close ([.top,.top,.top,.top,.int .i64 (q.dir.remove a).2]++qbZ 9 .top) (by simp[AWs,AW]) ⟨.inr rfl,_,by simp[Tryz.f51] <;> rfl,Weak.mk' [0] (by decide) rfl (by simp) (by simp[AWb])⟩
theorem zTm(r:RS)(n:Int):Ct Pz 57 [.ptr 0 0,.int .i64 n] [.obj true r.blks] (.tuple []) [.obj true (r.arm n).blks]:=by
 refine zG Tryz.func57 rfl ?_;simp only[Tryz.ntmps57,q7Z,q8Z,Nat.reduceAdd,Nat.reduceSub,qbZ,q9Z,qaZ]
 refine Sim.aft (Aft.open (b:=0) rfl (by simp) (Aft.done (by simp[zX]) ?_))
 rw[zDk];have ha:=r.blks_at
 have hlen:1<=r.blks.length:=by rw[RS.blks_length];omega
 obtain⟨H,hH⟩:∃H,r.blks=H:=⟨_,rfl⟩;rw[hH]at ha hlen ⊢;have h0:=ha.c0;unfold RS.cell0 at h0;have ha2:=ha.c0set r.steps (max 0 n) r.down;obtain⟨y,hy⟩:∃y,max 0 n=y:=⟨_,rfl⟩;unfold RS.arm;rw[hy]at ha2 ⊢
 refine Sim.after (Sim.exec hmix zC (n:=0) (by simp[-ZK,zAk,h0,hy];exact⟨rfl,rfl,rfl⟩) (by omega) ?_)
 exact ha2.close (qbZ 9 .top) (by simp[AWs,AW]) ⟨.inl rfl,_,by simp[Tryz.f57] <;> rfl,Weak.mk' [0] (by decide) rfl (by simp) (by simp[AWb])⟩
theorem RAt.more{H H5:zA}{r:RS}{x y:AV}{fo m m' q:Nat}{g:Nat->Nat}(h:RAt H r x 0 fo m g)(f:PF)(h0:H5[0]? = some (r.cell0 y fo))(hy:y=.sl m' 0 (r.F.length+1) 1 false\/∃c,y=.slice m' 0 (r.F.length+1) 1 c)
   (hrow:H5[m']? = some (.cells true (zAD g 0 r.F.length++[.ptr q 0]))) (hq:H5[q]? = some (.obj true f.rblks)) (hold:∀b,b<H.length->b≠0->H5[b]? = H[b]?) (hm:H.length<=m') (hql:H.length<=q) (hmq:m'≠q) :
   RAt H5 ⟨r.dir,r.F++[f],r.room,r.steps,r.left,r.down⟩ y 0 fo m' (fun i=>if i<r.F.length then g i else q):=by
 obtain⟨n1,n2,n3,n4,n5⟩:=h.ne;have lf:fo<H.length:=(q1Z.1 h.fold).1;have l0:0<H.length:=(q1Z.1 h.c0).1
 have lg:∀i,i<r.F.length->g i<H.length:=fun i hi=>(q1Z.1 (h.file i _ (q3Z hi))).1
 refine ⟨h0,by simpa using hy,by rw[hold fo lf n1];exact h.fold,?_,fun i f' hf=>?_,?_⟩
 · dsimp only
   rw[hrow,qdZ];simp only[q7Z,q8Z,s8Z]
   rw[zGe,zBU (g':=g) _ _ fun i _ hi=>if_pos (by omega)]
   simp
 · dsimp only at hf ⊢
   rcases Nat.lt_trichotomy i r.F.length with h1 | h1 | h1
   · rw[q4Z h1]at hf
     rw[if_pos h1,hold _ (lg i h1) (n4 i h1).1];exact h.file i f' hf
   · subst h1
     rw[q5Z (qnZ _),Nat.sub_self]at hf;cases hf;rw[if_neg (rnZ _)];exact hq
   · rw[s4Z (by simp;omega)]at hf;cases hf
 · dsimp only
   have hg:∀a,a<(r.F++[f]).length->a<r.F.length/\(if a<r.F.length then g a else q)=g a\/a=r.F.length/\(if a<r.F.length then g a else q)=q:=fun a ha=>by
     simp at ha;by_cases h:a<r.F.length
     · exact .inl ⟨h,if_pos h⟩
     · exact .inr ⟨by omega,if_neg h⟩
   rw[rdZ,rdZ,rdZ]
   refine ⟨fun h=>?_,fun h=>?_,fun h=>?_,?_⟩
   · rcases qwZ.1 h with h | h
     · omega
     rcases qwZ.1 h with h | h
     · omega
     · obtain⟨a,ha,h⟩:=reZ.1 h
       rcases hg a (List.mem_range.1 ha) with⟨h2,e⟩ | ⟨_,e⟩
       · have:=(n4 a h2).1;omega
       · omega
   · rcases qwZ.1 h with h | h
     · omega
     · obtain⟨a,ha,h⟩:=reZ.1 h
       rcases hg a (List.mem_range.1 ha) with⟨h2,e⟩ | ⟨_,e⟩
       · have:=(n4 a h2).2.1;omega
       · omega
   · obtain⟨a,ha,h⟩:=reZ.1 h
     rcases hg a (List.mem_range.1 ha) with⟨h2,e⟩ | ⟨_,e⟩
     · have:=lg a h2;omega
     · omega
   · rw[List.nodup_iff_pairwise_ne,List.pairwise_map,List.pairwise_iff_getElem]
     intro a b ha hb hab;simp only[List.length_range]at ha hb;simp only[List.getElem_range]
     rcases hg a ha with⟨ha2,e⟩ | ⟨_,e⟩ <;> rcases hg b hb with⟨hb2,f⟩ | ⟨_,f⟩
     · rw[e,f];intro h';have:=n5 a b ha2 hb2 h';omega
     · rw[e,f];have:=lg a ha2;omega
     · omega
     · omega
theorem RAt.new{H:zA}{r:RS}{x:AV}{fo m:Nat}{g:Nat->Nat}(h:RAt H r x 0 fo m g){L:Nat}(hL:H.length=L)(y:AV)(T:zA)(j jm:Nat){d:List UInt8}(hj:T[j]? = some (.cells true [.str d,.nils]))
   (hjm:T[jm]? = some (.cells true (zAD g 0 r.F.length++[.ptr (L+j) 0]))) (hne:j≠jm) (hy:y=.sl (L+jm) 0 (r.F.length+1) 1 false\/∃c,y=.slice (L+jm) 0 (r.F.length+1) 1 c) {F:List AV} {K:List AV->zA->Prop}
   (hk:∀H5,RAt H5 ⟨r.dir,r.F++[⟨d,[]⟩],r.room,r.steps,r.left,r.down⟩ y 0 fo (L+jm) (fun i=>if i<r.F.length then g i else L+j)->H5.length=L+T.length->(∀b,b<L+T.length->b≠0->b≠L+j->H5[b]? = (H++T)[b]?)->Aft 1 F H5 K):Aft 1 F (H.set 0 (r.cell0 y fo)++T) K:=by
 have l0:0<H.length:=(q1Z.1 h.c0).1
 have hBX:=ZC (H.set 0 (r.cell0 y fo)) (n:=L) (by rw[r8Z,hL])
 have lj:j<T.length:=(q1Z.1 hj).1;have ljm:jm<T.length:=(q1Z.1 hjm).1
 have e1:∀b,b≠L+j->(zi (H.set 0 (r.cell0 y fo)++T) (L+j) [L+T.length] true (⟨d,[]⟩:PF).rblks)[b]? = if b=L+T.length then (zi (H.set 0 (r.cell0 y fo)++T) (L+j) [L+T.length] true (⟨d,[]⟩:PF).rblks)[b]? else (H.set 0 (r.cell0 y fo)++T)[b]?:=fun b hb=>by
   split
   · rfl
   · rename_i hn
     unfold zi
     rw[qfZ (Ne.symm hb),zAf _ _ _ (by simpa using hn)]
 refine Aft.closeR ⟨d,[]⟩ (L+j) (L+T.length) (x:=.nils) (by rw[hBX.get];exact hj) (by simp[AW]) (fun hlt=>by simp[hL]at hlt) (by omega) (by simp;omega) ?_
 refine hk _ (h.more ⟨d,[]⟩ ?_ hy ?_ ?_ (fun b hb hb0=>?_) (by omega) (by omega) (by omega)) (by simp[hL]) fun b hb hb0 hbj=>?_
 · rw[e1 0 (by omega),if_neg (by omega),q4Z (by rw[r8Z];exact l0),List.getElem?_set,if_pos rfl,if_pos l0]
 · rw[e1 _ (by omega),if_neg (by omega),hBX.get];exact hjm
 · unfold zi
   rw[List.getElem?_set,if_pos rfl,if_pos (by rw[ZN];simp;omega)]
 · rw[e1 b (by omega),if_neg (by omega),q4Z (by rw[r8Z];exact hb),qfZ (Ne.symm hb0)]
 · rw[e1 b hbj,if_neg (by omega)]
   rcases s2Z b L with hbL | hbL
   · rw[q4Z (by rw[r8Z];omega),qfZ (Ne.symm hb0),q4Z (by omega)]
   · rw[q5Z (by rw[r8Z];omega),q5Z (by omega),r8Z]
theorem zN5(r:RS){A B:Nat}(hok:r.ok A B)(hA:A<=900000)(k:List UInt8)(hkl:k.length<=9223372036854775807) :
   Ct Pz 40 [.ptr 0 0,.str k] [.obj true r.blks] (.int .i64 (r.create k).2) [.obj true (r.create k).1.blks]:=by
 have hΓ:=zCN;refine zG Tryz.func40 rfl ?_;simp only[Tryz.ntmps40,q7Z,q8Z,Nat.reduceAdd,Nat.reduceSub,qbZ,q9Z,qaZ]
 refine Sim.aft (Aft.open (b:=0) rfl (by simp) (Aft.done (by simp[zX]) ?_))
 rw[zDk];have ha:=r.blks_at
 have hlen:1<=r.blks.length:=by rw[RS.blks_length];omega
 obtain⟨H,hH⟩:∃H,r.blks=H:=⟨_,rfl⟩;rw[hH]at ha hlen ⊢
 have hst:=ha.step ⟨hok.s0,by have:=hok.s1;omega⟩ ⟨hok.a0,hok.a1⟩
 have ha2:=ha.count;have hok2:=RS.ok_count hok
 rw[show r.F=r.count.F from (RS.count_F r).symm]at hst ha2
 unfold RS.create RS.step;obtain⟨q,hq⟩:∃q,r.count=q:=⟨_,rfl⟩;rw[hq]at hst ha2 hok2 ⊢;obtain⟨H2,hH2⟩:∃X,H.set 0 (q.cell0 (.sl 2 0 q.F.length 1 false) 1)=X:=⟨_,rfl⟩
 have hlen2:1<=H2.length:=by rw[<-hH2,r8Z];exact hlen
 rw[hH2]at hst ha2
 have hdo:q.dir.ok 1000000:=RF.ok_mono hok2.dir (by omega)
 have h0:=ha2.c0;unfold RS.cell0 at h0;have h1:=ha2.fold;clear hH2 hH hq
 refine Sim.step hmix hΓ (n:=0) (by simp;exact⟨rfl,rfl⟩) (by simp[hlen] <;> omega) ?_
 cases hd:q.down with
 | true =>
   rw[hd]at hst;simp only[Bool.not_true]at hst;rw[if_pos rfl]
   refine Sim.after (Sim.exec hmix hΓ (n:=0) (by simp[zAb,hst];exact⟨rfl,rfl,rfl⟩) (by simp[hlen] <;> omega) ?_)
   exact ha2.close ([.top,.top,.top,.top,.int .i64 13]++qbZ 30 .top) (by simp[AWs,AW]) ⟨.inr rfl,_,by simp[Tryz.f40] <;> rfl,Weak.mk' [0] (by decide) rfl (by simp) (by simp[AWb])⟩
 | false =>
   rw[hd]at hst;simp only[Bool.not_false]at hst
   rw[if_neg (by simp)]
   dsimp only
   refine Sim.step hmix hΓ (n:=0) (by simp[zAb,hst];exact⟨rfl,rfl⟩) (by simp[hlen] <;> omega) ?_
   have hFl:=zCZ (fun i=>i+3) q.F.length 0
   have hFc:=zD6 (fun i=>i+3) q.F.length 0
   have hFA:q.F.length<=1000000:=by have:=hok2.flen;have:=hok2.dir.hi;omega
   have b1:q.F.length*8<=140737488355328:=Nat.le_trans (Nat.mul_le_mul_right 8 hFA) (by decide)
   have b2:q.F.length<=9223372036854775807:=Nat.le_trans hFA (by decide)
   have b3:(q.F.length+1)*8<=140737488355328:=Nat.le_trans (Nat.mul_le_mul_right 8 (Nat.succ_le_succ hFA)) (by decide)
   have b4:q.F.length+1<=9223372036854775807:=Nat.le_trans (Nat.succ_le_succ hFA) (by decide)
   obtain⟨⟨dr,nm,e⟩,hcr⟩:∃x,q.dir.create k=x:=⟨_,rfl⟩;rw[hcr];dsimp only;have ha3:=ha2.dirset dr
   refine Sim.step hmix hΓ (n:=0) (by simp[zAb,zI7,h0,h1,hdo,hkl,hcr];exact⟨rfl,rfl⟩) (by omega) ?_
   obtain⟨H3,hH3⟩:∃X,H2.set 1 (.obj true dr.blks)=X:=⟨_,rfl⟩
   have hlen3:1<=H3.length:=by rw[<-hH3,r8Z];exact hlen2
   rw[hH3]at ha3 ⊢;have g0:=ha3.c0;have g1:=ha3.fold;have g2:=ha3.row;dsimp only at g0 g1 g2;unfold RS.cell0 at g0;dsimp only at g0;by_cases he:e=0
   · rw[if_pos he]
     have he2:(e==0)=true:=by rw[he];rfl
     obtain⟨L,hL⟩:∃L,H3.length=L:=⟨_,rfl⟩;have hBX:=ZC H3 hL;have hXg:=hBX.get;have hXg0:=hBX.get0;have hXs:=hBX.set;have hXs0:=hBX.set0
     obtain⟨_,l1⟩:True/\1<L:=⟨trivial,by rw[<-hL];exact (q1Z.1 g1).1⟩
     have l2:2<L:=by rw[<-hL];exact (q1Z.1 g2).1
     have k0:∀T:zA,(H3++T)[0]? = H3[0]?:=fun T=>q4Z (by omega)
     have k2:∀T:zA,(H3++T)[2]? = H3[2]?:=fun T=>q4Z (by omega)
     have k3:∀(T:zA) v,(H3++T).set 0 v=H3.set 0 v++T:=fun T v=>by rw[List.set_append_left _ _ (by omega)]
     rw[g0]at k0;rw[g2]at k2
     obtain⟨R,hR⟩:∃R,zAD (fun i=>i+3) 0 q.F.length=R:=⟨_,rfl⟩
     obtain⟨n,hn⟩:∃n,q.F.length=n:=⟨_,rfl⟩;rw[hR]at hFl hFc k2;rw[hn]at hFl b1 b2 b3 b4 k0
     have hRt:R.take n=R:=q6Z (by omega)
     have k0':∀(T:zA) h,(H3++T)[0]'h=_:=fun T h=>(q1Z.1 (k0 T)).2
     have k2':∀(T:zA) h,(H3++T)[2]'h=_:=fun T h=>(q1Z.1 (k2 T)).2
     rcases Nat.eq_zero_or_pos n with hn0 | hn0
     · subst hn0
       have hR0:R=[]:=List.length_eq_zero_iff.1 hFl;subst hR0
       refine Sim.step hmix hΓ (n:=0) (by simp[he,hL,k0',k2,k3];exact⟨rfl,rfl⟩) (by omega) ?_
       refine Sim.after (Sim.exec hmix hΓ (n:=0) (by simp;exact⟨rfl,rfl,rfl⟩) (by simp) ?_)
       refine ha3.new hL (.slice (L+3) 0 1 1 false) _ 1 3 (d:=[]) ?_ ?_ (by decide) (.inr ⟨false,by dsimp only;rw[hn]⟩) fun H5 h5 _ _=>?_
       · rfl
       · dsimp only;rw[hR];rfl
       · exact h5.close ([.top,.top,.top,.top,.int .i64 0]++qbZ 30 .top) (by simp[AWs,AW]) ⟨.inr rfl,_,by simp[Tryz.f40] <;> rfl,Weak.mk' [0] (by decide) rfl (by simp) (by simp[AWb])⟩
     · have hn1:n≠0:=by omega
       have hn2:¬n=0:=hn1
       refine Sim.step hmix hΓ (n:=0) (by simp[he,hL,k0',k2,k3,hXs,hFl,hFc,hRt,b1,b2,b3,b4,hn1];exact⟨rfl,rfl⟩) (by omega) ?_
       refine Sim.after (Sim.exec hmix hΓ (n:=0) (by simp;exact⟨rfl,rfl,rfl⟩) (by simp) ?_)
       refine ha3.new hL (.slice (L+4) 0 (n+1) 1 false) _ 2 4 (d:=[]) ?_ ?_ (by decide) (.inr ⟨false,by dsimp only;rw[hn]⟩) fun H5 h5 _ _=>?_
       · rfl
       · dsimp only;rw[hR];rfl
       · exact h5.close ([.top,.top,.top,.top,.int .i64 0]++qbZ 30 .top) (by simp[AWs,AW]) ⟨.inr rfl,_,by simp[Tryz.f40] <;> rfl,Weak.mk' [0] (by decide) rfl (by simp) (by simp[AWb])⟩
   · rw[if_neg he]
     have he2:(e==0)=false:=beq_eq_false_iff_ne.2 he
     refine Sim.step hmix hΓ (n:=0) (by simp[he2];exact⟨rfl,rfl⟩) (by omega) ?_
     refine Sim.after (Sim.exec hmix hΓ (n:=0) (by simp;exact⟨rfl,rfl,rfl⟩) (by omega) ?_)
     exact ha3.close ([.top,.top,.top,.top,.int .i64 e]++qbZ 30 .top) (by simp[AWs,AW]) ⟨.inr rfl,_,by simp[Tryz.f40] <;> rfl,Weak.mk' [0] (by decide) rfl (by simp) (by simp[AWb])⟩
noncomputable def zEX(args:List AV)(H:zA)(v:AV):zU:=open Classical in fun a h=>if a=args/\h=H then some (v,h,[]) else none
theorem zB3{P:Program}{f:FuncId}{args:List AV}{H:zA}{v:AV}(he:∀cargs w,(callFunc f cargs).run P w=.ok (.enter f cargs) w)(h:Ct P f args H v H):Sound P f (zEX args H v):=by
 refine ⟨he,fun a h1 v1 H1 W hs=>?_,fun a h1 v1 H1 W hs=>?_⟩ <;> (unfold zEX at hs;split at hs <;> cases hs) <;> (rename_i hc;obtain⟨rfl,rfl⟩:=hc)
 · exact h
 · exact⟨qnZ _,fun b hb hn=>rfl⟩
@[simp] theorem zR2(args:List AV)(H:zA)(v:AV):zEX args H v args H=some (v,H,[]):=by
 unfold zEX;rw[if_pos ⟨rfl,rfl⟩]
def SelfW(H:zA):Prop:=∀rn:List Nat,(∀i,i<H.length->rn[i]? = some i)->∀B∈H,AWb rn B B
theorem SelfW.set{H:zA}(h:SelfW H)(b:Nat){B:ABlk}(hB:∀rn:List Nat,(∀i,i<H.length->rn[i]? = some i)->AWb rn B B):SelfW (H.set b B):=fun rn hr C hC=>by
 rw[r8Z]at hr;rcases List.mem_or_eq_of_mem_set hC with hC | rfl
 · exact h rn hr C hC
 · exact hB rn hr
theorem RAt.selfc{H:zA}{r:RS}{fo m:Nat}{g:Nat->Nat}{c:Bool}(h:RAt H r (.sl m 0 r.F.length 1 c) 0 fo m g)(s l:Int)(w:Bool){rn:List Nat}(hr:∀i,i<H.length->rn[i]? = some i) :
   AWb rn ((⟨r.dir,r.F,r.room,s,l,w⟩:RS).cell0 (.sl m 0 r.F.length 1 c) fo) ((⟨r.dir,r.F,r.room,s,l,w⟩:RS).cell0 (.sl m 0 r.F.length 1 c) fo):=by
 have l1:=hr fo (q1Z.1 h.fold).1;have l2:=hr m (q1Z.1 h.row).1
 exact⟨id,by simp[AWs,AW,l1,l2]⟩
theorem RS.blks_self(r:RS):SelfW r.blks:=fun rn hr B hB=>by
 rw[RS.blks_length]at hr;simp only[RS.blks,RS.cell0,qwZ]at hB;rcases hB with rfl | rfl | rfl | hB
 · exact⟨id,by simp[AWs,AW,hr 1 (by omega),hr 2 (by omega)]⟩
 · exact⟨rfl,rfl⟩
 · exact⟨id,zF9 _ _ _ _ _ fun i _ hi=>hr (i+3) (by omega)⟩
 · obtain⟨W,_,rfl⟩:=reZ.1 hB
   exact⟨rfl,rfl⟩
noncomputable def zTa(args:List AV)(H:zA)(v:AV):Gam:=zo [(103,zEX args H v),(119,Zr),(121,zFR)]
theorem zRn{args:List AV}{H:zA}{v:AV}(h:Ct Pz 103 args H v H):GOk Pz (zTa args H v) :=
 zB (zB3 (zE Tryz.func103 rfl (by decide)) h) (zB zDr (zB zEI zC))
noncomputable def zVk:Gam:=zo [(121,zFR)]
theorem zAW:GOk Pz zVk:=zB zEI zC
theorem RF.names_get{r:RF}{k:List UInt8}(h:k∈r.names):∃z,NM.get r.now k=some z:=NM.get_some.2 h
theorem zJw{H:zA}{r:RS}{fo m:Nat}{g:Nat->Nat}{c:Bool}(ha:RAt H r (.sl m 0 r.F.length 1 c) 0 fo m g){A B:Nat}(hok:r.ok A B)(hA:A<=1000000)(hB:B<=1000000000000)(hid:SelfW H) :
   Ct Pz 62 [.ptr 0 0] H (.sl H.length 0 r.files.length 2 false) (H++[.cells true (flA r.files)]):=by
 have h0:=ha.c0;have h1:=ha.fold;unfold RS.cell0 at h0;have hdo:r.dir.ok 1000000:=RF.ok_mono hok.dir hA;obtain⟨N,hN⟩:∃N,H.length=N:=⟨_,rfl⟩
 have l0:0<N:=by rw[<-hN];exact (q1Z.1 h0).1
 have l1:fo<N:=by rw[<-hN];exact (q1Z.1 h1).1
 have hid':=hid;unfold SelfW at hid';rw[hN]at hid';have hBX:=ZC H hN;have hXg:=hBX.get;have hXg0:=hBX.get0;have hXs:=hBX.set;have hXs0:=hBX.set0
 have k0:∀T:zA,(H++T)[0]? = H[0]?:=fun T=>q4Z (by omega)
 rw[h0]at k0
 have k0':∀(T:zA) h,(H++T)[0]'h=_:=fun T h=>(q1Z.1 (k0 T)).2
 have tl:=fun {T Tn F Fn}=>Weak.tailG (A:=H) (N:=N) hN hid' (T:=T) (Tn:=Tn) (F:=F) (Fn:=Fn)
 have o0:∀ts:List Nat,(List.range N++ts)[0]? = some 0:=fun ts=>zAh _ _ l0
 have o0g:∀(ts:List Nat) h,(List.range N++ts)[0]'h=0:=fun ts h=>(q1Z.1 (o0 ts)).2
 have hLn:r.dir.names.length<=1000000:=by
   unfold RF.names;rw[r7Z];exact Nat.le_trans (hok.dir.row _ (qcZ (RF.now_get hok.dir.ne))) hA
 have hnget:=fun k (hk:k∈r.dir.names)=>RF.names_get hk
 have frn:zh (r.dir.names.map AV.str)=true:=ZG _ _ fun _=>rfl
 have hgetN:∀i (h:i<r.dir.names.length),(∀h',(r.dir.names.map AV.str)[i]'h'=.str r.dir.names[i])/\(r.dir.names.map AV.str)[i]? = some (.str r.dir.names[i]):=fun i h=>⟨fun h'=>List.getElem_map _,by rw[qzZ,q3Z h];rfl⟩
 have hrl:(r.dir.names.map AV.str).length=r.dir.names.length:=r7Z _;refine zG Tryz.func62 rfl ?_;simp only[Tryz.ntmps62,q7Z,q8Z,Nat.reduceAdd,Nat.reduceSub,qbZ,q9Z,qaZ];rw[hN]
 refine Sim.step hmix zAW (n:=0) (by simp;exact⟨rfl,rfl⟩) (by simp[hN]) ?_
 refine Sim.step hmix zAW (n:=0) (by simp;exact⟨rfl,rfl⟩) (by simp[hN]) ?_
 refine Sim.step hmix zAW (n:=0) (by simp[zVk,zFR,h0,h1,hN,hdo];exact⟨rfl,rfl⟩) (by simp[hN]) ?_
 refine Sim.seq (Sim.step hmix zAW (n:=0) (by simp;exact⟨rfl,rfl⟩) (by simp[hN]) ?_)
 obtain⟨ks,hks⟩:∃ks,r.dir.names=ks:=⟨_,rfl⟩;obtain⟨L,hL⟩:∃L,ks.length=L:=⟨_,rfl⟩;rw[hks]at hLn hnget frn hgetN hrl;rw[hks,hL];rw[hL]at hLn hrl
 have hAn:∀rn:List Nat,AWs rn (ks.map AV.str) (ks.map AV.str):=fun rn=>AWs.refl _ _ frn
 have hfl:r.files=if r.down then [] else ks.map fun k=>(k,r.text k):=by
   unfold RS.files RS.list;rw[hks]
   split <;> rfl
 obtain⟨fl,hfl'⟩:∃fl:List (List UInt8×List UInt8),(ks.map fun k=>(k,r.text k))=fl:=⟨_,rfl⟩
 rw[hfl']at hfl
 have hfll:fl.length=L:=by rw[<-hfl',r7Z,hL]
 have hfg:∀i (h:i<ks.length),fl[i]'(by omega)=(ks[i],r.text ks[i]):=fun i h=>by simp only[<-hfl',List.getElem_map]
 have hAf:∀(l:List (List UInt8×List UInt8)) (rn:List Nat),AWs rn (flA l) (flA l):=fun l rn=>AWs.refl _ _ (ZS l)
 refine Sim.block (Sim.loopW (fun i:Nat=>i<=L/\(r.down=true->i=0))
   (fun i=>[.ptr 0 0,.top,.top,.sl (N+1) 0 i 2 false,.sl N 0 L 1 false,.int .i64 i]++qbZ 34 .top)
   (fun i=>H++[.cells true (ks.map .str),.cells true (flA (fl.take i))]) (fun i=>L-i) 0 (by simp[hN]) ⟨qqZ _,fun _=>rfl⟩ ?_ fun i hi=>?_)
 · exact tl [0,100] (by decide) (by simp[AWs,AW,o0g]) (by simp[AWg,AWb,hN,flA])
 obtain⟨hi,hdn⟩:=hi
 cases hd:r.down with
 | true =>
   obtain rfl:=hdn hd;rw[hd]at hfl k0 k0';rw[hfl,if_pos rfl];by_cases hL0:L=0
   · have hL0':¬(0:Int)<L:=by omega
     refine Sim.exec hmix zAW (n:=0) (by simp[hL0];exact⟨rfl,rfl,rfl⟩) (by simp[hN]) ?_
     dsimp only;rw[if_pos rfl]
     refine Sim.exec hmix zAW (n:=0) (by simp;exact⟨rfl,rfl,rfl⟩) (by simp[hN]) ?_
     exact⟨.inr rfl,_,by simp[Tryz.f62] <;> rfl,tl [1] (by decide) (by simp[AWs,AW]) (by simp[AWg,AWb,hN,flA])⟩
   · have hL0':(0:Int)<L:=by omega
     have hL1:0<L:=by omega
     refine Sim.exec hmix zAW (n:=0) (by simp[hL1,k0'];exact⟨rfl,rfl,rfl⟩) (by simp[hN]) ?_
     dsimp only;rw[if_pos rfl]
     refine Sim.exec hmix zAW (n:=0) (by simp;exact⟨rfl,rfl,rfl⟩) (by simp[hN]) ?_
     exact⟨.inr rfl,_,by simp[Tryz.f62] <;> rfl,tl [1] (by decide) (by simp[AWs,AW]) (by simp[AWg,AWb,hN,flA])⟩
 | false =>
   rw[hd]at hfl k0 k0'
   rw[hfl,if_neg (by simp)]
   by_cases hlt:i<L
   · have hil:i<ks.length:=by omega
     have hiI:(i:Int)<L:=by omega
     obtain⟨f1,f2⟩:=hgetN i (by omega)
     obtain⟨z,hz⟩:=hnget _ (r3Z hil);have hfi:=hfg i hil;obtain⟨k,hk⟩:∃k,ks[i]=k:=⟨_,rfl⟩;rw[hk]at f1 f2 hz hfi;obtain⟨j,f,e1,e2,e3,e4,e5⟩:=zAN hok hz g
     have htx:r.text k=f.now:=by unfold RS.text RS.file;rw[hz];simp only[e1,e3]
     have hnx:fl.take (i+1)=fl.take i++[(k,f.now)]:=by rw[List.take_succ_eq_append_getElem (by omega),hfi,htx]
     have hob:(fl.take i).length=i:=by rw[qjZ];omega
     obtain⟨out,hout⟩:∃o,fl.take i=o:=⟨_,rfl⟩;rw[hout]at hnx hob ⊢;have ha2:=ha.app [ABlk.cells true (ks.map .str),ABlk.cells true (flA out)];have hΓ:=zRn (zEG ha2 hok hA k);rw[e5]at hΓ;have e6:=ha2.file j f e3;have e7:f.small:=PF.ok_mono e4 hB
     have hol:(flA out).length=i*2:=by rw[zCE,hob]
     have hRt:(flA out).take (i*2)=flA out:=q6Z (by omega)
     have hRc:(flA out).all zm=true:=by
       have:∀l:List (List UInt8×List UInt8),(flA l).all zm=true:=fun l=>by
         induction l with
         | nil=>rfl
         | cons e l ih=>simp only[flA,List.all_cons,ih,zm,Bool.and_true]
       exact this out
     have hap:flA out++[.str k,.str f.now]=flA (out++[(k,f.now)]):=by rw[zDI];rfl
     have i9:(i+1)*32<=140737488355328:=by omega
     have i10:i+1<=9223372036854775807:=by omega
     have y1:IntKind.i64.wrap ((i:Int)+1)=i+1:=zV (by omega) (by omega)
     have i11:i<(ks.map AV.str).length:=by omega
     refine Sim.step hmix hΓ (n:=0) (by simp[hiI,k0'];exact⟨rfl,rfl⟩) (by simp[hN]) ?_
     refine Sim.seq (Sim.block (Sim.draw hmix (by simp[hN]) ?_))
     refine SimR.many hΓ 14 (by simp[zI];rfl) (by omega) (by kernel_rfl) (by simp +decide [zTa,zR2,Zr,hlt,f1,hrl,e6,e7,hN];first | exact⟨rfl,rfl⟩ | exact⟨by kernel_rfl,rfl,rfl⟩) ?_
     refine SimR.one hΓ _ rfl (by kernel_rfl) (by simp +decide [hN,hXs,hol,hRt,hap,i9,i10];exact⟨rfl,rfl⟩) ?_
     refine SimR.many hΓ 16 (by simp[zI,zS];rfl) (by omega) (by kernel_rfl) (by simp +decide;first | exact⟨rfl,rfl⟩ | exact⟨by kernel_rfl,rfl,rfl⟩) ?_
     refine SimR.done rfl ?_;dsimp only
     refine Sim.exec hmix zAW (n:=0) (by simp[y1];exact⟨rfl,rfl,rfl⟩) (by simp[hN]) ?_
     exact⟨i+1,⟨by omega,fun h=>by cases h⟩,tl [0,3] (by decide) (by simp[AWs,AW,o0g]) (by simp[AWg,AWb,hN,hnx]),by omega⟩
   · have hie:i=L:=by omega
     subst hie
     have hnI:¬(i:Int)<i:=by omega
     rw[q6Z (by omega)]
     refine Sim.exec hmix zAW (n:=0) (by simp;exact⟨rfl,rfl,rfl⟩) (by simp[hN]) ?_
     dsimp only;rw[if_pos rfl]
     refine Sim.exec hmix zAW (n:=0) (by simp;exact⟨rfl,rfl,rfl⟩) (by simp[hN]) ?_
     exact⟨.inr rfl,_,by simp[Tryz.f62] <;> rfl,tl [1] (by decide) (by simp[AWs,AW,hfll]) (by simp[AWg,AWb,hN])⟩
end
end Go.Proofs.YtfhidaoiofeooaaGreat
