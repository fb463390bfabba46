/- Parts of the proof of ReplayMends: lemmas, each with its own conditions. -/
import Derived.Test.YtpmfecnajoojeaaGreatDoorY18
set_option maxHeartbeats 64000000
open List renaming getElem?_eq_some_iff → q1Z, getD_eq_getElem?_getD → q2Z, getElem?_eq_getElem → q3Z, getElem?_append_left → q4Z, getElem?_append_right → q5Z, take_of_length_le → q6Z, length_cons → q7Z, length_nil → q8Z, cons_append → q9Z, nil_append → qaZ, replicate → qbZ, mem_of_getElem? → qcZ, length_append → qdZ, append_assoc → qeZ, getElem?_set_ne → qfZ, mem_cons_self → qhZ, mem_cons_of_mem → qiZ, length_take → qjZ, mem_cons → qwZ, mem_append → qxZ, getElem?_map → qzZ, mem_singleton → r1Z, append_nil → r2Z, getElem_mem → r3Z, getElem?_cons_succ → r9Z, getElem?_cons_zero → raZ, nodup_cons → rdZ, mem_map → reZ, getElem?_range → rfZ, map_cons → s1Z, drop_append → sdZ
open Option renaming map_eq_some_iff → qlZ, getD_some → rgZ, map_some → rhZ
open Nat renaming zero_le → qqZ, add_sub_cancel_left → s3Z, zero_add → s8Z, min_eq_left → sfZ
open Bool renaming false_eq_true → qsZ
namespace Go.Proofs.YtpmfecnajoojeaaGreatDoor
open _root_.Go.Proofs.Tryz renaming prog → Pz
set_option maxRecDepth 100000
section
open Go Go.Lib
attribute [-simp] zJ zY zn zL zl
theorem DS.tail1(d:DS){row:ABlk}(hrow:∀rn:List Nat,AWb rn row row){T Tn:zA}{F Fn:List AV}(ts:List Nat)(hts:ts.Nodup)
   (hF:AWs (List.range (d.fs.length+4)++ts.map (d.fs.length+4+·)) Fn F) (hlen:Tn.length=ts.length)
   (hT:∀(i t:Nat) x y,ts[i]? = some t->Tn[i]? = some x->T[t]? = some y->AWb (List.range (d.fs.length+4)++ts.map (d.fs.length+4+·)) x y):Weak (d.fs.length+4) F (d.heap (row::T)) Fn (d.heap (row::Tn)):=by
 have hl:=d.blks_length
 have e:∀U:zA,d.heap (row::U)=(d.blks++[row])++U:=fun U=>by rw[DS.heap_eq,qeZ];rfl
 rw[e,e]
 have hN:(d.blks++[row]).length=d.fs.length+4:=by rw[qdZ,hl];rfl
 refine Weak.tailG hN (fun rn hr B hB=>?_) ts hts hF (AWg.of _ _ (by simp[hlen]) fun i x b hx hb hlt=>?_)
 · rcases qxZ.1 hB with h | h
   · exact d.blks_id rn (fun i hi=>hr i (by omega)) B h
   · rw[r1Z.1 h];exact hrow rn
 · rw[qzZ]at hb
   obtain⟨t,ht,rfl⟩:=qlZ.1 hb;rw[qdZ,hN]at hlt
   have htl:t<T.length:=by omega
   rw[q2Z,q5Z (by omega),hN,s3Z,q3Z htl]
   exact hT i t x _ ht hx (q3Z htl)
theorem zKM(fd:FD)(fs:FS)(ns:List Int):∀(ks:List (List UInt8)) (s:List Int×FS×List Int) (o:Nat),s.1=ns.drop o->(ks.foldl (zAy fd) s).1=ns.drop (o+2*ks.length)
 | [],s,o,h=>h
 | k::ks,s,o,h=>by
   rw[List.foldl_cons,zKM fd fs ns ks (zAy fd s k) (o+2) (by simp only[zAy,h];simp)]
   congr 1
   simp;omega
def zGq:List FuncId:=[70]
noncomputable def zG4:Gam:=zv [(71,zIh),(72,zEL),(73,zAS),(74,zOc),(136,zJx)]
theorem zVX:GOk Pz (zAL Pz zG4 0 zGq 2):=zq hmix (zC zGh (zC zFU (zC zAI (zC zN9 (zC zPD zD))))) 0 zGq 2
def rsD(d:DS)(fd:FD)(s:List Int×FS×List Int):DS:=⟨fd,s.2.1,d.quota,d.steps,d.armed,d.down⟩
def rsT(d:DS)(n o L:Nat)(c:Bool)(s:List Int×FS×List Int)(ks:List (List UInt8)):zA :=
 [.cells true [.sl (n+3) o (L-o) 1 c],.cells true [.func 136 [] [.ptr (n+4) 0]],.map (thM (fun v=>FS.at d.fs v+3) s.2.2),.cells true (ks.map .str)]
abbrev rsF(n M i:Nat):List AV:=[.ptr 0 0,.top,.top,.top,.ptr (n+5) 0,.map (n+6)]++qbZ 22 .top++[.sl (n+7) 0 M 1 false,.int .i64 M,.int .i64 i]++qbZ 44 .top
theorem zFg{rn:List Nat}{g:Int->Nat}:∀{th:List Int},(∀v∈th,rn[g v]? = some (g v))->AWb rn (.map (thM g th)) (.map (thM g th))
 | [],_=>⟨trivial,trivial⟩
 | v::th,h=>by
   obtain⟨h1,h2⟩:=zFg (rn:=rn) (g:=g) (th:=th) fun w hw=>h w (qiZ _ hw)
   exact⟨⟨⟨rfl,rfl⟩,h1⟩,⟨⟨h v (qhZ ..),rfl⟩,h2⟩⟩
theorem zIw{fs:FS}{v:Int}(h:v∈FS.keys fs)(ts:List Nat):(List.range (fs.length+4)++ts)[FS.at fs v+3]? = some (FS.at fs v+3):=by
 obtain⟨f,hf⟩:=FS.get_some.2 h;have:=FS.at_lt hf
 exact zBh _ _ (by omega)
theorem zNh{H Hn:zA}{F Fn:List AV}{N M:Nat}(_hM:H.length=M)(hN:N<=M)(hF:∀rn:List Nat,(∀i,i<M->rn[i]? = some i)->AWs rn Fn F)
   (hlen:Hn.length=M) (hH:∀rn:List Nat,(∀i,i<M->rn[i]? = some i)->∀(i:Nat) x y,Hn[i]? = some x->H[i]? = some y->AWb rn x y):Weak N F H Fn Hn:=by
 have hr:∀i,i<M->(List.range M)[i]? = some i:=fun i hi=>rfZ hi
 refine Weak.mk' (List.range M) List.nodup_range (by rw[List.take_range,sfZ hN]) (hF _ hr) (AWg.of _ _ (by simp[hlen]) fun i x b hx hb hlt=>?_)
 have hi:i<M:=by rw[<-hlen];exact (q1Z.1 hx).1
 rw[hr i hi]at hb;cases hb
 rw[q2Z,q3Z hlt];exact hH _ hr i x _ hx (q3Z hlt)
def zIQ(d:DS)(fd:FD)(s:List Int×FS×List Int)(n o L:Nat)(c:Bool)(row:List Int)(ks:List (List UInt8)):zA :=
 .cells true [.ptr 1 0,.map (n+6),.int .i64 d.quota,.int .i64 d.steps,.int .i64 0,.bool false]::.obj true fd.blks::.map (zO (fun i=>i+3) 0 s.2.1)::(zM s.2.1++(.cells false (Z6 row)::rsT d n o L c s ks))
theorem zLF(d:DS){A B:Nat}(hok:d.ok A B)(hA:A<=1000000)(hB:B<=1000000000000)(row:List Int)(hrw:∀x∈row,0<=x/\x<=65535)(hrl:row.length<=9223372036854775807)(L:Nat)(hLr:L<=row.length)(ns:List Int)(hnsr:ns=row.take L)(c:Bool)(fd:FD)(hfd:d.fd.survive (ns.headD 0)=fd)(s:List Int×FS×List Int)(hs:zB3 fd ns.tail d.fs fd.names=s) :
   ∃o,Ct Pz 22 [.ptr 0 0,.sl (d.fs.length+3) 0 L 1 c] (d.heap [.cells false (Z6 row)]) (.tuple []) (zIQ d fd s d.fs.length o L c row fd.names):=by
 have hΓ:=zVX;have hsm:d.fd.small:=FD.ok_mono hok.fd hA
 have hal:d.fd.acts.length<=1000000:=by have:=hok.fd.len;omega
 have hfds:fd.small:=by rw[<-hfd];exact FD.ok_survive hsm _
 have h3:fd.each (zN6 d.fs):=by rw[<-hfd];exact FD.each_survive hok.has _
 have hkk:∀k∈fd.names,∃v,fd.find k=(v,true)/\v∈FS.keys d.fs:=fun k hk=>by
   obtain⟨v,hv⟩:=FD.names_get hk;exact⟨v,FD.find_get hv,FD.each_now h3 k v hv⟩
 have hkeys:∀k∈fd.names,(fd.find k).1∈FS.keys d.fs:=fun k hk=>by
   obtain⟨v,h1,h2⟩:=hkk k hk
   rw[h1];exact h2
 have hM:fd.names.length<=1000000:=by
   have h1:=(FD.ok_now hfds).2;unfold FD.names;rw[(ZN _).length_eq];simpa[NM.keys] using h1
 obtain⟨ks,hks⟩:∃ks,fd.names=ks:=⟨_,rfl⟩;rw[hks]at hkk hkeys hM hs ⊢;obtain⟨M,hMe⟩:∃M,ks.length=M:=⟨_,rfl⟩
 have hL:ns.length=L:=by rw[hnsr,qjZ,sfZ hLr]
 have hnxt:∀o,o<=L->nxt row o (L-o)=(ns.drop o).headD 0:=fun o _=>by unfold nxt;rw[hnsr,List.drop_take]
 have hnok:∀o,o<=L->zXU row o (L-o):=fun o ho=>⟨by omega,hrl,hrw⟩
 have hnO:∀o,o<=L->nxO o (L-o)=min (o+1) L:=fun o ho=>by unfold nxO;omega
 have hnN:∀o,o<=L->nxN (L-o)=L-min (o+1) L:=fun o ho=>by unfold nxN;omega
 have hns:∀x∈ns,0<=x/\x<=65535:=fun x hx=>hrw x (by rw[hnsr]at hx;exact List.mem_of_mem_take hx)
 obtain⟨S,hS⟩:∃S:Nat->List Int×FS×List Int,S=fun i=>(ks.take i).foldl (zAy fd) (ns.tail,d.fs,[]):=⟨_,rfl⟩
 have hS0:S 0=(ns.tail,d.fs,[]):=by rw[hS];rfl
 have hSM:S M=s:=by rw[hS];dsimp only;rw[q6Z (by omega)];exact hs
 have hSn:∀i (h:i<ks.length),S (i+1)=zAy fd (S i) ks[i]:=fun i h=>by
   rw[hS];dsimp only
   rw[List.take_add_one,q3Z h,List.foldl_append];rfl
 have hSok:∀i,StOk fd B (S i) d.fs:=fun i=>by
   rw[hS]
   exact zDK _ ⟨rfl,hok.fine,List.nodup_nil,fun n hn=>by cases hn⟩ fun k hk=>hkeys k (List.mem_of_mem_take hk)
 have hSd:∀i,i<=M->(S i).1=ns.drop (1+2*i):=fun i hi=>by
   rw[hS];dsimp only
   rw[zKM fd d.fs ns (ks.take i) _ 1 (by simp),qjZ,sfZ (by omega)]
 have hSl:∀i,(S i).2.1.length=d.fs.length:=fun i=>by
   have:=congrArg List.length (hSok i).keys;simpa[FS.keys] using this
 refine ⟨min (1+2*M) L,?_⟩;have hlen:=d.heap_length [.cells false (Z6 row)];obtain⟨n,hn⟩:∃n,d.fs.length=n:=⟨_,rfl⟩
 have hrow:∀rn:List Nat,AWb rn (.cells false (Z6 row)) (.cells false (Z6 row)):=fun rn=>⟨id,(zBP (zDD row)).2 trivial⟩
 have tl:=fun (i:Nat) {T Tn F Fn}=>DS.tail1 (rsD d fd (S i)) hrow (T:=T) (Tn:=Tn) (F:=F) (Fn:=Fn)
 have hrl2:∀i,(rsD d fd (S i)).fs.length=n:=fun i=>by rw[<-hn];exact hSl i
 simp only[hrl2]at tl;refine zK Tryz.func22 rfl ?_;simp only[Tryz.ntmps22,q7Z,q8Z,Nat.reduceAdd,Nat.reduceSub,qbZ,q9Z,qaZ];rw[hlen,hn];simp only[q7Z,q8Z,s8Z]
 rw[show n+1+3=n+4 by omega]
 have hX:=behind d.fs;rw[hn]at hX;have hXl:=hX.len;have hXg:=hX.get;have hXg0:=hX.get0;have hXs:=hX.set
 have hfd':d.fd.survive (ns.head?.getD 0)=fd:=by rw[<-hfd];cases ns <;> rfl
 have h0k:=hnok 0 (qqZ _);have h0v:=hnxt 0 (qqZ _);have h0o:=hnO 0 (qqZ _);have h0n:=hnN 0 (qqZ _);rw[Nat.sub_zero]at h0k h0v h0o h0n;rw[List.drop_zero]at h0v;rw[s8Z]at h0o h0n
 have fks:∀rn:List Nat,AWs rn (ks.map AV.str) (ks.map AV.str):=fun rn=>(zBP (ZK ks AV.str fun _=>rfl)).2 trivial
 have start:∀{Q:AX->List AV->zA->Prop},Sim Pz none (n+4) (zDi 3 (zJB Tryz.f22)) ([.ptr 0 0,.top,.top,.top,.ptr (n+5) 0]++qbZ 70 .top) ((rsD d fd (S 0)).heap [.cells false (Z6 row),.cells true [.sl (n+3) (min 1 L) (L-min 1 L) 1 c],.cells true [.func 136 [] [.ptr (n+4) 0]]]) Q ->
     Sim Pz none (n+4) (zJB Tryz.f22) ([.ptr 0 0,.sl (n+3) 0 L 1 c]++qbZ 73 zb) (d.heap [.cells false (Z6 row)]) Q:=by
   intro Q k;simp only[zJB,Tryz.f22,rgZ,zDi]at k ⊢;simp only[qbZ,q9Z,qaZ]at k ⊢;unfold DS.heap DS.cell0;obtain⟨X,eX⟩:∃X,zM d.fs=X:=⟨_,rfl⟩;rw[eX]at hXl hXg hXg0 hXs ⊢
   refine Sim.step hmix hΓ (n:=0) (by simp;exact⟨rfl,rfl⟩) (by simp[hXl]) ?_
   refine Sim.step hmix hΓ (n:=0) (by simp[zGq,Tryz.f70,hXl,hXs];exact⟨rfl,rfl⟩) (by simp[hXl]) ?_
   refine Sim.seq (Sim.draw hmix (by simp[hXl]) ?_)
   refine SimR.hard hΓ 6 48 _ rfl (by simp[zI];rfl) (by omega) (by kernel_rfl) (by kernel_rfl) (by simp +decide [hXl];exact⟨rfl,rfl,rfl⟩) (by kernel_rfl) (by simp +decide [zDq,List.range,List.range.loop];rfl) (by simp +decide [zG4,zJx,zCa,hXg,hXg0,hXs,h0k,h0v,h0o,h0n];exact⟨rfl,rfl⟩) (by simp +decide [zIb,zOZ,ZT,List.range,List.range.loop]) ?_
   refine SimR.one hΓ _ rfl (by kernel_rfl) (by simp +decide [zG4,zIh,hal,hfd'];exact⟨rfl,rfl⟩) ?_
   refine SimR.done rfl ?_;dsimp only
   have tlx:=fun {T Tn F Fn}=>tl 0 (T:=T) (Tn:=Tn) (F:=F) (Fn:=Fn) [0,2] (by decide)
   rw[hS0]at tlx;unfold rsD DS.heap DS.cell0 at tlx;dsimp only at tlx;rw[eX]at tlx
   refine Sim.weak (tlx (Tn:=[.cells true [.sl (n+3) (min 1 L) (L-min 1 L) 1 c],.cells true [.func 136 [] [.ptr (n+4) 0]]]) (Fn:=[.ptr 0 0,.top,.top,.top,.ptr (n+5) 0]++qbZ 70 .top) ?_ rfl fun j t x y h1 h2 h3=>?_) (by simp[hXl]) ?_
   · simp[AW]
   · match j,h1,h2 with
     | 0,h1,h2=>cases h1;cases h2;cases h3;simp[AWb,AW]
     | 1,h1,h2=>cases h1;cases h2;cases h3;simp[AWb,AW]
   · rw[hS0]at k
     unfold rsD DS.heap DS.cell0 at k;dsimp only at k;rw[eX]at k;exact k
 refine Sim.mono (start (Q:=fun e F1 H1=>(e=.normal\/e=.ret)/\Weak (n+4) [.tuple []] H1 [.tuple []] (zIQ d fd s n (min (1+2*M) L) L c row ks)) ?_) ?_
 rotate_left
 · rintro e F1 H1 _ ⟨h1,h2⟩
   exact⟨h1,.tuple [],by simp[Tryz.f22],h2⟩
 simp only[zJB,Tryz.f22,rgZ,zDi];simp only[qbZ,q9Z,qaZ]
 refine Sim.step hmix hΓ (n:=0) (by simp;exact⟨rfl,rfl⟩) (by simp[DS.heap_length,hrl2]) ?_
 refine Sim.seq (Sim.mono (Q:=fun e F' H'=>e=.normal/\Weak (n+4) F' H' (rsF n M M) ((rsD d fd (S M)).heap (.cells false (Z6 row)::rsT d n (min (1+2*M) L) L c (S M) ks))) ?_ ?_)
 · -- the rounds
   unfold DS.heap DS.cell0;have hXi:=behind (S 0).2.1;rw[hSl 0,hn]at hXi;have hXl:=hXi.len;have hXg:=hXi.get;have hXg0:=hXi.get0;have hXs:=hXi.set;have hfs0:(rsD d fd (S 0)).fs=(S 0).2.1:=rfl;rw[hfs0];obtain⟨X,eX⟩:∃X,zM (S 0).2.1=X:=⟨_,rfl⟩;rw[eX]at hXl hXg hXg0 hXs ⊢;have hnm:(rsD d fd (S 0)).fd=fd:=rfl;rw[hnm]
   refine Sim.step hmix hΓ (n:=0) (by simp +decide [zGq,zG4,zEL,hfds,hXl,hks,hMe];exact⟨rfl,rfl⟩) (by simp[hXl]) ?_
   refine Sim.block (Sim.loopW (fun i:Nat=>i<=M) (fun i=>rsF n M i) (fun i=>(rsD d fd (S i)).heap (.cells false (Z6 row)::rsT d n (min (1+2*i) L) L c (S i) ks)) (fun i=>M-i) 0 (by simp[hXl]) (by simp) ?_ fun i hi=>?_)
   · have tlx:=fun {T Tn F Fn}=>tl 0 (T:=T) (Tn:=Tn) (F:=F) (Fn:=Fn) [0,1,2,3] (by decide)
     have hg2:∀Tn:zA,(rsD d fd (S 0)).heap Tn=(rsD d fd (S 0)).cell0 1 2::.obj true fd.blks::.map (zO (fun i=>i+3) 0 (S 0).2.1)::(X++Tn):=fun Tn=>by rw[<-eX];rfl
     simp only[hg2]at tlx ⊢
     refine tlx ?_ rfl fun j t x y h1 h2 h3=>?_
     · simp[AW]
     · match j,h1,h2 with
       | 0,h1,h2=>cases h1;cases h2;cases h3;simp[AWb,AW]
       | 1,h1,h2=>cases h1;cases h2;cases h3;simp[AWb,AW]
       | 2,h1,h2=>cases h1;cases h2;cases h3;rw[hS0];simp[AWb,thM]
       | 3,h1,h2=>cases h1;cases h2;cases h3;exact⟨id,fks _⟩
   · by_cases hlt:i<M
     rotate_left
     · have hin:i=M:=by omega
       subst hin
       refine Sim.exec hmix hΓ (n:=0) (by simp;exact⟨rfl,rfl,rfl⟩) (by simp[DS.heap_length,hrl2,rsT]) ?_
       dsimp only;rw[if_pos rfl]
       refine ⟨by trivial,?_⟩
       refine tl i [0,1,2,3] (by decide) ?_ rfl fun j t x y h1 h2 h3=>?_
       · simp[AW]
       · match j,h1,h2 with
         | 0,h1,h2=>cases h1;cases h2;cases h3;simp[AWb,AW]
         | 1,h1,h2=>cases h1;cases h2;cases h3;simp[AWb,AW]
         | 2,h1,h2 =>
           cases h1;cases h2;cases h3
           exact zFg fun v hv=>by rw[<-hn];exact zIw ((hSok i).sub v hv) _
         | 3,h1,h2=>cases h1;cases h2;cases h3;exact⟨id,fks _⟩
     have hik:i<ks.length:=by omega
     have hltI:(i:Int)<M:=by omega
     obtain⟨k,hk⟩:∃k,ks[i]=k:=⟨_,rfl⟩
     have hg:∀h,ks[i]'h=k:=fun h=>hk
     obtain⟨v,hv,hvm⟩:=hkk k (by rw[<-hk];exact r3Z hik)
     have hSi:=hSn i hik;rw[hk]at hSi;have hok1:=hSok i;have hdr:=hSd i hi;obtain⟨⟨l1,fs1,th⟩,hs1⟩:∃s,S i=s:=⟨_,rfl⟩;rw[hs1]at hok1 hdr hSi;dsimp only at hdr;obtain⟨h1k,h1f,h1n,h1s⟩:=hok1;dsimp only at h1k h1f h1n h1s
     obtain⟨f,hf⟩:=FS.get_some.2 (by rw[h1k];exact hvm:v∈FS.keys fs1)
     have hfsm:f.small:=PF.ok_mono (h1f _ (FS.get_mem hf)) hB;have hat:=FS.at_keys h1k v
     have hl1:fs1.length=n:=by rw[<-hn];have:=congrArg List.length h1k;simpa[FS.keys] using this
     have hlook:=zAB (fun i=>i+3) v 0 fs1 0
     rw[hf]at hlook;simp only[rhZ,s8Z]at hlook;have hfb:=Zj (FS.at_get hf);have hql:=FS.at_lt hf
     have hbu:=fun g=>zHl (n:=v) g hf
     have hthf:=zKz (fun v=>FS.at d.fs v+3) v th 0
     rw[s8Z]at hthf;rw[hat]at hlook hfb hql hbu;obtain⟨q,hq⟩:∃q,FS.at d.fs v=q:=⟨_,rfl⟩;rw[hq]at hlook hfb hql hbu;rw[hl1]at hql;dsimp only at hfb
     have hths:v∈th->(thM (fun v=>FS.at d.fs v+3) th).set (th.idxOf v) (.int .i64 v,.ptr (q+3) 0)=thM (fun v=>FS.at d.fs v+3) th:=fun h=>by
       have:=zWi (fun v=>FS.at d.fs v+3) h
       try dsimp only at this
       rw[hq]at this;exact this
     have htha:thM (fun v=>FS.at d.fs v+3) th++[(.int .i64 v,.ptr (q+3) 0)]=thM (fun v=>FS.at d.fs v+3) (th++[v]):=by simp[thM,hq]
     obtain⟨o,ho⟩:∃o,min (1+2*i) L=o:=⟨_,rfl⟩;obtain⟨o1,ho1⟩:∃o1,min (o+1) L=o1:=⟨_,rfl⟩;obtain⟨o2,ho2⟩:∃o2,min (o1+1) L=o2:=⟨_,rfl⟩
     have ho2':min (1+2*(i+1)) L=o2:=by omega
     have hoL:o<=L:=by omega
     have ho1L:o1<=L:=by omega
     have hdro:ns.drop (1+2*i)=ns.drop o:=by
       by_cases h:1+2*i<=L
       · rw[show o=1+2*i by omega]
       · rw[show o=L by omega,<-hL,List.drop_length,List.drop_of_length_le (by omega)]
     have hdr1:(ns.drop o).tail=ns.drop o1:=by
       rw[List.tail_drop];by_cases h:o+1<=L
       · rw[show o1=o+1 by omega]
       · rw[show o1=L by omega,<-hL,List.drop_length,List.drop_of_length_le (by omega)]
     have hk1:=hnok o hoL;have hk2:=hnok o1 ho1L;have ho1':=hnO o hoL;have ho2'':=hnO o1 ho1L;have hn1':=hnN o hoL;have hn2':=hnN o1 ho1L;rw[ho1]at ho1' hn1';rw[ho2]at ho2'' hn2';obtain⟨c1,hc1⟩:∃c1,nxt row o (L-o)=c1:=⟨_,rfl⟩;obtain⟨c2,hc2⟩:∃c2,nxt row o1 (L-o1)=c2:=⟨_,rfl⟩
     have hc2b:c2<=4611686018427387903:=by
       have h1:=hnxt o1 ho1L;rw[hc2]at h1
       cases hd:ns.drop o1 with
       | nil=>rw[hd]at h1;rw[h1];decide
       | cons x r =>
         rw[hd]at h1
         have:=hns x (List.mem_of_mem_drop (by rw[hd];exact qhZ ..))
         rw[h1];simp;omega
     have hst:S (i+1)=(ns.drop (1+2*(i+1)),FS.upd fs1 v (fun f=>⟨f.stays c1 c2,[]⟩),if v∈th then th else th++[v]):=by
       rw[hSi];simp only[zAy];rw[hv,hdr,hdro,hdr1]
       have e1:(ns.drop o).headD 0=c1:=by rw[<-hc1,hnxt o hoL]
       have e2:(ns.drop o1).headD 0=c2:=by rw[<-hc2,hnxt o1 ho1L]
       have e3:(ns.drop o1).tail=ns.drop (1+2*(i+1)):=by
         rw[<-hdr1,<-hdro];simp only[List.tail_drop];congr 1
       rw[e1,e2,e3]
     have hXi:=behind fs1;rw[hl1]at hXi;have hXl:=hXi.len;have hXg:=hXi.get;have hXg0:=hXi.get0;have hXs:=hXi.set
     have y1:IntKind.i64.wrap ((i:Int)+1)=i+1:=zX (by omega) (by omega)
     have hloop:∀th':List Int,th'=(if v∈th then th else th++[v])->Weak (n+4) (rsF n M (i+1)) ((rsD d fd (S (i+1))).heap (.cells false (Z6 row)::rsT d n o2 L c (S (i+1)) ks)) (rsF n M (i+1)) ((rsD d fd (S (i+1))).heap (.cells false (Z6 row)::rsT d n (min (1+2*(i+1)) L) L c (S (i+1)) ks)):=fun _ _=>by
       rw[ho2']
       refine tl (i+1) [0,1,2,3] (by decide) ?_ rfl fun j t x y h1 h2 h3=>?_
       · simp[AW]
       · match j,h1,h2 with
         | 0,h1,h2=>cases h1;cases h2;cases h3;simp[AWb,AW]
         | 1,h1,h2=>cases h1;cases h2;cases h3;simp[AWb,AW]
         | 2,h1,h2 =>
           cases h1;cases h2;cases h3
           exact zFg fun v hv=>by rw[<-hn];exact zIw ((hSok (i+1)).sub v hv) _
         | 3,h1,h2=>cases h1;cases h2;cases h3;exact⟨id,fks _⟩
     clear hloop;have e1:(rsD d fd (l1,fs1,th)).fs=fs1:=rfl;have e2:(rsD d fd (l1,fs1,th)).fd=fd:=rfl;have e3:(rsD d fd (l1,fs1,th)).quota=d.quota:=rfl;have e4:(rsD d fd (l1,fs1,th)).steps=d.steps:=rfl;have e5:(rsD d fd (l1,fs1,th)).armed=d.armed:=rfl;have e6:(rsD d fd (l1,fs1,th)).down=d.down:=rfl;rw[hs1];unfold DS.heap DS.cell0 rsT;rw[e1,e2,e3,e4,e5,e6,ho];obtain⟨X,eX⟩:∃X,zM fs1=X:=⟨_,rfl⟩;rw[eX]at hXl hXg hXg0 hXs hfb hbu ⊢
     have hXq:∀T,(X++T)[q]? = some (.obj true f.blks):=fun T=>by rw[q4Z (by omega)];exact hfb
     have hXqs:∀(T:zA) B,(X++T).set q B=X.set q B++T:=fun T B=>by rw[List.set_append_left _ _ (by omega)]
     refine Sim.step hmix hΓ (n:=0) (by simp[hltI];exact⟨rfl,rfl⟩) (by simp[hXl]) ?_
     refine Sim.step hmix hΓ (n:=0) (by simp;exact⟨rfl,rfl⟩) (by simp[hXl]) ?_
     refine Sim.seq (Sim.block ?_)
     refine Sim.step hmix hΓ (n:=0) (by simp[hlt,hXl,hMe,hg];exact⟨rfl,rfl⟩) (by simp[hXl]) ?_
     refine Sim.step hmix hΓ (n:=0) (by simp[zGq,zG4,zAS,hv];exact⟨rfl,rfl⟩) (by simp[hXl]) ?_
     dsimp only
     have hmap:∃th',th'=(if v∈th then th else th++[v])/\∀(T0 T1 T2 T4:ABlk),zAN Pz (.cells true [.ptr 1 0,.map 2,.int .i64 d.quota,.int .i64 d.steps,.int .i64 d.armed,.bool d.down]::.obj true fd.blks::.map (zO (fun i=>i+3) 0 fs1)::(X++[T0,T1,T2,.map (thM (fun v=>FS.at d.fs v+3) th),T4])) 115 (.map (n+6)) (.int .i64 v) (.ptr (q+3) 0) =
         some (.cells true [.ptr 1 0,.map 2,.int .i64 d.quota,.int .i64 d.steps,.int .i64 d.armed,.bool d.down]::.obj true fd.blks::.map (zO (fun i=>i+3) 0 fs1)::(X++[T0,T1,T2,.map (thM (fun v=>FS.at d.fs v+3) th'),T4]))/\zAA (thM (fun v=>FS.at d.fs v+3) th') (.int .i64 v) 0=some (some (th'.idxOf v,.ptr (q+3) 0)):=by
       refine ⟨_,rfl,fun T0 T1 T2 T4=>?_⟩
       by_cases hm:v∈th
       · rw[if_pos hm]at hthf ⊢
         simp[hthf,hXg,hXs,hq,hths hm]
       · rw[if_neg hm]at hthf ⊢
         have h2:=zKz (fun v=>FS.at d.fs v+3) v (th++[v]) 0
         rw[if_pos (by simp),s8Z]at h2
         try dsimp only at h2
         rw[hq]at h2;simp[hthf,hXg,hXs,htha,h2]
     obtain⟨th',hth',hmap⟩:=hmap;have hmf:=(hmap .dead .dead .dead .dead).2
     refine Sim.step hmix hΓ (n:=0) (by simp[-zAN,hlook,(hmap _ _ _ _).1];exact⟨rfl,rfl⟩) (by simp[hXl]) ?_
     refine Sim.step hmix hΓ (n:=0) (by simp +decide [zGq,zG4,zJx,zCa,hXl,hXs,hk1,hc1,ho1',hn1'];exact⟨rfl,rfl⟩) (by simp[hXl]) ?_
     refine Sim.step hmix hΓ (n:=0) (by simp +decide [zGq,zG4,zJx,zCa,hXl,hXs,hk2,hc2,ho2'',hn2'];exact⟨rfl,rfl⟩) (by simp[hXl]) ?_
     refine Sim.exec hmix hΓ (n:=0) (by simp +decide [zGq,zG4,zOc,hXl,hmf,hXq,hXqs,hfsm,hc2b];exact⟨rfl,rfl,rfl⟩) (by simp[hXl]) ?_
     dsimp only
     refine Sim.exec hmix hΓ (n:=0) (by simp[y1];exact⟨rfl,rfl,rfl⟩) (by simp[hXl]) ?_
     dsimp only
     refine ⟨i+1,by omega,?_,by omega⟩
     have tlx:=fun {T Tn F Fn}=>tl (i+1) (T:=T) (Tn:=Tn) (F:=F) (Fn:=Fn) [0,1,2,3] (by decide)
     rw[hst,<-hth']at tlx ⊢
     have g1:∀Tn:zA,(rsD d fd (ns.drop (1+2*(i+1)),FS.upd fs1 v (fun f=>⟨f.stays c1 c2,[]⟩),th')).heap Tn=.cells true [.ptr 1 0,.map 2,.int .i64 d.quota,.int .i64 d.steps,.int .i64 d.armed,.bool d.down]::.obj true fd.blks::.map (zO (fun i=>i+3) 0 fs1)::(X.set q (.obj true (⟨f.stays c1 c2,[]⟩:PF).blks)++Tn):=fun Tn=>by
       unfold DS.heap DS.cell0 rsD;dsimp only;rw[zEK,hbu]
     simp only[g1]at tlx;unfold rsD;dsimp only;rw[zEK,hbu,ho2']
     refine tlx ?_ rfl fun j t x y h1 h2 h3=>?_
     · simp[AW]
     · match j,h1,h2 with
       | 0,h1,h2=>cases h1;cases h2;cases h3;simp[AWb,AW]
       | 1,h1,h2=>cases h1;cases h2;cases h3;simp[AWb,AW]
       | 2,h1,h2 =>
         cases h1;cases h2;cases h3
         refine zFg fun w hw=>?_
         have:=(hSok (i+1)).sub;rw[hst,<-hth']at this
         rw[<-hn];exact zIw (this w hw) _
       | 3,h1,h2=>cases h1;cases h2;cases h3;exact⟨id,fks _⟩
 rintro e F' H' hlen1 ⟨rfl,hwk⟩;dsimp only;refine Sim.weak hwk hlen1 ?_;clear hwk hlen1;simp only[rsF,q9Z,qaZ,qbZ];rw[hSM]
 have tlx:=fun {T Tn F Fn}=>tl M (T:=T) (Tn:=Tn) (F:=F) (Fn:=Fn) [0,1,2,3] (by decide)
 have hsok:=hSok M;have hsl:=hSl M;rw[hSM]at tlx hsok hsl;have hXi:=behind s.2.1;rw[hsl,hn]at hXi;have hXl:=hXi.len;have hXg:=hXi.get;have hXg0:=hXi.get0;unfold zIQ;unfold DS.heap DS.cell0 rsD rsT;dsimp only;obtain⟨X,eX⟩:∃X,zM s.2.1=X:=⟨_,rfl⟩;rw[eX]at hXl hXg hXg0 ⊢
 refine Sim.exec hmix hΓ (n:=0) (by simp +decide;exact⟨rfl,rfl,rfl⟩) (by simp[hXl]) ?_
 refine ⟨.inl rfl,?_⟩
 refine zNh (M:=n+8) (by simp[hXl]) (by omega) (fun rn hr=>by simp) (by simp[hXl]) fun rn hr i x y hx hy=>?_
 match i,hx,hy with
 | 0,hx,hy =>
   cases hx;cases hy
   simp[AWb,AW,hr 1 (by omega),hr (n+6) (by omega)]
 | 1,hx,hy=>cases hx;cases hy;exact⟨rfl,rfl⟩
 | 2,hx,hy =>
   cases hx;cases hy
   exact zBg fun i hi=>hr (i+3) (by rw[hsl,hn]at hi;omega)
 | i+3,hx,hy =>
   simp only[r9Z]at hx hy;by_cases hi:i<n
   · rw[q4Z (by omega)]at hx hy
     rw[hx]at hy;cases hy;rw[<-eX]at hx;obtain⟨e,_,rfl⟩:=reZ.1 (qcZ hx);exact⟨rfl,rfl⟩
   · obtain⟨j,rfl⟩:∃j,i=n+j:=⟨i-n,by omega⟩
     rw[hXg]at hx hy
     match j,hx,hy with
     | 0,hx,hy=>cases hx;cases hy;exact hrow rn
     | 1,hx,hy=>cases hx;cases hy;simp[AWb,AW,hr (n+3) (by omega)]
     | 2,hx,hy=>cases hx;cases hy;simp[AWb,AW,hr (n+4) (by omega)]
     | 3,hx,hy =>
       cases hx;cases hy
       refine zFg fun w hw=>?_
       obtain⟨g,hg⟩:=FS.get_some.2 (hsok.sub w hw);have:=FS.at_lt hg
       exact hr _ (by omega)
     | 4,hx,hy=>cases hx;cases hy;exact⟨id,fks _⟩
end
section
open Go Go.Lib
attribute [-simp] zJ zY zn zL zl
theorem zMA(g:Nat->Nat)(G:Int->Nat)(fs:FS):∀(th:List Int) (k:Nat),(∀(j:Nat) v,th[j]? = some v->g (k+j)=G v)->zO g k (zA8 fs th)=thM G th
 | [],_,_=>rfl
 | v::th,k,h=>by
   have h0:=h 0 v rfl;rw[Nat.add_zero]at h0
   have ih:=zMA g G fs th (k+1) fun j w hj=>by rw[show k+1+j=k+(j+1) by omega];exact h (j+1) w (by simpa using hj)
   simp only[zA8,thM,s1Z,zO]at ih ⊢;rw[h0,ih]
theorem FS.at_inj{l:FS}{a b:Int}(ha:a∈FS.keys l)(hb:b∈FS.keys l)(h:FS.at l a=FS.at l b):a=b:=by
 obtain⟨f,hf⟩:=FS.get_some.2 ha;obtain⟨g,hg⟩:=FS.get_some.2 hb;have h1:=FS.at_get hf;have h2:=FS.at_get hg;rw[h,h2]at h1
 cases h1;rfl
theorem zJU:∀l:List Int,Z4 (Z6 l)=true
 | []=>rfl
 | _::l=>by simp[Z6,Z4,zBz]
theorem zJG(d:DS){A B:Nat}(hok:d.ok A B)(hA:A<=1000000)(hB:B<=1000000000000)(row:List Int)(hrw:∀x∈row,0<=x/\x<=65535)(hrl:row.length<=9223372036854775807)(L:Nat)(hLr:L<=row.length)(c:Bool) :
   Ct Pz 22 [.ptr 0 0,.sl 1 0 L 1 c] [.obj true d.blks,.cells false (Z6 row)] (.tuple []) [.obj true (d.restart (row.take L)).blks,.cells false (Z6 row)]:=by
 obtain⟨ns,hnsr⟩:∃ns,ns=row.take L:=⟨_,rfl⟩;rw[<-hnsr];obtain⟨fd,hfd⟩:∃fd,d.fd.survive (ns.headD 0)=fd:=⟨_,rfl⟩;obtain⟨s,hs⟩:∃s,zB3 fd ns.tail d.fs fd.names=s:=⟨_,rfl⟩;obtain⟨o,hct⟩:=zLF d hok hA hB row hrw hrl L hLr ns hnsr c fd hfd s hs
 have hr:d.restart ns=⟨fd,zA8 s.2.1 s.2.2,d.quota,d.steps,0,false⟩:=by unfold DS.restart;rw[hfd,hs]
 have h3:fd.each (zN6 d.fs):=by rw[<-hfd];exact FD.each_survive hok.has _
 have hso:StOk fd B s d.fs:=by
   rw[<-hs]
   exact zDK _ ⟨rfl,hok.fine,List.nodup_nil,fun n hn=>by cases hn⟩ fun k hk=>by
     obtain⟨v,hv⟩:=FD.names_get hk;rw[FD.find_get hv];exact FD.each_now h3 k v hv
 have hsl:s.2.1.length=d.fs.length:=by
   have:=congrArg List.length hso.keys;simpa[FS.keys] using this
 have hatk:=FS.at_keys hso.keys;obtain⟨n,hn⟩:∃n,d.fs.length=n:=⟨_,rfl⟩;have hX:=behind s.2.1;rw[hsl,hn]at hX
 obtain⟨g,hg⟩:∃g:Nat->Nat,g=fun i=>FS.at d.fs (s.2.2.getD i 0)+3:=⟨_,rfl⟩
 have hgi:∀(i:Nat) v,s.2.2[i]? = some v->g i=FS.at d.fs v+3:=fun i v h=>by rw[hg];simp[q2Z,h]
 have hlt:∀v∈s.2.2,FS.at d.fs v<n:=fun v hv=>by
   obtain⟨f,hf⟩:=FS.get_some.2 (hso.sub v hv)
   rw[<-hn];exact FS.at_lt hf
 have hthl:(zA8 s.2.1 s.2.2).length=s.2.2.length:=by simp[zA8]
 have hgr:∀x∈(List.range s.2.2.length).map g,∃v∈s.2.2,x=FS.at d.fs v+3:=by
   intro x hx;obtain⟨i,hi,rfl⟩:=reZ.1 hx;have hi':=List.mem_range.1 hi;exact⟨s.2.2[i],r3Z hi',hgi i _ (q3Z hi')⟩
 rw[hn]at hct;rw[hr];refine zPn (m:=n+6) (g:=g) hct rfl ?_ (zJU row) ?_ ?_ ?_ ?_
 · rw[hn]
   have:(emR n)[n+3]? = some 1:=by rw[zDM,if_neg (by omega),if_neg (by omega),if_pos rfl]
   exact⟨⟨this,rfl,rfl,rfl,id⟩,trivial⟩
 · unfold zIQ
   refine ⟨rfl,rfl,?_,fun i e he=>?_,?_⟩
   · simp only[r9Z]
     rw[hX.get];simp only[rsT,r9Z,raZ]
     rw[zMA g (fun v=>FS.at d.fs v+3) s.2.1 s.2.2 0 fun j v hj=>by rw[s8Z];exact hgi j v hj]
   · dsimp only at he
     unfold zA8 at he;rw[qzZ]at he;obtain⟨v,hv,rfl⟩:=qlZ.1 he;rw[hgi i v hv];simp only[r9Z]
     obtain⟨f,hf⟩:=FS.get_some.2 (by rw[hso.keys];exact hso.sub v (qcZ hv):v∈FS.keys s.2.1)
     rw[hf,q4Z (by rw[hX.len];exact hlt v (qcZ hv)),<-hatk]
     exact Zj (FS.at_get hf)
   · dsimp only
     rw[hthl]
     refine rdZ.2 ⟨fun h=>?_,rdZ.2 ⟨fun h=>?_,rdZ.2 ⟨fun h=>?_,?_⟩⟩⟩
     · rcases qwZ.1 h with h | h
       · omega
       rcases qwZ.1 h with h | h
       · omega
       · obtain⟨v,_,h⟩:=hgr _ h;omega
     · rcases qwZ.1 h with h | h
       · omega
       · obtain⟨v,_,h⟩:=hgr _ h;omega
     · obtain⟨v,hv,h⟩:=hgr _ h;have:=hlt v hv;omega
     · rw[List.nodup_iff_pairwise_ne,List.pairwise_map,List.pairwise_iff_getElem]
       intro i j hi hj hij;simp only[List.length_range]at hi hj;simp only[List.getElem_range];rw[hgi i _ (q3Z hi),hgi j _ (q3Z hj)];intro e
       have h1:=FS.at_inj (hso.sub _ (r3Z hi)) (hso.sub _ (r3Z hj)) (by omega)
       have:=(List.nodup_iff_pairwise_ne.1 hso.nd);exact (List.pairwise_iff_getElem.1 this i j hi hj hij) h1
 · dsimp only
   rw[hthl,hn];simp only[qwZ,not_or]
   refine ⟨by omega,by omega,by omega,fun h=>?_⟩
   obtain⟨v,hv,h⟩:=hgr _ h;have:=hlt v hv;omega
 · rw[hn]
   have:(zIQ d fd s n o L c row fd.names).drop (n+4)=rsT d n o L c s fd.names:=by
     unfold zIQ;simp only[List.drop_succ_cons]
     rw[sdZ,List.drop_of_length_le (by rw[hX.len];omega),hX.len,show n+1-n=1 by omega]
     rfl
   rw[this];rfl
 · unfold zIQ
   simp[hX.len,hn]
noncomputable section
open Classical
def DS.small(d:DS):Prop:=d.ok 900000 1000000000000
def zKr:zc:=zBv dsD DS.blks fun d xs _=>match xs with
 | [.str k]=>if d.small then some ((d.sync k).1,.int .i64 (d.sync k).2) else none
 | _=>none
theorem zNR:Sound Pz 113 zKr:=by
 refine zr (zH Tryz.func113 rfl (by decide)) (fun _ _=>zAb) fun d xs H s' v b hg hb=>?_
 split at hg;rotate_left
 · cases hg
 split at hg <;> cases hg
 rename_i hs
 exact ZM (zCC (zUE d hs (by decide) _) rfl) rfl rfl hb
def zTy:zc:=zBv dsD DS.blks fun d xs _=>match xs with
 | [.int .i64 m]=>some (d.arm m,.tuple [])
 | _=>none
theorem zPe:Sound Pz 15 zTy:=by
 refine zr (zH Tryz.func15 rfl (by decide)) (fun _ _=>zAb) fun d xs H s' v b hg hb=>?_
 split at hg <;> cases hg
 exact ZM (zCC (zVh d _) rfl) rfl rfl hb
def zK2:zc:=zBv dsD DS.blks fun d xs _=>match xs with
 | []=>some (d,.bool d.down)
 | _=>none
theorem zNL:Sound Pz 20 zK2:=by
 refine zr (zH Tryz.func20 rfl (by decide)) (fun _ _=>zAb) fun d xs H s' v b hg hb=>?_
 split at hg <;> cases hg
 exact ZM (zCC (zSf d) rfl) rfl rfl hb
end
end
section
open Go Go.Lib
attribute [-simp] zJ zY zn zL zl
theorem zTk(d:DS)(hsm:d.fd.small):Ct Pz 25 [.ptr 0 0] [.obj true d.blks] (.sl 1 0 d.list.length 1 false) [.obj true d.blks,.cells true (d.list.map .str)]:=by
 have h:=zQO d hsm;rw[DS.heap_eq,DS.heap_eq,r2Z]at h
 refine zGL h (by simp[DS.blks]) (Aft.closeDS d [0] (by decide) rfl ?_ fun i t x h1 h2=>?_)
 · simp[AW]
 · match i,h1,h2 with
   | 0,h1,h2=>cases h1;cases h2;exact⟨_,rfl,id,(zBP (ZK d.list AV.str fun _=>rfl)).2 trivial⟩
theorem zSK(d:DS){A B:Nat}(hok:d.ok A B)(hA:A<=1000000):Ct Pz 40 [.ptr 0 0] [.obj true d.blks] (.sl 1 0 d.files.length 2 false) [.obj true d.blks,.cells true (flA d.files)]:=by
 have h:=zOA d hok hA;rw[DS.heap_eq,DS.heap_eq,r2Z]at h
 refine zGL h (by simp[DS.blks]) (Aft.closeDS d [0] (by decide) rfl ?_ fun i t x h1 h2=>?_)
 · simp[AW]
 · match i,h1,h2 with
   | 0,h1,h2=>cases h1;cases h2;exact⟨_,rfl,id,(zBP (zAP d.files)).2 trivial⟩
theorem zQn{f:FuncId}{d:DS}{k sz:Nat}{l:List AV}(h:Ct Pz f [.ptr 0 0] [.obj true d.blks] (.sl 1 0 k sz false) [.obj true d.blks,.cells true l])(hl:∀g,Zo g l=l){H:zA}{b:Nat}(hb:H[b]? = some (.obj true d.blks)) :
   Ct Pz f [.ptr b 0] H (.sl H.length 0 k sz false) (H++[.cells true l]):=by
 have hbl:b<H.length:=(q1Z.1 hb).1
 have:=ZE (H:=H) (args:=[.ptr b 0]) h [b] (by simp) ⟨⟨rfl,rfl⟩,trivial⟩ ⟨by rw[q2Z,hb];exact⟨rfl,rfl⟩,hbl,trivial⟩ rfl
 obtain⟨h1,h2⟩:=q1Z.1 hb
 have hset:H.set b (.obj true d.blks)=H:=by rw[<-h2,List.set_getElem_self]
 simpa[zf,ABlk.own,reB,reA,Z5,hset,hl] using this
noncomputable section
open Classical
def zLy:zc:=fun args H=>match args with
 | [.ptr b 0]=>match H[b]? with
   | some (.obj true sub)=>match dsD sub with
     | some d=>if d.small then some (.sl H.length 0 d.list.length 1 false,H++[.cells true (d.list.map .str)],[]) else none
     | none=>none
   | _=>none
 | _=>none
theorem zMa:Sound Pz 25 zLy:=by
 refine ⟨zH Tryz.func25 rfl (by decide),fun args H v H' W hs=>?_,fun args H v H' W hs=>?_⟩ <;> (unfold zLy at hs;split at hs <;> try cases hs) <;> (split at hs <;> try cases hs) <;> (rename_i b _ sub hb;split at hs <;> try cases hs) <;> (rename_i d hd;split at hs <;> cases hs;rename_i hk)
 · have e:=zAb hd
   subst e
   exact zQn (zTk d (DS.small_fd hk (by decide))) (fun g=>zCY g _ (by simp[Z4,zBz])) hb
 · exact⟨by simp,fun c hc _=>by rw[q4Z hc]⟩
def zF9:zc:=fun args H=>match args with
 | [.ptr b 0]=>match H[b]? with
   | some (.obj true sub)=>match dsD sub with
     | some d=>if d.small then some (.sl H.length 0 d.files.length 2 false,H++[.cells true (flA d.files)],[]) else none
     | none=>none
   | _=>none
 | _=>none
theorem zE7:∀l,Z4 (flA l)=true
 | []=>rfl
 | e::l=>by have:=zE7 l;simpa[flA,Z4,zBz] using this
theorem zLC:Sound Pz 40 zF9:=by
 refine ⟨zH Tryz.func40 rfl (by decide),fun args H v H' W hs=>?_,fun args H v H' W hs=>?_⟩ <;> (unfold zF9 at hs;split at hs <;> try cases hs) <;> (split at hs <;> try cases hs) <;> (rename_i b _ sub hb;split at hs <;> try cases hs) <;> (rename_i d hd;split at hs <;> cases hs;rename_i hk)
 · have e:=zAb hd
   subst e
   exact zQn (zSK d hk (by decide)) (fun g=>zCY g _ (zE7 _)) hb
 · exact⟨by simp,fun c hc _=>by rw[q4Z hc]⟩
def zP4:AV->Option (Nat×Nat×Bool)
 | .slice b 0 L 1 c=>some (b,L,c)
 | .sl b 0 L 1 c=>some (b,L,c)
 | _=>none
def zGY:zc:=fun args H=>match args with
 | [.ptr b 0,x]=>match zP4 x,H[b]? with
   | some (b2,L,_),some (.obj true sub)=>match dsD sub,H[b2]? with
     | some d,some (.cells _ a)=>match zFE a with
       | some l=>if d.small/\L<=l.length/\l.length<=9223372036854775807/\(∀x∈l,0<=x/\x<=65535) then some (.tuple [],H.set b (.obj true (d.restart (l.take L)).blks),[b]) else none
       | none=>none
     | _,_=>none
   | _,_=>none
 | _=>none
theorem drest_sound:Sound Pz 22 zGY:=by
 have key:∀args H v H' W,zGY args H=some (v,H',W)->∃b B,W=[b]/\H'=H.set b B/\Ct Pz 22 args H v H':=by
   intro args H v H' W hs;unfold zGY at hs;split at hs;rotate_left
   · cases hs
   rename_i b x
   split at hs <;> try cases hs
   rename_i b2 L c sub hx hb
   split at hs <;> try cases hs
   rename_i d o a hd hb2
   split at hs <;> try cases hs
   rename_i l hl
   split at hs <;> cases hs
   rename_i hc;obtain⟨h1,h2,h3,h4⟩:=hc;have e:=zAb hd;subst e;have e2:=zGU hl;subst e2;refine ⟨b,_,rfl,rfl,?_⟩
   refine zU1 (x:=.sl 1 0 L 1 c) (xs:=[]) (zJG d h1 (by decide) (by decide) l h4 h3 L h2 c) rfl rfl (zJU l) hb hb2 ?_
   unfold zP4 at hx
   split at hx <;> cases hx
   · exact⟨rfl,rfl,rfl,rfl,fun h=>h⟩
   · exact⟨rfl,rfl,rfl,rfl,fun h=>h⟩
 refine ⟨zH Tryz.func22 rfl (by decide),fun args H v H' W hs=>?_,fun args H v H' W hs=>?_⟩
 · obtain⟨b,B,_,_,h⟩:=key args H v H' W hs
   exact h
 · obtain⟨b,B,rfl,rfl,_⟩:=key args H v H' W hs
   refine ⟨by simp,fun c hc hn=>?_⟩
   simp only[r1Z]at hn;rw[qfZ (Ne.symm hn)]
end
end
section
open Go Go.Lib
attribute [-simp] zJ zY zn zL zl
noncomputable def flD(l:List AV):Option (List (List UInt8×List UInt8)):=open Classical in if h:∃x,l=flA x then some h.choose else none
theorem zWj{l:List AV}{x:List (List UInt8×List UInt8)}(h:flD l=some x):l=flA x:=by
 unfold flD at h;split at h
 · rename_i hx
   cases h;exact hx.choose_spec
 · cases h
theorem zQf:∀{x y:List (List UInt8×List UInt8)},flA x=flA y->x=y
 | [],[],_=>rfl
 | [],_::_,h=>by simp[flA]at h
 | _::_,[],h=>by simp[flA]at h
 | (a,b)::x,(c,d)::y,h=>by
   simp only[flA,List.cons.injEq,AV.str.injEq]at h;rw[h.1,h.2.1,zQf h.2.2]
@[simp] theorem zYC(x:List (List UInt8×List UInt8)):flD (flA x)=some x:=by
 unfold flD;have h:∃y,flA x=flA y:=⟨x,rfl⟩;rw[dif_pos h];exact congrArg some (zQf h.choose_spec).symm
def zGy:List FuncId:=[114,148,115]
theorem zUS:GOk Pz (zAL Pz (zv []) 0 zGy 3):=zq hmix zD 0 zGy 3
theorem zLZ(d:DS)(hd:d.down=true)(k:List UInt8):Ct Pz 79 [.ptr 0 0,.str k] (d.heap []) (.tuple [.int .i64 0,.int .i64 13]) (d.heap []):=by
 have hΓ:=zUS;refine zz Tryz.func79 rfl ?_;simp only[Tryz.ntmps79,q7Z,q8Z,Nat.reduceAdd,Nat.reduceSub,qbZ,q9Z,qaZ];unfold DS.heap DS.cell0;rw[hd]
 refine Sim.step hmix hΓ (n:=0) (by simp;exact⟨rfl,rfl⟩) (by simp) ?_
 refine Sim.step hmix hΓ (n:=0) (by simp +decide [zGy,Tryz.f114];exact⟨rfl,rfl⟩) (by simp) ?_
 refine Sim.exec hmix hΓ (n:=0) (by simp +decide [zGy,Tryz.f148,Tryz.f115];exact⟨rfl,rfl,rfl⟩) (by simp) ?_
 exact⟨.inr rfl,by simp[Tryz.f79],by simp⟩
theorem DS.count_up{d:DS}(h:d.armed=0):d.count=⟨d.fd,d.fs,d.quota,d.steps+1,d.armed,d.down⟩:=by unfold DS.count;rw[if_neg (by rw[h];simp)]
theorem DS.step_up{d:DS}(h:d.armed=0)(hd:d.down=false)(g:DS->DS×Int):d.step g=g ⟨d.fd,d.fs,d.quota,d.steps+1,d.armed,d.down⟩:=by
 unfold DS.step
 rw[DS.count_up h,if_neg (by dsimp only;rw[hd];decide)]
theorem FD.names_nd{fd:FD}(h:fd.numOk):fd.names.Nodup:=(ZN _).symm.nodup (FD.each_now h.2).nd
end
section
open Go Go.Lib
def Z3(fs:FS)(l:NM)(k:List UInt8):Option PF:=(NM.get l k).bind (FS.get fs)
theorem zAk{fs:FS}{l:NM}{k:List UInt8}{f:PF}(h:Z3 fs l k=some f):∃n,NM.get l k=some n/\FS.get fs n=some f:=by
 unfold Z3 at h
 cases hg:NM.get l k with
 | none=>rw[hg]at h;cases h
 | some n=>rw[hg]at h;exact⟨n,rfl,h⟩
theorem zBE{fs:FS}{l:NM}{k:List UInt8}{n:Int}(h:NM.get l k=some n):Z3 fs l k=FS.get fs n:=by unfold Z3;rw[h];rfl
theorem zEI{fs:FS}{l:NM}{k:List UInt8}(h:NM.get l k=none):Z3 fs l k=none:=by unfold Z3;rw[h];rfl
theorem DS.step_cases{d:DS}(_hd:d.down=false)(g:DS->DS×Int) :
   (∃d0:DS,d.step g=(d0,13)/\d0.fd=d.fd/\d0.fs=d.fs/\d0.quota=d.quota/\d0.down=true)\/(∃d0:DS,d.step g=g d0/\d0.fd=d.fd/\d0.fs=d.fs/\d0.quota=d.quota/\d0.down=false):=by
 unfold DS.step
 cases h:d.count.down with
 | true=>exact .inl ⟨d.count,by simp,by simp,by simp,by simp,h⟩
 | false=>exact .inr ⟨d.count,by simp,by simp,by simp,by simp,h⟩
def Stage(r:DS×Int)(q:Int)(P B:FD->FS->Prop):Prop:=r.1.quota=q/\((r.2=0/\r.1.down=false/\P r.1.fd r.1.fs)\/(r.2=13/\r.1.down=true/\B r.1.fd r.1.fs))
def zOX(r:DS×Int)(k:DS->DS×Int):DS×Int:=if r.2=0 then k r.1 else r
theorem Stage.seq{r:DS×Int}{q:Int}{P Q B:FD->FS->Prop}{k:DS->DS×Int}(h:Stage r q P B)(hk:∀d:DS,d.quota=q->d.down=false->P d.fd d.fs->Stage (k d) q Q B):Stage (zOX r k) q Q B:=by
 unfold zOX;obtain⟨h0,⟨h1,h2,h3⟩ | ⟨h1,h2,h3⟩⟩:=h
 · rw[if_pos h1];exact hk _ h0 h2 h3
 · rw[if_neg (by omega)];exact⟨h0,.inr ⟨h1,h2,h3⟩⟩
theorem zO4{d:DS}(hd:d.down=false){P B:FD->FS->Prop}{g:DS->DS×Int}(hB:B d.fd d.fs)
   (hg:∀d0:DS,d0.fd=d.fd->d0.fs=d.fs->d0.quota=d.quota->d0.down=false->∃fd fs,g d0=(⟨fd,fs,d0.quota,d0.steps,d0.armed,d0.down⟩,0)/\P fd fs):Stage (d.step g) d.quota P B:=by
 rcases DS.step_cases hd g with⟨d0,h1,h2,h3,h4,h5⟩ | ⟨d0,h1,h2,h3,h4,h5⟩
 · rw[h1]
   exact⟨h4,.inr ⟨rfl,h5,by dsimp only;rw[h2,h3];exact hB⟩⟩
 · rw[h1]
   obtain⟨fd,fs,h6,h7⟩:=hg d0 h2 h3 h4 h5;rw[h6];exact⟨h4,.inl ⟨rfl,h5,h7⟩⟩
theorem zNC{d:DS}(hd:d.down=false){P B:FD->FS->Prop}{x:List UInt8}{n:Int}{f f':PF}(hx:d.fd.now.get x=some n)(hf:FS.get d.fs n=some f){g:DS->PF->PF×Int}(hB:B d.fd d.fs)
   (hg:∀d0:DS,d0.fd=d.fd->d0.fs=d.fs->d0.quota=d.quota->d0.down=false->g d0 f=(f',0)) (hP:P d.fd (FS.upd d.fs n fun _=>f')):Stage (d.of x g) d.quota P B:=by
 refine zO4 hd hB fun d0 h1 h2 h3 h4=>⟨_,_,?_,hP⟩
 rw[h1,hx,h2];dsimp only;rw[hf];dsimp only;rw[hg d0 h1 h2 h3 h4]
theorem zIe{d:DS}(hd:d.down=false){P B:FD->FS->Prop}{x:List UInt8}{n:Int}{f:PF}(hx:d.fd.now.get x=some n)(hf:FS.get d.fs n=some f)(hB:B d.fd d.fs)
   (hP:P d.fd (FS.upd d.fs n fun _=>⟨f.now,[]⟩)):Stage (d.sync x) d.quota P B:=zNC hd hx hf hB (fun _ _ _ _ _=>rfl) hP
theorem zKK(fd:FD):∀(ks:List (List UInt8)) (st:List Int×FS×List Int) (n:Int) (f:PF),FS.get st.2.1 n=some f->∃f',FS.get (ks.foldl (zAy fd) st).2.1 n=some f'/\∀p:PF->Prop,p f->(∀g a b,p g->p ⟨g.stays a b,[]⟩)->p f'
 | [],st,n,f,h=>⟨f,h,fun p hp _=>hp⟩
 | k::ks,st,n,f,h=>by
   rw[List.foldl_cons]
   have h4:∃f',FS.get (zAy fd st k).2.1 n=some f'/\∀p:PF->Prop,p f->(∀g a b,p g->p ⟨g.stays a b,[]⟩)->p f':=by
     simp only[zAy];rw[FS.get_upd];split
     · rename_i e
       rw[<-e,h]
       exact⟨_,rfl,fun p hp hq=>hq _ _ _ hp⟩
     · exact⟨f,h,fun p hp _=>hp⟩
   obtain⟨f1,g1,g2⟩:=h4;obtain⟨f2,g3,g4⟩:=zKK fd ks _ n f1 g1
   exact⟨f2,g3,fun p hp hq=>g4 p (g2 p hp hq) hq⟩
theorem zFs{d:DS}{A B:Nat}(hok:d.ok A B)(l:List Int):∃i,i<=d.fd.acts.length/\(d.restart l).fd=⟨ZU d.fd.d (d.fd.acts.take i),[],d.fd.last⟩/\(d.restart l).down=false/\(d.restart l).quota=d.quota/\(d.restart l).armed=0 /\
   ∀k,(Z3 d.fs (ZU d.fd.d (d.fd.acts.take i)) k=none/\Z3 (d.restart l).fs (d.restart l).fd.now k=none) \/
     ∃f f',Z3 d.fs (ZU d.fd.d (d.fd.acts.take i)) k=some f/\Z3 (d.restart l).fs (d.restart l).fd.now k=some f'/\∀p:PF->Prop,p f->(∀g a b,p g->p ⟨g.stays a b,[]⟩)->p f':=by
 have hc:d.fd.clamp (l.headD 0)<=d.fd.acts.length:=by unfold FD.clamp;omega
 refine ⟨d.fd.clamp (l.headD 0),hc,rfl,rfl,rfl,rfl,fun k=>?_⟩
 obtain⟨fd,hfd⟩:∃fd,d.fd.survive (l.headD 0)=fd:=⟨_,rfl⟩
 have hnow:ZU d.fd.d (d.fd.acts.take (d.fd.clamp (l.headD 0)))=fd.now:=by rw[<-hfd];rfl
 obtain⟨r,hr⟩:∃r,zB3 fd l.tail d.fs fd.names=r:=⟨_,rfl⟩
 have hd:d.restart l=⟨fd,zA8 r.2.1 r.2.2,d.quota,d.steps,0,false⟩:=by
   unfold DS.restart;rw[hfd,hr]
 rw[hnow,hd];have hhas:=hok.has _ hc;rw[hnow]at hhas
 cases hg:NM.get fd.now k with
 | none=>exact .inl ⟨zEI hg,zEI hg⟩
 | some n =>
   obtain⟨f,hf⟩:=FS.get_some.2 (hhas k n hg);obtain⟨f',g1,g2⟩:=zKK fd fd.names (l.tail,d.fs,[]) n f hf
   have g1':FS.get r.2.1 n=some f':=by rw[<-hr];exact g1
   have hmem:n∈r.2.2:=by
     rw[<-hr];unfold zB3;rw[zDm]
     exact .inr ⟨k,FD.names_of hg,by rw[FD.find_get hg]⟩
   exact .inr ⟨f,f',by rw[zBE hg,hf],by rw[zBE hg,zJr _ _ _ hmem,g1'];rfl,g2⟩
theorem PF.stays_settled(s:List UInt8)(a b:Int):(⟨s,[]⟩:PF).stays a b=s:=by
 simp[PF.stays,zA2]
theorem zNN{d:DS}(hd:d.down=false){k:List UInt8}{f:PF}{m:Nat}(h:Z3 d.fs d.fd.now k=some f)(hm:f.now.length<=m):d.readAt k 0 m=(f.now,0):=by
 obtain⟨n,h1,h2⟩:=zAk h;unfold DS.readAt;rw[hd,h1];simp only[qsZ,if_false];rw[h2];unfold PF.readAt;dsimp only
 rw[if_neg (by omega)]
 simp only[Int.toNat_zero,List.drop_zero,Int.toNat_natCast];rw[q6Z hm]
theorem FS.upd_app{l:FS}{m:Int}{f:PF}(h:m∉FS.keys l)(g:PF->PF):FS.upd (l++[(m,f)]) m g=l++[(m,g f)]:=by
 induction l with
 | nil=>simp[FS.upd]
 | cons e l ih =>
   simp only[FS.keys,s1Z,qwZ,not_or]at h;rw[q9Z];unfold FS.upd
   rw[if_neg (fun e=>h.1 e.symm),ih h.2]
   rfl
theorem FS.get_new{l:FS}{m:Int}{f:PF}(h:m∉FS.keys l):FS.get (l++[(m,f)]) m=some f:=by
 rw[FS.get_app,FS.get_none.2 h];exact if_pos rfl
structure Core (fd:FD) (fs:FS):Prop where
 num:fd.numOk
 has:fd.each (zN6 fs)
 rng:∀n∈FS.keys fs,n<=fd.last
theorem DS.ok.core{d:DS}{A B:Nat}(h:d.ok A B):Core d.fd d.fs:=⟨h.num,h.has,fun n hn=>(h.rng n hn).2⟩
abbrev fdN(fd:FD)(x:List UInt8):FD:=⟨fd.d,fd.acts++[.cre x (fd.last+1)],fd.last+1⟩
abbrev fsN(fd:FD)(fs:FS)(f:PF):FS:=fs++[(fd.last+1,f)]
theorem zSl(fd:FD)(x:DAct)(n:Int):(⟨fd.d,fd.acts++[x],n⟩:FD).now=x.run fd.now:=by
 unfold FD.now;rw[zBa];rfl
def zXE(g:DS->DS×Int):Prop:=∀d:DS,d.armed=0->d.down=false->(g d).1.armed=0/\(g d).1.down=false
theorem zRb{g:DS->DS×Int}(hg:∀d,(g d).1.armed=d.armed/\(g d).1.down=d.down):zXE fun d=>d.step g:=fun d h1 h2=>by
 dsimp only;rw[DS.step_up h1 h2];have:=hg ⟨d.fd,d.fs,d.quota,d.steps+1,d.armed,d.down⟩;exact⟨this.1.trans h1,this.2.trans h2⟩
theorem zQW(x:List UInt8)(g:DS->PF->PF×Int):zXE fun d=>d.of x g:=zRb fun d=>by
 split
 · exact⟨rfl,rfl⟩
 · split <;> exact⟨rfl,rfl⟩
theorem zJ5(x:List UInt8):zXE fun d=>d.sync x:=zQW x _
theorem zMi{d:DS}(hd:d.down=false)(x:List UInt8):x∈d.list↔d.fd.now.get x≠none:=by
 unfold DS.list;rw[hd];simp only[qsZ,if_false];constructor
 · intro h e
   obtain⟨n,hn⟩:=FD.names_get h;rw[hn]at e;cases e
 · intro h
   cases hg:d.fd.now.get x with
   | none=>exact absurd hg h
   | some n=>exact FD.names_of hg
end
end Go.Proofs.YtpmfecnajoojeaaGreatDoor
