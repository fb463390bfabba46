/- Parts of the proof of DiskTells: lemmas, each with its own conditions. -/
import Derived.Test.YtfhidaoiofeooaaGreatY18
set_option maxHeartbeats 64000000
open List renaming getElem?_eq_some_iff → q1Z, getD_eq_getElem?_getD → q2Z, getElem?_eq_getElem → q3Z, getElem?_append_left → q4Z, getElem?_append_right → q5Z, take_of_length_le → q6Z, length_cons → q7Z, length_nil → q8Z, cons_append → q9Z, nil_append → qaZ, replicate → qbZ, mem_of_getElem? → qcZ, length_append → qdZ, append_assoc → qeZ, getElem?_set_ne → qfZ, mem_cons_self → qhZ, mem_cons_of_mem → qiZ, length_take → qjZ, mem_cons → qwZ, mem_append → qxZ, getElem?_map → qzZ, mem_singleton → r1Z, append_nil → r2Z, getElem_mem → r3Z, getElem?_take → r4Z, length_set → r8Z, getElem?_cons_succ → r9Z, getElem?_cons_zero → raZ, nodup_cons → rdZ, mem_map → reZ, getElem?_range → rfZ, map_cons → s1Z, getElem?_eq_none → s4Z, all_eq_true → s5Z, set_cons_zero → s9Z, set_cons_succ → saZ, drop_append → sdZ
open Option renaming map_eq_some_iff → qlZ, getD_some → rgZ, map_some → rhZ
open Nat renaming le_refl → qnZ, zero_le → qqZ, lt_irrefl → rnZ, lt_or_ge → s2Z, add_sub_cancel_left → s3Z, zero_add → s8Z, min_eq_left → sfZ
open Bool renaming and_eq_true → qrZ
namespace Go.Proofs.YtfhidaoiofeooaaGreat
open _root_.Go.Proofs.Tryz renaming prog → Pz
set_option maxRecDepth 100000
section
open Go Go.Lib
attribute [-simp] zN zr ZI zT ZL
theorem DS.tail1(d:DS){row:ABlk}(hrow:∀rn:List Nat,AWb rn row row){T Tn:zA}{F Fn:List AV}(ts:List Nat)(hts:ts.Nodup)
   (hF:AWs (List.range (d.fs.length+4)++ts.map (d.fs.length+4+·)) Fn F) (hlen:Tn.length=ts.length)
   (hT:∀(i t:Nat) x y,ts[i]? = some t->Tn[i]? = some x->T[t]? = some y->AWb (List.range (d.fs.length+4)++ts.map (d.fs.length+4+·)) x y):Weak (d.fs.length+4) F (d.heap (row::T)) Fn (d.heap (row::Tn)):=by
 have hl:=d.blks_length
 have e:∀U:zA,d.heap (row::U)=(d.blks++[row])++U:=fun U=>by rw[DS.heap_eq,qeZ];rfl
 rw[e,e]
 have hN:(d.blks++[row]).length=d.fs.length+4:=by rw[qdZ,hl];rfl
 refine Weak.tailG hN (fun rn hr B hB=>?_) ts hts hF (AWg.of _ _ (by simp[hlen]) fun i x b hx hb hlt=>?_)
 · rcases qxZ.1 hB with h | h
   · exact d.blks_id rn (fun i hi=>hr i (by omega)) B h
   · rw[r1Z.1 h];exact hrow rn
 · rw[qzZ]at hb
   obtain⟨t,ht,rfl⟩:=qlZ.1 hb;rw[qdZ,hN]at hlt
   have htl:t<T.length:=by omega
   rw[q2Z,q5Z (by omega),hN,s3Z,q3Z htl]
   exact hT i t x _ ht hx (q3Z htl)
theorem zKh(fd:FD)(fs:FS)(ns:List Int):∀(ks:List (List UInt8)) (s:List Int×FS×List Int) (o:Nat),s.1=ns.drop o->(ks.foldl (zAj fd) s).1=ns.drop (o+2*ks.length)
 | [],s,o,h=>h
 | k::ks,s,o,h=>by
   rw[List.foldl_cons,zKh fd fs ns ks (zAj fd s k) (o+2) (by simp only[zAj,h];simp)]
   congr 1
   simp;omega
def zHV:List FuncId:=[34]
noncomputable def zG1:Gam:=zo [(35,zIb),(36,zEn),(37,zAc),(38,zOt),(95,zKQ)]
theorem zUd:GOk Pz (zA2 Pz zG1 0 zHV 2):=ZT hmix (zB zHC (zB zGW (zB zAQ (zB zMF (zB zPe zC))))) 0 zHV 2
def rsD(d:DS)(fd:FD)(s:List Int×FS×List Int):DS:=⟨fd,s.2.1,d.quota,d.steps,d.armed,d.down⟩
def rsT(d:DS)(n o L:Nat)(c:Bool)(s:List Int×FS×List Int)(ks:List (List UInt8)):zA :=
 [.cells true [.sl (n+3) o (L-o) 1 c],.cells true [.func 95 [] [.ptr (n+4) 0]],.map (thM (fun v=>FS.at d.fs v+3) s.2.2),.cells true (ks.map .str)]
abbrev rsF(n M i:Nat):List AV:=[.ptr 0 0,.top,.top,.top,.ptr (n+5) 0,.map (n+6)]++qbZ 22 .top++[.sl (n+7) 0 M 1 false,.int .i64 M,.int .i64 i]++qbZ 44 .top
theorem zFw{rn:List Nat}{g:Int->Nat}:∀{th:List Int},(∀v∈th,rn[g v]? = some (g v))->AWb rn (.map (thM g th)) (.map (thM g th))
 | [],_=>⟨trivial,trivial⟩
 | v::th,h=>by
   obtain⟨h1,h2⟩:=zFw (rn:=rn) (g:=g) (th:=th) fun w hw=>h w (qiZ _ hw)
   exact⟨⟨⟨rfl,rfl⟩,h1⟩,⟨⟨h v (qhZ ..),rfl⟩,h2⟩⟩
theorem zIB{fs:FS}{v:Int}(h:v∈FS.keys fs)(ts:List Nat):(List.range (fs.length+4)++ts)[FS.at fs v+3]? = some (FS.at fs v+3):=by
 obtain⟨f,hf⟩:=FS.get_some.2 h;have:=FS.at_lt hf
 exact zAh _ _ (by omega)
theorem zMw{H Hn:zA}{F Fn:List AV}{N M:Nat}(_hM:H.length=M)(hN:N<=M)(hF:∀rn:List Nat,(∀i,i<M->rn[i]? = some i)->AWs rn Fn F)
   (hlen:Hn.length=M) (hH:∀rn:List Nat,(∀i,i<M->rn[i]? = some i)->∀(i:Nat) x y,Hn[i]? = some x->H[i]? = some y->AWb rn x y):Weak N F H Fn Hn:=by
 have hr:∀i,i<M->(List.range M)[i]? = some i:=fun i hi=>rfZ hi
 refine Weak.mk' (List.range M) List.nodup_range (by rw[List.take_range,sfZ hN]) (hF _ hr) (AWg.of _ _ (by simp[hlen]) fun i x b hx hb hlt=>?_)
 have hi:i<M:=by rw[<-hlen];exact (q1Z.1 hx).1
 rw[hr i hi]at hb;cases hb
 rw[q2Z,q3Z hlt];exact hH _ hr i x _ hx (q3Z hlt)
def zIT(d:DS)(fd:FD)(s:List Int×FS×List Int)(n o L:Nat)(c:Bool)(row:List Int)(ks:List (List UInt8)):zA :=
 .cells true [.ptr 1 0,.map (n+6),.int .i64 d.quota,.int .i64 d.steps,.int .i64 0,.bool false]::.obj true fd.blks::.map (zP (fun i=>i+3) 0 s.2.1)::(zK s.2.1++(.cells false (zp row)::rsT d n o L c s ks))
theorem zLF(d:DS){A B:Nat}(hok:d.ok A B)(hA:A<=1000000)(hB:B<=1000000000000)(row:List Int)(hrw:∀x∈row,0<=x/\x<=65535)(hrl:row.length<=9223372036854775807)(L:Nat)(hLr:L<=row.length)(ns:List Int)(hnsr:ns=row.take L)(c:Bool)(fd:FD)(hfd:d.fd.survive (ns.headD 0)=fd)(s:List Int×FS×List Int)(hs:zB6 fd ns.tail d.fs fd.names=s) :
   ∃o,Ct Pz 11 [.ptr 0 0,.sl (d.fs.length+3) 0 L 1 c] (d.heap [.cells false (zp row)]) (.tuple []) (zIT d fd s d.fs.length o L c row fd.names):=by
 have hΓ:=zUd;have hsm:d.fd.small:=FD.ok_mono hok.fd hA
 have hal:d.fd.acts.length<=1000000:=by have:=hok.fd.len;omega
 have hfds:fd.small:=by rw[<-hfd];exact FD.ok_survive hsm _
 have h3:fd.each (zN9 d.fs):=by rw[<-hfd];exact FD.each_survive hok.has _
 have hkk:∀k∈fd.names,∃v,fd.find k=(v,true)/\v∈FS.keys d.fs:=fun k hk=>by
   obtain⟨v,hv⟩:=FD.names_get hk;exact⟨v,FD.find_get hv,FD.each_now h3 k v hv⟩
 have hkeys:∀k∈fd.names,(fd.find k).1∈FS.keys d.fs:=fun k hk=>by
   obtain⟨v,h1,h2⟩:=hkk k hk
   rw[h1];exact h2
 have hM:fd.names.length<=1000000:=by
   have h1:=(FD.ok_now hfds).2;unfold FD.names;rw[(Zg _).length_eq];simpa[NM.keys] using h1
 obtain⟨ks,hks⟩:∃ks,fd.names=ks:=⟨_,rfl⟩;rw[hks]at hkk hkeys hM hs ⊢;obtain⟨M,hMe⟩:∃M,ks.length=M:=⟨_,rfl⟩
 have hL:ns.length=L:=by rw[hnsr,qjZ,sfZ hLr]
 have hnxt:∀o,o<=L->nxt row o (L-o)=(ns.drop o).headD 0:=fun o _=>by unfold nxt;rw[hnsr,List.drop_take]
 have hnok:∀o,o<=L->zWP row o (L-o):=fun o ho=>⟨by omega,hrl,hrw⟩
 have hnO:∀o,o<=L->nxO o (L-o)=min (o+1) L:=fun o ho=>by unfold nxO;omega
 have hnN:∀o,o<=L->nxN (L-o)=L-min (o+1) L:=fun o ho=>by unfold nxN;omega
 have hns:∀x∈ns,0<=x/\x<=65535:=fun x hx=>hrw x (by rw[hnsr]at hx;exact List.mem_of_mem_take hx)
 obtain⟨S,hS⟩:∃S:Nat->List Int×FS×List Int,S=fun i=>(ks.take i).foldl (zAj fd) (ns.tail,d.fs,[]):=⟨_,rfl⟩
 have hS0:S 0=(ns.tail,d.fs,[]):=by rw[hS];rfl
 have hSM:S M=s:=by rw[hS];dsimp only;rw[q6Z (by omega)];exact hs
 have hSn:∀i (h:i<ks.length),S (i+1)=zAj fd (S i) ks[i]:=fun i h=>by
   rw[hS];dsimp only
   rw[List.take_add_one,q3Z h,List.foldl_append];rfl
 have hSok:∀i,StOk fd B (S i) d.fs:=fun i=>by
   rw[hS]
   exact zDV _ ⟨rfl,hok.fine,List.nodup_nil,fun n hn=>by cases hn⟩ fun k hk=>hkeys k (List.mem_of_mem_take hk)
 have hSd:∀i,i<=M->(S i).1=ns.drop (1+2*i):=fun i hi=>by
   rw[hS];dsimp only
   rw[zKh fd d.fs ns (ks.take i) _ 1 (by simp),qjZ,sfZ (by omega)]
 have hSl:∀i,(S i).2.1.length=d.fs.length:=fun i=>by
   have:=congrArg List.length (hSok i).keys;simpa[FS.keys] using this
 refine ⟨min (1+2*M) L,?_⟩;have hlen:=d.heap_length [.cells false (zp row)];obtain⟨n,hn⟩:∃n,d.fs.length=n:=⟨_,rfl⟩
 have hrow:∀rn:List Nat,AWb rn (.cells false (zp row)) (.cells false (zp row)):=fun rn=>⟨id,(zBh (ZB row)).2 trivial⟩
 have tl:=fun (i:Nat) {T Tn F Fn}=>DS.tail1 (rsD d fd (S i)) hrow (T:=T) (Tn:=Tn) (F:=F) (Fn:=Fn)
 have hrl2:∀i,(rsD d fd (S i)).fs.length=n:=fun i=>by rw[<-hn];exact hSl i
 simp only[hrl2]at tl;refine zG Tryz.func11 rfl ?_;simp only[Tryz.ntmps11,q7Z,q8Z,Nat.reduceAdd,Nat.reduceSub,qbZ,q9Z,qaZ];rw[hlen,hn];simp only[q7Z,q8Z,s8Z]
 rw[show n+1+3=n+4 by omega]
 have hX:=behind d.fs;rw[hn]at hX;have hXl:=hX.len;have hXg:=hX.get;have hXg0:=hX.get0;have hXs:=hX.set
 have hfd':d.fd.survive (ns.head?.getD 0)=fd:=by rw[<-hfd];cases ns <;> rfl
 have h0k:=hnok 0 (qqZ _);have h0v:=hnxt 0 (qqZ _);have h0o:=hnO 0 (qqZ _);have h0n:=hnN 0 (qqZ _);rw[Nat.sub_zero]at h0k h0v h0o h0n;rw[List.drop_zero]at h0v;rw[s8Z]at h0o h0n
 have fks:∀rn:List Nat,AWs rn (ks.map AV.str) (ks.map AV.str):=fun rn=>(zBh (ZG ks AV.str fun _=>rfl)).2 trivial
 have start:∀{Q:AX->List AV->zA->Prop},Sim Pz none (n+4) (zBx 3 (zCO Tryz.f11)) ([.ptr 0 0,.top,.top,.top,.ptr (n+5) 0]++qbZ 70 .top) ((rsD d fd (S 0)).heap [.cells false (zp row),.cells true [.sl (n+3) (min 1 L) (L-min 1 L) 1 c],.cells true [.func 95 [] [.ptr (n+4) 0]]]) Q ->
     Sim Pz none (n+4) (zCO Tryz.f11) ([.ptr 0 0,.sl (n+3) 0 L 1 c]++qbZ 73 zd) (d.heap [.cells false (zp row)]) Q:=by
   intro Q k;simp only[zCO,Tryz.f11,rgZ,zBx]at k ⊢;simp only[qbZ,q9Z,qaZ]at k ⊢;unfold DS.heap DS.cell0;obtain⟨X,eX⟩:∃X,zK d.fs=X:=⟨_,rfl⟩;rw[eX]at hXl hXg hXg0 hXs ⊢
   refine Sim.step hmix hΓ (n:=0) (by simp;exact⟨rfl,rfl⟩) (by simp[hXl]) ?_
   refine Sim.step hmix hΓ (n:=0) (by simp[zHV,Tryz.f34,hXl,hXs];exact⟨rfl,rfl⟩) (by simp[hXl]) ?_
   refine Sim.seq (Sim.draw hmix (by simp[hXl]) ?_)
   refine SimR.hard hΓ 6 48 _ rfl (by simp[zI];rfl) (by omega) (by kernel_rfl) (by kernel_rfl) (by simp +decide [hXl];exact⟨rfl,rfl,rfl⟩) (by kernel_rfl) (by simp +decide [zBL,List.range,List.range.loop];rfl) (by simp +decide [zG1,zKQ,zAz,hXg,hXg0,hXs,h0k,h0v,h0o,h0n];exact⟨rfl,rfl⟩) (by simp +decide [zFT,zLh,ZM,List.range,List.range.loop]) ?_
   refine SimR.one hΓ _ rfl (by kernel_rfl) (by simp +decide [zG1,zIb,hal,hfd'];exact⟨rfl,rfl⟩) ?_
   refine SimR.done rfl ?_;dsimp only
   have tlx:=fun {T Tn F Fn}=>tl 0 (T:=T) (Tn:=Tn) (F:=F) (Fn:=Fn) [0,2] (by decide)
   rw[hS0]at tlx;unfold rsD DS.heap DS.cell0 at tlx;dsimp only at tlx;rw[eX]at tlx
   refine Sim.weak (tlx (Tn:=[.cells true [.sl (n+3) (min 1 L) (L-min 1 L) 1 c],.cells true [.func 95 [] [.ptr (n+4) 0]]]) (Fn:=[.ptr 0 0,.top,.top,.top,.ptr (n+5) 0]++qbZ 70 .top) ?_ rfl fun j t x y h1 h2 h3=>?_) (by simp[hXl]) ?_
   · simp[AW]
   · match j,h1,h2 with
     | 0,h1,h2=>cases h1;cases h2;cases h3;simp[AWb,AW]
     | 1,h1,h2=>cases h1;cases h2;cases h3;simp[AWb,AW]
   · rw[hS0]at k
     unfold rsD DS.heap DS.cell0 at k;dsimp only at k;rw[eX]at k;exact k
 refine Sim.mono (start (Q:=fun e F1 H1=>(e=.normal\/e=.ret)/\Weak (n+4) [.tuple []] H1 [.tuple []] (zIT d fd s n (min (1+2*M) L) L c row ks)) ?_) ?_
 rotate_left
 · rintro e F1 H1 _ ⟨h1,h2⟩
   exact⟨h1,.tuple [],by simp[Tryz.f11],h2⟩
 simp only[zCO,Tryz.f11,rgZ,zBx];simp only[qbZ,q9Z,qaZ]
 refine Sim.step hmix hΓ (n:=0) (by simp;exact⟨rfl,rfl⟩) (by simp[DS.heap_length,hrl2]) ?_
 refine Sim.seq (Sim.mono (Q:=fun e F' H'=>e=.normal/\Weak (n+4) F' H' (rsF n M M) ((rsD d fd (S M)).heap (.cells false (zp row)::rsT d n (min (1+2*M) L) L c (S M) ks))) ?_ ?_)
 · -- the rounds
   unfold DS.heap DS.cell0;have hXi:=behind (S 0).2.1;rw[hSl 0,hn]at hXi;have hXl:=hXi.len;have hXg:=hXi.get;have hXg0:=hXi.get0;have hXs:=hXi.set;have hfs0:(rsD d fd (S 0)).fs=(S 0).2.1:=rfl;rw[hfs0];obtain⟨X,eX⟩:∃X,zK (S 0).2.1=X:=⟨_,rfl⟩;rw[eX]at hXl hXg hXg0 hXs ⊢;have hnm:(rsD d fd (S 0)).fd=fd:=rfl;rw[hnm]
   refine Sim.step hmix hΓ (n:=0) (by simp +decide [zHV,zG1,zEn,hfds,hXl,hks,hMe];exact⟨rfl,rfl⟩) (by simp[hXl]) ?_
   refine Sim.block (Sim.loopW (fun i:Nat=>i<=M) (fun i=>rsF n M i) (fun i=>(rsD d fd (S i)).heap (.cells false (zp row)::rsT d n (min (1+2*i) L) L c (S i) ks)) (fun i=>M-i) 0 (by simp[hXl]) (by simp) ?_ fun i hi=>?_)
   · have tlx:=fun {T Tn F Fn}=>tl 0 (T:=T) (Tn:=Tn) (F:=F) (Fn:=Fn) [0,1,2,3] (by decide)
     have hg2:∀Tn:zA,(rsD d fd (S 0)).heap Tn=(rsD d fd (S 0)).cell0 1 2::.obj true fd.blks::.map (zP (fun i=>i+3) 0 (S 0).2.1)::(X++Tn):=fun Tn=>by rw[<-eX];rfl
     simp only[hg2]at tlx ⊢
     refine tlx ?_ rfl fun j t x y h1 h2 h3=>?_
     · simp[AW]
     · match j,h1,h2 with
       | 0,h1,h2=>cases h1;cases h2;cases h3;simp[AWb,AW]
       | 1,h1,h2=>cases h1;cases h2;cases h3;simp[AWb,AW]
       | 2,h1,h2=>cases h1;cases h2;cases h3;rw[hS0];simp[AWb,thM]
       | 3,h1,h2=>cases h1;cases h2;cases h3;exact⟨id,fks _⟩
   · by_cases hlt:i<M
     rotate_left
     · have hin:i=M:=by omega
       subst hin
       refine Sim.exec hmix hΓ (n:=0) (by simp;exact⟨rfl,rfl,rfl⟩) (by simp[DS.heap_length,hrl2,rsT]) ?_
       dsimp only;rw[if_pos rfl]
       refine ⟨by trivial,?_⟩
       refine tl i [0,1,2,3] (by decide) ?_ rfl fun j t x y h1 h2 h3=>?_
       · simp[AW]
       · match j,h1,h2 with
         | 0,h1,h2=>cases h1;cases h2;cases h3;simp[AWb,AW]
         | 1,h1,h2=>cases h1;cases h2;cases h3;simp[AWb,AW]
         | 2,h1,h2 =>
           cases h1;cases h2;cases h3
           exact zFw fun v hv=>by rw[<-hn];exact zIB ((hSok i).sub v hv) _
         | 3,h1,h2=>cases h1;cases h2;cases h3;exact⟨id,fks _⟩
     have hik:i<ks.length:=by omega
     have hltI:(i:Int)<M:=by omega
     obtain⟨k,hk⟩:∃k,ks[i]=k:=⟨_,rfl⟩
     have hg:∀h,ks[i]'h=k:=fun h=>hk
     obtain⟨v,hv,hvm⟩:=hkk k (by rw[<-hk];exact r3Z hik)
     have hSi:=hSn i hik;rw[hk]at hSi;have hok1:=hSok i;have hdr:=hSd i hi;obtain⟨⟨l1,fs1,th⟩,hs1⟩:∃s,S i=s:=⟨_,rfl⟩;rw[hs1]at hok1 hdr hSi;dsimp only at hdr;obtain⟨h1k,h1f,h1n,h1s⟩:=hok1;dsimp only at h1k h1f h1n h1s
     obtain⟨f,hf⟩:=FS.get_some.2 (by rw[h1k];exact hvm:v∈FS.keys fs1)
     have hfsm:f.small:=PF.ok_mono (h1f _ (FS.get_mem hf)) hB;have hat:=FS.at_keys h1k v
     have hl1:fs1.length=n:=by rw[<-hn];have:=congrArg List.length h1k;simpa[FS.keys] using this
     have hlook:=zAB (fun i=>i+3) v 0 fs1 0
     rw[hf]at hlook;simp only[rhZ,s8Z]at hlook;have hfb:=Zh (FS.at_get hf);have hql:=FS.at_lt hf
     have hbu:=fun g=>zH9 (n:=v) g hf
     have hthf:=zLp (fun v=>FS.at d.fs v+3) v th 0
     rw[s8Z]at hthf;rw[hat]at hlook hfb hql hbu;obtain⟨q,hq⟩:∃q,FS.at d.fs v=q:=⟨_,rfl⟩;rw[hq]at hlook hfb hql hbu;rw[hl1]at hql;dsimp only at hfb
     have hths:v∈th->(thM (fun v=>FS.at d.fs v+3) th).set (th.idxOf v) (.int .i64 v,.ptr (q+3) 0)=thM (fun v=>FS.at d.fs v+3) th:=fun h=>by
       have:=zWc (fun v=>FS.at d.fs v+3) h
       try dsimp only at this
       rw[hq]at this;exact this
     have htha:thM (fun v=>FS.at d.fs v+3) th++[(.int .i64 v,.ptr (q+3) 0)]=thM (fun v=>FS.at d.fs v+3) (th++[v]):=by simp[thM,hq]
     obtain⟨o,ho⟩:∃o,min (1+2*i) L=o:=⟨_,rfl⟩;obtain⟨o1,ho1⟩:∃o1,min (o+1) L=o1:=⟨_,rfl⟩;obtain⟨o2,ho2⟩:∃o2,min (o1+1) L=o2:=⟨_,rfl⟩
     have ho2':min (1+2*(i+1)) L=o2:=by omega
     have hoL:o<=L:=by omega
     have ho1L:o1<=L:=by omega
     have hdro:ns.drop (1+2*i)=ns.drop o:=by
       by_cases h:1+2*i<=L
       · rw[show o=1+2*i by omega]
       · rw[show o=L by omega,<-hL,List.drop_length,List.drop_of_length_le (by omega)]
     have hdr1:(ns.drop o).tail=ns.drop o1:=by
       rw[List.tail_drop];by_cases h:o+1<=L
       · rw[show o1=o+1 by omega]
       · rw[show o1=L by omega,<-hL,List.drop_length,List.drop_of_length_le (by omega)]
     have hk1:=hnok o hoL;have hk2:=hnok o1 ho1L;have ho1':=hnO o hoL;have ho2'':=hnO o1 ho1L;have hn1':=hnN o hoL;have hn2':=hnN o1 ho1L;rw[ho1]at ho1' hn1';rw[ho2]at ho2'' hn2';obtain⟨c1,hc1⟩:∃c1,nxt row o (L-o)=c1:=⟨_,rfl⟩;obtain⟨c2,hc2⟩:∃c2,nxt row o1 (L-o1)=c2:=⟨_,rfl⟩
     have hc2b:c2<=4611686018427387903:=by
       have h1:=hnxt o1 ho1L;rw[hc2]at h1
       cases hd:ns.drop o1 with
       | nil=>rw[hd]at h1;rw[h1];decide
       | cons x r =>
         rw[hd]at h1
         have:=hns x (List.mem_of_mem_drop (by rw[hd];exact qhZ ..))
         rw[h1];simp;omega
     have hst:S (i+1)=(ns.drop (1+2*(i+1)),FS.upd fs1 v (fun f=>⟨f.stays c1 c2,[]⟩),if v∈th then th else th++[v]):=by
       rw[hSi];simp only[zAj];rw[hv,hdr,hdro,hdr1]
       have e1:(ns.drop o).headD 0=c1:=by rw[<-hc1,hnxt o hoL]
       have e2:(ns.drop o1).headD 0=c2:=by rw[<-hc2,hnxt o1 ho1L]
       have e3:(ns.drop o1).tail=ns.drop (1+2*(i+1)):=by
         rw[<-hdr1,<-hdro];simp only[List.tail_drop];congr 1
       rw[e1,e2,e3]
     have hXi:=behind fs1;rw[hl1]at hXi;have hXl:=hXi.len;have hXg:=hXi.get;have hXg0:=hXi.get0;have hXs:=hXi.set
     have y1:IntKind.i64.wrap ((i:Int)+1)=i+1:=zV (by omega) (by omega)
     have hloop:∀th':List Int,th'=(if v∈th then th else th++[v])->Weak (n+4) (rsF n M (i+1)) ((rsD d fd (S (i+1))).heap (.cells false (zp row)::rsT d n o2 L c (S (i+1)) ks)) (rsF n M (i+1)) ((rsD d fd (S (i+1))).heap (.cells false (zp row)::rsT d n (min (1+2*(i+1)) L) L c (S (i+1)) ks)):=fun _ _=>by
       rw[ho2']
       refine tl (i+1) [0,1,2,3] (by decide) ?_ rfl fun j t x y h1 h2 h3=>?_
       · simp[AW]
       · match j,h1,h2 with
         | 0,h1,h2=>cases h1;cases h2;cases h3;simp[AWb,AW]
         | 1,h1,h2=>cases h1;cases h2;cases h3;simp[AWb,AW]
         | 2,h1,h2 =>
           cases h1;cases h2;cases h3
           exact zFw fun v hv=>by rw[<-hn];exact zIB ((hSok (i+1)).sub v hv) _
         | 3,h1,h2=>cases h1;cases h2;cases h3;exact⟨id,fks _⟩
     clear hloop;have e1:(rsD d fd (l1,fs1,th)).fs=fs1:=rfl;have e2:(rsD d fd (l1,fs1,th)).fd=fd:=rfl;have e3:(rsD d fd (l1,fs1,th)).quota=d.quota:=rfl;have e4:(rsD d fd (l1,fs1,th)).steps=d.steps:=rfl;have e5:(rsD d fd (l1,fs1,th)).armed=d.armed:=rfl;have e6:(rsD d fd (l1,fs1,th)).down=d.down:=rfl;rw[hs1];unfold DS.heap DS.cell0 rsT;rw[e1,e2,e3,e4,e5,e6,ho];obtain⟨X,eX⟩:∃X,zK fs1=X:=⟨_,rfl⟩;rw[eX]at hXl hXg hXg0 hXs hfb hbu ⊢
     have hXq:∀T,(X++T)[q]? = some (.obj true f.blks):=fun T=>by rw[q4Z (by omega)];exact hfb
     have hXqs:∀(T:zA) B,(X++T).set q B=X.set q B++T:=fun T B=>by rw[List.set_append_left _ _ (by omega)]
     refine Sim.step hmix hΓ (n:=0) (by simp[hltI];exact⟨rfl,rfl⟩) (by simp[hXl]) ?_
     refine Sim.step hmix hΓ (n:=0) (by simp;exact⟨rfl,rfl⟩) (by simp[hXl]) ?_
     refine Sim.seq (Sim.block ?_)
     refine Sim.step hmix hΓ (n:=0) (by simp[hlt,hXl,hMe,hg];exact⟨rfl,rfl⟩) (by simp[hXl]) ?_
     refine Sim.step hmix hΓ (n:=0) (by simp[zHV,zG1,zAc,hv];exact⟨rfl,rfl⟩) (by simp[hXl]) ?_
     dsimp only
     have hmap:∃th',th'=(if v∈th then th else th++[v])/\∀(T0 T1 T2 T4:ABlk),zAX Pz (.cells true [.ptr 1 0,.map 2,.int .i64 d.quota,.int .i64 d.steps,.int .i64 d.armed,.bool d.down]::.obj true fd.blks::.map (zP (fun i=>i+3) 0 fs1)::(X++[T0,T1,T2,.map (thM (fun v=>FS.at d.fs v+3) th),T4])) 46 (.map (n+6)) (.int .i64 v) (.ptr (q+3) 0) =
         some (.cells true [.ptr 1 0,.map 2,.int .i64 d.quota,.int .i64 d.steps,.int .i64 d.armed,.bool d.down]::.obj true fd.blks::.map (zP (fun i=>i+3) 0 fs1)::(X++[T0,T1,T2,.map (thM (fun v=>FS.at d.fs v+3) th'),T4]))/\zAS (thM (fun v=>FS.at d.fs v+3) th') (.int .i64 v) 0=some (some (th'.idxOf v,.ptr (q+3) 0)):=by
       refine ⟨_,rfl,fun T0 T1 T2 T4=>?_⟩
       by_cases hm:v∈th
       · rw[if_pos hm]at hthf ⊢
         simp[hthf,hXg,hXs,hq,hths hm]
       · rw[if_neg hm]at hthf ⊢
         have h2:=zLp (fun v=>FS.at d.fs v+3) v (th++[v]) 0
         rw[if_pos (by simp),s8Z]at h2
         try dsimp only at h2
         rw[hq]at h2;simp[hthf,hXg,hXs,htha,h2]
     obtain⟨th',hth',hmap⟩:=hmap;have hmf:=(hmap .dead .dead .dead .dead).2
     refine Sim.step hmix hΓ (n:=0) (by simp[-zAX,hlook,(hmap _ _ _ _).1];exact⟨rfl,rfl⟩) (by simp[hXl]) ?_
     refine Sim.step hmix hΓ (n:=0) (by simp +decide [zHV,zG1,zKQ,zAz,hXl,hXs,hk1,hc1,ho1',hn1'];exact⟨rfl,rfl⟩) (by simp[hXl]) ?_
     refine Sim.step hmix hΓ (n:=0) (by simp +decide [zHV,zG1,zKQ,zAz,hXl,hXs,hk2,hc2,ho2'',hn2'];exact⟨rfl,rfl⟩) (by simp[hXl]) ?_
     refine Sim.exec hmix hΓ (n:=0) (by simp +decide [zHV,zG1,zOt,hXl,hmf,hXq,hXqs,hfsm,hc2b];exact⟨rfl,rfl,rfl⟩) (by simp[hXl]) ?_
     dsimp only
     refine Sim.exec hmix hΓ (n:=0) (by simp[y1];exact⟨rfl,rfl,rfl⟩) (by simp[hXl]) ?_
     dsimp only
     refine ⟨i+1,by omega,?_,by omega⟩
     have tlx:=fun {T Tn F Fn}=>tl (i+1) (T:=T) (Tn:=Tn) (F:=F) (Fn:=Fn) [0,1,2,3] (by decide)
     rw[hst,<-hth']at tlx ⊢
     have g1:∀Tn:zA,(rsD d fd (ns.drop (1+2*(i+1)),FS.upd fs1 v (fun f=>⟨f.stays c1 c2,[]⟩),th')).heap Tn=.cells true [.ptr 1 0,.map 2,.int .i64 d.quota,.int .i64 d.steps,.int .i64 d.armed,.bool d.down]::.obj true fd.blks::.map (zP (fun i=>i+3) 0 fs1)::(X.set q (.obj true (⟨f.stays c1 c2,[]⟩:PF).blks)++Tn):=fun Tn=>by
       unfold DS.heap DS.cell0 rsD;dsimp only;rw[zEZ,hbu]
     simp only[g1]at tlx;unfold rsD;dsimp only;rw[zEZ,hbu,ho2']
     refine tlx ?_ rfl fun j t x y h1 h2 h3=>?_
     · simp[AW]
     · match j,h1,h2 with
       | 0,h1,h2=>cases h1;cases h2;cases h3;simp[AWb,AW]
       | 1,h1,h2=>cases h1;cases h2;cases h3;simp[AWb,AW]
       | 2,h1,h2 =>
         cases h1;cases h2;cases h3
         refine zFw fun w hw=>?_
         have:=(hSok (i+1)).sub;rw[hst,<-hth']at this
         rw[<-hn];exact zIB (this w hw) _
       | 3,h1,h2=>cases h1;cases h2;cases h3;exact⟨id,fks _⟩
 rintro e F' H' hlen1 ⟨rfl,hwk⟩;dsimp only;refine Sim.weak hwk hlen1 ?_;clear hwk hlen1;simp only[rsF,q9Z,qaZ,qbZ];rw[hSM]
 have tlx:=fun {T Tn F Fn}=>tl M (T:=T) (Tn:=Tn) (F:=F) (Fn:=Fn) [0,1,2,3] (by decide)
 have hsok:=hSok M;have hsl:=hSl M;rw[hSM]at tlx hsok hsl;have hXi:=behind s.2.1;rw[hsl,hn]at hXi;have hXl:=hXi.len;have hXg:=hXi.get;have hXg0:=hXi.get0;unfold zIT;unfold DS.heap DS.cell0 rsD rsT;dsimp only;obtain⟨X,eX⟩:∃X,zK s.2.1=X:=⟨_,rfl⟩;rw[eX]at hXl hXg hXg0 ⊢
 refine Sim.exec hmix hΓ (n:=0) (by simp +decide;exact⟨rfl,rfl,rfl⟩) (by simp[hXl]) ?_
 refine ⟨.inl rfl,?_⟩
 refine zMw (M:=n+8) (by simp[hXl]) (by omega) (fun rn hr=>by simp) (by simp[hXl]) fun rn hr i x y hx hy=>?_
 match i,hx,hy with
 | 0,hx,hy =>
   cases hx;cases hy
   simp[AWb,AW,hr 1 (by omega),hr (n+6) (by omega)]
 | 1,hx,hy=>cases hx;cases hy;exact⟨rfl,rfl⟩
 | 2,hx,hy =>
   cases hx;cases hy
   exact zCD fun i hi=>hr (i+3) (by rw[hsl,hn]at hi;omega)
 | i+3,hx,hy =>
   simp only[r9Z]at hx hy;by_cases hi:i<n
   · rw[q4Z (by omega)]at hx hy
     rw[hx]at hy;cases hy;rw[<-eX]at hx;obtain⟨e,_,rfl⟩:=reZ.1 (qcZ hx);exact⟨rfl,rfl⟩
   · obtain⟨j,rfl⟩:∃j,i=n+j:=⟨i-n,by omega⟩
     rw[hXg]at hx hy
     match j,hx,hy with
     | 0,hx,hy=>cases hx;cases hy;exact hrow rn
     | 1,hx,hy=>cases hx;cases hy;simp[AWb,AW,hr (n+3) (by omega)]
     | 2,hx,hy=>cases hx;cases hy;simp[AWb,AW,hr (n+4) (by omega)]
     | 3,hx,hy =>
       cases hx;cases hy
       refine zFw fun w hw=>?_
       obtain⟨g,hg⟩:=FS.get_some.2 (hsok.sub w hw);have:=FS.at_lt hg
       exact hr _ (by omega)
     | 4,hx,hy=>cases hx;cases hy;exact⟨id,fks _⟩
end
section
open Go Go.Lib
attribute [-simp] zN zr ZI zT ZL
theorem zNb(g:Nat->Nat)(G:Int->Nat)(fs:FS):∀(th:List Int) (k:Nat),(∀(j:Nat) v,th[j]? = some v->g (k+j)=G v)->zP g k (zBs fs th)=thM G th
 | [],_,_=>rfl
 | v::th,k,h=>by
   have h0:=h 0 v rfl;rw[Nat.add_zero]at h0
   have ih:=zNb g G fs th (k+1) fun j w hj=>by rw[show k+1+j=k+(j+1) by omega];exact h (j+1) w (by simpa using hj)
   simp only[zBs,thM,s1Z,zP]at ih ⊢;rw[h0,ih]
theorem FS.at_inj{l:FS}{a b:Int}(ha:a∈FS.keys l)(hb:b∈FS.keys l)(h:FS.at l a=FS.at l b):a=b:=by
 obtain⟨f,hf⟩:=FS.get_some.2 ha;obtain⟨g,hg⟩:=FS.get_some.2 hb;have h1:=FS.at_get hf;have h2:=FS.at_get hg;rw[h,h2]at h1
 cases h1;rfl
theorem zDg:∀l:List Int,zk (zp l)=true
 | []=>rfl
 | _::l=>by simp[zp,zk,Zx]
theorem zIc(d:DS){A B:Nat}(hok:d.ok A B)(hA:A<=1000000)(hB:B<=1000000000000)(row:List Int)(hrw:∀x∈row,0<=x/\x<=65535)(hrl:row.length<=9223372036854775807)(L:Nat)(hLr:L<=row.length)(c:Bool) :
   Ct Pz 11 [.ptr 0 0,.sl 1 0 L 1 c] [.obj true d.blks,.cells false (zp row)] (.tuple []) [.obj true (d.restart (row.take L)).blks,.cells false (zp row)]:=by
 obtain⟨ns,hnsr⟩:∃ns,ns=row.take L:=⟨_,rfl⟩;rw[<-hnsr];obtain⟨fd,hfd⟩:∃fd,d.fd.survive (ns.headD 0)=fd:=⟨_,rfl⟩;obtain⟨s,hs⟩:∃s,zB6 fd ns.tail d.fs fd.names=s:=⟨_,rfl⟩;obtain⟨o,hct⟩:=zLF d hok hA hB row hrw hrl L hLr ns hnsr c fd hfd s hs
 have hr:d.restart ns=⟨fd,zBs s.2.1 s.2.2,d.quota,d.steps,0,false⟩:=by unfold DS.restart;rw[hfd,hs]
 have h3:fd.each (zN9 d.fs):=by rw[<-hfd];exact FD.each_survive hok.has _
 have hso:StOk fd B s d.fs:=by
   rw[<-hs]
   exact zDV _ ⟨rfl,hok.fine,List.nodup_nil,fun n hn=>by cases hn⟩ fun k hk=>by
     obtain⟨v,hv⟩:=FD.names_get hk;rw[FD.find_get hv];exact FD.each_now h3 k v hv
 have hsl:s.2.1.length=d.fs.length:=by
   have:=congrArg List.length hso.keys;simpa[FS.keys] using this
 have hatk:=FS.at_keys hso.keys;obtain⟨n,hn⟩:∃n,d.fs.length=n:=⟨_,rfl⟩;have hX:=behind s.2.1;rw[hsl,hn]at hX
 obtain⟨g,hg⟩:∃g:Nat->Nat,g=fun i=>FS.at d.fs (s.2.2.getD i 0)+3:=⟨_,rfl⟩
 have hgi:∀(i:Nat) v,s.2.2[i]? = some v->g i=FS.at d.fs v+3:=fun i v h=>by rw[hg];simp[q2Z,h]
 have hlt:∀v∈s.2.2,FS.at d.fs v<n:=fun v hv=>by
   obtain⟨f,hf⟩:=FS.get_some.2 (hso.sub v hv)
   rw[<-hn];exact FS.at_lt hf
 have hthl:(zBs s.2.1 s.2.2).length=s.2.2.length:=by simp[zBs]
 have hgr:∀x∈(List.range s.2.2.length).map g,∃v∈s.2.2,x=FS.at d.fs v+3:=by
   intro x hx;obtain⟨i,hi,rfl⟩:=reZ.1 hx;have hi':=List.mem_range.1 hi;exact⟨s.2.2[i],r3Z hi',hgi i _ (q3Z hi')⟩
 rw[hn]at hct;rw[hr];refine zIA (m:=n+6) (g:=g) hct rfl ?_ (zDg row) ?_ ?_ ?_ ?_
 · rw[hn]
   have:(emR n)[n+3]? = some 1:=by rw[zCf,if_neg (by omega),if_neg (by omega),if_pos rfl]
   exact⟨⟨this,rfl,rfl,rfl,id⟩,trivial⟩
 · unfold zIT
   refine ⟨rfl,rfl,?_,fun i e he=>?_,?_⟩
   · simp only[r9Z]
     rw[hX.get];simp only[rsT,r9Z,raZ]
     rw[zNb g (fun v=>FS.at d.fs v+3) s.2.1 s.2.2 0 fun j v hj=>by rw[s8Z];exact hgi j v hj]
   · dsimp only at he
     unfold zBs at he;rw[qzZ]at he;obtain⟨v,hv,rfl⟩:=qlZ.1 he;rw[hgi i v hv];simp only[r9Z]
     obtain⟨f,hf⟩:=FS.get_some.2 (by rw[hso.keys];exact hso.sub v (qcZ hv):v∈FS.keys s.2.1)
     rw[hf,q4Z (by rw[hX.len];exact hlt v (qcZ hv)),<-hatk]
     exact Zh (FS.at_get hf)
   · dsimp only
     rw[hthl]
     refine rdZ.2 ⟨fun h=>?_,rdZ.2 ⟨fun h=>?_,rdZ.2 ⟨fun h=>?_,?_⟩⟩⟩
     · rcases qwZ.1 h with h | h
       · omega
       rcases qwZ.1 h with h | h
       · omega
       · obtain⟨v,_,h⟩:=hgr _ h;omega
     · rcases qwZ.1 h with h | h
       · omega
       · obtain⟨v,_,h⟩:=hgr _ h;omega
     · obtain⟨v,hv,h⟩:=hgr _ h;have:=hlt v hv;omega
     · rw[List.nodup_iff_pairwise_ne,List.pairwise_map,List.pairwise_iff_getElem]
       intro i j hi hj hij;simp only[List.length_range]at hi hj;simp only[List.getElem_range];rw[hgi i _ (q3Z hi),hgi j _ (q3Z hj)];intro e
       have h1:=FS.at_inj (hso.sub _ (r3Z hi)) (hso.sub _ (r3Z hj)) (by omega)
       have:=(List.nodup_iff_pairwise_ne.1 hso.nd);exact (List.pairwise_iff_getElem.1 this i j hi hj hij) h1
 · dsimp only
   rw[hthl,hn];simp only[qwZ,not_or]
   refine ⟨by omega,by omega,by omega,fun h=>?_⟩
   obtain⟨v,hv,h⟩:=hgr _ h;have:=hlt v hv;omega
 · rw[hn]
   have:(zIT d fd s n o L c row fd.names).drop (n+4)=rsT d n o L c s fd.names:=by
     unfold zIT;simp only[List.drop_succ_cons]
     rw[sdZ,List.drop_of_length_le (by rw[hX.len];omega),hX.len,show n+1-n=1 by omega]
     rfl
   rw[this];rfl
 · unfold zIT
   simp[hX.len,hn]
noncomputable section
open Classical
def DS.small(d:DS):Prop:=d.ok 900000 1000000000000
def zJ6:zU:=Zk dsD DS.blks fun d xs _=>match xs with
 | [.str k]=>if d.small/\k.length<=9223372036854775807 then some ((d.create k).1,.int .i64 (d.create k).2) else none
 | _=>none
theorem zIV:Sound Pz 9 zJ6:=by
 refine zM (zE Tryz.func9 rfl (by decide)) (fun _ _=>Zu) fun d xs H s' v b hg hb=>?_
 split at hg;rotate_left
 · cases hg
 split at hg <;> cases hg
 rename_i hs
 exact zY (zAZ (zP7 d hs.1 (by decide) _ hs.2) rfl) rfl rfl hb
def zTY:zU:=Zk dsD DS.blks fun d xs _=>match xs with
 | [.str k]=>if d.small then some ((d.remove k).1,.int .i64 (d.remove k).2) else none
 | _=>none
theorem zPI:Sound Pz 50 zTY:=by
 refine zM (zE Tryz.func50 rfl (by decide)) (fun _ _=>Zu) fun d xs H s' v b hg hb=>?_
 split at hg;rotate_left
 · cases hg
 split at hg <;> cases hg
 rename_i hs
 exact zY (zAZ (zPO d hs (by decide) _) rfl) rfl rfl hb
def zK5:zU:=Zk dsD DS.blks fun d xs _=>match xs with
 | [.str k]=>if d.small then some ((d.sync k).1,.int .i64 (d.sync k).2) else none
 | _=>none
theorem zMC:Sound Pz 44 zK5:=by
 refine zM (zE Tryz.func44 rfl (by decide)) (fun _ _=>Zu) fun d xs H s' v b hg hb=>?_
 split at hg;rotate_left
 · cases hg
 split at hg <;> cases hg
 rename_i hs
 exact zY (zAZ (zT2 d hs (by decide) _) rfl) rfl rfl hb
def zHo:zU:=Zk dsD DS.blks fun d xs _=>match xs with
 | []=>if d.small then some (d.syncDir.1,.int .i64 d.syncDir.2) else none
 | _=>none
theorem zLH:Sound Pz 46 zHo:=by
 refine zM (zE Tryz.func46 rfl (by decide)) (fun _ _=>Zu) fun d xs H s' v b hg hb=>?_
 split at hg;rotate_left
 · cases hg
 split at hg <;> cases hg
 rename_i hs
 exact zY (zAZ (zNc d hs (by decide)) rfl) rfl rfl hb
def zTn:zU:=Zk dsD DS.blks fun d xs _=>match xs with
 | [.int .i64 m]=>some (d.arm m,.tuple [])
 | _=>none
theorem zOb:Sound Pz 56 zTn:=by
 refine zM (zE Tryz.func56 rfl (by decide)) (fun _ _=>Zu) fun d xs H s' v b hg hb=>?_
 split at hg <;> cases hg
 exact zY (zAZ (zVc d _) rfl) rfl rfl hb
end
end
section
open Go Go.Lib
attribute [-simp] zN zr ZI zT ZL
theorem zSi(d:DS)(hsm:d.fd.small):Ct Pz 64 [.ptr 0 0] [.obj true d.blks] (.sl 1 0 d.list.length 1 false) [.obj true d.blks,.cells true (d.list.map .str)]:=by
 have h:=zQF d hsm;rw[DS.heap_eq,DS.heap_eq,r2Z]at h
 refine zBN h (by simp[DS.blks]) (Aft.closeDS d [0] (by decide) rfl ?_ fun i t x h1 h2=>?_)
 · simp[AW]
 · match i,h1,h2 with
   | 0,h1,h2=>cases h1;cases h2;exact⟨_,rfl,id,(zBh (ZG d.list AV.str fun _=>rfl)).2 trivial⟩
theorem zRz(d:DS){A B:Nat}(hok:d.ok A B)(hA:A<=1000000):Ct Pz 61 [.ptr 0 0] [.obj true d.blks] (.sl 1 0 d.files.length 2 false) [.obj true d.blks,.cells true (flA d.files)]:=by
 have h:=zM8 d hok hA;rw[DS.heap_eq,DS.heap_eq,r2Z]at h
 refine zBN h (by simp[DS.blks]) (Aft.closeDS d [0] (by decide) rfl ?_ fun i t x h1 h2=>?_)
 · simp[AW]
 · match i,h1,h2 with
   | 0,h1,h2=>cases h1;cases h2;exact⟨_,rfl,id,(zBh (ZS d.files)).2 trivial⟩
theorem zQP{f:FuncId}{d:DS}{k sz:Nat}{l:List AV}(h:Ct Pz f [.ptr 0 0] [.obj true d.blks] (.sl 1 0 k sz false) [.obj true d.blks,.cells true l])(hl:∀g,ZY g l=l){H:zA}{b:Nat}(hb:H[b]? = some (.obj true d.blks)) :
   Ct Pz f [.ptr b 0] H (.sl H.length 0 k sz false) (H++[.cells true l]):=by
 have hbl:b<H.length:=(q1Z.1 hb).1
 have:=zc (H:=H) (args:=[.ptr b 0]) h [b] (by simp) ⟨⟨rfl,rfl⟩,trivial⟩ ⟨by rw[q2Z,hb];exact⟨rfl,rfl⟩,hbl,trivial⟩ rfl
 obtain⟨h1,h2⟩:=q1Z.1 hb
 have hset:H.set b (.obj true d.blks)=H:=by rw[<-h2,List.set_getElem_self]
 simpa[zb,ABlk.own,reB,reA,ZQ,hset,hl] using this
noncomputable section
open Classical
def zDH:zU:=fun args H=>match args with
 | [.ptr b 0]=>match H[b]? with
   | some (.obj true sub)=>match dsD sub with
     | some d=>if d.small then some (.sl H.length 0 d.list.length 1 false,H++[.cells true (d.list.map .str)],[]) else none
     | none=>none
   | _=>none
 | _=>none
theorem zM9:Sound Pz 64 zDH:=by
 refine ⟨zE Tryz.func64 rfl (by decide),fun args H v H' W hs=>?_,fun args H v H' W hs=>?_⟩ <;> (unfold zDH at hs;split at hs <;> try cases hs) <;> (split at hs <;> try cases hs) <;> (rename_i b _ sub hb;split at hs <;> try cases hs) <;> (rename_i d hd;split at hs <;> cases hs;rename_i hk)
 · have e:=Zu hd
   subst e
   exact zQP (zSi d (DS.small_fd hk (by decide))) (fun g=>zAG g _ (by simp[zk,Zx])) hb
 · exact⟨by simp,fun c hc _=>by rw[q4Z hc]⟩
def zB7:zU:=fun args H=>match args with
 | [.ptr b 0]=>match H[b]? with
   | some (.obj true sub)=>match dsD sub with
     | some d=>if d.small then some (.sl H.length 0 d.files.length 2 false,H++[.cells true (flA d.files)],[]) else none
     | none=>none
   | _=>none
 | _=>none
theorem Zj:∀l,zk (flA l)=true
 | []=>rfl
 | e::l=>by have:=Zj l;simpa[flA,zk,Zx] using this
theorem zLZ:Sound Pz 61 zB7:=by
 refine ⟨zE Tryz.func61 rfl (by decide),fun args H v H' W hs=>?_,fun args H v H' W hs=>?_⟩ <;> (unfold zB7 at hs;split at hs <;> try cases hs) <;> (split at hs <;> try cases hs) <;> (rename_i b _ sub hb;split at hs <;> try cases hs) <;> (rename_i d hd;split at hs <;> cases hs;rename_i hk)
 · have e:=Zu hd
   subst e
   exact zQP (zRz d hk (by decide)) (fun g=>zAG g _ (Zj _)) hb
 · exact⟨by simp,fun c hc _=>by rw[q4Z hc]⟩
def zIt:zU:=fun args H=>match args with
 | [.ptr b 0,.str k,.slice b2 off 1 1 _c]=>match H[b]?,H[b2]? with
   | some (.obj true sub),some (.cells _ l)=>match dsD sub,l[off]? with
     | some d,some (.str s)=>if d.small/\d.quota<=1000000000000/\zk l=true/\s.length<=9223372036854775807 then some (.int .i64 (d.append k s).2,H.set b (.obj true (d.append k s).1.blks),[b]) else none
     | _,_=>none
   | _,_=>none
 | _=>none
theorem zND:Sound Pz 10 zIt:=by
 have key:∀args H v H' W,zIt args H=some (v,H',W)->∃b B,W=[b]/\H'=H.set b B/\Ct Pz 10 args H v H':=by
   intro args H v H' W hs;unfold zIt at hs;split at hs;rotate_left
   · cases hs
   rename_i b k b2 off c
   split at hs <;> try cases hs
   rename_i sub o l hb hb2
   split at hs <;> try cases hs
   rename_i d s hd hl
   split at hs <;> cases hs
   rename_i hc;obtain⟨h1,h2,h3,h4⟩:=hc;have e:=Zu hd;subst e;refine ⟨b,_,rfl,rfl,?_⟩;have hbl:b<H.length:=(q1Z.1 hb).1;have hbl2:b2<H.length:=(q1Z.1 hb2).1
   have hne:b≠b2:=by rintro rfl;rw[hb]at hb2;cases hb2
   have hct:=zKI d h1 (by decide) (by decide) h2 l h3 off 1 c k s h4 fun H2 q hq=>zSw H2 q off c false l s [] hq hl
   have:=zc (H:=H) (args:=[.ptr b 0,.str k,.slice b2 off 1 1 c]) hct [b,b2] (by simp[hne]) ⟨⟨rfl,rfl⟩,rfl,⟨rfl,rfl,rfl,rfl,fun h=>h⟩,trivial⟩ ⟨by rw[q2Z,hb];exact⟨rfl,rfl⟩,hbl,by rw[q2Z,hb2];exact⟨by simp,ZD l h3⟩,hbl2,trivial⟩ rfl
   simpa[zb,ABlk.own,reB,reA] using this
 refine ⟨zE Tryz.func10 rfl (by decide),fun args H v H' W hs=>?_,fun args H v H' W hs=>?_⟩
 · obtain⟨b,B,_,_,h⟩:=key args H v H' W hs
   exact h
 · obtain⟨b,B,rfl,rfl,_⟩:=key args H v H' W hs
   refine ⟨by simp,fun c hc hn=>?_⟩
   simp only[r1Z]at hn;rw[qfZ (Ne.symm hn)]
def zBq:AV->Option (Nat×Nat×Bool)
 | .slice b 0 L 1 c=>some (b,L,c)
 | .sl b 0 L 1 c=>some (b,L,c)
 | _=>none
def zFX:zU:=fun args H=>match args with
 | [.ptr b 0,x]=>match zBq x,H[b]? with
   | some (b2,L,_),some (.obj true sub)=>match dsD sub,H[b2]? with
     | some d,some (.cells _ a)=>match numsOf a with
       | some l=>if d.small/\L<=l.length/\l.length<=9223372036854775807/\(∀x∈l,0<=x/\x<=65535) then some (.tuple [],H.set b (.obj true (d.restart (l.take L)).blks),[b]) else none
       | none=>none
     | _,_=>none
   | _,_=>none
 | _=>none
theorem drest_sound:Sound Pz 11 zFX:=by
 have key:∀args H v H' W,zFX args H=some (v,H',W)->∃b B,W=[b]/\H'=H.set b B/\Ct Pz 11 args H v H':=by
   intro args H v H' W hs;unfold zFX at hs;split at hs;rotate_left
   · cases hs
   rename_i b x
   split at hs <;> try cases hs
   rename_i b2 L c sub hx hb
   split at hs <;> try cases hs
   rename_i d o a hd hb2
   split at hs <;> try cases hs
   rename_i l hl
   split at hs <;> cases hs
   rename_i hc;obtain⟨h1,h2,h3,h4⟩:=hc;have e:=Zu hd;subst e;have e2:=zEl hl;subst e2;refine ⟨b,_,rfl,rfl,?_⟩
   refine zHz (x:=.sl 1 0 L 1 c) (xs:=[]) (zIc d h1 (by decide) (by decide) l h4 h3 L h2 c) rfl rfl (zDg l) hb hb2 ?_
   unfold zBq at hx
   split at hx <;> cases hx
   · exact⟨rfl,rfl,rfl,rfl,fun h=>h⟩
   · exact⟨rfl,rfl,rfl,rfl,fun h=>h⟩
 refine ⟨zE Tryz.func11 rfl (by decide),fun args H v H' W hs=>?_,fun args H v H' W hs=>?_⟩
 · obtain⟨b,B,_,_,h⟩:=key args H v H' W hs
   exact h
 · obtain⟨b,B,rfl,rfl,_⟩:=key args H v H' W hs
   refine ⟨by simp,fun c hc hn=>?_⟩
   simp only[r1Z]at hn;rw[qfZ (Ne.symm hn)]
end
end
section
open Go Go.Lib
attribute [-simp] zN zr ZI zT ZL
theorem RAt.closeB{H:zA}{r:RS}{x:AV}{fo m:Nat}{g:Nat->Nat}(h:RAt H r x 0 fo m g){b1:Nat}{o:Bool}{l:List AV}(h1:H[b1]? = some (.cells o l))(hl:∀rn,AWs rn l l)(h0:b1≠0)(hf:fo≠b1)(hm:m≠b1)(hg:∀i,i<r.F.length->g i≠b1){F:List AV}(Fn:List AV){K:List AV->zA->Prop}(hF:AWs [0,b1] Fn F)
   (hk:K Fn [.obj true r.blks,.cells o l]):Aft 1 F H K:=by
 have hbl:0<H.length:=(q1Z.1 h.c0).1
 refine Aft.close (o:=true) (b:=0) (sub:=r.blks) (rs:=0::fo::m::(List.range r.F.length).map g) (ks:=fo::m::(List.range r.F.length).map g) rfl h.nd hbl ?_ (h.awg _ fun _ _=>rfl) ⟨_,rfl,rfl⟩ ?_ hbl ?_
 · intro c y hc hcb _ _
   exact (qwZ.1 hc).resolve_left hcb
 · intro i y hy hd
   have hm:=qcZ hy;simp only[RS.blks,RS.cell0,qwZ]at hm;rcases hm with rfl | rfl | rfl | hm
   · rfl
   · rfl
   · rfl
   · obtain⟨e,_,rfl⟩:=reZ.1 hm
     rfl
 · refine Aft.weak (Fn:=Fn) (Hn:=[.obj true r.blks,.cells o l]) (Weak.mk' [0,b1] (by simp[Ne.symm h0]) rfl hF (zJ (b:=0) hbl _ _ rfl fun i c y e1 e2=>?_)) (by simp;omega) (Aft.done (by simp) hk)
   match i,e1,e2 with
   | 0,e1,e2=>cases e1;cases e2;exact .inl ⟨rfl,rfl⟩
   | 1,e1,e2 =>
     cases e1;cases e2
     refine .inr ⟨⟨h0,fun hc=>?_⟩,by rw[q2Z,h1];exact⟨id,hl _⟩⟩
     rcases qwZ.1 hc with e | hc
     · exact hf e.symm
     rcases qwZ.1 hc with e | hc
     · exact hm e.symm
     · obtain⟨a,ha,e⟩:=reZ.1 hc
       exact hg a (List.mem_range.1 ha) e
theorem zTS{P:Program}{f:FuncId}{xs:List AV}{v:AV}{r:RS}(h:Ct P f xs r.blks v r.blks)(hv:zBw v=true):Ct P f xs [.obj true r.blks] v [.obj true r.blks] :=
 zBN h (by rw[RS.blks_length];omega) (r.blks_at.close [v] ⟨zBm v hv,trivial⟩ ⟨rfl,rfl⟩)
theorem zWl{P:Program}{f:FuncId}{xs:List AV}{r:RS}{k sz:Nat}{l:List AV}(h:Ct P f xs r.blks (.sl r.blks.length 0 k sz false) (r.blks++[.cells true l]))(hl:∀rn,AWs rn l l):Ct P f xs [.obj true r.blks] (.sl 1 0 k sz false) [.obj true r.blks,.cells true l]:=by
 have hn:=RS.blks_length r
 refine zBN h (by omega) ((r.blks_at.app [.cells true l]).closeB (b1:=r.blks.length) (by rw[q5Z (qnZ _)];simp) hl (by omega) (by omega) (by omega) (fun i hi=>by omega) [.sl 1 0 k sz false] ?_ ⟨rfl,rfl⟩)
 exact⟨⟨rfl,rfl,rfl,rfl,id⟩,trivial⟩
noncomputable section
open Classical
def RS.small(r:RS):Prop:=r.ok 900000 1000000000000
def zLk:zU:=Zk zDQ RS.blks fun r xs _=>match xs with
 | [.str k]=>if r.small/\k.length<=9223372036854775807 then some ((r.create k).1,.int .i64 (r.create k).2) else none
 | _=>none
theorem zL3:Sound Pz 40 zLk:=by
 refine zM (zE Tryz.func40 rfl (by decide)) (fun _ _=>zAJ) fun r xs H s' v b hg hb=>?_
 split at hg;rotate_left
 · cases hg
 split at hg <;> cases hg
 rename_i hs
 exact zY (zN5 r hs.1 (by decide) _ hs.2) rfl rfl hb
def zPM:zU:=Zk zDQ RS.blks fun r xs _=>match xs with
 | [.str k,.int .i64 n]=>if r.small then some ((r.truncate k n).1,.int .i64 (r.truncate k n).2) else none
 | _=>none
theorem zMm:Sound Pz 43 zPM:=by
 refine zM (zE Tryz.func43 rfl (by decide)) (fun _ _=>zAJ) fun r xs H s' v b hg hb=>?_
 split at hg;rotate_left
 · cases hg
 split at hg <;> cases hg
 rename_i hs
 exact zY (zJp r hs (by decide) (by decide) _ _) rfl rfl hb
def zK8:zU:=Zk zDQ RS.blks fun r xs _=>match xs with
 | [.str k]=>if r.small then some ((r.sync k).1,.int .i64 (r.sync k).2) else none
 | _=>none
theorem zNB:Sound Pz 45 zK8:=by
 refine zM (zE Tryz.func45 rfl (by decide)) (fun _ _=>zAJ) fun r xs H s' v b hg hb=>?_
 split at hg;rotate_left
 · cases hg
 split at hg <;> cases hg
 rename_i hs
 exact zY (zRA r hs (by decide) (by decide) _) rfl rfl hb
def zLU:zU:=Zk zDQ RS.blks fun r xs _=>match xs with
 | []=>if r.small then some (r.syncDir.1,.int .i64 r.syncDir.2) else none
 | _=>none
theorem zM5:Sound Pz 47 zLU:=by
 refine zM (zE Tryz.func47 rfl (by decide)) (fun _ _=>zAJ) fun r xs H s' v b hg hb=>?_
 split at hg;rotate_left
 · cases hg
 split at hg <;> cases hg
 rename_i hs
 exact zY (zLR r hs (by decide)) rfl rfl hb
def zOX:zU:=Zk zDQ RS.blks fun r xs _=>match xs with
 | [.str a,.str b]=>if r.small/\b.length<=9223372036854775807 then some ((r.rename a b).1,.int .i64 (r.rename a b).2) else none
 | _=>none
theorem zNT:Sound Pz 49 zOX:=by
 refine zM (zE Tryz.func49 rfl (by decide)) (fun _ _=>zAJ) fun r xs H s' v b hg hb=>?_
 split at hg;rotate_left
 · cases hg
 split at hg <;> cases hg
 rename_i hs
 exact zY (zM4 r hs.1 (by decide) _ _ hs.2) rfl rfl hb
def zP9:zU:=Zk zDQ RS.blks fun r xs _=>match xs with
 | [.str a]=>if r.small then some ((r.remove a).1,.int .i64 (r.remove a).2) else none
 | _=>none
theorem zMy:Sound Pz 51 zP9:=by
 refine zM (zE Tryz.func51 rfl (by decide)) (fun _ _=>zAJ) fun r xs H s' v b hg hb=>?_
 split at hg;rotate_left
 · cases hg
 split at hg <;> cases hg
 rename_i hs
 exact zY (zMk r hs (by decide) _) rfl rfl hb
def zQB:zU:=Zk zDQ RS.blks fun r xs _=>match xs with
 | [.int .i64 n]=>if r.small then some (r.arm n,.tuple []) else none
 | _=>none
theorem zNu:Sound Pz 57 zQB:=by
 refine zM (zE Tryz.func57 rfl (by decide)) (fun _ _=>zAJ) fun r xs H s' v b hg hb=>?_
 split at hg;rotate_left
 · cases hg
 split at hg <;> cases hg
 rename_i hs;exact zY (zTm r _) rfl rfl hb
def zPB:zU:=Zk zDQ RS.blks fun r xs _=>match xs with
 | [.str k]=>if r.small then some (r,.tuple [.int .i64 (r.size k).1,.int .i64 (r.size k).2]) else none
 | _=>none
theorem zOA:Sound Pz 55 zPB:=by
 refine zM (zE Tryz.func55 rfl (by decide)) (fun _ _=>zAJ) fun r xs H s' v b hg hb=>?_
 split at hg;rotate_left
 · cases hg
 split at hg <;> cases hg
 rename_i hs
 exact zY (zTS (zTM r.blks_at hs (by decide) (by decide) _) rfl) rfl rfl hb
def zPw:zU:=Zk zDQ RS.blks fun r xs _=>match xs with
 | [.str k,.int .i64 a,.int .i64 n]=>if r.small then some (r,.tuple [.str (r.readAt k a n).1,.int .i64 (r.readAt k a n).2]) else none
 | _=>none
theorem zNt:Sound Pz 53 zPw:=by
 refine zM (zE Tryz.func53 rfl (by decide)) (fun _ _=>zAJ) fun r xs H s' v b hg hb=>?_
 split at hg;rotate_left
 · cases hg
 split at hg <;> cases hg
 rename_i hs
 exact zY (zTS (zOo r.blks_at hs (by decide) (by decide) _ _ _) rfl) rfl rfl hb
def zDT:zU:=fun args H=>match args with
 | [.ptr b 0]=>match H[b]? with
   | some (.obj true sub)=>match zDQ sub with
     | some r=>if r.small then some (.sl H.length 0 r.files.length 2 false,H++[.cells true (flA r.files)],[]) else none
     | none=>none
   | _=>none
 | _=>none
theorem zNU:Sound Pz 62 zDT:=by
 refine ⟨zE Tryz.func62 rfl (by decide),fun args H v H' W hs=>?_,fun args H v H' W hs=>?_⟩ <;> (unfold zDT at hs;split at hs <;> try cases hs) <;> (split at hs <;> try cases hs) <;> (rename_i b _ sub hb;split at hs <;> try cases hs) <;> (rename_i r hr;split at hs <;> cases hs;rename_i hk)
 · have e:=zAJ hr
   subst e;have hbl:b<H.length:=(q1Z.1 hb).1
   have fs:∀g,ZY g (flA r.files)=flA r.files:=fun g=>zAG g _ (Zj _)
   have:=zc (H:=H) (args:=[.ptr b 0]) (zWl (zJw r.blks_at hk (by decide) (by decide) r.blks_self) fun rn=>AWs.refl _ _ (ZS _)) [b] (by simp) ⟨⟨rfl,rfl⟩,trivial⟩ ⟨by rw[q2Z,hb];exact⟨rfl,rfl⟩,hbl,trivial⟩ rfl
   obtain⟨h1,h2⟩:=q1Z.1 hb
   have hset:H.set b (.obj true r.blks)=H:=by rw[<-h2,List.set_getElem_self]
   simpa[zb,ABlk.own,reB,reA,ZQ,hset,fs] using this
 · exact⟨by simp,fun c hc _=>by rw[q4Z hc]⟩
def zDU:zU:=fun args H=>match args with
 | [.ptr b 0,.str k,x]=>match zBq x,H[b]? with
   | some (b2,n,_),some (.obj true sub)=>match zDQ sub,H[b2]? with
     | some r,some (.cells _ l)=>match ZF l with
       | some a=>if r.small/\n=a.length/\a.flatten.length<=1000000000000/\a.length<=1000000000000 then some (.int .i64 (r.append k a.flatten).2,H.set b (.obj true (r.append k a.flatten).1.blks),[b]) else none
       | none=>none
     | _,_=>none
   | _,_=>none
 | _=>none
theorem zMJ:Sound Pz 59 zDU:=by
 have key:∀args H v H' W,zDU args H=some (v,H',W)->∃b B,W=[b]/\H'=H.set b B/\Ct Pz 59 args H v H':=by
   intro args H v H' W hs;unfold zDU at hs;split at hs;rotate_left
   · cases hs
   rename_i b k x
   split at hs <;> try cases hs
   rename_i b2 n c sub hx hb
   split at hs <;> try cases hs
   rename_i r o l hr hb2
   split at hs <;> try cases hs
   rename_i a ha
   split at hs <;> cases hs
   rename_i hc;obtain⟨h1,rfl,h3,h4⟩:=hc;have e:=zAJ hr;subst e;have e2:=zBP ha;subst e2;refine ⟨b,_,rfl,rfl,?_⟩;have hbl:b<H.length:=(q1Z.1 hb).1;have hbl2:b2<H.length:=(q1Z.1 hb2).1
   have hne:b≠b2:=by rintro rfl;rw[hb]at hb2;cases hb2
   have hf:zk (a.map AV.str)=true:=by simp[zk,Zx]
   have:=zc (H:=H) (args:=[.ptr b 0,.str k,x]) (zMx r h1 (by decide) (by decide) k false a h3 h4) [b,b2] (by simp[hne]) ⟨⟨rfl,rfl⟩,rfl,by
     unfold zBq at hx
     split at hx <;> cases hx <;> exact⟨rfl,rfl,rfl,rfl,by simp⟩,trivial⟩ ⟨by rw[q2Z,hb];exact⟨rfl,rfl⟩,hbl,by rw[q2Z,hb2];exact⟨by simp,ZD _ hf⟩,hbl2,trivial⟩ rfl
   simpa[zb,ABlk.own,reB,reA] using this
 refine ⟨zE Tryz.func59 rfl (by decide),fun args H v H' W hs=>?_,fun args H v H' W hs=>?_⟩
 · obtain⟨b,B,_,_,h⟩:=key args H v H' W hs
   exact h
 · obtain⟨b,B,rfl,rfl,_⟩:=key args H v H' W hs
   refine ⟨by simp,fun c hc hn=>?_⟩
   simp only[r1Z]at hn;rw[qfZ (Ne.symm hn)]
def zIQ:zU:=fun args H=>match args with
 | [.ptr b 0,x]=>match zBq x,H[b]? with
   | some (b2,L,_),some (.obj true sub)=>match zDQ sub,H[b2]? with
     | some d,some (.cells _ a)=>match numsOf a with
       | some l=>if d.small/\L<=l.length/\l.length<=9223372036854775807/\(∀x∈l,0<=x/\x<=65535) then some (.tuple [],H.set b (.obj true (d.restart (l.take L)).blks),[b]) else none
       | none=>none
     | _,_=>none
   | _,_=>none
 | _=>none
theorem zMV:Sound Pz 58 zIQ:=by
 have key:∀args H v H' W,zIQ args H=some (v,H',W)->∃b B,W=[b]/\H'=H.set b B/\Ct Pz 58 args H v H':=by
   intro args H v H' W hs;unfold zIQ at hs;split at hs;rotate_left
   · cases hs
   rename_i b x
   split at hs <;> try cases hs
   rename_i b2 L c sub hx hb
   split at hs <;> try cases hs
   rename_i d o a hd hb2
   split at hs <;> try cases hs
   rename_i l hl
   split at hs <;> cases hs
   rename_i hc;obtain⟨h1,h2,h3,h4⟩:=hc;have e:=zAJ hd;subst e;have e2:=zEl hl;subst e2;refine ⟨b,_,rfl,rfl,?_⟩
   refine zHz (x:=.sl 1 0 L 1 false) (xs:=[]) (zLj d h1 (by decide) (by decide) false l h4 L h2 (by omega)) rfl rfl (zDg l) hb hb2 ?_
   unfold zBq at hx
   split at hx <;> cases hx <;> exact⟨rfl,rfl,rfl,rfl,by simp⟩
 refine ⟨zE Tryz.func58 rfl (by decide),fun args H v H' W hs=>?_,fun args H v H' W hs=>?_⟩
 · obtain⟨b,B,_,_,h⟩:=key args H v H' W hs
   exact h
 · obtain⟨b,B,rfl,rfl,_⟩:=key args H v H' W hs
   refine ⟨by simp,fun c hc hn=>?_⟩
   simp only[r1Z]at hn;rw[qfZ (Ne.symm hn)]
end
end
section
open Go Go.Lib
attribute [-simp] zN zr ZI zT ZL
theorem RAt.moreB{H H5:zA}{r:RS}{x y:AV}{q0 fo m m' q:Nat}{g:Nat->Nat}(h:RAt H r x q0 fo m g)(f:PF)(h0:H5[q0]? = some (r.cell0 y fo))(hy:y=.sl m' 0 (r.F.length+1) 1 false\/∃c,y=.slice m' 0 (r.F.length+1) 1 c)
   (hrow:H5[m']? = some (.cells true (zAD g 0 r.F.length++[.ptr q 0]))) (hq:H5[q]? = some (.obj true f.rblks)) (hold:∀b,b<H.length->b≠q0->H5[b]? = H[b]?) (hm:H.length<=m') (hql:H.length<=q) (hmq:m'≠q) :
   RAt H5 ⟨r.dir,r.F++[f],r.room,r.steps,r.left,r.down⟩ y q0 fo m' (fun i=>if i<r.F.length then g i else q):=by
 obtain⟨n1,n2,n3,n4,n5⟩:=h.ne;have lf:fo<H.length:=(q1Z.1 h.fold).1;have l0:q0<H.length:=(q1Z.1 h.c0).1
 have lg:∀i,i<r.F.length->g i<H.length:=fun i hi=>(q1Z.1 (h.file i _ (q3Z hi))).1
 refine ⟨h0,by simpa using hy,by rw[hold fo lf n1];exact h.fold,?_,fun i f' hf=>?_,?_⟩
 · dsimp only
   rw[hrow,qdZ];simp only[q7Z,q8Z,s8Z]
   rw[zGe,zBU (g':=g) _ _ fun i _ hi=>if_pos (by omega)]
   simp
 · dsimp only at hf ⊢
   rcases Nat.lt_trichotomy i r.F.length with h1 | h1 | h1
   · rw[q4Z h1]at hf
     rw[if_pos h1,hold _ (lg i h1) (n4 i h1).1];exact h.file i f' hf
   · subst h1
     rw[q5Z (qnZ _),Nat.sub_self]at hf;cases hf;rw[if_neg (rnZ _)];exact hq
   · rw[s4Z (by simp;omega)]at hf;cases hf
 · dsimp only
   have hg:∀a,a<(r.F++[f]).length->a<r.F.length/\(if a<r.F.length then g a else q)=g a\/a=r.F.length/\(if a<r.F.length then g a else q)=q:=fun a ha=>by
     simp at ha;by_cases h:a<r.F.length
     · exact .inl ⟨h,if_pos h⟩
     · exact .inr ⟨by omega,if_neg h⟩
   rw[rdZ,rdZ,rdZ]
   refine ⟨fun h=>?_,fun h=>?_,fun h=>?_,?_⟩
   · rcases qwZ.1 h with h | h
     · omega
     rcases qwZ.1 h with h | h
     · omega
     · obtain⟨a,ha,h⟩:=reZ.1 h
       rcases hg a (List.mem_range.1 ha) with⟨h2,e⟩ | ⟨_,e⟩
       · have:=(n4 a h2).1;omega
       · omega
   · rcases qwZ.1 h with h | h
     · omega
     · obtain⟨a,ha,h⟩:=reZ.1 h
       rcases hg a (List.mem_range.1 ha) with⟨h2,e⟩ | ⟨_,e⟩
       · have:=(n4 a h2).2.1;omega
       · omega
   · obtain⟨a,ha,h⟩:=reZ.1 h
     rcases hg a (List.mem_range.1 ha) with⟨h2,e⟩ | ⟨_,e⟩
     · have:=lg a h2;omega
     · omega
   · rw[List.nodup_iff_pairwise_ne,List.pairwise_map,List.pairwise_iff_getElem]
     intro a b ha hb hab;simp only[List.length_range]at ha hb;simp only[List.getElem_range]
     rcases hg a ha with⟨ha2,e⟩ | ⟨_,e⟩ <;> rcases hg b hb with⟨hb2,f⟩ | ⟨_,f⟩
     · rw[e,f];intro h';have:=n5 a b ha2 hb2 h';omega
     · rw[e,f];have:=lg a ha2;omega
     · omega
     · omega
theorem RAt.close1{H:zA}{r:RS}{x:AV}{fo m:Nat}{g:Nat->Nat}(h:RAt H r x 1 fo m g){o:Bool}{l:List AV}(h1:H[0]? = some (.cells o l))(hl:∀rn,AWs rn l l)(hf:fo≠0)(hm:m≠0)(hg:∀i,i<r.F.length->g i≠0){F:List AV}(Fn:List AV){K:List AV->zA->Prop}(hF:AWs [0,1] Fn F)
   (hk:K Fn [.cells o l,.obj true r.blks]):Aft 1 F H K:=by
 have hbl:1<H.length:=(q1Z.1 h.c0).1;have hbl1:0<H.length:=(q1Z.1 h1).1
 refine Aft.close (o:=true) (b:=1) (sub:=r.blks) (rs:=1::fo::m::(List.range r.F.length).map g) (ks:=fo::m::(List.range r.F.length).map g) rfl h.nd hbl ?_ (h.awg _ fun _ _=>rfl) ⟨_,rfl,rfl⟩ ?_ hbl1 ?_
 · intro c y hc hcb _ _
   exact (qwZ.1 hc).resolve_left hcb
 · intro i y hy hd
   have hm:=qcZ hy;simp only[RS.blks,RS.cell0,qwZ]at hm;rcases hm with rfl | rfl | rfl | hm
   · rfl
   · rfl
   · rfl
   · obtain⟨e,_,rfl⟩:=reZ.1 hm
     rfl
 · refine Aft.weak (Fn:=Fn) (Hn:=[.cells o l,.obj true r.blks]) (Weak.mk' [0,1] (by decide) rfl hF (zJ (b:=1) hbl _ _ rfl fun i c y e1 e2=>?_)) (by simp;omega) (Aft.done (by simp) hk)
   match i,e1,e2 with
   | 1,e1,e2=>cases e1;cases e2;exact .inl ⟨rfl,rfl⟩
   | 0,e1,e2 =>
     cases e1;cases e2
     refine .inr ⟨⟨by decide,fun hc=>?_⟩,by rw[q2Z,h1];exact⟨id,hl _⟩⟩
     rcases qwZ.1 hc with e | hc
     · exact hf e.symm
     rcases qwZ.1 hc with e | hc
     · exact hm e.symm
     · obtain⟨a,ha,e⟩:=reZ.1 hc
       exact hg a (List.mem_range.1 ha) e
theorem zS8(r:RS)(o:Bool)(l:List AV):zX [.cells o l,.obj true r.blks] 1 r.blks=.cells o l::r.cell0 (.sl 3 0 r.F.length 1 false) 2::.obj true r.dir.blks::.cells true (zAD (fun i=>i+4) 0 r.F.length)::Z9 r.F:=by
 unfold zX;simp only[RS.blks,RS.cell0,q7Z,q8Z,List.getD_cons_zero,s9Z,saZ,List.drop_succ_cons,List.drop_zero,q9Z,qaZ,s8Z,Nat.reduceAdd,s1Z,reB,ZY,reA,Zf,zEz];simp only[Z9,List.map_map]
 rw[zBU (g':=fun i=>i+4) _ _ fun i _ _=>by rw[if_neg (by omega)];omega]
 simp[Function.comp_def,reB]
theorem zNQ(r:RS)(o:Bool)(l:List AV):RAt (.cells o l::r.cell0 (.sl 3 0 r.F.length 1 false) 2::.obj true r.dir.blks::.cells true (zAD (fun i=>i+4) 0 r.F.length)::Z9 r.F) r (.sl 3 0 r.F.length 1 false) 1 2 3 (fun i=>i+4):=by
 refine ⟨rfl,.inl rfl,rfl,rfl,fun i f h=>?_,?_⟩
 · simp only[r9Z]
   exact zDi h
 · rw[rdZ,rdZ,rdZ]
   refine ⟨fun h=>?_,fun h=>?_,fun h=>?_,?_⟩
   · rcases qwZ.1 h with h | h
     · omega
     rcases qwZ.1 h with h | h
     · omega
     · obtain⟨a,_,h⟩:=reZ.1 h;omega
   · rcases qwZ.1 h with h | h
     · omega
     · obtain⟨a,_,h⟩:=reZ.1 h;omega
   · obtain⟨a,_,h⟩:=reZ.1 h;omega
   · rw[List.nodup_iff_pairwise_ne,List.pairwise_map]
     exact (List.nodup_iff_pairwise_ne.1 List.nodup_range).imp fun h e=>h (by omega)
noncomputable def zVq:Gam:=zo [(21,zK3)]
theorem zTB:GOk Pz zVq:=zB zMI zC
theorem zTl(q:Int)(hq:0<=q):Ct Pz 7 [.int .i64 q] [] (.ptr 0 0) [.obj true (RS.new q).blks]:=by
 have hΓ:=zTB;refine zG Tryz.func7 rfl ?_;simp only[Tryz.ntmps7,q7Z,q8Z,Nat.reduceAdd,Nat.reduceSub,qbZ,q9Z,qaZ]
 have h1:¬q<0:=by omega
 refine Sim.step hmix hΓ (n:=0) (by simp;exact⟨rfl,rfl⟩) (by simp) ?_
 refine Sim.step hmix hΓ (n:=0) (by simp[h1];exact⟨rfl,rfl⟩) (by simp) ?_
 refine Sim.after (Sim.exec hmix hΓ (n:=0) (by simp[zVq,zK3];exact⟨rfl,rfl,rfl⟩) (by simp) ?_)
 refine Aft.weak (Fn:=[.top,.top,.ptr 0 0]++qbZ 6 .top) (Hn:=(RS.new q).blks) (Weak.mk' [1,0,100] (by decide) (by decide) (by simp[AWs,AW]) (by simp[RS.blks,RS.cell0,RS.new,AWg,AWb,AWs,AW,Z9,zAD])) (by simp) ?_
 exact (RS.new q).blks_at.close ([.top,.top,.ptr 0 0]++qbZ 6 .top) (by simp[AWs,AW]) ⟨.inr rfl,_,by simp[Tryz.f7] <;> rfl,Weak.mk' [0] (by decide) rfl (by simp) (by simp[AWb])⟩
theorem zRO(q:Int)(hq:q<0):Ct Pz 7 [.int .i64 q] [] .nilp []:=by
 refine zG Tryz.func7 rfl ?_;simp only[Tryz.ntmps7,q7Z,q8Z,Nat.reduceAdd,Nat.reduceSub,qbZ,q9Z,qaZ]
 refine Sim.step hmix zC (n:=0) (by simp;exact⟨rfl,rfl⟩) (by simp) ?_
 refine Sim.exec hmix zC (n:=0) (by simp[hq];exact⟨rfl,rfl,rfl⟩) (by simp) ?_
 exact⟨.inr rfl,_,by simp[Tryz.f7] <;> rfl,Weak.mk' [] (by decide) rfl (by simp) (by simp)⟩
noncomputable def zCk:zU:=zD9 fun
 | [.int .i64 q]=>if 0<=q then some (.ptr 0 0,[.obj true (RS.new q).blks]) else some (.nilp,[])
 | _=>none
theorem zHL:Sound Pz 7 zCk:=by
 refine zDD (zE Tryz.func7 rfl (by decide)) fun args v H' h=>?_
 split at h;rotate_left
 · cases h
 split at h <;> cases h <;> rename_i hq
 · exact⟨zTl _ hq,rfl,rfl⟩
 · exact⟨zRO _ (by omega),rfl,rfl⟩
def zBe:RF×List PF->List (List UInt8×List UInt8)->Option (RF×List PF)
 | s,[]=>some s
 | s,e::l=>if (s.1.create e.1).2.2=0 then zBe ((s.1.create e.1).1,s.2++[⟨e.2,[]⟩]) l else none
theorem zFu(s:RF×List PF)(e:List UInt8×List UInt8)(l:List (List UInt8×List UInt8)):zBe s (e::l)=if (s.1.create e.1).2.2=0 then zBe ((s.1.create e.1).1,s.2++[⟨e.2,[]⟩]) l else none:=rfl
theorem zN8(s:RF×List PF):zBe s []=some s:=rfl
def RS.ofF(x:List (List UInt8×List UInt8))(q:Int):Option RS :=
 if q<0 then none else (zBe (RF.new,[]) x).map fun s=>⟨s.1.survive x.length,s.2,q,0,0,false⟩
structure OfR (x:List (List UInt8×List UInt8)) (i:Nat) (s:RF×List PF):Prop where
 rest:zBe s (x.drop i)=zBe (RF.new,[]) x
 ok:∃fd:FD,s.1.rel fd/\fd.ok i
 len:s.2.length=i
theorem zF4(n:Nat):∀l:List AV,zh l=true->ze n l=true
 | [],_=>rfl
 | x::xs,h=>by
   simp only[zh,qrZ]at h;simp only[ze,qrZ];refine ⟨?_,zF4 n xs h.2⟩;have h1:=h.1
   cases x <;> simp_all [free,below]
theorem zHT(g:Nat->Nat)(n:Nat):∀(c k:Nat),(∀i,i<k+c->g i<n)->ze n (zAD g k c)=true
 | 0,_,_=>rfl
 | c+1,k,h=>by
   simp only[zAD,ze,below,qrZ,decide_eq_true_eq]
   exact⟨h k (by omega),zHT g n c (k+1) fun i hi=>h i (by omega)⟩
theorem RAt.moreC{H H5:zA}{r:RS}{x y:AV}{q0 fo m m' q:Nat}{g:Nat->Nat}(h:RAt H r x q0 fo m g)(f:PF)(h0:H5[q0]? = some (r.cell0 y fo))(hy:y=.sl m' 0 (r.F.length+1) 1 false\/∃c,y=.slice m' 0 (r.F.length+1) 1 c)
   (hrow:H5[m']? = some (.cells true (zAD g 0 r.F.length++[.ptr q 0]))) (hq:H5[q]? = some (.obj true f.rblks)) (hold:∀b,b<H.length->b≠q0->b≠m->H5[b]? = H[b]?) (hm:H.length<=m') (hql:H.length<=q) (hmq:m'≠q) :
   RAt H5 ⟨r.dir,r.F++[f],r.room,r.steps,r.left,r.down⟩ y q0 fo m' (fun i=>if i<r.F.length then g i else q):=by
 obtain⟨n1,n2,n3,n4,n5⟩:=h.ne;have lm:m<H.length:=(q1Z.1 h.row).1
 have lm5:m<H5.length:=by have:=(q1Z.1 hrow).1;omega
 have h2:=h.moreB (H5:=H5.set m (.cells true (zAD g 0 r.F.length))) (y:=y) f (by rw[qfZ (by omega)];exact h0) hy (by rw[qfZ (by omega)];exact hrow) (by rw[qfZ (by omega)];exact hq) (fun b hb hb0=>by
   by_cases e:b=m
   · subst e;rw[List.getElem?_set,if_pos rfl,if_pos lm5,h.row]
   · rw[qfZ (Ne.symm e)];exact hold b hb hb0 e) hm hql hmq
 refine ⟨h0,h2.hx,?_,?_,fun i f' hf=>?_,h2.nd⟩
 · have:=h2.fold
   rwa [qfZ (Ne.symm n3)]at this
 · have:=h2.row
   rwa [qfZ (by omega)]at this
 · have:=h2.file i f' hf
   rwa [qfZ]at this
   have hi:i<r.F.length+1:=by have:=(q1Z.1 hf).1;simpa using this
   split
   · exact fun e=>(n4 i (by assumption)).2.2 e.symm
   · omega
theorem RAt.newC{H H':zA}{r:RS}{x:AV}{q0 fo m:Nat}{g:Nat->Nat}(h:RAt H r x q0 fo m g){L:Nat}(hL:H.length=L)(hL':H'.length=L)(y:AV)(T:zA)(j jm:Nat){d:List UInt8}(h0:H'[q0]? = some (r.cell0 y fo))(hold:∀b,b≠q0->b≠m->H'[b]? = H[b]?)
   (hj:T[j]? = some (.cells true [.str d,.nils])) (hjm:T[jm]? = some (.cells true (zAD g 0 r.F.length++[.ptr (L+j) 0]))) (hne:j≠jm) (hy:y=.sl (L+jm) 0 (r.F.length+1) 1 false\/∃c,y=.slice (L+jm) 0 (r.F.length+1) 1 c) {F:List AV} {K:List AV->zA->Prop}
   (hk:∀H5,RAt H5 ⟨r.dir,r.F++[⟨d,[]⟩],r.room,r.steps,r.left,r.down⟩ y q0 fo (L+jm) (fun i=>if i<r.F.length then g i else L+j)->H5.length=L+T.length->(∀b,b<L+T.length->b≠q0->b≠m->b≠L+j->H5[b]? = (H++T)[b]?)->Aft 1 F H5 K):Aft 1 F (H'++T) K:=by
 have l0:q0<H.length:=(q1Z.1 h.c0).1;have lm:m<H.length:=(q1Z.1 h.row).1;have hBX:=ZC H' (n:=L) hL';have lj:j<T.length:=(q1Z.1 hj).1;have ljm:jm<T.length:=(q1Z.1 hjm).1
 have e1:∀b,b≠L+j->(zi (H'++T) (L+j) [L+T.length] true (⟨d,[]⟩:PF).rblks)[b]? = if b=L+T.length then (zi (H'++T) (L+j) [L+T.length] true (⟨d,[]⟩:PF).rblks)[b]? else (H'++T)[b]?:=fun b hb=>by
   split
   · rfl
   · rename_i hn
     unfold zi
     rw[qfZ (Ne.symm hb),zAf _ _ _ (by simpa using hn)]
 refine Aft.closeR ⟨d,[]⟩ (L+j) (L+T.length) (x:=.nils) (by rw[hBX.get];exact hj) (by simp[AW]) (fun hlt=>by simp[hL']at hlt) (by omega) (by simp;omega) ?_
 refine hk _ (h.moreC ⟨d,[]⟩ ?_ hy ?_ ?_ (fun b hb hb0 hbm=>?_) (by omega) (by omega) (by omega)) (by simp[hL']) fun b hb hb0 hbm hbj=>?_
 · rw[e1 q0 (by omega),if_neg (by omega),q4Z (by omega)];exact h0
 · rw[e1 _ (by omega),if_neg (by omega),hBX.get];exact hjm
 · unfold zi
   rw[List.getElem?_set,if_pos rfl,if_pos (by rw[ZN];simp;omega)]
 · rw[e1 b (by omega),if_neg (by omega),q4Z (by omega),hold b hb0 hbm]
 · rw[e1 b hbj,if_neg (by omega)]
   rcases s2Z b L with hbL | hbL
   · rw[q4Z (by omega),hold b hb0 hbm,q4Z (by omega)]
   · rw[q5Z (by omega),q5Z (by omega),hL',hL]
noncomputable def zMc:Gam:=zo [(7,zCk),(19,zI7),(20,zFh)]
theorem zUG:GOk Pz zMc:=zB zHL (zB zG3 (zB zEJ zC))
theorem zQW(x:List (List UInt8×List UInt8))(hx:x.length<=900000)(hk:∀e∈x,e.1.length<=9223372036854775807)(q:Int) :
   Ct Pz 5 [.sl 0 0 x.length 2 false,.int .i64 q] [.cells false (flA x)] (match RS.ofF x q with | some _=>.ptr 1 0 | none=>.nilp) (match RS.ofF x q with | some r=>[.cells false (flA x),.obj true r.blks] | none=>[.cells false (flA x)]):=by
 have hΓ:=zUG;refine zG Tryz.func5 rfl ?_;simp only[Tryz.ntmps5,q7Z,q8Z,Nat.reduceAdd,Nat.reduceSub,qbZ,q9Z,qaZ];obtain⟨L,hL⟩:∃L,x.length=L:=⟨_,rfl⟩;have hfr:=ZS x
 have hAr:∀rn:List Nat,AWs rn (flA x) (flA x):=fun rn=>AWs.refl _ _ hfr
 rw[hL]at hx ⊢
 refine Sim.step hmix hΓ (n:=0) (by simp;exact⟨rfl,rfl⟩) (by simp) ?_
 by_cases hq:q<0
 · have e:RS.ofF x q=none:=by unfold RS.ofF;rw[if_pos hq]
   rw[e]
   have hq2:¬0<=q:=by omega
   refine Sim.step hmix hΓ (n:=0) (by simp[zMc,zCk,zD9,hq2];exact⟨rfl,rfl⟩) (by simp) ?_
   refine Sim.exec hmix hΓ (n:=0) (by simp;exact⟨rfl,rfl,rfl⟩) (by simp) ?_
   exact⟨.inr rfl,_,by simp[Tryz.f5] <;> rfl,Weak.mk' [0] (by decide) (by decide) (by simp) (by simp[AWb])⟩
 have hq0:0<=q:=by omega
 have e:RS.ofF x q=(zBe (RF.new,[]) x).map fun s=>⟨s.1.survive x.length,s.2,q,0,0,false⟩:=by unfold RS.ofF;rw[if_neg hq]
 rw[e];have hnw:(ABlk.obj true (RS.new q).blks).own=true:=rfl
 refine Sim.step hmix hΓ (n:=0) (by simp[zMc,zCk,zD9,hq0];exact⟨rfl,rfl⟩) (by simp) ?_
 refine Sim.step hmix hΓ (n:=0) (by simp;exact⟨rfl,rfl⟩) (by simp) ?_
 refine Sim.seq (Sim.step hmix hΓ (n:=0) (by simp;exact⟨rfl,rfl⟩) (by simp) ?_)
 refine Sim.block (Sim.loopS (fun t:Nat×RF×List PF=>t.1<=L/\OfR x t.1 t.2) (fun t=>[.sl 0 0 L 2 false,.int .i64 q,.top,.top,.top,.ptr 1 0,.int .i64 t.1]++qbZ 51 .top)
   (fun t=>[.cells false (flA x),.obj true (⟨t.2.1,t.2.2,q,0,0,false⟩:RS).blks]) (fun t=>L-t.1) (0,RF.new,[]) (by simp) ⟨qqZ _,by simp,⟨_,RF.rel_new,FD.ok_new⟩,rfl⟩ ⟨by simp,rfl⟩ fun t ht=>?_)
 obtain⟨i,dr,F⟩:=t;obtain⟨hi,hr1,⟨fd,hr2,hr3⟩,hr4⟩:=ht;dsimp only at hi hr1 hr2 hr3 hr4 ⊢
 have hdo:dr.ok 1000000:=hr2.ok (FD.ok_mono hr3 (by omega))
 refine Sim.aft (Aft.open (b:=1) rfl (by simp) (Aft.done (by simp[zX]) ?_))
 rw[zS8];have ha:=zNQ ⟨dr,F,q,0,0,false⟩ false (flA x)
 obtain⟨H,hH⟩:∃H,(ABlk.cells false (flA x)::(⟨dr,F,q,0,0,false⟩:RS).cell0 (.sl 3 0 F.length 1 false) 2::.obj true dr.blks::.cells true (zAD (fun i=>i+4) 0 F.length)::Z9 F)=H:=⟨_,rfl⟩
 have hr0:H[0]? = some (.cells false (flA x)):=by rw[<-hH];rfl
 dsimp only at ha
 have hall:H.all (zA5 H.length)=true:=by
   rw[s5Z];intro B hB;rw[<-hH]at hB ⊢;simp only[RS.cell0,q7Z,zE3,qwZ]at hB ⊢;rcases hB with rfl | rfl | rfl | rfl | hB
   · exact zF4 _ _ (ZS x)
   · simp[zA5,ze,below]
   · rfl
   · exact zHT _ _ _ _ fun i hi=>by omega
   · obtain⟨W,_,rfl⟩:=reZ.1 hB
     rfl
 rw[hH]at ha ⊢;clear hH;obtain⟨N,hN⟩:∃N,H.length=N:=⟨_,rfl⟩;rw[hN]at hall
 have hdrop:∀v,(H.set 2 v).drop N=[]:=fun v=>List.drop_of_length_le (by rw[r8Z];omega)
 have g0:=ha.c0;have g1:=ha.fold;unfold RS.cell0 at g0;dsimp only at g0 g1
 have l2:2<N:=by rw[<-hN];exact (q1Z.1 g1).1
 have k0:∀T:zA,(H++T)[0]? = H[0]?:=fun T=>q4Z (by omega)
 have k1:∀T:zA,(H++T)[1]? = H[1]?:=fun T=>q4Z (by omega)
 have k2:∀T:zA,(H++T)[2]? = H[2]?:=fun T=>q4Z (by omega)
 rw[hr0]at k0;rw[g0]at k1;rw[g1]at k2
 have hr0':∀h,H[0]'h=_:=fun h=>(q1Z.1 hr0).2
 have g0':∀h,H[1]'h=_:=fun h=>(q1Z.1 g0).2
 have g1':∀h,H[2]'h=_:=fun h=>(q1Z.1 g1).2
 by_cases hlt:i<L;rotate_left
 · have hie:i=L:=by omega
   subst hie
   refine Sim.exec hmix hΓ (n:=0) (by simp;exact⟨rfl,rfl,rfl⟩) (by simp[hN] <;> omega) ?_
   dsimp only;rw[if_pos rfl]
   have hLi : -9223372036854775808<=(i:Int)/\(i:Int)<=9223372036854775807:=by omega
   have hdr0:x.drop i=[]:=List.drop_of_length_le (by omega)
   rw[hdr0,zN8]at hr1;rw[<-hr1];simp only[rhZ]
   refine Sim.step hmix hΓ (n:=0) (by simp[zMc,zFh,g0,g1,hdo,hLi];exact⟨rfl,rfl⟩) (by simp[hN] <;> omega) ?_
   refine Sim.after (Sim.exec hmix hΓ (n:=0) (by simp;exact⟨rfl,rfl,rfl⟩) (by simp[hN] <;> omega) ?_)
   have hs0:(H.set 2 (.obj true (dr.survive i).blks))[0]? = some (.cells false (flA x)):=by rw[qfZ (by decide)];exact hr0
   have hs1:=ha.dirset (dr.survive i)
   refine hs1.close1 hs0 hAr (by decide) (by decide) (fun a _=>by omega) ([.top,.top,.top,.top,.ptr 1 0]++qbZ 53 .top) (by simp[AWs,AW]) ⟨.inr rfl,_,by simp[Tryz.f5] <;> rfl,Weak.mk' [0,1] (by decide) rfl (by simp) (by simp[AWb,hL])⟩
 have hltI:(i:Int)<L:=by omega
 have hil:i<x.length:=by omega
 obtain⟨e,he⟩:∃e,x[i]=e:=⟨_,rfl⟩;have hg:=zCY x i hil;rw[he]at hg
 have hg1:(flA x)[i*2]? = some (.str e.1):=by
   have:=congrArg (·[0]?) hg
   simpa[r4Z] using this
 have hg2:(flA x)[i*2+1]? = some (.str e.2):=by
   have:=congrArg (·[1]?) hg
   simpa[r4Z] using this
 have hg1':∀h,(flA x)[i*2]'h=.str e.1:=fun h=>(q1Z.1 hg1).2
 have hg2':∀h,(flA x)[i*2+1]'h=.str e.2:=fun h=>(q1Z.1 hg2).2
 have hek:=hk e (by rw[<-he];exact r3Z hil)
 have hdr:x.drop i=e::x.drop (i+1):=by rw[List.drop_eq_getElem_cons hil,he]
 rw[hdr,zFu]at hr1;dsimp only at hr1
 have kk1:i*2+2<=L*2:=by omega
 have y1:IntKind.i64.wrap ((i:Int)+1)=i+1:=zV (by omega) (by omega)
 refine Sim.step hmix hΓ (n:=0) (by simp[hltI];exact⟨rfl,rfl⟩) (by simp[hN] <;> omega) ?_
 refine Sim.seq (Sim.block ?_);obtain⟨⟨dr2,nm,er⟩,hcr⟩:∃x,dr.create e.1=x:=⟨_,rfl⟩;rw[hcr]at hr1;dsimp only at hr1
 refine Sim.seq (Sim.draw hmix (by simp[hN] <;> omega) ?_)
 refine SimR.many hΓ 9 (by simp[zI];rfl) (by omega) (by kernel_rfl) (by simp +decide [hL,hr0,g0,hg1',hlt];first | exact⟨rfl,rfl⟩ | exact⟨by kernel_rfl,rfl,rfl⟩) ?_
 refine SimR.one hΓ _ rfl (by kernel_rfl) (by simp +decide [zMc,zI7,g1,hdo,hcr,hek];exact⟨rfl,rfl⟩) ?_
 refine SimR.many hΓ 15 (by simp[zI,zS];rfl) (by omega) (by kernel_rfl) (by simp;first | exact⟨rfl,rfl⟩ | exact⟨by kernel_rfl,rfl,rfl⟩) ?_
 refine SimR.done rfl ?_;dsimp only;have ha3:=ha.dirset dr2
 have hr3':(H.set 2 (.obj true dr2.blks))[0]? = some (.cells false (flA x)):=by rw[qfZ (by decide)];exact hr0
 have hN3:(H.set 2 (.obj true dr2.blks)).length=N:=by rw[r8Z,hN]
 dsimp only at ha3;obtain⟨H3,hH3⟩:∃X,H.set 2 (.obj true dr2.blks)=X:=⟨_,rfl⟩;rw[hH3]at ha3 hr3' hN3 ⊢;clear hH3 hall hdrop k0 k1 k2 g0 g1 g0' g1' hr0' ha;by_cases her:er=0;rotate_left
 · have he2:(er != 0)=true:=by simpa using her
   rw[if_neg her]at hr1;rw[<-hr1]
   refine Sim.after (Sim.exec hmix hΓ (n:=0) (by simp[he2];exact⟨rfl,rfl,rfl⟩) (by simp[hN3] <;> omega) ?_)
   exact ha3.close1 hr3' hAr (by decide) (by decide) (fun i _=>by omega) ([.top,.top,.top,.top,.nilp]++qbZ 53 .top) (by simp[AWs,AW]) ⟨.inr rfl,_,by simp[Tryz.f5] <;> rfl,Weak.mk' [0] (by decide) rfl (by simp) (by simp[AWb])⟩
 have he2:(er != 0)=false:=by simpa using her
 rw[if_pos her]at hr1;have q0:=ha3.c0;have q2:=ha3.row;unfold RS.cell0 at q0;dsimp only at q0 q2;have hBX:=ZC H3 hN3;have hXg:=hBX.get;have hXg0:=hBX.get0;have hXs:=hBX.set;have hXs0:=hBX.set0
 have l3:3<N:=by rw[<-hN3];exact (q1Z.1 q2).1
 have k0:∀T:zA,(H3++T)[0]? = H3[0]?:=fun T=>q4Z (by omega)
 have k1:∀T:zA,(H3++T)[1]? = H3[1]?:=fun T=>q4Z (by omega)
 have k2:∀T:zA,(H3++T)[3]? = H3[3]?:=fun T=>q4Z (by omega)
 have k3:∀(T:zA) v,(H3++T).set 1 v=H3.set 1 v++T:=fun T v=>by rw[List.set_append_left _ _ (by omega)]
 rw[hr3']at k0;rw[q0]at k1;rw[q2]at k2
 refine Sim.step hmix hΓ (n:=0) (by simp[her];exact⟨rfl,rfl⟩) (by simp[hN3] <;> omega) ?_
 have hFl:=zCZ (fun i=>i+4) F.length 0
 have hFc:=zD6 (fun i=>i+4) F.length 0
 have hFA:F.length<=1000000:=by omega
 have b1:F.length*8<=140737488355328:=Nat.le_trans (Nat.mul_le_mul_right 8 hFA) (by decide)
 have b2:F.length<=9223372036854775807:=Nat.le_trans hFA (by decide)
 have b3:(F.length+1)*8<=140737488355328:=Nat.le_trans (Nat.mul_le_mul_right 8 (Nat.succ_le_succ hFA)) (by decide)
 have b4:F.length+1<=9223372036854775807:=Nat.le_trans (Nat.succ_le_succ hFA) (by decide)
 obtain⟨R,hR⟩:∃R,zAD (fun i=>i+4) 0 F.length=R:=⟨_,rfl⟩
 obtain⟨n,hn⟩:∃n,F.length=n:=⟨_,rfl⟩;rw[hR]at hFl hFc k2;rw[hn]at hFl b1 b2 b3 b4 k1
 have hRt:R.take n=R:=q6Z (by omega)
 have k0':∀(T:zA) h,(H3++T)[0]'h=_:=fun T h=>(q1Z.1 (k0 T)).2
 have k1':∀(T:zA) h,(H3++T)[1]'h=_:=fun T h=>(q1Z.1 (k1 T)).2
 have k2':∀(T:zA) h,(H3++T)[3]'h=_:=fun T h=>(q1Z.1 (k2 T)).2
 have c0:=k0 [];have c1:=k1 [];rw[r2Z]at c0 c1
 have c0':∀h,H3[0]'h=_:=fun h=>(q1Z.1 c0).2
 have c1':∀h,H3[1]'h=_:=fun h=>(q1Z.1 c1).2
 · have gw:∀k:Nat,(N+(k+1) != N)=true:=fun k=>by simp
   have e31:¬3=N+1:=by omega
   have e32:¬N=2:=by omega
   have k5:∀(T:zA) v,(H3++T).set 3 v=H3.set 3 v++T:=fun T v=>by rw[List.set_append_left _ _ (by omega)]
   have k6:∀(T:zA) v (j:Nat),(H3.set 3 v++T)[N+j]? = T[j]?:=fun T v j=>by rw[q5Z (by rw[r8Z];omega),r8Z,hN3,s3Z]
   refine Sim.draw hmix (by simp[hN3] <;> omega) ?_
   refine SimR.hard hΓ 13 8190 _ rfl (by simp[zI];rfl) (by omega) (by kernel_rfl) (by kernel_rfl) (by simp +decide [hN3,c0,c1,hg2,hlt];exact⟨rfl,rfl,rfl⟩) (by kernel_rfl) (by simp +decide [zBL,List.range,List.range.loop];rfl) (by simp +decide [hN3,k2,hFl,hRt,b3,b4,k5];exact⟨rfl,rfl⟩) (by simp +decide [zFT,zLh,ZM,List.range,List.range.loop,k0']) ?_
   have m1:∀T:zA,(H3.set 3 .dead++T)[1]? = H3[1]?:=fun T=>by
     rw[q4Z (by rw[r8Z];omega),qfZ (by decide)]
   rw[c1]at m1
   have m1':∀(T:zA) h,(H3.set 3 .dead++T)[1]'h=_:=fun T h=>(q1Z.1 (m1 T)).2
   have m3:∀(T:zA) v,(H3.set 3 .dead++T).set 1 v=(H3.set 3 .dead).set 1 v++T:=fun T v=>by rw[List.set_append_left _ _ (by rw[r8Z];omega)]
   refine SimR.many hΓ 17 (by simp[zI,zS];rfl) (by omega) (by kernel_rfl) (by simp +decide [hN3,m1',m3];first | exact⟨rfl,rfl⟩ | exact⟨by kernel_rfl,rfl,rfl⟩) ?_
   refine SimR.done rfl ?_;dsimp only
   refine Sim.after (Sim.exec hmix hΓ (n:=0) (by simp[y1];exact⟨rfl,rfl,rfl⟩) (by simp[hN3] <;> omega) ?_)
   refine ha3.newC hN3 (by simp[hN3]) (.sl (N+2) 0 (n+1) 1 false) _ 0 2 (d:=e.2) ?_ ?_ rfl ?_ (by decide) (.inl (by dsimp only;rw[hn])) fun H5 h5 hl5 hold5=>?_
   · rw[List.getElem?_set,if_pos rfl,if_pos (by rw[r8Z];omega)];rfl
   · intro b hb1 hb3
     rw[qfZ (Ne.symm hb1),qfZ (Ne.symm hb3)]
   · dsimp only;rw[hR];rfl
   refine h5.close1 (o:=false) (l:=flA x) ?_ hAr (by decide) (by omega) (fun a _=>by dsimp only;split <;> omega) ([.sl 0 0 L 2 false,.int .i64 q,.top,.top,.top,.ptr 1 0,.int .i64 ((i:Int)+1)]++qbZ 51 .top) (by simp[AWs,AW]) ?_
   · rw[hold5 0 (by omega) (by decide) (by decide) (by omega),q4Z (by omega)];exact hr3'
   · obtain⟨c1,c2⟩:=hr2.create e.1
     have hfd:(fd.create e.1).1.ok (i+1):=FD.ok_create hr3 e.1
     exact⟨(i+1,dr2,F++[⟨e.2,[]⟩]),⟨by dsimp only;omega,⟨hr1,⟨_,by rw[hcr]at c1;exact c1,hfd⟩,by simp[hr4]⟩⟩,⟨by simp[LessF],rfl⟩,by dsimp only;omega⟩
end
end Go.Proofs.YtfhidaoiofeooaaGreat
