/- Parts of the proof of DiskTells: lemmas, each with its own conditions. -/
import Derived.Test.YtfhidaoiofeooaaGreatY24
import Derived.Test.YtfhidaoiofeooaaGreatY23
import Derived.Test.YtfhidaoiofeooaaGreatY22
set_option maxHeartbeats 64000000
open List renaming getElem?_eq_some_iff → q1Z, getD_eq_getElem?_getD → q2Z, getElem?_eq_getElem → q3Z, getElem?_append_left → q4Z, take_of_length_le → q6Z, length_cons → q7Z, length_nil → q8Z, cons_append → q9Z, nil_append → qaZ, replicate → qbZ, mem_of_getElem? → qcZ, length_take → qjZ, mem_cons → qwZ, getElem?_map → qzZ, append_nil → r2Z, getElem_mem → r3Z, take_append_drop → r6Z, length_map → r7Z, getElem?_cons_succ → r9Z, nodup_cons → rdZ, mem_map → reZ, map_append → roZ, map_cons → s1Z, getElem?_eq_none → s4Z, all_eq_true → s5Z, set_cons_zero → s9Z
open Nat renaming le_refl → qnZ, lt_or_ge → s2Z, zero_add → s8Z
open Bool renaming and_eq_true → qrZ
open Option renaming map_some → rhZ
namespace Go.Proofs.YtfhidaoiofeooaaGreat
open _root_.Go.Proofs.Tryz renaming prog → Pz
set_option maxRecDepth 100000
section
open Go
def zKz(before:Bool)(si sk:List Nat)(di dk:Option Nat)(qi qk:QF):Bool :=
 (match di with
  | some d=>!sk.contains d || before
  | none=>true) &&
 (match dk with
  | some d=>(!si.contains d || before)&&dk != di
  | none=>true) &&
 (match qi.st with
  | some _=>!qk.call
  | none=>true) &&
 (match qk.st with
  | some _=>!qi.call || before
  | none=>true) &&
 (!qi.call || !qk.grows || before || qi.sc)
def zQ2(ops:List Oper)(slots:List (List Nat))(qs:List QF)(pr:List Nat):Bool :=
 (List.range ops.length).all fun k =>
   ((ops.getD k default).after.toList.all fun e=>!Region.binds .any e || e.on<k) &&
   (List.range k).all fun i =>
     zKz ((pr.getD k 0).testBit i) (slots.getD i []) (slots.getD k []) (ops.getD i default).dst (ops.getD k default).dst (qs.getD i ⟨none,none,false,false,false⟩) (qs.getD k ⟨none,none,false,false,false⟩)
def zMb(ops:List Oper)(slots:List (List Nat))(qs:List QF):Bool:=zEm (zQ2 ops slots qs) ops []
theorem zRr{b:Bool}{si sk:List Nat}{di dk:Option Nat}{qi qk:QF}(h:zKz b si sk di dk qi qk=true)(h1:∀s,qi.st=some s->(qk.rd != some s.1)=true)(h2:∀s,qk.st=some s->(qi.rd != some s.1)=true):zGB b si sk di dk qi qk=true:=by
 unfold zKz at h;unfold zGB;simp only[qrZ]at h ⊢;refine ⟨⟨⟨h.1.1.1,?_⟩,?_⟩,h.2⟩
 · have h3:=h.1.1.2
   cases hs:qi.st with
   | none=>rfl
   | some s =>
     rw[hs]at h3;simp only[qrZ];exact⟨h1 s hs,h3⟩
 · have h3:=h.1.2
   cases hs:qk.st with
   | none=>rfl
   | some s =>
     rw[hs]at h3;simp only[qrZ,Bool.or_eq_true]at h3 ⊢;exact⟨.inl (h2 s hs),h3⟩
theorem zJP{ops:List Oper}{slots:List (List Nat)}{qs:List QF}(h:zMb ops slots qs=true)(hp:(qs.filterMap (·.st)).Pairwise fun a b=>zGb a b=true)
   (hr:∀r∈qs.filterMap (·.rd),∀s∈qs.filterMap (·.st),r≠s.1):zBZ ops slots qs=true:=by
 refine zJf ?_ hp;unfold zMb at h;unfold zIx;rw[zCU]at h ⊢;unfold zQ2 at h;unfold zLS;rw[s5Z]at h ⊢;intro k hk;have:=h k hk;rw[qrZ]at this ⊢;refine ⟨this.1,?_⟩;rw[s5Z];intro i hi
 have key:∀a b s,(qs.getD a ⟨none,none,false,false,false⟩).st=some s->((qs.getD b ⟨none,none,false,false,false⟩).rd != some s.1)=true:=by
   intro a b s hs
   have ha:s∈qs.filterMap (·.st):=by
     rcases s2Z a qs.length with h3 | h3
     · rw[q2Z,q3Z h3]at hs
       exact List.mem_filterMap.2 ⟨_,r3Z h3,hs⟩
     · rw[q2Z,s4Z h3]at hs;cases hs
   rw[bne_iff_ne];intro hb
   have hb':s.1∈qs.filterMap (·.rd):=by
     rcases s2Z b qs.length with h3 | h3
     · rw[q2Z,q3Z h3]at hb
       exact List.mem_filterMap.2 ⟨_,r3Z h3,hb⟩
     · rw[q2Z,s4Z h3]at hb;cases hb
   exact hr _ hb' _ ha rfl
 exact zRr (s5Z.1 this.2 i hi) (fun s hs=>key i k s hs) (fun s hs=>key k i s hs)
end
section
open Go Go.Lib
attribute [-simp] zN zr ZI zT ZL
noncomputable def zHs:zU:=fun args H=>match args with
 | [.ptr b 0]=>match H[b]? with
   | some (.obj true sub)=>match zCw sub with
     | some f=>if f.acts.length<=1000000000 then some (.ptr H.length 0,H++[.obj true f.blks],[]) else none
     | none=>none
   | _=>none
 | _=>none
theorem zLK:Sound Pz 26 zHs:=by
 refine ⟨zE Tryz.func26 rfl (by decide),fun args H v H' W hs=>?_,fun args H v H' W hs=>?_⟩ <;> (unfold zHs at hs;split at hs <;> try cases hs) <;> (split at hs <;> try cases hs) <;> (rename_i b _ sub hb;split at hs <;> try cases hs) <;> (rename_i f hf;split at hs <;> cases hs;rename_i hk)
 · have e:=zBg hf
   subst e;have hbl:b<H.length:=(q1Z.1 hb).1
   have:=zc (H:=H) (args:=[.ptr b 0]) (zTL f hk) [b] (by simp) ⟨⟨rfl,rfl⟩,trivial⟩ ⟨by rw[q2Z,hb];exact⟨rfl,rfl⟩,hbl,trivial⟩ rfl
   obtain⟨h1,h2⟩:=q1Z.1 hb
   have hset:H.set b (.obj true f.blks)=H:=by rw[<-h2,List.set_getElem_self]
   simpa[zb,ABlk.own,reB,reA,ZQ,hset] using this
 · exact⟨by simp,fun c hc _=>by rw[q4Z hc]⟩
noncomputable def zHl:zU:=fun args H=>match args with
 | [.ptr b 0]=>match H[b]? with
   | some (.obj true sub)=>match zE1 sub with
     | some f=>if f.acts.length<=1000000 then some (.ptr H.length 0,H++[.obj true f.blks],[]) else none
     | none=>none
   | _=>none
 | _=>none
theorem zLG:Sound Pz 22 zHl:=by
 refine ⟨zE Tryz.func22 rfl (by decide),fun args H v H' W hs=>?_,fun args H v H' W hs=>?_⟩ <;> (unfold zHl at hs;split at hs <;> try cases hs) <;> (split at hs <;> try cases hs) <;> (rename_i b _ sub hb;split at hs <;> try cases hs) <;> (rename_i f hf;split at hs <;> cases hs;rename_i hk)
 · have e:=zAp hf
   subst e;have hbl:b<H.length:=(q1Z.1 hb).1
   have:=zc (H:=H) (args:=[.ptr b 0]) (zRu f hk) [b] (by simp) ⟨⟨rfl,rfl⟩,trivial⟩ ⟨by rw[q2Z,hb];exact⟨rfl,rfl⟩,hbl,trivial⟩ rfl
   obtain⟨h1,h2⟩:=q1Z.1 hb
   have hset:H.set b (.obj true f.blks)=H:=by rw[<-h2,List.set_getElem_self]
   simpa[zb,ABlk.own,reB,reA,ZQ,hset] using this
 · exact⟨by simp,fun c hc _=>by rw[q4Z hc]⟩
theorem Sim.nd{P:Program}{Γ:Gam}(hΓ:GOk P Γ){S:NDS}(hS:NDOk P S){r:Option Nat}{n0 id:Nat}{ops:Array Oper}(c:Nat){F F1:List AV}{H H1:zA}{Q:AX->List AV->zA->Prop}{l1 rest:List Oper}{o:Oper}{g:Operand}{args:Array Operand}{ts:Array TypeId}{f:FuncId}{first cap:List AV}{xs:List (AV×zA)}
   (hn:n0<=H.length) (ht:ops.toList.take c=l1) (hdrop:ops.toList.drop c=o::rest) (h1:zG0 P Γ ops l1 F H=some (F1,H1)) (hw:zAI ops o F1=some true) (ho:o.op=.call ⟨.value g,args,ts⟩) (hg:ev F1 g=.func f first cap)
   (hxs:S f (first++args.toList.map (ev F1)++cap) H1=some xs) (hq:∀x∈xs,∃F2 H2,zG0 P Γ ops rest (ZW F1 o.dst x.1) x.2=some (F2,H2)/\Q .normal F2 H2):Sim P r n0 (.region id ops false) F H Q:=by
 intro B j w a m hB hR hF hd;refine wpIn_region_list ?_
 rw[show ops.toList=l1++(o::rest) by rw[<-hdrop,<-ht,r6Z]]
 rw[zEB]at h1
 refine zEe hΓ r m (o::rest) _ F F1 H H1 j w a h1 hR hF _ rfl fun j1 w1 a1 g1 g2 s1=>?_
 unfold wpListIn;rw[Za hw g1];simp only[if_true]
 refine zI4 (S:=xs) ho hg (hS.enter _ _ _ _ hxs) (fun cargs hc=>hS.ct _ _ _ _ hxs j1 w1 cargs s1.rel hc) g1 r m fun x hx cv j2 w2 hv s2=>?_
 obtain⟨F3,H3,h3,hQ⟩:=hq x hx;rw[zEB]at h3;have hle:=s2.jle s1.rel (qnZ _)
 refine zEy hΓ r m rest _ F3 x.2 H3 j2 w2 _ h3 s2.rel (zCX (VRs.mono hle _ _ g1) o.dst hv) a.defers (by rw[ZU];exact g2) fun j3 w3 a3 k1 k2 s3=>?_
 have s12:=s1.trans s2 s1.len;have s123:=s12.trans s3 s12.len
 exact⟨.normal,F3,H3,j3,rfl,hQ,k1,by rw[k2];exact hd.step hR s123,⟨s123.rel,fun b hb=>s123.ext b (by omega),by have:=s123.len;omega,s123.keeps,s123.fresh,s123.tch⟩⟩
theorem zHA(x:Int):∀(l s:List Int),s∈zDW x l->s.Perm (x::l)
 | [],s,h=>by simp[zDW]at h;rw[h]
 | y::l,s,h=>by
   simp only[zDW,qwZ,reZ]at h;rcases h with rfl | ⟨s',h1,rfl⟩
   · exact List.Perm.refl _
   · exact ((zHA x l s' h1).cons y).trans (List.Perm.swap x y l)
theorem zHR:∀(ks s:List Int),s∈zDN ks->s.Perm ks
 | [],s,h=>by simp[zDN]at h;rw[h]
 | x::l,s,h=>by
   obtain⟨t,h1,h2⟩:=List.mem_flatMap.1 h;exact (zHA x t s h2).trans ((zHR l t h1).cons x)
noncomputable def zUi:Gam:=zo [(22,zHl),(23,zAC),(25,zJN),(26,zHs)]
theorem zUP:GOk Pz zUi:=zB zLG (zB zFF (zB zHN (zB zLK zC)))
theorem zGy(N:Nat)(g:Nat->Nat):∀(k:Nat) (l:FS),(∀i,k<=i->i<k+l.length->g i<N)->((zP g k l).all fun e=>below N e.1&&below N e.2)=true
 | _,[],_=>rfl
 | k,e::l,h=>by
   have h0:=h k (qnZ _) (by simp)
   have ih:=zGy N g (k+1) l fun i h1 h2=>h i (by omega) (by simp;omega)
   simp[zP,below,h0,ih]
theorem zHG(g:Nat->Nat):∀(k:Nat) (l:FS),zAo ((zP g k l).map (·.1))=some (FS.keys l)
 | _,[]=>rfl
 | k,e::l=>by
   have ih:=zHG g (k+1) l;simp only[zP,s1Z,zAo,FS.keys]at ih ⊢
   rw[ih];rfl
theorem zGq(g:Nat->Nat):∀(k:Nat) (l:FS) (j:Nat),(zP g k l)[j]? = (l[j]?).map fun e=>(.int .i64 e.1,.ptr (g (k+j)) 0)
 | _,[],j=>by simp[zP]
 | k,e::l,0=>rfl
 | k,e::l,j+1=>by
   simp only[zP,r9Z]
   rw[zGq g (k+1) l j,show k+1+j=k+(j+1) by omega]
def cpB(fs:FS)(σ:List Int)(i:Nat):zA:=(σ.take i).map fun n=>.obj true ((FS.get fs n).getD ⟨[],[]⟩).blks
def cpG(fs:FS)(σ:List Int)(n i k:Nat):Nat:=if σ.idxOf ((FS.keys fs).getD k 0)<i then n+8+σ.idxOf ((FS.keys fs).getD k 0) else k+3
theorem zU2{fs:FS}(hnd:(FS.keys fs).Nodup){σ:List Int}(hσ:σ.Nodup)(n:Nat){i:Nat}{v:Int}{f:PF}(hi:σ[i]? = some v)(hf:FS.get fs v=some f) :
   cpG fs σ n i (FS.at fs v)=FS.at fs v+3/\(zP (cpG fs σ n i) 0 fs).set (FS.at fs v) (.int .i64 v,.ptr (n+8+i) 0)=zP (cpG fs σ n (i+1)) 0 fs/\cpB fs σ (i+1)=cpB fs σ i++[.obj true f.blks]:=by
 have hil:i<σ.length:=(q1Z.1 hi).1
 have hidx:σ.idxOf v=i:=by
   have:=(q1Z.1 hi).2;rw[<-this];exact List.Nodup.idxOf_getElem hσ i hil
 have hat:=FS.at_get hf;have hq:=FS.at_lt hf
 have hk:(FS.keys fs).getD (FS.at fs v) 0=v:=by simp[FS.keys,q2Z,hat]
 refine ⟨?_,?_,?_⟩
 · unfold cpG;rw[hk,hidx,if_neg (by omega)]
 · refine List.ext_getElem? fun j=>?_
   rw[List.getElem?_set,zGq,zGq,s8Z];by_cases hj:FS.at fs v=j
   · subst hj
     rw[if_pos rfl,if_pos (by simpa using hq),hat]
     simp only[rhZ];unfold cpG
     rw[hk,hidx,if_pos (by omega)]
   · rw[if_neg hj]
     cases hfj:fs[j]? with
     | none=>rfl
     | some e =>
       simp only[rhZ]
       have hkj:(FS.keys fs).getD j 0=e.1:=by simp[FS.keys,q2Z,hfj]
       have hne:e.1≠v:=by
         intro he
         have h1:(FS.keys fs)[j]? = some v:=by simp[FS.keys,hfj,he]
         have h2:(FS.keys fs)[FS.at fs v]? = some v:=by simp[FS.keys,hat]
         have hjl:=(q1Z.1 h1).1;have hql:=(q1Z.1 h2).1;have e1:=(q1Z.1 h1).2;have e2:=(q1Z.1 h2).2;exact hj ((List.getElem_inj hnd).1 (e2.trans e1.symm))
       have hni:σ.idxOf e.1≠i:=by
         intro he
         have hl:σ.idxOf e.1<σ.length:=by rw[he];exact hil
         have:=List.getElem_idxOf hl;have e2:=(q1Z.1 hi).2;simp only[he]at this;exact hne (this.symm.trans e2)
       have:cpG fs σ n i j=cpG fs σ n (i+1) j:=by
         unfold cpG;rw[hkj];by_cases h:σ.idxOf e.1<i
         · rw[if_pos h,if_pos (by omega)]
         · rw[if_neg h,if_neg (by omega)]
       rw[this]
 · unfold cpB
   rw[List.take_add_one,hi,roZ,Option.toList_some];simp[hf]
theorem zS2(d:DS){A B:Nat}(hok:d.ok A B)(hA:A<=1000000)(hB:B<=1000000000):Ct Pz 8 [.ptr 0 0] [.obj true d.blks] (.ptr 1 0) [.obj true d.blks,.obj true d.blks]:=by
 have hΓ:=zUP
 have hal:d.fd.acts.length<=1000000:=by have:=hok.fd.len;omega
 obtain⟨n,hn⟩:∃n,d.fs.length=n:=⟨_,rfl⟩
 have hn6:n<=1000000:=by have:=hok.len;omega
 have hX:=behind d.fs;rw[hn]at hX;have hXl:=hX.len;have hXg:=hX.get;have hXg0:=hX.get0;have hXs:=hX.set;have hXs0:=hX.set0
 have hopen:zX [.obj true d.blks] 0 d.blks=d.heap []:=by
   have hg:∀i,Zf 0 1 i=i:=fun i=>by unfold Zf;split <;> omega
   unfold zX;rw[DS.heap_eq,r2Z];simp only[DS.blks,q7Z,q8Z,List.getD_cons_zero,s9Z,List.drop_succ_cons,List.drop_zero,q9Z,qaZ,s8Z,s1Z]
   rw[zBr hg,zBr hg,zBr hg,List.map_congr_left (fun B _=>zBr hg B)]
   simp
 refine zG Tryz.func8 rfl ?_;simp only[Tryz.ntmps8,q7Z,q8Z,Nat.reduceAdd,Nat.reduceSub,qbZ,q9Z,qaZ]
 refine Sim.aft (Aft.open (b:=0) rfl (by simp) (Aft.done (by rw[hopen];simp[DS.heap]) ?_))
 rw[hopen]
 have hMb:∀N,n+3<=N->((zP (fun i=>i+3) 0 d.fs).all fun e=>below N e.1&&below N e.2)=true:=fun N h=>zGy N _ 0 d.fs fun i _ hi=>by omega
 have hXb:∀N,(zK d.fs).all (zA5 N)=true:=fun N=>by
   rw[s5Z];intro B hB;obtain⟨e,_,rfl⟩:=reZ.1 hB;rfl
 have hXd:∀T:zA,(zK d.fs++T).drop n=T:=fun T=>List.drop_left' hXl
 have hXd2:∀(T:zA) j,(zK d.fs++T).drop (n+j)=T.drop j:=fun T j=>by rw[<-hXl,List.drop_length_add_append]
 have hq1:(n+1 != n)=true:=by simp
 have hq2:(n+2 != n)=true:=by simp
 unfold DS.heap DS.cell0;obtain⟨X,eX⟩:∃X,zK d.fs=X:=⟨_,rfl⟩;rw[eX]at hXl hXg hXg0 hXs hXs0 hXb hXd hXd2 ⊢
 refine Sim.step hmix hΓ (n:=0) (by simp;exact⟨rfl,rfl⟩) (by simp) ?_
 refine Sim.step hmix hΓ (n:=0) (by simp;exact⟨rfl,rfl⟩) (by simp) ?_
 refine Sim.step hmix hΓ (n:=0) (by simp[hXl,hXs0];exact⟨rfl,rfl⟩) (by simp) ?_
 refine Sim.seq (Sim.draw hmix (by simp) ?_)
 refine SimR.many hΓ 14 (by simp[zI];rfl) (by omega) (by kernel_rfl) (by simp +decide [zUi,zHl,zAC,scA,zA5,zDc,ABlk.own,ze,below,hMb,hXb,hXd2,hq1,hal,hXl,hXs0];exact⟨zJP (by kernel_rfl) (by simp[zGb] <;> omega) (by simp <;> omega),rfl,rfl⟩) ?_
 refine SimR.done rfl ?_;dsimp only
 obtain⟨H1,hH1⟩:∃H1:zA,.cells true [.ptr 1 0,.map 2,.int .i64 d.quota,.int .i64 d.steps,.int .i64 d.armed,.bool d.down]::.obj true d.fd.blks::.map (zP (fun i=>i+3) 0 d.fs)::(X++[.cells true [.ptr (n+1+1+1+1) 0,.map (n+2+1+1+1),.int .i64 d.quota,.int .i64 d.steps,.int .i64 d.armed,.bool d.down],.obj true d.fd.blks,.map (zP (fun i=>i+3) 0 d.fs),.pin [.map (n+2+1+1+1)]])=H1:=⟨_,rfl⟩
 have hkl:(FS.keys d.fs).length<=1000000:=by have:=hok.len;simp[FS.keys];omega
 have hlast:=hok.fd.hi
 have hwf:(FS.keys d.fs).all (fun k=>(Lit.int .i64 k).wf)=true:=by
   rw[s5Z];intro k hk;have:=hok.rng k hk;have e1:IntKind.i64.min = -9223372036854775808:=rfl;simp[Lit.wf,e1];omega
 have hcol:zKN 24 [.func 86 [] [.ptr (n+3+1+1+1) 0]] H1=some ((zDN (FS.keys d.fs)).map (zIw H1)):=by
   have e1:H1[n+3+1+1+1]? = some (.pin [.map (n+2+1+1+1)]):=by
     rw[<-hH1];simp only[r9Z];exact hXg _ 3
   have e2:H1[n+2+1+1+1]? = some (.map (zP (fun i=>i+3) 0 d.fs)):=by
     rw[<-hH1];simp only[r9Z];exact hXg _ 2
   unfold zKN;simp only[if_true,e1,e2,zHG];rw[if_pos ⟨hkl,hwf⟩]
 refine Sim.seq (Sim.mono (Q:=fun e F' H'=>e=.normal/\∃σ:List Int,σ.Perm (FS.keys d.fs)/\LessF ([.ptr 0 0,.top,.top,.ptr (n+3) 0]++qbZ 37 .top) F'/\∃T,H'=.cells true [.ptr 1 0,.map 2,.int .i64 d.quota,.int .i64 d.steps,.int .i64 d.armed,.bool d.down]::.obj true d.fd.blks::.map (zP (fun i=>i+3) 0 d.fs)::(X++([.cells true [.ptr (n+4) 0,.map (n+5),.int .i64 d.quota,.int .i64 d.steps,.int .i64 d.armed,.bool d.down],.obj true d.fd.blks,.map (zP (cpG d.fs σ n σ.length) 0 d.fs)]++T))/\(0<σ.length->∃A B,T=A::B::cpB d.fs σ σ.length)) (Sim.seq (Sim.nd hΓ zNj 3 (by simp) rfl rfl (by simp +decide [zUi,zJN,hXl];exact⟨rfl,rfl⟩) (by simp) rfl (by simp;exact⟨rfl,rfl,rfl⟩) (by simp[hH1,hcol];rfl) fun x hx=>?_)) ?_)
 · obtain⟨σ,hσ,rfl⟩:=reZ.1 hx
   have hp:=zHR _ _ hσ
   have hsl:σ.length=n:=by rw[hp.length_eq,<-hn];simp[FS.keys]
   unfold zIw;by_cases h0:σ.length=0
   · rw[if_pos h0]
     refine ⟨_,_,by simp;exact⟨rfl,rfl⟩,?_⟩
     dsimp only
     refine Sim.exec hmix hΓ (n:=2) (by simp;exact⟨rfl,rfl,rfl⟩) (by rw[<-hH1];simp) ?_
     have hfs:d.fs=[]:=List.eq_nil_of_length_eq_zero (by omega)
     have hn0:n=0:=by omega
     subst hn0
     refine ⟨rfl,σ,hp,by simp,[.pin [.map 5]],?_,fun h=>by omega⟩
     rw[<-hH1,hfs];rfl
   · rw[if_neg h0]
     refine ⟨_,_,by simp;exact⟨rfl,rfl⟩,?_⟩
     have hσn:σ.Nodup:=hp.nodup_iff.2 hok.nd
     have hH1l:H1.length=n+7:=by rw[<-hH1];simp[hXl]
     obtain⟨HH,hHH⟩:∃HH:Nat->zA,HH=fun i=>.cells true [.ptr 1 0,.map 2,.int .i64 d.quota,.int .i64 d.steps,.int .i64 d.armed,.bool d.down]::.obj true d.fd.blks::.map (zP (fun i=>i+3) 0 d.fs)::(X++(.cells true [.ptr (n+4) 0,.map (n+5),.int .i64 d.quota,.int .i64 d.steps,.int .i64 d.armed,.bool d.down]::.obj true d.fd.blks::.map (zP (cpG d.fs σ n i) 0 d.fs)::.pin [.map (n+5)]::.cells true (σ.map (.int .i64))::cpB d.fs σ i)):=⟨_,rfl⟩
     have hHH0:H1++[.cells true (σ.map (.int .i64))]=HH 0:=by
       rw[hHH,<-hH1]
       have:zP (cpG d.fs σ n 0) 0 d.fs=zP (fun i=>i+3) 0 d.fs:=zAU 0 d.fs fun i _ _=>by unfold cpG;rw[if_neg (by omega)]
       simp[this,cpB]
     rw[hHH0,hH1l]
     refine Sim.block (Sim.loopS (fun i:Nat=>i<=n) (fun i=>[.ptr 0 0,.top,.top,.ptr (n+3) 0]++qbZ 22 .top++[.slice (n+7) 0 n 1 false,.int .i64 n,.int .i64 i]++qbZ 12 .top) HH (fun i=>n-i) 0 (by rw[hHH];simp) (by simp) ⟨by simp[hsl],rfl⟩ fun i hi=>?_)
     by_cases hlt:i<n
     · have hltI:(i:Int)<n:=by omega
       have hil:i<σ.length:=by omega
       obtain⟨v,hv⟩:∃v,σ[i]=v:=⟨_,rfl⟩
       have hv':σ[i]? = some v:=by rw[q3Z hil,hv]
       have hg:∀h,(σ.map (AV.int .i64))[i]'h=.int .i64 v:=fun h=>by simp[hv]
       have hvk:v∈FS.keys d.fs:=hp.subset (qcZ hv');obtain⟨f,hf⟩:=FS.get_some.2 hvk
       have hfa:f.acts.length<=1000000000:=by have:=(hok.fine _ (FS.get_mem hf)).acts;dsimp only at this;omega
       obtain⟨c1,c2,c3⟩:=zU2 hok.nd hσn n hv' hf;have hlook:=zAB (cpG d.fs σ n i) v 0 d.fs 0;rw[hf]at hlook;simp only[rhZ,s8Z]at hlook;rw[c1]at hlook;have hfb:=Zh (FS.at_get hf);have hql:=FS.at_lt hf;rw[eX]at hfb;dsimp only at hfb;rw[hn]at hql;generalize FS.at d.fs v=q at c2 hlook hfb hql
       have hXq:∀T,(X++T)[q]? = some (.obj true f.blks):=fun T=>by rw[q4Z (by omega)];exact hfb
       have hcl:(cpB d.fs σ i).length=i:=by unfold cpB;rw[r7Z,qjZ];omega
       have y1:IntKind.i64.wrap ((i:Int)+1)=i+1:=zV (by omega) (by omega)
       have h1:=congrFun hHH i;have h2:=congrFun hHH (i+1)
       try dsimp only at h1 h2
       rw[c3,<-c2]at h2;generalize cpB d.fs σ i=C at h1 h2 hcl;generalize zP (cpG d.fs σ n i) 0 d.fs=M at h1 h2 hlook;rw[h1]
       have hmap:∀p,p=n+8+i->zAX Pz (.cells true [.ptr 1 0,.map 2,.int .i64 d.quota,.int .i64 d.steps,.int .i64 d.armed,.bool d.down]::.obj true d.fd.blks::.map (zP (fun i=>i+3) 0 d.fs)::(X++(.cells true [.ptr (n+4) 0,.map (n+5),.int .i64 d.quota,.int .i64 d.steps,.int .i64 d.armed,.bool d.down]::.obj true d.fd.blks::.map M::.pin [.map (n+5)]::.cells true (σ.map (.int .i64))::(C++[.obj true f.blks])))) 46 (.map (n+5)) (.int .i64 v) (.ptr p 0)=some (HH (i+1)):=by
         rintro p rfl;rw[h2];simp[hlook,hXg,hXs]
       refine Sim.step hmix hΓ (n:=0) (by simp[hltI];exact⟨rfl,rfl⟩) (by simp) ?_
       refine Sim.step hmix hΓ (n:=0) (by simp;exact⟨rfl,rfl⟩) (by simp) ?_
       refine Sim.seq (Sim.block ?_)
       refine Sim.step hmix hΓ (n:=0) (by simp[hlt,hXl,hsl,hg];exact⟨rfl,rfl⟩) (by simp) ?_
       refine Sim.draw hmix (by simp) ?_
       refine SimR.many hΓ 8 (by simp[zI];rfl) (by omega) (by kernel_rfl) (by simp +decide [zUi,zHs,hlook,hXq,hXl,hcl,hfa];first | exact⟨rfl,rfl⟩ | exact⟨by kernel_rfl,rfl,rfl⟩) ?_
       have e8:X.length+(C.length+1+1+1+1+1)+1+1+1=n+8+i:=by omega
       have e8':n+3+(i+1+1+1+1+1)=n+8+i:=by omega
       refine SimR.one hΓ _ rfl (by kernel_rfl) (by simp +decide [-zAX];rw[hmap];rfl;omega) ?_
       refine SimR.done rfl ?_;dsimp only
       refine Sim.exec hmix hΓ (n:=0) (by simp[y1];exact⟨rfl,rfl,rfl⟩) (by rw[h2];simp) ?_
       dsimp only
       exact⟨i+1,by omega,⟨by simp,rfl⟩,by omega⟩
     · have hin:i=n:=by omega
       subst hin;have h1:=congrFun hHH i
       refine Sim.exec hmix hΓ (n:=0) (by simp;exact⟨rfl,rfl,rfl⟩) (by rw[h1];simp) ?_
       dsimp only;rw[if_pos rfl]
       refine ⟨by trivial,σ,hp,by simp,.pin [.map (i+5)]::.cells true (σ.map (.int .i64))::cpB d.fs σ i,?_,fun _=>⟨_,_,by rw[hsl]⟩⟩
       rw[h1,hsl];rfl
 rintro e F' H' hlen ⟨rfl,σ,hp,hF,T,rfl,hT⟩;dsimp only;refine Sim.less hF ?_;clear hF hlen;simp only[q9Z,qaZ,qbZ]
 refine Sim.after (Sim.exec hmix hΓ (n:=0) (by simp;exact⟨rfl,rfl,rfl⟩) (by simp) ?_)
 have hsl:σ.length=n:=by rw[hp.length_eq,<-hn];simp[FS.keys]
 have hσn:σ.Nodup:=hp.nodup_iff.2 hok.nd
 obtain⟨H,hH⟩:∃H:zA,.cells true [.ptr 1 0,.map 2,.int .i64 d.quota,.int .i64 d.steps,.int .i64 d.armed,.bool d.down]::.obj true d.fd.blks::.map (zP (fun i=>i+3) 0 d.fs)::(X++([.cells true [.ptr (n+4) 0,.map (n+5),.int .i64 d.quota,.int .i64 d.steps,.int .i64 d.armed,.bool d.down],.obj true d.fd.blks,.map (zP (cpG d.fs σ n σ.length) 0 d.fs)]++T))=H:=⟨_,rfl⟩
 have gk:∀k,k<n->cpG d.fs σ n σ.length k=n+8+σ.idxOf ((FS.keys d.fs).getD k 0)/\σ.idxOf ((FS.keys d.fs).getD k 0)<n:=fun k hk=>by
   have hkl:k<(FS.keys d.fs).length:=by simp[FS.keys,hn,hk]
   have hm:(FS.keys d.fs).getD k 0∈σ:=hp.symm.subset (by rw[q2Z,q3Z hkl];exact r3Z hkl)
   have hi:=List.idxOf_lt_length_of_mem hm;unfold cpG;rw[if_pos hi]
   exact⟨rfl,by omega⟩
 have gat:∀j,H[n+3+j]? = ([.cells true [.ptr (n+4) 0,.map (n+5),.int .i64 d.quota,.int .i64 d.steps,.int .i64 d.armed,.bool d.down],.obj true d.fd.blks,.map (zP (cpG d.fs σ n σ.length) 0 d.fs)]++T)[j]?:=fun j=>by
   rw[<-hH,show n+3+j=n+j+1+1+1 by omega]
   simp only[r9Z];exact hXg _ j
 have hHl:n+6<=H.length:=by rw[<-hH];simp[hXl] <;> omega
 have hcopy:DAt H d (n+3) (n+4) (n+5) (cpG d.fs σ n σ.length):=by
   refine ⟨gat 0,gat 1,gat 2,fun i e he=>?_,?_⟩
   · have hi:i<n:=by rw[<-hn];exact (q1Z.1 he).1
     obtain⟨h1,h2⟩:=gk i hi
     obtain⟨Ab,Bb,hTe⟩:=hT (by omega)
     have hki:(FS.keys d.fs).getD i 0=e.1:=by simp[FS.keys,q2Z,he]
     rw[hki]at h1 h2
     have hfe:FS.get d.fs e.1=some e.2:=by
       obtain⟨f,hf⟩:=FS.get_some.2 (by simp only[FS.keys];exact List.mem_map_of_mem (qcZ he):e.1∈FS.keys d.fs)
       have h3:=FS.at_get hf
       have hjl:FS.at d.fs e.1=i:=by
         have hnd:=hok.nd
         have q1:(FS.keys d.fs)[FS.at d.fs e.1]? = some e.1:=by simp[FS.keys,h3]
         have q2:(FS.keys d.fs)[i]? = some e.1:=by simp[FS.keys,he]
         exact (List.getElem_inj hnd).1 ((q1Z.1 q1).2.trans (q1Z.1 q2).2.symm)
       rw[hjl,he]at h3;have h4:=congrArg Prod.snd (Option.some.inj h3);rw[hf,h4]
     rw[h1,show n+8+σ.idxOf e.1=n+3+(σ.idxOf e.1+5) by omega,gat,hTe]
     simp only[q9Z,qaZ,r9Z];unfold cpB
     rw[qzZ,q6Z (qnZ _),q3Z (by omega)]
     have:=List.getElem_idxOf (show σ.idxOf e.1<σ.length by omega)
     rw[rhZ,this,hfe];rfl
   · rw[hn]
     refine rdZ.2 ⟨fun h=>?_,rdZ.2 ⟨fun h=>?_,rdZ.2 ⟨fun h=>?_,?_⟩⟩⟩
     · rcases qwZ.1 h with h | h
       · omega
       rcases qwZ.1 h with h | h
       · omega
       · obtain⟨c,hc,h⟩:=reZ.1 h
         have:=gk c (List.mem_range.1 hc);omega
     · rcases qwZ.1 h with h | h
       · omega
       · obtain⟨c,hc,h⟩:=reZ.1 h
         have:=gk c (List.mem_range.1 hc);omega
     · obtain⟨c,hc,h⟩:=reZ.1 h
       have:=gk c (List.mem_range.1 hc);omega
     · rw[List.nodup_iff_pairwise_ne,List.pairwise_map,List.pairwise_iff_getElem]
       intro i j hi hj hij;simp only[List.length_range]at hi hj;simp only[List.getElem_range];obtain⟨a1,a2⟩:=gk i hi;obtain⟨b1,b2⟩:=gk j hj;rw[a1,b1];intro e
       have hil:i<(FS.keys d.fs).length:=by simp[FS.keys,hn,hi]
       have hjl:j<(FS.keys d.fs).length:=by simp[FS.keys,hn,hj]
       have e1:(FS.keys d.fs).getD i 0=(FS.keys d.fs)[i]:=by rw[q2Z,q3Z hil];rfl
       have e2:(FS.keys d.fs).getD j 0=(FS.keys d.fs)[j]:=by rw[q2Z,q3Z hjl];rfl
       rw[e1,e2]at e;rw[e1]at a2;rw[e2]at b2
       have g1:=List.getElem_idxOf (show σ.idxOf (FS.keys d.fs)[i]<σ.length by omega)
       have g2:=List.getElem_idxOf (show σ.idxOf (FS.keys d.fs)[j]<σ.length by omega)
       have g3:σ.idxOf (FS.keys d.fs)[i]=σ.idxOf (FS.keys d.fs)[j]:=by omega
       have:(FS.keys d.fs)[i]=(FS.keys d.fs)[j]:=by rw[<-g1,<-g2];simp only[g3]
       exact absurd ((List.getElem_inj hok.nd).1 this) (by omega)
 have h0at:DAt H d 0 1 2 (·+3):=by
   have:=zQo d ([.cells true [.ptr (n+4) 0,.map (n+5),.int .i64 d.quota,.int .i64 d.steps,.int .i64 d.armed,.bool d.down],.obj true d.fd.blks,.map (zP (cpG d.fs σ n σ.length) 0 d.fs)]++T) (·+3) fun _ _=>rfl
   rw[<-hH,<-eX];exact this
 simp only[q9Z,qaZ]at hH;rw[hH]
 refine Aft.closeAt hcopy (by omega) ?_
 have hcl:∀c,c<n+3->(zi H (n+3) ((n+4)::(n+5)::(List.range d.fs.length).map (cpG d.fs σ n σ.length)) true d.blks)[c]? = H[c]?:=fun c hc=>by
   refine zAA (by omega) fun h=>?_
   rcases qwZ.1 h with h | h
   · omega
   rcases qwZ.1 h with h | h
   · omega
   · obtain⟨k,hk,h⟩:=reZ.1 h
     have:=gk k (by rw[<-hn];exact List.mem_range.1 hk);omega
 have h0at2:DAt (zi H (n+3) ((n+4)::(n+5)::(List.range d.fs.length).map (cpG d.fs σ n σ.length)) true d.blks) d 0 1 2 (·+3) :=
   ⟨by rw[hcl _ (by omega)];exact h0at.c0,by rw[hcl _ (by omega)];exact h0at.fold,by rw[hcl _ (by omega)];exact h0at.map,fun i e he=>by
     have hi:i<n:=by rw[<-hn];exact (q1Z.1 he).1
     rw[hcl _ (by omega)];exact h0at.file i e he,h0at.nd⟩
 refine Aft.closeAt h0at2 (by simp;omega) (Aft.done (by simp;omega) ?_)
 refine ⟨.inr rfl,_,by simp[Tryz.f8] <;> rfl,Weak.mk' [0,n+3] (by simp) (by rfl) (by simp[AWs,AW]) (zJ (b:=0) (by simp;omega) _ _ rfl fun i c x h1 h2=>?_)⟩
 match i,h1,h2 with
 | 0,h1,h2=>cases h1;cases h2;exact .inl ⟨rfl,rfl⟩
 | 1,h1,h2 =>
   cases h1;cases h2
   refine .inr ⟨⟨by omega,fun h=>?_⟩,?_⟩
   · rcases qwZ.1 h with h | h
     · omega
     rcases qwZ.1 h with h | h
     · omega
     · obtain⟨k,hk,h⟩:=reZ.1 h
       have:=List.mem_range.1 hk;omega
   · rw[zCg (by omega)]
     exact⟨rfl,rfl⟩
noncomputable def zHh:zU:=open Classical in fun args H=>match args with
 | [.ptr b 0]=>match H[b]? with
   | some (.obj true sub)=>match dsD sub with
     | some d=>if d.ok 900000 1000000000 then some (.ptr H.length 0,H++[.obj true d.blks],[]) else none
     | none=>none
   | _=>none
 | _=>none
theorem zKn:Sound Pz 8 zHh:=by
 refine ⟨zE Tryz.func8 rfl (by decide),fun args H v H' W hs=>?_,fun args H v H' W hs=>?_⟩ <;> (unfold zHh at hs;split at hs <;> try cases hs) <;> (split at hs <;> try cases hs) <;> (rename_i b _ sub hb;split at hs <;> try cases hs) <;> (rename_i d hd;split at hs <;> cases hs;rename_i hk)
 · have e:=Zu hd
   subst e;have hbl:b<H.length:=(q1Z.1 hb).1
   have:=zc (H:=H) (args:=[.ptr b 0]) (zS2 d hk (by decide) (by decide)) [b] (by simp) ⟨⟨rfl,rfl⟩,trivial⟩ ⟨by rw[q2Z,hb];exact⟨rfl,rfl⟩,hbl,trivial⟩ rfl
   obtain⟨h1,h2⟩:=q1Z.1 hb
   have hset:H.set b (.obj true d.blks)=H:=by rw[<-h2,List.set_getElem_self]
   simpa[zb,ABlk.own,reB,reA,ZQ,hset] using this
 · exact⟨by simp,fun c hc _=>by rw[q4Z hc]⟩
noncomputable def zDs:zU:=open Classical in fun args H=>match args with
 | [.ptr b 0]=>match H[b]? with
   | some (.obj true sub)=>match dsD sub with
     | some d=>if d.small then some (.int .i64 d.used,H,[]) else none
     | none=>none
   | _=>none
 | _=>none
theorem zLr:Sound Pz 32 zDs:=by
 refine ⟨zE Tryz.func32 rfl (by decide),fun args H v H' W hs=>?_,fun args H v H' W hs=>?_⟩ <;> (unfold zDs at hs;split at hs <;> try cases hs) <;> (split at hs <;> try cases hs) <;> (rename_i b _ sub hb;split at hs <;> try cases hs) <;> (rename_i d hd;split at hs <;> cases hs;rename_i hk)
 · have e:=Zu hd
   subst e
   have:=zY (zAZ (zQZ d hk (by decide) (by decide)) rfl) rfl rfl hb
   obtain⟨h1,h2⟩:=q1Z.1 hb;rw[<-h2,List.set_getElem_self]at this;exact this
 · exact⟨qnZ _,fun _ _ _=>rfl⟩
def smD(n:Int):Int:=if n.tmod 7=6 then n else (n.tmod 32+32).tmod 32-1
theorem zWD(w a b:Int)(s:List UInt8)(n:Int)(L:Nat)(hn : -32768<=n/\n<=32767):Ct Pz 42 [.agg [.int .u8 w,.int .u8 a,.int .u8 b,.str s,.int .i16 n,.sl 0 0 L 1 false]] [.dead] (.int .i64 (smD n)) [.dead]:=by
 obtain⟨q,hq⟩:∃q,n.tmod 7=q:=⟨_,rfl⟩;obtain⟨p,hp⟩:∃p,n.tmod 32=p:=⟨_,rfl⟩
 have hpb : -32<p/\p<32:=by
   rw[<-hp]
   exact⟨Int.lt_tmod_of_pos _ (by decide),Int.tmod_lt_of_pos _ (by decide)⟩
 have hqb : -7<q/\q<7:=by
   rw[<-hq]
   exact⟨Int.lt_tmod_of_pos _ (by decide),Int.tmod_lt_of_pos _ (by decide)⟩
 obtain⟨r,hr⟩:∃r,(p+32).tmod 32=r:=⟨_,rfl⟩
 have hrb:0<=r/\r<32:=by
   rw[<-hr]
   exact⟨Int.tmod_nonneg _ (by omega),Int.tmod_lt_of_pos _ (by decide)⟩
 have w1:IntKind.i16.wrap q=q:=IntWalk.i16_in q (by omega)
 have w2:IntKind.i64.wrap n=n:=zV (by omega) (by omega)
 have w3:IntKind.i64.wrap p=p:=zV (by omega) (by omega)
 have w4:IntKind.i64.wrap (p+32)=p+32:=zV (by omega) (by omega)
 have w5:IntKind.i64.wrap r=r:=zV (by omega) (by omega)
 have w6:IntKind.i64.wrap (r-1)=r-1:=zV (by omega) (by omega)
 unfold smD;rw[hq,hp,hr];refine zG Tryz.func42 rfl ?_;simp only[Tryz.ntmps42,q7Z,q8Z,Nat.reduceAdd,Nat.reduceSub,qbZ,q9Z,qaZ]
 refine Sim.step hmix zC (n:=0) (by simp;exact⟨rfl,rfl⟩) (by simp) ?_
 by_cases h:q=6
 · rw[if_pos h]
   have h':(q==6)=true:=by simpa using h
   refine Sim.exec hmix zC (n:=0) (by simp +decide [hq,w2,h];exact⟨rfl,rfl,rfl⟩) (by simp) ?_
   exact⟨.inr rfl,_,by simp[Tryz.f42] <;> rfl,Weak.mk' [0] (by decide) (by decide) (by simp) (by simp[AWb])⟩
 · rw[if_neg h]
   have h':(q==6)=false:=by simpa using h
   refine Sim.exec hmix zC (n:=0) (by simp +decide [hq,hp,hr,w2,w4,w6,h'];exact⟨rfl,rfl,rfl⟩) (by simp) ?_
   exact⟨.inr rfl,_,by simp[Tryz.f42] <;> rfl,Weak.mk' [0] (by decide) (by decide) (by simp) (by simp[AWb])⟩
noncomputable def zDZ:zU:=open Classical in fun args H=>match args with
 | [.agg [.int .u8 _w,.int .u8 _a,.int .u8 _b,.str _s,.int .i16 n,.sl q 0 _L 1 false]]=>if q<H.length/\-32768<=n/\n<=32767 then some (.int .i64 (smD n),H,[]) else none
 | _=>none
theorem zLP:Sound Pz 42 zDZ:=by
 refine ⟨zE Tryz.func42 rfl (by decide),fun args H v H' W hs=>?_,fun args H v H' W hs=>?_⟩ <;> (unfold zDZ at hs;split at hs <;> try cases hs) <;> (split at hs <;> cases hs) <;> (rename_i w a b s n q L hk)
 · have:=zWD w a b s n L hk.2
   have:=zc (H:=H) (args:=[.agg [.int .u8 w,.int .u8 a,.int .u8 b,.str s,.int .i16 n,.sl q 0 L 1 false]]) this [q] (by simp) (by simp[AW]) ⟨trivial,hk.1,trivial⟩ rfl
   simpa[zb,ABlk.own,reA] using this
 · exact⟨qnZ _,fun _ _ _=>rfl⟩
noncomputable def zTb:Gam:=zo [(37,zAc),(118,zS5)]
theorem zUw:GOk Pz (zA2 Pz zTb 0 zAq 2):=ZT hmix (zB zAQ (zB zPA zC)) 0 zAq 2
noncomputable def zTv:Gam:=zo [(37,zAc)]
theorem zUt:GOk Pz (zA2 Pz zTv 0 zHH 3):=ZT hmix (zB zAQ zC) 0 zHH 3
theorem zT3(d:DS){A B:Nat}(hok:d.ok A B)(k:List UInt8):Ct Pz 54 [.ptr 0 0,.str k] (d.heap []) (.tuple [.int .i64 (d.size k).1,.int .i64 (d.size k).2]) (d.heap []):=by
 cases hd:d.down with
 | true =>
   have:d.size k=(0,13):=by unfold DS.size;rw[hd];rfl
   rw[this];exact zLC d hd k
 | false =>
   unfold DS.size;rw[hd];refine zR Tryz.func54 rfl ?_;simp only[Tryz.ntmps54,q7Z,q8Z,Nat.reduceAdd,Nat.reduceSub,qbZ,q9Z,qaZ]
   cases hg:d.fd.now.get k with
   | none =>
     have hΓ:=zUt
     have hfind:d.fd.find k=(0,false):=by unfold FD.find;rw[hg]
     unfold DS.heap DS.cell0;rw[hd]
     refine Sim.step hmix hΓ (n:=0) (by simp;exact⟨rfl,rfl⟩) (by simp) ?_
     refine Sim.step hmix hΓ (n:=0) (by simp +decide [zHH,zTv,zAc,hfind,Tryz.f115];exact⟨rfl,rfl⟩) (by simp) ?_
     refine Sim.exec hmix hΓ (n:=0) (by simp +decide [zHH,zTv,Tryz.f118,Tryz.f124];exact⟨rfl,rfl,rfl⟩) (by simp) ?_
     exact⟨.inr rfl,by simp[Tryz.f54],by simp⟩
   | some v =>
     have hΓ:=zUw;obtain⟨f,hf,hfo⟩:=DS.has_file hok hg;have hfind:=FD.find_get hg
     have hlook:=zAB (fun i=>i+3) v 0 d.fs 0
     rw[hf]at hlook;simp only[rhZ,s8Z]at hlook;have hq:=zCz hf [];rw[r2Z]at hq;dsimp only;rw[hf];dsimp only;obtain⟨n,hn⟩:∃n,f.now.length=n:=⟨_,rfl⟩;rw[hn]
     have hqs:(zK d.fs).set (FS.at d.fs v) (.obj true f.blks)=zK d.fs:=by
       obtain⟨h1,h2⟩:=q1Z.1 hq;rw[<-h2,List.set_getElem_self]
     unfold DS.heap DS.cell0;rw[hd];generalize FS.at d.fs v=q at hlook hq hqs;obtain⟨X,eX⟩:∃X,zK d.fs=X:=⟨_,rfl⟩;rw[eX]at hq hqs ⊢
     refine Sim.step hmix hΓ (n:=0) (by simp;exact⟨rfl,rfl⟩) (by simp) ?_
     refine Sim.step hmix hΓ (n:=0) (by simp +decide [zAq,zTb,zAc,hfind,hlook,Tryz.f115];exact⟨rfl,rfl⟩) (by simp) ?_
     refine Sim.exec hmix hΓ (n:=0) (by simp +decide [zAq,zTb,zS5,hq,hqs,hn];exact⟨rfl,rfl,rfl⟩) (by simp) ?_
     exact⟨.inr rfl,by simp[Tryz.f54],by simp⟩
open Classical in
noncomputable def zPR:zU:=Zk dsD DS.blks fun d xs _=>match xs with
 | [.str k]=>if d.small then some (d,.tuple [.int .i64 (d.size k).1,.int .i64 (d.size k).2]) else none
 | _=>none
theorem zNy:Sound Pz 54 zPR:=by
 refine zM (zE Tryz.func54 rfl (by decide)) (fun _ _=>Zu) fun d xs H s' v b hg hb=>?_
 split at hg;rotate_left
 · cases hg
 split at hg <;> cases hg
 rename_i hs;exact zY (zAZ (zT3 d hs _) rfl) rfl rfl hb
end
end Go.Proofs.YtfhidaoiofeooaaGreat
