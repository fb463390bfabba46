/- Parts of the proof of WalKeeps: lemmas, each with its own conditions. -/
import Derived.Test.YtpmfecnajoojeaaGreatDoorY27
set_option maxHeartbeats 64000000
open List renaming getElem?_eq_some_iff → q1Z, getD_eq_getElem?_getD → q2Z, getElem?_eq_getElem → q3Z, getElem?_append_left → q4Z, take_of_length_le → q6Z, length_cons → q7Z, length_nil → q8Z, cons_append → q9Z, nil_append → qaZ, replicate → qbZ, mem_of_getElem? → qcZ, length_append → qdZ, length_take → qjZ, getElem?_map → qzZ, append_nil → r2Z, take_append_drop → r6Z, length_map → r7Z, flatten_append → sgZ
open Nat renaming zero_le → qqZ
namespace Go.Proofs.YtpmfecnajoojeaaGreatDoor
open _root_.Go.Proofs.Tryz renaming prog → Pz
set_option maxRecDepth 100000
section
open Go Go.Lib
attribute [-simp] drawOk_eq adraw qrun acode aops
def fallN:Summ:=newS fun
 | [.str s]=>if s.length≤1000000000 then some (.tuple [.sl 0 0 (Fr.all s 0).1.length 1 false,.int .i64 (Fr.all s 0).2.1,.int .i64 (Fr.all s 0).2.2],[.cells true ((Fr.all s 0).1.map AV.str)]) else none
 | _=>none
theorem fallN_sound:Sound Pz 77 fallN:=by
 refine sound_new (enter_of Tryz.func77 rfl (by decide)) fun args v H' h=>?_
 split at h <;> try cases h
 rename_i s
 split at h <;> cases h
 rename_i hs;refine ⟨?_,rfl,rfl⟩;refine ct_out (fall_ct s hs) ?_;obtain⟨⟨l,x,f⟩,hr⟩:∃r,Fr.all s 0=r:=⟨_,rfl⟩;rw[hr];dsimp only;unfold payV payB
 cases l with
 | nil=>exact Weak.mk' [100] (by decide) rfl (by simp[AWs,AW]) (by simp[AWg])
 | cons z l =>
   have hfr:∀rn:List Nat,AWs rn ((z::l).map AV.str) ((z::l).map AV.str):=fun rn=>AWs.refl _ _ (frees_map _ _ fun _=>rfl)
   exact Weak.mk' [0] (by decide) rfl (by simp[AWs,AW]) (by first | (simp[AWg,AWb];done) | simpa[AWg,AWb] using hfr _)
def logSz(d:DS)(n:Int):Int:=if (d.size (mk 3 n)).2=0 then (d.size (mk 3 n)).1 else -1
noncomputable def lzΓ:Gam:=gams [(76,mkS),(79,dsizeS)]
theorem lzΓ_ok:GOk Pz lzΓ:=goks_cons make_sound (goks_cons dsize_sound goks_nil)
theorem logSz_ct(d:DS)(hd:d.small)(n:Int):Ct Pz 26 [.ptr 0 0,.int .i64 n] [.obj true d.blks] (.int .i64 (logSz d n)) [.obj true d.blks]:=by
 have hΓ:=lzΓ_ok;unfold logSz;obtain⟨k,hk⟩:∃k,mk 3 n=k:=⟨_,rfl⟩;rw[hk];obtain⟨z,e,hz⟩:∃z e,d.size k=(z,e):=⟨_,_,rfl⟩;rw[hz];dsimp only;refine ct_of_sim Tryz.func26 rfl ?_;simp only[Tryz.ntmps26,q7Z,q8Z,Nat.reduceAdd,Nat.reduceSub,qbZ,q9Z,qaZ]
 refine Sim.step hmix hΓ (n:=0) (by simp;exact⟨rfl,rfl⟩) (by simp) ?_
 refine Sim.step hmix hΓ (n:=0) (by simp +decide [lzΓ,mkS,hk,dsizeS,hd,hz];exact⟨rfl,rfl⟩) (by simp) ?_
 by_cases he:e=0
 · subst he
   rw[if_pos rfl]
   refine Sim.exec hmix hΓ (n:=0) (by simp +decide;exact⟨rfl,rfl,rfl⟩) (by simp) ?_
   exact⟨.inr rfl,_,by simp[Tryz.f26] <;> rfl,Weak.mk' [0] (by decide) (by decide) (by simp) (by simp[AWb])⟩
 · rw[if_neg he]
   have heb:(e==0)=false:=by simpa using he
   have hen:(e != 0)=true:=by simpa using he
   refine Sim.exec hmix hΓ (n:=0) (by simp +decide [hen];exact⟨rfl,rfl,rfl⟩) (by simp) ?_
   exact⟨.inr rfl,_,by simp[Tryz.f26] <;> rfl,Weak.mk' [0] (by decide) (by decide) (by simp) (by simp[AWb])⟩
open Classical in
noncomputable def logSzS:Summ:=objS dsD DS.blks fun d xs _=>match xs with
 | [.int .i64 n]=>if d.small then some (d,.int .i64 (logSz d n)) else none
 | _=>none
theorem logSz_sound:Sound Pz 26 logSzS:=by
 refine sound_obj (enter_of Tryz.func26 rfl (by decide)) (fun _ _=>dsD_eq) fun d xs H s' v b hg hb=>?_
 split at hg;rotate_left
 · cases hg
 split at hg <;> cases hg
 rename_i hs;exact ct_obj1 (logSz_ct d hs _) rfl rfl hb
theorem logSz_at{n1:Nat}{ts:List (List UInt8)}{d:DS}(h:Logs n1 ts d){i:Nat}{t:List UInt8}(ht:ts[i]? = some t):logSz d ((n1:Int)+i)=t.length:=by
 unfold logSz;have:=h.size ht;unfold wn at this
 push_cast at this
 rw[this];rfl
theorem logSz_none{n1:Nat}{ts:List (List UInt8)}{d:DS}(h:Logs n1 ts d)(h1:1≤n1)(h2:n1+ts.length≤1000000001):logSz d ((n1:Int)+ts.length) = -1:=by
 unfold logSz;have:=h.none h1 h2;unfold wn at this
 push_cast at this
 rw[this];rfl
noncomputable def lgΓ:Gam:=gams [(26,logSzS),(76,mkS),(75,dreaS),(77,fallN),(78,egetS)]
theorem lgΓ_ok:GOk Pz lgΓ:=goks_cons logSz_sound (goks_cons make_sound (goks_cons drea_sound (goks_cons fallN_sound (goks_cons eget_sound goks_nil))))
theorem logs_ct{n1:Nat}{ts:List (List UInt8)}{ess:List (List En)}{d:DS}(hd:d.small)(hl:Logs n1 ts d)(hr:Reads ts ess)(hn1:1≤n1)(hL:n1+ts.length≤1000000000)(htl:∀t∈ts,t.length≤1000000)(hfl:ess.flatten.length≤100000) :
   Ct Pz 23 [.ptr 0 0,.int .i64 n1] [.obj true d.blks] (.tuple [.sl 1 0 ess.flatten.length 3 false,.bool true]) [.obj true d.blks,.cells true (ensA ess.flatten)]:=by
 have hΓ:=lgΓ_ok;obtain⟨L,hLe⟩:∃L,ts.length=L:=⟨_,rfl⟩;have hel:ess.length=L:=hr.1.trans hLe;refine ct_of_sim Tryz.func23 rfl ?_;simp only[Tryz.ntmps23,q7Z,q8Z,Nat.reduceAdd,Nat.reduceSub,qbZ,q9Z,qaZ]
 refine Sim.step hmix hΓ (n:=0) (by simp;exact⟨rfl,rfl⟩) (by simp) ?_
 refine Sim.step hmix hΓ (n:=0) (by simp;exact⟨rfl,rfl⟩) (by simp) ?_
 refine Sim.seq (Sim.step hmix hΓ (n:=0) (by simp;exact⟨rfl,rfl⟩) (by simp) ?_)
 refine Sim.block (Sim.loopW (fun i:Nat=>i≤L)
   (fun i=>[.ptr 0 0,.top,.top,.top,.top,.top,.sl 1 0 (ess.take i).flatten.length 3 false,.int .i64 ((n1:Int)+i)]++qbZ 58 .top)
   (fun i=>[.obj true d.blks,.cells true (ensA (ess.take i).flatten)]) (fun i=>L-i) 0 (by simp) (qqZ _) (Weak.mk' [0,100] (by decide) (by decide) (by simp) (by simp[AWb])) fun i hi=>?_)
 obtain⟨out,hout⟩:∃out,(ess.take i).flatten=out:=⟨_,rfl⟩;rw[hout]
 have y1:IntKind.i64.wrap ((n1:Int)+i+1)=(n1:Int)+i+1:=wr_i64 (by omega) (by omega)
 by_cases hlt:i<L
 · obtain⟨t,ht⟩:∃t,ts[i]? = some t:=⟨_,q3Z (by omega)⟩
   obtain⟨es,hes⟩:∃es,ess[i]? = some es:=⟨_,q3Z (by omega)⟩
   obtain⟨r1,r2,r3⟩:=hr.2 i t es ht hes
   have hnext:(ess.take (i+1)).flatten=out++es:=by
     rw[List.take_add_one,hes,←hout];simp
   have hob:out.length+es.length≤100000:=by
     have h1:(ess.take (i+1)).flatten.length≤ess.flatten.length:=by
       conv=>rhs;rw[←r6Z (i+1) ess,sgZ,qdZ]
       omega
     rw[hnext,qdZ]at h1;omega
   have s1:=logSz_at hl ht;have htb:=htl t (qcZ ht)
   have s2:d.readAt (wn (n1+i)) 0 1048576=(t,0):=hl.read ht (m:=1048576) (by omega)
   obtain⟨k,hk⟩:∃k,mk 3 ((n1:Int)+i)=k:=⟨_,rfl⟩
   have hwn:wn (n1+i)=k:=by rw[←hk];unfold wn;rw[Int.natCast_add]
   rw[hwn]at s2;obtain⟨⟨ps,x,f⟩,hall⟩:∃r,Fr.all t 0=r:=⟨_,rfl⟩;rw[hall]at r1 r2;dsimp only at r1 r2
   have htb2:t.length≤1000000000:=by omega
   have htn:0≤(t.length:Int):=by omega
   obtain⟨P,hP⟩:∃P,ps.length=P:=⟨_,rfl⟩
   have hPe:es.length=P:=by rw[←hP,r1];simp[payE]
   refine Sim.step hmix hΓ (n:=0) (by simp +decide [lgΓ,logSzS,hd,s1,htn];exact⟨rfl,rfl⟩) (by simp) ?_
   refine Sim.seq (Sim.block ?_)
   refine Sim.step hmix hΓ (n:=0) (by simp +decide [lgΓ,mkS,hk,dreaS,hd,s2];exact⟨rfl,rfl⟩) (by simp) ?_
   refine Sim.step hmix hΓ (n:=0) (by simp +decide [lgΓ,fallN,newS,htb2,hall,hP];exact⟨rfl,rfl⟩) (by simp) ?_
   have hc7:¬f=0→i+1=L:=fun h=>by
     by_cases h9:i+1<ts.length
     · exact absurd (r2 h9) h
     · omega
   refine Sim.seq (Sim.mono (Q:=fun e' F' H'=>e'=.normal∧Weak 1 F' H' ([.ptr 0 0,.top,.top,.top,.top,.top,.sl 1 0 out.length 3 false,.int .i64 ((n1:Int)+i),.top,.top,.sl 2 0 P 1 false]++qbZ 55 .top) [.obj true d.blks,.cells true (ensA out),.cells true (ps.map AV.str)]) ?_ ?_)
   · have hA1:∀rn:List Nat,AWs rn (ensA out) (ensA out):=fun rn=>AWs.refl _ _ (frees_ens _)
     have hA2:∀rn:List Nat,AWs rn (ps.map AV.str) (ps.map AV.str):=fun rn=>AWs.refl _ _ (frees_map _ _ fun _=>rfl)
     by_cases hf:f=0
     · subst hf
       refine Sim.exec hmix hΓ (n:=0) (by simp +decide;exact⟨rfl,rfl,rfl⟩) (by simp) ?_
       exact⟨rfl,Weak.mk' [0,1,2] (by decide) (by decide) (by simp) (by simp[AWb])⟩
     · have hfb:(f==0)=false:=by simpa using hf
       have hfn:(f != 0)=true:=by simpa using hf
       have hiL:=hc7 hf
       have sn:=logSz_none hl hn1 (by omega)
       rw[hLe,←hiL]at sn
       have hcast:(n1:Int)+((i+1:Nat):Int)=(n1:Int)+i+1:=by omega
       rw[hcast]at sn
       refine Sim.exec hmix hΓ (n:=0) (by simp +decide [lgΓ,logSzS,hd,hfn,y1,sn];exact⟨rfl,rfl,rfl⟩) (by simp) ?_
       exact⟨rfl,Weak.mk' [0,1,2] (by decide) (by decide) (by simp) (by simp[AWb])⟩
   rintro _ F6 H6 hl6 ⟨rfl,hw6⟩;refine Sim.weak hw6 hl6 ?_;clear hw6 hl6 F6 H6;dsimp only[qbZ,q9Z,qaZ]
   refine Sim.step hmix hΓ (n:=0) (by simp;exact⟨rfl,rfl⟩) (by simp) ?_
   refine Sim.block (Sim.loopW (fun j:Nat=>j≤P)
     (fun j=>[.ptr 0 0,.top,.top,.top,.top,.top,.sl 1 0 (out++es.take j).length 3 false,.int .i64 ((n1:Int)+i),.top,.top,.sl 2 0 P 1 false,.top,.top,.int .i64 j]++qbZ 52 .top)
     (fun j=>[.obj true d.blks,.cells true (ensA (out++es.take j)),.cells true (ps.map AV.str)]) (fun j=>P-j) 0 (by simp) (qqZ _) ?_ fun j hj=>?_)
   · have hA1:∀rn:List Nat,AWs rn (ensA out) (ensA out):=fun rn=>AWs.refl _ _ (frees_ens _)
     have hA2:∀rn:List Nat,AWs rn (ps.map AV.str) (ps.map AV.str):=fun rn=>AWs.refl _ _ (frees_map _ _ fun _=>rfl)
     rw[List.take_zero,r2Z]
     exact Weak.mk' [0,1,2] (by decide) (by decide) (by simp) (by simp[AWb])
   obtain⟨R,hR⟩:∃R,out++es.take j=R:=⟨_,rfl⟩;rw[hR]
   have hRl:R.length=out.length+j:=by rw[←hR,qdZ,qjZ];omega
   have y2:IntKind.i64.wrap ((j:Int)+1)=j+1:=wr_i64 (by omega) (by omega)
   by_cases hjl:j<P
   · have hjI:(j:Int)<P:=by omega
     obtain⟨e,he⟩:∃e,es[j]? = some e:=⟨_,q3Z (by omega)⟩
     have hok:=r3 e (qcZ he)
     have hpj:ps[j]? = some (eput e).1:=by rw[r1];unfold payE;rw[qzZ,he];rfl
     obtain⟨p,hp⟩:∃p,(eput e).1=p:=⟨_,rfl⟩;have hpo:=(eput_okE hok).1;have hge:=eget_okE hok;rw[hp]at hpj hpo hge
     have hpl:p.length≤1000000:=by have:=hpo.2;omega
     have hg:∀h,(ps.map AV.str)[j]'h=.str p:=fun h=>by
       have:=(q1Z.1 hpj).2;rw[List.getElem_map,this]
     have hpsl:(ps.map AV.str).length=P:=by rw[r7Z,hP]
     have hnx:out++es.take (j+1)=R++[e]:=by rw[List.take_add_one,he,←hR];simp
     obtain⟨ew,en,eg⟩:=e
     have b1:(R.length+1)*24≤140737488355328:=by omega
     have b2:R.length+1≤9223372036854775807:=by omega
     refine Sim.step hmix hΓ (n:=0) (by simp +decide [hjI];exact⟨rfl,rfl⟩) (by simp) ?_
     refine Sim.seq (Sim.block ?_)
     refine Sim.step hmix hΓ (n:=0) (by simp +decide [hjl,hpsl,hg,lgΓ,egetS,hpl,hge,enA];exact⟨rfl,rfl⟩) (by simp) ?_
     refine Sim.step hmix hΓ (n:=0) (by simp +decide;exact⟨rfl,rfl⟩) (by simp) ?_
     refine Sim.exec hmix hΓ (n:=0) (by simp +decide [b1,b2];exact⟨rfl,rfl,rfl⟩) (by simp) ?_
     dsimp only
     refine Sim.exec hmix hΓ (n:=0) (by simp[y2];exact⟨rfl,rfl,rfl⟩) (by simp) ?_
     refine ⟨j+1,by omega,?_,by omega⟩
     rw[hnx]
     have hA1:∀rn:List Nat,AWs rn (ensA R++ensA [(ew,en,eg)]) (ensA R++[.str ew,.int .u32 en,.bool eg]):=fun rn=>by
       have:=AWs.refl rn _ (frees_ens (R++[(ew,en,eg)]));rw[ensA_append]at this;exact this
     have hA2:∀rn:List Nat,AWs rn (ps.map AV.str) (ps.map AV.str):=fun rn=>AWs.refl _ _ (frees_map _ _ fun _=>rfl)
     exact Weak.mk' [0,5,2] (by decide) (by decide) (by simp) (by simp[AWb,hA1])
   · have hje:j=P:=by omega
     subst hje
     have hRe:R=out++es:=by rw[←hR,q6Z (by omega)]
     have hA1:∀rn:List Nat,AWs rn (ensA R) (ensA R):=fun rn=>AWs.refl _ _ (frees_ens _)
     refine Sim.exec hmix hΓ (n:=0) (by simp +decide;exact⟨rfl,rfl,rfl⟩) (by simp) ?_
     dsimp only;rw[if_pos rfl]
     refine Sim.exec hmix hΓ (n:=0) (by simp[y1];exact⟨rfl,rfl,rfl⟩) (by simp) ?_
     refine ⟨i+1,by omega,?_,by omega⟩
     rw[hnext,←hRe]
     have hcast:((n1:Int)+((i+1:Nat):Int))=(n1:Int)+i+1:=by omega
     rw[hcast]
     exact Weak.mk' [0,1] (by decide) (by decide) (by simp) (by simp[AWb])
 · have hie:i=L:=by omega
   subst hie
   have hoe:out=ess.flatten:=by rw[←hout,q6Z (by omega)]
   have hA1:∀rn:List Nat,AWs rn (ensA ess.flatten) (ensA ess.flatten):=fun rn=>AWs.refl _ _ (frees_ens _)
   have sn:=logSz_none hl hn1 (by omega)
   rw[hLe]at sn;rw[hoe]
   refine Sim.exec hmix hΓ (n:=0) (by simp +decide [lgΓ,logSzS,hd,sn];exact⟨rfl,rfl,rfl⟩) (by simp) ?_
   dsimp only;rw[if_pos rfl]
   refine Sim.exec hmix hΓ (n:=0) (by simp;exact⟨rfl,rfl,rfl⟩) (by simp) ?_
   exact⟨.inr rfl,_,by simp[Tryz.f23] <;> rfl,Weak.mk' [0,1] (by decide) (by decide) (by simp) (by simp[AWb])⟩
noncomputable def logsAt(d:DS)(n1:Nat)(es:List En):Summ:=open Classical in fun args H=>match args with
 | [.ptr b 0,.int .i64 n]=>if n=n1∧H[b]? = some (.obj true d.blks) then some (.tuple [.sl H.length 0 es.length 3 false,.bool true],H++[.cells true (ensA es)],[]) else none
 | _=>none
theorem logsAt_sound{d:DS}{n1:Nat}{es:List En}(h:Ct Pz 23 [.ptr 0 0,.int .i64 n1] [.obj true d.blks] (.tuple [.sl 1 0 es.length 3 false,.bool true]) [.obj true d.blks,.cells true (ensA es)]):Sound Pz 23 (logsAt d n1 es):=by
 refine ⟨enter_of Tryz.func23 rfl (by decide),fun args H v H' W hs=>?_,fun args H v H' W hs=>?_⟩ <;> (unfold logsAt at hs;split at hs <;> try cases hs) <;> (rename_i b n;split at hs <;> cases hs;rename_i hc;obtain⟨h1,hb⟩:=hc)
 · subst h1
   have hbl:b<H.length:=(q1Z.1 hb).1
   have:=ct_frame (H:=H) (args:=[.ptr b 0,.int .i64 n1]) h [b] (by simp) (by simp[AWs,AW]) ⟨by rw[q2Z,hb];exact⟨rfl,rfl⟩,hbl,trivial⟩ rfl
   have s1:H.set b (.obj true d.blks)=H:=by
     obtain⟨h1,h2⟩:=q1Z.1 hb;rw[←h2,List.set_getElem_self]
   simpa[setOwn,ABlk.own,reB,reA,reAs,nameG,s1,reAs_freeS _ _ (frees_ens es)] using this
 · exact⟨by simp,fun c hc _=>by rw[q4Z hc]⟩
end
section
open Go Go.Lib
structure Kb (most:Int) (all:List En) (i su:Nat) (w:WL):Prop where
 st:Wri 3 most all su w∨Ded 3 all su w
 bd:Bd (6*all.length+i) (1048576*all.length) (3+all.length) all.length w
theorem Kb.append{most:Int}{all:List En}{i su:Nat}{w:WL}(h:Kb most all i su w)(own:List En)(hl:all.length+own.length≤100) :
   ((w.appends own).2=0∧(w.appends own).1.done=w.done+own.length∧Kb most (all++own) (i+1) su (w.appends own).1) ∨
   ((w.appends own).2≠0∧(w.appends own).1.d.down=true∧(w.appends own).1.bad=true∧Kb most (all++own) (i+1) su (w.appends own).1):=by
 have hb:Bd (6*(all++own).length+(i+1)) (1048576*(all++own).length) (3+(all++own).length) (all++own).length (w.appends own).1 :=
   (h.bd.append own).mono (by simp;omega) (by simp;omega) (by simp;omega) (by simp)
 rcases h.st with g | g
 · rcases g.append (by decide) own (by omega) with⟨e,g1,g2⟩ | ⟨e,g1⟩
   · exact .inl ⟨e,g2,.inl g1,hb⟩
   · exact .inr ⟨by rw[e];decide,g1.dn,g1.bad,.inr g1,hb⟩
 · obtain⟨e,g1⟩:=g.append own
   rw[e]at hb ⊢
   exact .inr ⟨by show (11:Int)≠0;decide,g1.dn,g1.bad,.inr g1,hb⟩
theorem Kb.sync{most:Int}{all:List En}{i su:Nat}{w:WL}(h:Kb most all i su w)(hl:all.length≤100) :
   (w.syncs.2=0∧Kb most all (i+1) all.length w.syncs.1)∨(w.syncs.2≠0∧Kb most all (i+1) su w.syncs.1):=by
 have hb:=h.bd.sync;rcases h.st with g | g
 · rcases g.sync (by decide) (by omega) with⟨e,g1,_⟩ | ⟨e,g1⟩
   · exact .inl ⟨e,.inl g1,hb⟩
   · exact .inr ⟨by rw[e];decide,.inr g1,hb⟩
 · have e:=g.sync
   rw[e]at hb ⊢
   exact .inr ⟨by show (11:Int)≠0;decide,.inr g,hb⟩
theorem Kb.wok{most:Int}{all:List En}{i su:Nat}{w:WL}(h:Kb most all i su w)(hl:all.length≤100)(hi:i≤100){k:Nat}(hk:k≤100):WOk w k:=h.bd.wok k (by omega) (by omega) (by omega) (by omega)
theorem Kb.small{most:Int}{all:List En}{i su:Nat}{w:WL}(h:Kb most all i su w)(hl:all.length≤100)(hi:i≤100):w.d.small:=DS.ok_mono h.bd.ok (by omega) (by omega)
theorem Kb.new(most:Int)(t:Int)(ht:t≤4611686018427387903):Kb most [] 0 0 ⟨(DS.new 1048576).arm t,most,0,3,0,false⟩ :=
 ⟨.inl ((Wri.new most 3).arm t),((Bd.new most 3).arm ht).mono (by simp) (by simp) (by simp) (by simp)⟩
theorem keeps_law{most:Int}{all:List En}{i su:Nat}{w:WL}(h:Kb most all i su w)(hall:∀e∈all,okE e)(hl:all.length≤100)(hi:i≤100)(l:List Int) :
   w.d.small∧∃fnd,fnd=all.take fnd.length∧su≤fnd.length∧fnd.length≤all.length∧(w.d.restart l).small∧Sound Pz 23 (logsAt (w.d.restart l) 3 fnd) ∧
     ((w.d.restart l).list.length=0∨0≤logSz (w.d.restart l) 3):=by
 have hw:WB 3 (all.map frE) su w.d.fd w.d.fs:=by
   rcases h.st with g | g
   · exact g.wb (by omega) (List.prefix_refl _)
   · exact g.wb
 have hok:w.d.ok 1000 1048576000:=DS.ok_mono h.bd.ok (by omega) (by omega)
 obtain⟨ts,ess,h1,h2,h3,h4,h5,h6⟩:=logs_restart hall hok hw l;have hokr:=DS.ok_restart hok l;have hfl:=frames_len all
 have hlen:ts.length≤1000:=by
   have:=DS.list_le hokr;rw[h1.count]at this;exact this
 have hle:=h3.length_le
 have hct:=logs_ct (DS.ok_mono hokr (by omega) (by omega)) h1 h2 (by decide) (by omega) (fun t ht=>by have:=h6 t ht;omega) (by omega)
 refine ⟨DS.ok_mono hok (by omega) (by omega),ess.flatten,List.prefix_iff_eq_take.1 h3,h4,hle,DS.ok_mono hokr (by omega) (by omega),logsAt_sound hct,?_⟩
 by_cases h0:ts.length=0
 · exact .inl (h1.count.trans h0)
 · right
   have:=logSz_at h1 (i:=0) (q3Z (by omega))
   have e:((3:Nat):Int)+((0:Nat):Int)=3:=rfl;rw[e]at this;rw[this];omega
end
end Go.Proofs.YtpmfecnajoojeaaGreatDoor
