/- Parts of the proof of WalTurns: lemmas, each with its own conditions. -/
import Derived.Test.YthafeihjlamhhaaGreatDoorY26
set_option maxHeartbeats 64000000
open List renaming getElem?_eq_some_iff → q1Z, getD_eq_getElem?_getD → q2Z, getElem?_eq_getElem → q3Z, getElem?_append_left → q4Z, take_of_length_le → q6Z, length_cons → q7Z, length_nil → q8Z, cons_append → q9Z, nil_append → qaZ, replicate → qbZ, mem_of_getElem? → qcZ, length_append → qdZ, length_take → qjZ, getElem?_map → qzZ, append_nil → r2Z, take_append_drop → r6Z, length_map → r7Z, flatten_append → sgZ
open Nat renaming le_refl → qnZ, zero_le → qqZ
namespace Go.Proofs.YthafeihjlamhhaaGreatDoor
open _root_.Go.Proofs.Tryz renaming prog → Pz
set_option maxRecDepth 100000
section
open Go Go.Lib
attribute [-simp] drawOk_eq adraw qrun acode aops
theorem ct_out{P:Program}{f:FuncId}{args:List AV}{H H1 H':AHeap}{v v1:AV}(h:Ct P f args H v1 H1)(hw:Weak H.length [v1] H1 [v] H'):Ct P f args H v H':=by
 intro j w cargs hR hargs;refine (h j w cargs hR hargs).mono ?_;rintro e w' ⟨cv,j',rfl,g2,hs⟩;obtain⟨j2,k1,k2⟩:=hw.step (qnZ _) hs (vs:=[cv]) ⟨cv,[],rfl,g2,rfl⟩;simp only[VRs]at k2;obtain⟨_,_,e,k3,_⟩:=k2;cases e;exact⟨cv,j2,rfl,k3,k1⟩
theorem restart0_ct(d:DS)(hd:d.small):Ct Pz 35 [.ptr 0 0,.nils] [.obj true d.blks] (.tuple []) [.obj true (d.restart []).blks]:=by
 have h:=restart_ct d hd (by decide) (by decide) [] (by simp) (by simp) 0 (qnZ _) false
 simp only[List.take_nil,numA]at h
 refine ct_out (ct_weak (Weak.mk' [0,100] (by decide) rfl (by simp[AWs,AW]) (by simp[AWg,AWb])) h) (Weak.mk' [0] (by decide) rfl (by simp[AWs,AW]) (by simp[AWg,AWb]))
open Classical in
noncomputable def drest0S:Summ:=objS dsD DS.blks fun d xs _=>match xs with
 | [.nils]=>if d.small then some (d.restart [],.tuple []) else none
 | _=>none
theorem drest0_sound:Sound Pz 35 drest0S:=by
 refine sound_obj (enter_of Tryz.func35 rfl (by decide)) (fun _ _=>dsD_eq) fun d xs H s' v b hg hb=>?_
 split at hg;rotate_left
 · cases hg
 split at hg <;> cases hg
 rename_i hs;exact ct_obj1 (restart0_ct d hs) rfl rfl hb
noncomputable def drestN:Summ:=fun args H=>match args with
 | [.ptr b 0,.nils]=>drest0S [.ptr b 0,.nils] H
 | [.ptr b 0,.slice b2 o L sz c]=>drestS [.ptr b 0,.slice b2 o L sz c] H
 | [.ptr b 0,.sl b2 o L sz c]=>drestS [.ptr b 0,.sl b2 o L sz c] H
 | _=>none
theorem drestN_sound:Sound Pz 35 drestN:=by
 refine ⟨drest_sound.enter,fun args H v H' W hs=>?_,fun args H v H' W hs=>?_⟩ <;> (unfold drestN at hs;split at hs)
 · exact drest0_sound.ct _ _ _ _ _ hs
 · exact drest_sound.ct _ _ _ _ _ hs
 · exact drest_sound.ct _ _ _ _ _ hs
 · cases hs
 · exact drest0_sound.keep _ _ _ _ _ hs
 · exact drest_sound.keep _ _ _ _ _ hs
 · exact drest_sound.keep _ _ _ _ _ hs
 · cases hs
theorem wfile_ct(w:WL):Ct Pz 22 [.ptr 0 0] [wlB 1 w,.obj true w.d.blks] (.int .i64 w.file) [wlB 1 w,.obj true w.d.blks]:=by
 refine ct_of_simE Tryz.func22 rfl ?_;simp only[wlB,wlC,Tryz.ntmps22,q7Z,q8Z,Nat.reduceAdd,Nat.reduceSub,qbZ,q9Z,qaZ]
 refine Sim.exec hmix goks_nil (n:=0) (by simp +decide;exact⟨rfl,rfl,rfl⟩) (by simp) ?_
 exact⟨.inr rfl,by simp[Tryz.f22],rfl⟩
noncomputable def wfileR:Summ:=wlR fun w xs=>match xs with
 | []=>some (.int .i64 w.file)
 | _=>none
theorem wfile_sound:Sound Pz 22 wfileR:=by
 refine sound_wlR (enter_of Tryz.func22 rfl (by decide)) fun w xs v hg=>?_
 split at hg <;> cases hg
 exact⟨rfl,fun _=>rfl,wfile_ct w⟩
theorem wnext_ct(w:WL):Ct Pz 25 [.ptr 0 0] [wlB 1 w,.obj true w.d.blks] (.int .i64 w.next) [wlB 1 w,.obj true w.d.blks]:=by
 refine ct_of_simE Tryz.func25 rfl ?_;simp only[wlB,wlC,Tryz.ntmps25,q7Z,q8Z,Nat.reduceAdd,Nat.reduceSub,qbZ,q9Z,qaZ]
 refine Sim.exec hmix goks_nil (n:=0) (by simp +decide;exact⟨rfl,rfl,rfl⟩) (by simp) ?_
 exact⟨.inr rfl,by simp[Tryz.f25],rfl⟩
noncomputable def wnextR:Summ:=wlR fun w xs=>match xs with
 | []=>some (.int .i64 w.next)
 | _=>none
theorem wnext_sound:Sound Pz 25 wnextR:=by
 refine sound_wlR (enter_of Tryz.func25 rfl (by decide)) fun w xs v hg=>?_
 split at hg <;> cases hg
 exact⟨rfl,fun _=>rfl,wnext_ct w⟩
theorem wdone_ct(w:WL):Ct Pz 43 [.ptr 0 0] [wlB 1 w,.obj true w.d.blks] (.int .i64 w.done) [wlB 1 w,.obj true w.d.blks]:=by
 refine ct_of_simE Tryz.func43 rfl ?_;simp only[wlB,wlC,Tryz.ntmps43,q7Z,q8Z,Nat.reduceAdd,Nat.reduceSub,qbZ,q9Z,qaZ]
 refine Sim.exec hmix goks_nil (n:=0) (by simp +decide;exact⟨rfl,rfl,rfl⟩) (by simp) ?_
 exact⟨.inr rfl,by simp[Tryz.f43],rfl⟩
noncomputable def wdoneR:Summ:=wlR fun w xs=>match xs with
 | []=>some (.int .i64 w.done)
 | _=>none
theorem wdone_sound:Sound Pz 43 wdoneR:=by
 refine sound_wlR (enter_of Tryz.func43 rfl (by decide)) fun w xs v hg=>?_
 split at hg <;> cases hg
 exact⟨rfl,fun _=>rfl,wdone_ct w⟩
def wnewS:Summ:=fun args H=>match args with
 | [.ptr q 0,.int .i64 n,.int .i64 m]=>if q<H.length∧1≤n∧n≤1000000000∧1≤m then some (.ptr H.length 0,H++[.cells true [.ptr q 0,.int .i64 m,.int .i64 0,.int .i64 n,.int .i64 0,.bool false]],[]) else none
 | _=>none
theorem wnew_sound:Sound Pz 18 wnewS:=by
 refine ⟨enter_of Tryz.func18 rfl (by decide),fun args H v H' W hs=>?_,fun args H v H' W hs=>?_⟩ <;> (unfold wnewS at hs;split at hs <;> try cases hs) <;> (rename_i q n m;split at hs <;> cases hs;rename_i hc;obtain⟨h1,h2,h3,h4⟩:=hc)
 · have g1:¬n<1:=by omega
   have g2:¬1000000000<n:=by omega
   have g3:¬m<1:=by omega
   refine ct_of_simE Tryz.func18 rfl ?_;simp only[Tryz.ntmps18,q7Z,q8Z,Nat.reduceAdd,Nat.reduceSub,qbZ,q9Z,qaZ]
   refine Sim.exec hmix goks_nil (n:=0) (by simp +decide [g1,g2,g3];exact⟨rfl,rfl,rfl⟩) (by simp) ?_
   exact⟨.inr rfl,by simp[Tryz.f18],rfl⟩
 · exact⟨by simp,fun c hc _=>by rw[q4Z hc]⟩
def fallN:Summ:=newS fun
 | [.str s]=>if s.length≤1000000000 then some (.tuple [.sl 0 0 (Fr.all s 0).1.length 1 false,.int .i64 (Fr.all s 0).2.1,.int .i64 (Fr.all s 0).2.2],[.cells true ((Fr.all s 0).1.map AV.str)]) else none
 | _=>none
theorem fallN_sound:Sound Pz 59 fallN:=by
 refine sound_new (enter_of Tryz.func59 rfl (by decide)) fun args v H' h=>?_
 split at h <;> try cases h
 rename_i s
 split at h <;> cases h
 rename_i hs;refine ⟨?_,rfl,rfl⟩;refine ct_out (fall_ct s hs) ?_;obtain⟨⟨l,x,f⟩,hr⟩:∃r,Fr.all s 0=r:=⟨_,rfl⟩;rw[hr];dsimp only;unfold payV payB
 cases l with
 | nil=>exact Weak.mk' [100] (by decide) rfl (by simp[AWs,AW]) (by simp[AWg])
 | cons z l =>
   have hfr:∀rn:List Nat,AWs rn ((z::l).map AV.str) ((z::l).map AV.str):=fun rn=>AWs.refl _ _ (frees_map _ _ fun _=>rfl)
   exact Weak.mk' [0] (by decide) rfl (by simp[AWs,AW]) (by first | (simp[AWg,AWb];done) | simpa[AWg,AWb] using hfr _)
def logSz(d:DS)(n:Int):Int:=if (d.size (mk 3 n)).2=0 then (d.size (mk 3 n)).1 else -1
noncomputable def lzΓ:Gam:=gams [(58,mkS),(37,dsizeS)]
theorem lzΓ_ok:GOk Pz lzΓ:=goks_cons make_sound (goks_cons dsize_sound goks_nil)
theorem logSz_ct(d:DS)(hd:d.small)(n:Int):Ct Pz 47 [.ptr 0 0,.int .i64 n] [.obj true d.blks] (.int .i64 (logSz d n)) [.obj true d.blks]:=by
 have hΓ:=lzΓ_ok;unfold logSz;obtain⟨k,hk⟩:∃k,mk 3 n=k:=⟨_,rfl⟩;rw[hk];obtain⟨z,e,hz⟩:∃z e,d.size k=(z,e):=⟨_,_,rfl⟩;rw[hz];dsimp only;refine ct_of_sim Tryz.func47 rfl ?_;simp only[Tryz.ntmps47,q7Z,q8Z,Nat.reduceAdd,Nat.reduceSub,qbZ,q9Z,qaZ]
 refine Sim.step hmix hΓ (n:=0) (by simp;exact⟨rfl,rfl⟩) (by simp) ?_
 refine Sim.step hmix hΓ (n:=0) (by simp +decide [lzΓ,mkS,hk,dsizeS,hd,hz];exact⟨rfl,rfl⟩) (by simp) ?_
 by_cases he:e=0
 · subst he
   rw[if_pos rfl]
   refine Sim.exec hmix hΓ (n:=0) (by simp +decide;exact⟨rfl,rfl,rfl⟩) (by simp) ?_
   exact⟨.inr rfl,_,by simp[Tryz.f47] <;> rfl,Weak.mk' [0] (by decide) (by decide) (by simp) (by simp[AWb])⟩
 · rw[if_neg he]
   have heb:(e==0)=false:=by simpa using he
   have hen:(e != 0)=true:=by simpa using he
   refine Sim.exec hmix hΓ (n:=0) (by simp +decide [hen];exact⟨rfl,rfl,rfl⟩) (by simp) ?_
   exact⟨.inr rfl,_,by simp[Tryz.f47] <;> rfl,Weak.mk' [0] (by decide) (by decide) (by simp) (by simp[AWb])⟩
open Classical in
noncomputable def logSzS:Summ:=objS dsD DS.blks fun d xs _=>match xs with
 | [.int .i64 n]=>if d.small then some (d,.int .i64 (logSz d n)) else none
 | _=>none
theorem logSz_sound:Sound Pz 47 logSzS:=by
 refine sound_obj (enter_of Tryz.func47 rfl (by decide)) (fun _ _=>dsD_eq) fun d xs H s' v b hg hb=>?_
 split at hg;rotate_left
 · cases hg
 split at hg <;> cases hg
 rename_i hs;exact ct_obj1 (logSz_ct d hs _) rfl rfl hb
theorem logSz_at{n1:Nat}{ts:List (List UInt8)}{d:DS}(h:Logs n1 ts d){i:Nat}{t:List UInt8}(ht:ts[i]?=some t):logSz d ((n1:Int)+i)=t.length:=by
 unfold logSz;have:=h.size ht;unfold wn at this
 push_cast at this
 rw[this];rfl
theorem logSz_none{n1:Nat}{ts:List (List UInt8)}{d:DS}(h:Logs n1 ts d)(h1:1≤n1)(h2:n1+ts.length≤1000000001):logSz d ((n1:Int)+ts.length) = -1:=by
 unfold logSz;have:=h.none h1 h2;unfold wn at this
 push_cast at this
 rw[this];rfl
noncomputable def lgΓ:Gam:=gams [(47,logSzS),(58,mkS),(41,dreaS),(59,fallN),(108,egetS)]
theorem lgΓ_ok:GOk Pz lgΓ:=goks_cons logSz_sound (goks_cons make_sound (goks_cons drea_sound (goks_cons fallN_sound (goks_cons eget_sound goks_nil))))
theorem logs_ct{n1:Nat}{ts:List (List UInt8)}{ess:List (List En)}{d:DS}(hd:d.small)(hl:Logs n1 ts d)(hr:Reads ts ess)(hn1:1≤n1)(hL:n1+ts.length≤1000000000)(htl:∀t∈ts,t.length≤1000000)(hfl:ess.flatten.length≤100000) :
   Ct Pz 45 [.ptr 0 0,.int .i64 n1] [.obj true d.blks] (.tuple [.sl 1 0 ess.flatten.length 3 false,.bool true]) [.obj true d.blks,.cells true (ensA ess.flatten)]:=by
 have hΓ:=lgΓ_ok;obtain⟨L,hLe⟩:∃L,ts.length=L:=⟨_,rfl⟩;have hel:ess.length=L:=hr.1.trans hLe;refine ct_of_sim Tryz.func45 rfl ?_;simp only[Tryz.ntmps45,q7Z,q8Z,Nat.reduceAdd,Nat.reduceSub,qbZ,q9Z,qaZ]
 refine Sim.step hmix hΓ (n:=0) (by simp;exact⟨rfl,rfl⟩) (by simp) ?_
 refine Sim.step hmix hΓ (n:=0) (by simp;exact⟨rfl,rfl⟩) (by simp) ?_
 refine Sim.seq (Sim.step hmix hΓ (n:=0) (by simp;exact⟨rfl,rfl⟩) (by simp) ?_)
 refine Sim.block (Sim.loopW (fun i:Nat=>i≤L)
   (fun i=>[.ptr 0 0,.top,.top,.top,.top,.top,.sl 1 0 (ess.take i).flatten.length 3 false,.int .i64 ((n1:Int)+i)]++qbZ 58 .top)
   (fun i=>[.obj true d.blks,.cells true (ensA (ess.take i).flatten)]) (fun i=>L-i) 0 (by simp) (qqZ _) (Weak.mk' [0,100] (by decide) (by decide) (by simp) (by simp[AWb])) fun i hi=>?_)
 obtain⟨out,hout⟩:∃out,(ess.take i).flatten=out:=⟨_,rfl⟩;rw[hout]
 have y1:IntKind.i64.wrap ((n1:Int)+i+1)=(n1:Int)+i+1:=wr_i64 (by omega) (by omega)
 by_cases hlt:i<L
 · obtain⟨t,ht⟩:∃t,ts[i]?=some t:=⟨_,q3Z (by omega)⟩
   obtain⟨es,hes⟩:∃es,ess[i]?=some es:=⟨_,q3Z (by omega)⟩
   obtain⟨r1,r2,r3⟩:=hr.2 i t es ht hes
   have hnext:(ess.take (i+1)).flatten=out++es:=by
     rw[List.take_add_one,hes,←hout];simp
   have hob:out.length+es.length≤100000:=by
     have h1:(ess.take (i+1)).flatten.length≤ess.flatten.length:=by
       conv=>rhs;rw[←r6Z (i+1) ess,sgZ,qdZ]
       omega
     rw[hnext,qdZ]at h1;omega
   have s1:=logSz_at hl ht;have htb:=htl t (qcZ ht)
   have s2:d.readAt (wn (n1+i)) 0 1048576=(t,0):=hl.read ht (m:=1048576) (by omega)
   obtain⟨k,hk⟩:∃k,mk 3 ((n1:Int)+i)=k:=⟨_,rfl⟩
   have hwn:wn (n1+i)=k:=by rw[←hk];unfold wn;rw[Int.natCast_add]
   rw[hwn]at s2;obtain⟨⟨ps,x,f⟩,hall⟩:∃r,Fr.all t 0=r:=⟨_,rfl⟩;rw[hall]at r1 r2;dsimp only at r1 r2
   have htb2:t.length≤1000000000:=by omega
   have htn:0≤(t.length:Int):=by omega
   obtain⟨P,hP⟩:∃P,ps.length=P:=⟨_,rfl⟩
   have hPe:es.length=P:=by rw[←hP,r1];simp[payE]
   refine Sim.step hmix hΓ (n:=0) (by simp +decide [lgΓ,logSzS,hd,s1,htn];exact⟨rfl,rfl⟩) (by simp) ?_
   refine Sim.seq (Sim.block ?_)
   refine Sim.step hmix hΓ (n:=0) (by simp +decide [lgΓ,mkS,hk,dreaS,hd,s2];exact⟨rfl,rfl⟩) (by simp) ?_
   refine Sim.step hmix hΓ (n:=0) (by simp +decide [lgΓ,fallN,newS,htb2,hall,hP];exact⟨rfl,rfl⟩) (by simp) ?_
   have hc7:¬f=0→i+1=L:=fun h=>by
     by_cases h9:i+1<ts.length
     · exact absurd (r2 h9) h
     · omega
   refine Sim.seq (Sim.mono (Q:=fun e' F' H'=>e'=.normal∧Weak 1 F' H' ([.ptr 0 0,.top,.top,.top,.top,.top,.sl 1 0 out.length 3 false,.int .i64 ((n1:Int)+i),.top,.top,.sl 2 0 P 1 false]++qbZ 55 .top) [.obj true d.blks,.cells true (ensA out),.cells true (ps.map AV.str)]) ?_ ?_)
   · have hA1:∀rn:List Nat,AWs rn (ensA out) (ensA out):=fun rn=>AWs.refl _ _ (frees_ens _)
     have hA2:∀rn:List Nat,AWs rn (ps.map AV.str) (ps.map AV.str):=fun rn=>AWs.refl _ _ (frees_map _ _ fun _=>rfl)
     by_cases hf:f=0
     · subst hf
       refine Sim.exec hmix hΓ (n:=0) (by simp +decide;exact⟨rfl,rfl,rfl⟩) (by simp) ?_
       exact⟨rfl,Weak.mk' [0,1,2] (by decide) (by decide) (by simp) (by simp[AWb])⟩
     · have hfb:(f==0)=false:=by simpa using hf
       have hfn:(f != 0)=true:=by simpa using hf
       have hiL:=hc7 hf
       have sn:=logSz_none hl hn1 (by omega)
       rw[hLe,←hiL]at sn
       have hcast:(n1:Int)+((i+1:Nat):Int)=(n1:Int)+i+1:=by omega
       rw[hcast]at sn
       refine Sim.exec hmix hΓ (n:=0) (by simp +decide [lgΓ,logSzS,hd,hfn,y1,sn];exact⟨rfl,rfl,rfl⟩) (by simp) ?_
       exact⟨rfl,Weak.mk' [0,1,2] (by decide) (by decide) (by simp) (by simp[AWb])⟩
   rintro _ F6 H6 hl6 ⟨rfl,hw6⟩;refine Sim.weak hw6 hl6 ?_;clear hw6 hl6 F6 H6;dsimp only[qbZ,q9Z,qaZ]
   refine Sim.step hmix hΓ (n:=0) (by simp;exact⟨rfl,rfl⟩) (by simp) ?_
   refine Sim.block (Sim.loopW (fun j:Nat=>j≤P)
     (fun j=>[.ptr 0 0,.top,.top,.top,.top,.top,.sl 1 0 (out++es.take j).length 3 false,.int .i64 ((n1:Int)+i),.top,.top,.sl 2 0 P 1 false,.top,.top,.int .i64 j]++qbZ 52 .top)
     (fun j=>[.obj true d.blks,.cells true (ensA (out++es.take j)),.cells true (ps.map AV.str)]) (fun j=>P-j) 0 (by simp) (qqZ _) ?_ fun j hj=>?_)
   · have hA1:∀rn:List Nat,AWs rn (ensA out) (ensA out):=fun rn=>AWs.refl _ _ (frees_ens _)
     have hA2:∀rn:List Nat,AWs rn (ps.map AV.str) (ps.map AV.str):=fun rn=>AWs.refl _ _ (frees_map _ _ fun _=>rfl)
     rw[List.take_zero,r2Z]
     exact Weak.mk' [0,1,2] (by decide) (by decide) (by simp) (by simp[AWb])
   obtain⟨R,hR⟩:∃R,out++es.take j=R:=⟨_,rfl⟩;rw[hR]
   have hRl:R.length=out.length+j:=by rw[←hR,qdZ,qjZ];omega
   have y2:IntKind.i64.wrap ((j:Int)+1)=j+1:=wr_i64 (by omega) (by omega)
   by_cases hjl:j<P
   · have hjI:(j:Int)<P:=by omega
     obtain⟨e,he⟩:∃e,es[j]?=some e:=⟨_,q3Z (by omega)⟩
     have hok:=r3 e (qcZ he)
     have hpj:ps[j]?=some (eput e).1:=by rw[r1];unfold payE;rw[qzZ,he];rfl
     obtain⟨p,hp⟩:∃p,(eput e).1=p:=⟨_,rfl⟩;have hpo:=(eput_okE hok).1;have hge:=eget_okE hok;rw[hp]at hpj hpo hge
     have hpl:p.length≤1000000:=by have:=hpo.2;omega
     have hg:∀h,(ps.map AV.str)[j]'h=.str p:=fun h=>by
       have:=(q1Z.1 hpj).2;rw[List.getElem_map,this]
     have hpsl:(ps.map AV.str).length=P:=by rw[r7Z,hP]
     have hnx:out++es.take (j+1)=R++[e]:=by rw[List.take_add_one,he,←hR];simp
     obtain⟨ew,en,eg⟩:=e
     have b1:(R.length+1)*24≤140737488355328:=by omega
     have b2:R.length+1≤9223372036854775807:=by omega
     refine Sim.step hmix hΓ (n:=0) (by simp +decide [hjI];exact⟨rfl,rfl⟩) (by simp) ?_
     refine Sim.seq (Sim.block ?_)
     refine Sim.step hmix hΓ (n:=0) (by simp +decide [hjl,hpsl,hg,lgΓ,egetS,hpl,hge,enA];exact⟨rfl,rfl⟩) (by simp) ?_
     refine Sim.step hmix hΓ (n:=0) (by simp +decide;exact⟨rfl,rfl⟩) (by simp) ?_
     refine Sim.exec hmix hΓ (n:=0) (by simp +decide [b1,b2];exact⟨rfl,rfl,rfl⟩) (by simp) ?_
     dsimp only
     refine Sim.exec hmix hΓ (n:=0) (by simp[y2];exact⟨rfl,rfl,rfl⟩) (by simp) ?_
     refine ⟨j+1,by omega,?_,by omega⟩
     rw[hnx]
     have hA1:∀rn:List Nat,AWs rn (ensA R++ensA [(ew,en,eg)]) (ensA R++[.str ew,.int .u32 en,.bool eg]):=fun rn=>by
       have:=AWs.refl rn _ (frees_ens (R++[(ew,en,eg)]));rw[ensA_append]at this;exact this
     have hA2:∀rn:List Nat,AWs rn (ps.map AV.str) (ps.map AV.str):=fun rn=>AWs.refl _ _ (frees_map _ _ fun _=>rfl)
     exact Weak.mk' [0,5,2] (by decide) (by decide) (by simp) (by simp[AWb,hA1])
   · have hje:j=P:=by omega
     subst hje
     have hRe:R=out++es:=by rw[←hR,q6Z (by omega)]
     have hA1:∀rn:List Nat,AWs rn (ensA R) (ensA R):=fun rn=>AWs.refl _ _ (frees_ens _)
     refine Sim.exec hmix hΓ (n:=0) (by simp +decide;exact⟨rfl,rfl,rfl⟩) (by simp) ?_
     dsimp only;rw[if_pos rfl]
     refine Sim.exec hmix hΓ (n:=0) (by simp[y1];exact⟨rfl,rfl,rfl⟩) (by simp) ?_
     refine ⟨i+1,by omega,?_,by omega⟩
     rw[hnext,←hRe]
     have hcast:((n1:Int)+((i+1:Nat):Int))=(n1:Int)+i+1:=by omega
     rw[hcast]
     exact Weak.mk' [0,1] (by decide) (by decide) (by simp) (by simp[AWb])
 · have hie:i=L:=by omega
   subst hie
   have hoe:out=ess.flatten:=by rw[←hout,q6Z (by omega)]
   have hA1:∀rn:List Nat,AWs rn (ensA ess.flatten) (ensA ess.flatten):=fun rn=>AWs.refl _ _ (frees_ens _)
   have sn:=logSz_none hl hn1 (by omega)
   rw[hLe]at sn;rw[hoe]
   refine Sim.exec hmix hΓ (n:=0) (by simp +decide [lgΓ,logSzS,hd,sn];exact⟨rfl,rfl,rfl⟩) (by simp) ?_
   dsimp only;rw[if_pos rfl]
   refine Sim.exec hmix hΓ (n:=0) (by simp;exact⟨rfl,rfl,rfl⟩) (by simp) ?_
   exact⟨.inr rfl,_,by simp[Tryz.f45] <;> rfl,Weak.mk' [0,1] (by decide) (by decide) (by simp) (by simp[AWb])⟩
noncomputable def logsAt(d:DS)(n1:Nat)(es:List En):Summ:=open Classical in fun args H=>match args with
 | [.ptr b 0,.int .i64 n]=>if n=n1∧H[b]?=some (.obj true d.blks) then some (.tuple [.sl H.length 0 es.length 3 false,.bool true],H++[.cells true (ensA es)],[]) else none
 | _=>none
theorem logsAt_sound{d:DS}{n1:Nat}{es:List En}(h:Ct Pz 45 [.ptr 0 0,.int .i64 n1] [.obj true d.blks] (.tuple [.sl 1 0 es.length 3 false,.bool true]) [.obj true d.blks,.cells true (ensA es)]):Sound Pz 45 (logsAt d n1 es):=by
 refine ⟨enter_of Tryz.func45 rfl (by decide),fun args H v H' W hs=>?_,fun args H v H' W hs=>?_⟩ <;> (unfold logsAt at hs;split at hs <;> try cases hs) <;> (rename_i b n;split at hs <;> cases hs;rename_i hc;obtain⟨h1,hb⟩:=hc)
 · subst h1
   have hbl:b<H.length:=(q1Z.1 hb).1
   have:=ct_frame (H:=H) (args:=[.ptr b 0,.int .i64 n1]) h [b] (by simp) (by simp[AWs,AW]) ⟨by rw[q2Z,hb];exact⟨rfl,rfl⟩,hbl,trivial⟩ rfl
   have s1:H.set b (.obj true d.blks)=H:=by
     obtain⟨h1,h2⟩:=q1Z.1 hb;rw[←h2,List.set_getElem_self]
   simpa[setOwn,ABlk.own,reB,reA,reAs,nameG,s1,reAs_freeS _ _ (frees_ens es)] using this
 · exact⟨by simp,fun c hc _=>by rw[q4Z hc]⟩
end
end Go.Proofs.YthafeihjlamhhaaGreatDoor
