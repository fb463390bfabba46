/- Parts of the proof of WalTells: lemmas, each with its own conditions. -/
import Derived.Test.YtfhidaoiofeooaaGreatDoorY15
set_option maxHeartbeats 64000000
open List renaming getElem?_eq_some_iff → q1Z, getD_eq_getElem?_getD → q2Z, getElem?_eq_getElem → q3Z, getElem?_append_left → q4Z, getElem?_append_right → q5Z, take_of_length_le → q6Z, length_cons → q7Z, length_nil → q8Z, cons_append → q9Z, nil_append → qaZ, replicate → qbZ, mem_of_getElem? → qcZ, length_append → qdZ, getElem?_set_ne → qfZ, length_take → qjZ, mem_cons → qwZ, getElem?_map → qzZ, append_nil → r2Z, getElem_mem → r3Z, length_map → r7Z, length_set → r8Z, getElem?_cons_succ → r9Z, getElem?_cons_zero → raZ, nodup_cons → rdZ, mem_map → reZ, getElem?_range → rfZ, map_append → roZ, map_cons → s1Z, getElem?_eq_none → s4Z, all_eq_true → s5Z, set_cons_zero → s9Z
open Nat renaming le_refl → qnZ, zero_le → qqZ, lt_irrefl → rnZ, zero_add → s8Z
namespace Go.Proofs.YtfhidaoiofeooaaGreatDoor
open _root_.Go.Proofs.Tryz renaming prog → Pz
set_option maxRecDepth 100000
section
open Go Go.Lib
attribute [-simp] zH zc zq zK zy
theorem NM.wo_le(l:NM)(k:List UInt8):(NM.wo l k).length<=l.length:=List.length_filter_le _ _
theorem NM.wo_snoc(l:NM)(i:Nat)(h:i<l.length)(k:List UInt8):NM.wo (l.take (i+1)) k=if l[i].1=k then NM.wo (l.take i) k else NM.wo (l.take i) k++[l[i]]:=by
 unfold NM.wo;rw[List.take_succ_eq_append_getElem h,List.filter_append];split
 · rename_i e;simp[e]
 · rename_i e;simp[e]
theorem zRM(l:NM)(k:List UInt8)(hl:l.length<=1000000000) :
   Ct Pz 290 [.sl 0 0 l.length 2 false,.str k] [.cells false (ndA l)] (.sl 1 0 (NM.wo l k).length 2 false) [.cells false (ndA l),.cells true (ndA (NM.wo l k))]:=by
 have hΓ:GOk Pz (zZ []):=zC;have hA0:∀rn:List Nat,AWs rn (ndA l) (ndA l):=fun rn=>AWs.refl _ _ (zAC l);obtain⟨n,hn⟩:∃n,l.length=n:=⟨_,rfl⟩
 have hfl:(ndA l).length=n*2:=by rw[ZB,hn]
 refine zE Tryz.func290 rfl ?_;simp only[Tryz.ntmps290,q7Z,q8Z,Nat.reduceAdd,Nat.reduceSub,qbZ,q9Z,qaZ];rw[hn];refine wS hΓ (by simp;exact wR) ?_;refine wS hΓ (by simp;exact wR) ?_;refine Sim.seq (wS hΓ (by simp;exact wR) ?_);refine Sim.block (Sim.loopW (fun i:Nat=>i<=n)
   (fun i=>[.sl 0 0 n 2 false,.str k,.top,.top,.top,.sl 1 0 (NM.wo (l.take i) k).length 2 false,.int .i64 i]++qbZ 21 .top)
   (fun i=>[.cells false (ndA l),.cells true (ndA (NM.wo (l.take i) k))]) (fun i=>n-i) 0 (by simp) (qqZ _) (Weak.mk' [0,100] (by decide) (by decide) (by simp[NM.wo]) (by simp[AWb,AWg])) fun i hi=>?_)
 have hob:(NM.wo (l.take i) k).length<=i:=Nat.le_trans (NM.wo_le _ _) (by rw[qjZ];omega);by_cases hlt:i<n
 · have hil:i<l.length:=by omega
   have hiI:(i:Int)<n:=by omega
   obtain⟨f1,f2⟩:=zDt l i hil;have g1:=zEr l i hil;have hnext:=NM.wo_snoc l i hil k;obtain⟨⟨a,m⟩,hx⟩:∃x,l[i]=x:=⟨_,rfl⟩
   rw[hx]at f1 f2 g1 hnext;dsimp only at f1 f2 g1 hnext;obtain⟨out,hout⟩:∃o,NM.wo (l.take i) k=o:=⟨_,rfl⟩
   rw[hout]at hnext hob ⊢;obtain⟨M,hM⟩:∃M,out.length=M:=⟨_,rfl⟩
   rw[hM]at hob ⊢;have hol:(ndA out).length=M*2:=by rw[ZB,hM]
   have htk:=zAt hM;have hAo:∀(o:NM) (rn:List Nat),AWs rn (ndA o) (ndA o):=fun o rn=>AWs.refl _ _ (zAC o);have hco:=zCD out;have i1:i*2<n*2:=by omega
   have i2:i*2+2<=n*2:=by omega
   have i6:i*2+2<=l.length*2:=by omega
   have i8:i*2<l.length*2:=by omega
   have i9:(M+1)*24<=140737488355328:=by omega
   have i10:M+1<=9223372036854775807:=by omega
   have i11:M*2<=(ndA out).length:=by omega
   have y1:IntKind.i64.wrap ((i:Int)+1)=i+1:=zI (by omega) (by omega);refine wS hΓ (by simp[hiI];exact wR) ?_;by_cases he:a=k
   · rw[if_pos he]at hnext
     have he2:(a != k)=false:=by simp[he]
     have he3:(a==k)=true:=by simp[he]
     refine Sim.seq (Sim.block (wE hΓ (by simp +decide [hlt,f1,i8,he];exact wT) ?_));dsimp only;refine wE hΓ (by simp[y1];exact wT) ?_;exact⟨i+1,by omega,Weak.mk' [0,1] (by decide) (by decide) (by simp[hnext,hM]) (by simp[AWb,AWg,hnext]),by omega⟩
   · rw[if_neg he]at hnext
     have he2:(a != k)=true:=by simp[he]
     have he3:(a==k)=false:=by simp[he]
     have hap:ndA out++[.str a,.int .i64 m]=ndA (out++[(a,m)]):=by rw[zB9];rfl
     refine Sim.seq (Sim.block (wE hΓ (by simp +decide [hlt,f1,g1,i6,i8,i9,i10,he3,hol,htk,hap];exact wT) ?_));dsimp only;refine wE hΓ (by simp[y1];exact wT) ?_;exact⟨i+1,by omega,Weak.mk' [0,3] (by decide) (by decide) (by simp[hnext,hM]) (by simp[AWb,AWg,hnext]),by omega⟩
 · have hie:i=n:=by omega
   subst hie;rw[q6Z (by omega)];have hAo:∀(o:NM) (rn:List Nat),AWs rn (ndA o) (ndA o):=fun o rn=>AWs.refl _ _ (zAC o);refine wE hΓ (by simp;exact wT) ?_;dsimp only;rw[if_pos rfl];refine wE hΓ (by simp;exact wT) ?_;exact⟨.inr rfl,_,by simp[Tryz.f290] <;> rfl,wW [0,1] (by simp[AWb,AWg])⟩
def zWZ:zJ:=zAs fun args H=>match args with
 | [x,.str k]=>match zIT H x with
   | some l=>if l.length<=1000000000 then some (.sl 0 0 (NM.wo l k).length 2 false,[.cells true (ndA (NM.wo l k))]) else none
   | none=>none
 | _=>none
theorem zS0:Sound Pz 290 zWZ:=by
 refine zCh (zD Tryz.func290 rfl (by decide)) fun args H v N h=>?_;split at h <;> try cases h
 rename_i x k;split at h <;> try cases h
 rename_i l hx;split at h <;> cases h
 rename_i hc;obtain⟨b1,o1,w1,g1⟩:=zKs hx;refine zL2 (H0:=[.cells false (ndA l)]) (args0:=[.sl 0 0 l.length 2 false,.str k]) ?_ rfl [(b1,o1)] ⟨w1 0 _ rfl,by simp[zC3],trivial⟩ ⟨g1,zAC _,trivial⟩;have:=zRM l k hc;simpa[shA,shB] using this
def gtN(k:List UInt8)(e:List UInt8×Int):Bool:=!(Op.bytesLess e.1 k || e.1==k)
theorem zTi(p:List UInt8×Int->Bool)(l:NM)(i:Nat)(h:i<l.length):(l.take (i+1)).filter p=if p l[i]=true then (l.take i).filter p++[l[i]] else (l.take i).filter p:=by
 rw[List.take_succ_eq_append_getElem h,List.filter_append];split
 · rename_i e;simp[e]
 · rename_i e;simp[e]
theorem zNh(p:List UInt8×Int->Bool):∀(l:NM) (i:Nat) (h:i<l.length),i<=(l.takeWhile p).length->(p l[i]=true->i+1<=(l.takeWhile p).length)/\(p l[i]=false->(l.takeWhile p).length=i)
 | a::l,0,_,_=>by
   simp only[List.getElem_cons_zero,List.takeWhile_cons];exact⟨fun h=>by rw[h];simp,fun h=>by rw[h];rfl⟩
 | a::l,i+1,h,hi=>by
   rw[List.takeWhile_cons]at hi ⊢;cases ha:p a with
   | false=>rw[ha]at hi;simp at hi
   | true =>
     rw[ha]at hi;simp only[if_true,q7Z]at hi ⊢;have:=zNh p l i (by simpa using h) (by omega);simp only[List.getElem_cons_succ];exact⟨fun h=>by have:=this.1 h;omega,fun h=>by have:=this.2 h;omega⟩
theorem zRH(p:List UInt8×Int->Bool)(l:NM):l.take (l.takeWhile p).length=l.takeWhile p:=by
 have:=List.takeWhile_append_dropWhile (p:=p) (l:=l)
 conv=>lhs;rw[<-this]
 rw[List.take_left' ?_];rw[this]
theorem zWD(l:NM)(k:List UInt8)(z:Int)(hl:l.length<=1000000000) :
   Ct Pz 189 [.sl 0 0 l.length 2 false,.agg [.str k,.int .i64 z]] [.cells false (ndA l)] (.sl 1 0 (NM.wi l k z).length 2 false) [.cells false (ndA l),.cells true (ndA (NM.wi l k z))]:=by
 have hΓ:GOk Pz (zZ []):=zC;have hA0:∀rn:List Nat,AWs rn (ndA l) (ndA l):=fun rn=>AWs.refl _ _ (zAC l);have hAo:∀(o:NM) (rn:List Nat),AWs rn (ndA o) (ndA o):=fun o rn=>AWs.refl _ _ (zAC o);obtain⟨n,hn⟩:∃n,l.length=n:=⟨_,rfl⟩
 have hfl:(ndA l).length=n*2:=by rw[ZB,hn]
 obtain⟨P,hP⟩:∃P:List UInt8×Int->Bool,P=fun e=>Op.bytesLess e.1 k:=⟨_,rfl⟩
 obtain⟨tw,htw⟩:∃t,l.takeWhile P=t:=⟨_,rfl⟩
 have hwi:NM.wi l k z=tw++(k,z)::l.filter (gtN k):=by rw[<-htw,hP];rfl
 have htwl:tw.length<=n:=by rw[<-htw,<-hn];exact (List.takeWhile_prefix _).length_le
 have htk:l.take tw.length=tw:=by rw[<-htw];exact zRH P l
 refine zE Tryz.func189 rfl ?_;simp only[Tryz.ntmps189,q7Z,q8Z,Nat.reduceAdd,Nat.reduceSub,qbZ,q9Z,qaZ];rw[hn];refine wS hΓ (by simp;exact wR) ?_;refine wS hΓ (by simp;exact wR) ?_;refine Sim.seq (wS hΓ (by simp;exact wR) ?_);refine Sim.block (Sim.mono (Q:=fun e' F' H'=>e'=.exit 0/\Weak 1 F' H' ([.sl 0 0 n 2 false,.top,.top,.ptr 1 0,.top,.sl 2 0 tw.length 2 false]++qbZ 51 .top) [.cells false (ndA l),.cells true [.str k,.int .i64 z],.cells true (ndA tw)]) (Sim.loopW (fun i:Nat=>i<=tw.length)
   (fun i=>[.sl 0 0 n 2 false,.top,.top,.ptr 1 0,.top,.sl 2 0 i 2 false,.int .i64 i]++qbZ 50 .top)
   (fun i=>[.cells false (ndA l),.cells true [.str k,.int .i64 z],.cells true (ndA (l.take i))]) (fun i=>tw.length-i) 0 (by simp) (qqZ _) (wW [0,1,100] (by simp[AWb,AWg,AW])) fun i hi=>?_) ?_)
 · by_cases hlt:i<n
   · have hil:i<l.length:=by omega
     have hiI:(i:Int)<n:=by omega
     obtain⟨f1,f2⟩:=zDt l i hil;have g1:=zEr l i hil;have hta:=zNh P l i hil (by rw[htw];exact hi);rw[htw]at hta;have hap0:=List.take_succ_eq_append_getElem hil;obtain⟨⟨a,m⟩,hx⟩:∃x,l[i]=x:=⟨_,rfl⟩
     rw[hx]at f1 f2 g1 hta hap0;have hPa:P (a,m)=Op.bytesLess a k:=by rw[hP]
     rw[hPa]at hta;dsimp only at f1 f2 g1;have i1:i*2<n*2:=by omega
     have i2:i*2+2<=n*2:=by omega
     have i6:i*2+2<=l.length*2:=by omega
     have i8:i*2<l.length*2:=by omega
     have i9:(i+1)*24<=140737488355328:=by omega
     have i10:i+1<=9223372036854775807:=by omega
     have y1:IntKind.i64.wrap ((i:Int)+1)=i+1:=zI (by omega) (by omega);obtain⟨out,hout⟩:∃o,l.take i=o:=⟨_,rfl⟩
     have hM:out.length=i:=by rw[<-hout,qjZ];omega
     have hol:(ndA out).length=i*2:=by rw[ZB,hM]
     have htk2:=zAt hM;have hco:=zCD out;rw[hout]at hap0 ⊢;have hap:ndA out++[.str a,.int .i64 m]=ndA (l.take (i+1)):=by rw[hap0,zB9];rfl
     cases hb:Op.bytesLess a k with
     | true =>
       rw[hb]at hta;have:=hta.1 rfl;refine wS hΓ (by simp +decide [hiI,f1,i8,hb];first | exact wR | exact⟨by kernel_rfl,wR⟩) ?_;refine Sim.seq (Sim.block (wE hΓ (by simp +decide [hlt,g1,i6,i9,i10,hol,htk2,hap];exact wT) ?_));dsimp only;refine wE hΓ (by simp[y1];exact wT) ?_;exact⟨i+1,by omega,wW [0,1,4] (by simp[AWb,AWg,AW]),by omega⟩
     | false =>
       rw[hb]at hta;have:=hta.2 rfl;refine wE hΓ (by simp +decide [hiI,f1,i8,hb];first | exact⟨rfl,rfl,rfl⟩ | exact⟨by kernel_rfl,rfl,rfl,rfl⟩) ?_;refine ⟨rfl,?_⟩;rw[<-hout,<-this,htk];exact wW [0,1,2] (by simp[AWb,AWg,AW])
   · have hie:i=n:=by omega
     have hit:i=tw.length:=by omega
     have hnI:¬(i:Int)<n:=by omega
     refine wE hΓ (by simp +decide [hnI];first | exact⟨rfl,rfl,rfl⟩ | exact⟨by kernel_rfl,rfl,rfl,rfl⟩) ?_;refine ⟨rfl,?_⟩;rw[hit,htk];exact wW [0,1,2] (by simp[AWb,AWg,AW])
 rintro _ F7 H7 hl7 ⟨rfl,hw7⟩;dsimp only;rw[if_pos rfl];refine Sim.weak hw7 hl7 ?_;clear hw7 hl7 F7 H7;dsimp only[qbZ,q9Z,qaZ];obtain⟨M,hM⟩:∃M,tw.length=M:=⟨_,rfl⟩
 rw[hM]at htwl ⊢;have hol:(ndA tw).length=M*2:=by rw[ZB,hM]
 have htk3:=zAt hM;have hco:=zCD tw;have i9:(M+1)*24<=140737488355328:=by omega
 have i10:M+1<=9223372036854775807:=by omega
 have hap:ndA tw++[.str k,.int .i64 z]=ndA (tw++[(k,z)]):=by rw[zB9];rfl
 refine wS hΓ (by simp +decide [i9,i10,hol,htk3,hap];exact wR) ?_;refine Sim.seq (wS hΓ (by simp +decide;exact wR) ?_);obtain⟨G,hG⟩:∃G:Nat->NM,∀i,G i=tw++[(k,z)]++(l.take i).filter (gtN k):=⟨_,fun _=>rfl⟩
 have hG0:G 0=tw++[(k,z)]:=by rw[hG];simp
 have hGn:G n=NM.wi l k z:=by rw[hG,hwi,q6Z (by omega)];simp
 have hGl:∀i,(G i).length<=M+1+i:=fun i=>by
   rw[hG];have:=List.length_filter_le (gtN k) (l.take i);rw[qjZ]at this;simp only[qdZ,q7Z,q8Z];omega
 have hGs:∀i (h:i<l.length),G (i+1)=if gtN k l[i]=true then G i++[l[i]] else G i:=fun i h=>by
   rw[hG,hG,zTi _ _ _ h];split
   · simp
   · rfl
 refine Sim.block (Sim.loopW (fun i:Nat=>i<=n)
   (fun i=>[.sl 0 0 n 2 false,.top,.top,.ptr 1 0,.top,.sl 2 0 (G i).length 2 false,.top,.int .i64 i]++qbZ 49 .top)
   (fun i=>[.cells false (ndA l),.cells true [.str k,.int .i64 z],.cells true (ndA (G i))]) (fun i=>n-i) 0 (by simp) (qqZ _) (Weak.mk' [0,1,4] (by decide) (by decide) (by simp[hG0,hM]) (by simp[AWb,AWg,AW,hG0])) fun i hi=>?_)
 by_cases hlt:i<n
 · have hil:i<l.length:=by omega
   have hiI:(i:Int)<n:=by omega
   obtain⟨f1,f2⟩:=zDt l i hil;have g1:=zEr l i hil;have hGi:=hGs i hil;have hGb:=hGl i;obtain⟨⟨a,m⟩,hx⟩:∃x,l[i]=x:=⟨_,rfl⟩
   rw[hx]at f1 f2 g1 hGi;dsimp only at f1 f2 g1;have hgt:gtN k (a,m)=!(Op.bytesLess a k || a==k):=rfl;rw[hgt]at hGi;obtain⟨out,hout⟩:∃o,G i=o:=⟨_,rfl⟩
   rw[hout]at hGi hGb ⊢;obtain⟨L,hL⟩:∃L,out.length=L:=⟨_,rfl⟩
   rw[hL]at hGb ⊢;have hol:(ndA out).length=L*2:=by rw[ZB,hL]
   have htk4:=zAt hL;have hco:=zCD out;have i1:i*2<n*2:=by omega
   have i2:i*2+2<=n*2:=by omega
   have i6:i*2+2<=l.length*2:=by omega
   have i8:i*2<l.length*2:=by omega
   have i9:(L+1)*24<=140737488355328:=by omega
   have i10:L+1<=9223372036854775807:=by omega
   have y1:IntKind.i64.wrap ((i:Int)+1)=i+1:=zI (by omega) (by omega);have hap:ndA out++[.str a,.int .i64 m]=ndA (out++[(a,m)]):=by rw[zB9];rfl
   refine wS hΓ (by simp[hiI];exact wR) ?_;by_cases hc:Op.bytesLess a k=false/\¬a=k
   · have hcT:(Op.bytesLess a k=false/\¬a=k)=True:=eq_true hc
     have hcb:(!(Op.bytesLess a k || a==k))=true:=by simp[hc.1,hc.2]
     rw[if_pos hcb]at hGi;refine Sim.seq (Sim.block ?_);refine wS hΓ (by simp +decide [hlt,f1,i8];first | exact wR | exact⟨by kernel_rfl,wR⟩) ?_;refine wE hΓ (by simp +decide [hcT,hlt,g1,i6,i9,i10,hol,htk4,hap];exact wT) ?_;dsimp only;refine wE hΓ (by simp[y1];exact wT) ?_;exact⟨i+1,by omega,Weak.mk' [0,1,4] (by decide) (by decide) (by simp[hGi,hL]) (by simp[AWb,AWg,AW,hGi]),by omega⟩
   · have hcF:(Op.bytesLess a k=false/\¬a=k)=False:=eq_false hc
     have hcb:¬(!(Op.bytesLess a k || a==k))=true:=by
       intro h;apply hc;simpa using h
     rw[if_neg hcb]at hGi;refine Sim.seq (Sim.block ?_);refine wS hΓ (by simp +decide [hlt,f1,i8];first | exact wR | exact⟨by kernel_rfl,wR⟩) ?_;refine wE hΓ (by simp[hcF];exact wT) ?_;dsimp only;refine wE hΓ (by simp[y1];exact wT) ?_;exact⟨i+1,by omega,Weak.mk' [0,1,2] (by decide) (by decide) (by simp[hGi,hL]) (by simp[AWb,AWg,AW,hGi]),by omega⟩
 · have hie:i=n:=by omega
   subst hie;rw[hGn];refine wE hΓ (by simp;exact wT) ?_;dsimp only;rw[if_pos rfl];refine wE hΓ (by simp;exact wT) ?_;exact⟨.inr rfl,_,by simp[Tryz.f189] <;> rfl,wW [0,2] (by simp[AWb,AWg])⟩
def zW0:zJ:=zAs fun args H=>match args with
 | [x,.agg [.str k,.int .i64 z]]=>match zIT H x with
   | some l=>if l.length<=1000000000 then some (.sl 0 0 (NM.wi l k z).length 2 false,[.cells true (ndA (NM.wi l k z))]) else none
   | none=>none
 | _=>none
theorem zTU:Sound Pz 189 zW0:=by
 refine zCh (zD Tryz.func189 rfl (by decide)) fun args H v N h=>?_;split at h <;> try cases h
 rename_i x k z;split at h <;> try cases h
 rename_i l hx;split at h <;> cases h
 rename_i hc;obtain⟨b1,o1,w1,g1⟩:=zKs hx;refine zL2 (H0:=[.cells false (ndA l)]) (args0:=[.sl 0 0 l.length 2 false,.agg [.str k,.int .i64 z]]) ?_ rfl [(b1,o1)] ⟨w1 0 _ rfl,by simp[zC3,zBn],trivial⟩ ⟨g1,zAC _,trivial⟩;have:=zWD l k z hc;simpa[shA,shB] using this
theorem NM.get_at:∀{W:NM} {s:List UInt8} {i:Nat} (h:i<W.length),(∀j (hj:j<W.length),j<i->W[j].1≠s)->W[i].1=s->NM.get W s=some W[i].2
 | a::W,s,0,_,_,h=>by simp only[List.getElem_cons_zero]at h ⊢;simp[NM.get,h]
 | a::W,s,i+1,hl,h0,h=>by
   have h1:=h0 0 (by simp) (by omega);simp only[List.getElem_cons_zero]at h1;simp only[List.getElem_cons_succ]at h ⊢;unfold NM.get;rw[if_neg h1];exact NM.get_at (by simpa using hl) (fun j hj hji=>by have:=h0 (j+1) (by simpa using hj) (by omega);simpa using this) h
theorem NM.get_no{W:NM}{s:List UInt8}(h:∀j (hj:j<W.length),W[j].1≠s):NM.get W s=none:=by
 rw[NM.get_none];intro hm;obtain⟨e,he,hs⟩:=reZ.1 hm;obtain⟨i,hi,rfl⟩:=List.getElem_of_mem he;exact h i hi hs
theorem zWt(H:zA)(b m n k L:Nat)(o o2 c c2:Bool)(x:AV)(row:List AV)(h1:H[b]? = some (.cells o [.sl m 0 n 1 c,x]))(h2:H[m]? = some (.cells o2 row))(h0:0<n)(hn:n<=row.length)(hn2:n<=1000000000)(h3:row[n-1]? = some (.sl k 0 L 2 c2)) :
   Ct Pz 177 [.ptr b 0] H (.sl k 0 L 2 c2) H:=by
 obtain⟨p,rfl⟩:∃p,n=p+1:=⟨n-1,by omega⟩
 rw[Nat.add_sub_cancel]at h3;have h3':∀h,row[p]'h=.sl k 0 L 2 c2:=fun h=>(q1Z.1 h3).2;have w1:IntKind.i64.wrap ((p:Int)+1)=p+1:=zI (by omega) (by omega);have w2:IntKind.i64.wrap (p:Int)=p:=zI (by omega) (by omega);have w3:IntKind.i64.wrap ((p:Int)+1-1)=p:=by rw[show (p:Int)+1-1=p by omega];exact w2
 have l1:p<row.length:=by omega
 have l2:(p:Int)<p+1:=by omega
 have l3:p+1<=row.length:=hn;refine zL Tryz.func177 rfl ?_;simp only[Tryz.ntmps177,q7Z,q8Z,Nat.reduceAdd,Nat.reduceSub,qbZ,q9Z,qaZ];refine wS zC (by simp;exact wR) ?_;refine wS zC (by simp +decide [h1,h2,h3',w2,l1,l2];first | exact wR | exact⟨by kernel_rfl,wR⟩) ?_;refine wE zC (by simp;exact wT) ?_;exact⟨.inr rfl,by simp[Tryz.f177],rfl⟩
def zFC:zJ:=ZS fun args H=>match args with
 | [.ptr b 0]=>match H[b]? with
   | some (.cells _ [.sl m 0 n 1 _,_])=>match H[m]? with
     | some (.cells _ row)=>if 0<n/\n<=row.length/\n<=1000000000 then match row[n-1]? with
       | some (.sl k 0 L 2 c)=>some (.sl k 0 L 2 c)
       | _=>none else none
     | _=>none
   | _=>none
 | _=>none
theorem zJE:Sound Pz 177 zFC:=by
 refine Zm (zD Tryz.func177 rfl (by decide)) fun args H v h=>?_;split at h <;> try cases h
 split at h <;> try cases h
 rename_i hb;split at h <;> try cases h
 rename_i hm;split at h <;> try cases h
 rename_i hc;split at h <;> cases h
 rename_i hr;exact zWt H _ _ _ _ _ _ _ _ _ _ _ hb hm hc.1 hc.2.1 hc.2.2 hr
def zYd:Gam:=zZ [(177,zFC)]
theorem zN1:GOk Pz zYd:=zB zJE zC
def Zs(W:NM)(s:List UInt8):AV:=match NM.get W s with
 | some n=>.tuple [.int .i64 n,.bool true]
 | none=>.tuple [.int .i64 0,.bool false]
theorem zLb(H:zA)(b k:Nat)(o c:Bool)(W:NM)(s:List UInt8)(hN:zFC [.ptr b 0] H=some (.sl k 0 W.length 2 c,H,[]))(hk:H[k]? = some (.cells o (ndA W)))(hW:W.length<=1000000000){v:AV}
   (hv:v=Zs W s) :
   Ct Pz 178 [.ptr b 0,.str s] H v H:=by
 have hΓ:=zN1;obtain⟨n,hn⟩:∃n,W.length=n:=⟨_,rfl⟩
 have hfl:(ndA W).length=n*2:=by rw[ZB,hn]
 rw[hn]at hN hW;refine zL Tryz.func178 rfl ?_;simp only[Tryz.ntmps178,q7Z,q8Z,Nat.reduceAdd,Nat.reduceSub,qbZ,q9Z,qaZ];refine wS hΓ (by simp;exact wR) ?_;refine wS hΓ (by simp[zYd,hN];exact wR) ?_;refine Sim.seq (wS hΓ (by simp;exact wR) ?_);refine Sim.block (Sim.loopS (fun i:Nat=>i<=n/\∀j (hj:j<W.length),j<i->W[j].1≠s)
   (fun i=>[.ptr b 0,.str s,.top,.top,.int .i64 0,.bool false,.sl k 0 n 2 c,.int .i64 i]++qbZ 20 .top)
   (fun _=>H) (fun i=>n-i) 0 (by simp) ⟨qqZ _,fun j _ h=>by omega⟩ ⟨by simp,rfl⟩ fun i hi=>?_)
 obtain⟨hi,hb⟩:=hi;by_cases hlt:i<n
 · have hil:i<W.length:=by omega
   have hiI:(i:Int)<n:=by omega
   obtain⟨f1,f2⟩:=zDt W i hil;obtain⟨f3,f4⟩:=zSi W i hil;have hgt:=NM.get_at hil hb;obtain⟨⟨a,m⟩,hx⟩:∃x,W[i]=x:=⟨_,rfl⟩
   have hx1:W[i].1=a:=by rw[hx]
   rw[hx]at f1 f2 f3 f4 hgt;dsimp only at f1 f2 f3 f4 hgt;have i1:i*2<n*2:=by omega
   have i2:i*2+2<=n*2:=by omega
   have i3:i*2+1<n*2:=by omega
   have i6:i*2+2<=W.length*2:=by omega
   have i8:i*2<W.length*2:=by omega
   have i7:i*2+1<W.length*2:=by omega
   have y1:IntKind.i64.wrap ((i:Int)+1)=i+1:=zI (by omega) (by omega);refine wS hΓ (by simp[hiI];exact wR) ?_;by_cases he:a=s
   · have he3:(a==s)=true:=by simp[he]
     refine Sim.seq (Sim.block (wE hΓ (by simp +decide [hk,hlt,f1,f3,i7,i8,he];exact wT) ?_));unfold Zs at hv;rw[hgt he]at hv;dsimp only at hv ⊢;subst hv;exact⟨.inr rfl,by simp[Tryz.f178],rfl⟩
   · have he3:(a==s)=false:=by simp[he]
     refine Sim.seq (Sim.block (wE hΓ (by simp +decide [hk,hlt,f1,i8,he3];exact wT) ?_));dsimp only;refine wE hΓ (by simp[y1];exact wT) ?_;refine ⟨i+1,⟨by omega,fun j hj hji=>?_⟩,⟨by simp,rfl⟩,by omega⟩;by_cases e:j=i
     · subst e;rw[hx1];exact he
     · exact hb j hj (by omega)
 · have hie:i=n:=by omega
   subst hie;unfold Zs at hv;rw[NM.get_no fun j hj=>hb j hj (by omega)]at hv;dsimp only at hv;subst hv;refine wE hΓ (by simp;exact wT) ?_;dsimp only;rw[if_pos rfl];refine wE hΓ (by simp;exact wT) ?_;exact⟨.inr rfl,by simp[Tryz.f178],rfl⟩
theorem RF.now_get{r:RF}(h:0<r.was.length):r.was[r.was.length-1]? = some r.now:=by
 unfold RF.now;rw[q2Z,q3Z (by omega)];rfl
theorem RF.blks_head(r:RF):r.blks=.cells true [.sl 1 0 r.was.length 1 false,.int .i64 r.last]::.cells true (zAl (fun i=>i+2) 0 r.was)::ZX r.was:=rfl
theorem zLM(r:RF){B:Nat}(h:r.ok B)(hB:B<=1000000){x:Int}{T:zA}:zFC [.ptr 0 0] (.cells true [.sl 1 0 r.was.length 1 false,.int .i64 x]::.cells true (zAl (fun i=>i+2) 0 r.was)::(ZX r.was++T)) =
   some (.sl (r.was.length+1) 0 r.now.length 2 false,.cells true [.sl 1 0 r.was.length 1 false,.int .i64 x]::.cells true (zAl (fun i=>i+2) 0 r.was)::(ZX r.was++T),[]):=by
 have h1:=zDc (fun i=>i+2) r.was 0 _ _ (RF.now_get h.ne);have h2:=h.len;have h3:=h.ne;rw[show 0+(r.was.length-1)+2=r.was.length+1 by omega]at h1;simp[zFC,ZS,h1,h3,show r.was.length<=1000000000 by omega]
def zBR:zJ:=ZS fun args H=>match args with
 | [.ptr b 0,.str s]=>match H[b]? with
   | some (.cells _ [.sl m 0 n 1 _,_])=>match H[m]? with
     | some (.cells _ row)=>if 0<n/\n<=row.length/\n<=1000000000 then match row[n-1]? with
       | some (.sl k 0 L 2 _)=>match H[k]? with
         | some (.cells _ l)=>match ndOf l with
           | some W=>if L=W.length/\L<=1000000000 then some (Zs W s) else none
           | none=>none
         | _=>none
       | _=>none else none
     | _=>none
   | _=>none
 | _=>none
theorem zMo:Sound Pz 178 zBR:=by
 refine Zm (zD Tryz.func178 rfl (by decide)) fun args H v h=>?_;split at h <;> try cases h
 split at h <;> try cases h
 rename_i hb;split at h <;> try cases h
 rename_i hm;split at h <;> try cases h
 rename_i hc;split at h <;> try cases h
 rename_i kk LL cc hr;split at h <;> try cases h
 rename_i hk;split at h <;> try cases h
 rename_i W hW;split at h <;> cases h
 rename_i hL;obtain⟨rfl,hL2⟩:=hL;rw[zR4 hW]at hk;refine zLb H _ kk _ cc W _ ?_ hk hL2 rfl;simp only[zFC,ZS,hb,hm];rw[if_pos hc,hr];rfl
theorem FAt.close{H:zA}{r:RF}{x:AV}{m:Nat}{g:Nat->Nat}(h:FAt H r x 0 m g){n0:Nat}(h01:n0<=1){F:List AV}(Fn:List AV){K:List AV->zA->Prop}(hF:AWs [0] Fn F)(hk:K Fn [.obj true r.blks]):Aft n0 F H K:=by
 have hbl:0<H.length:=(q1Z.1 h.c0).1;refine Aft.close (o:=true) (b:=0) (sub:=r.blks) (rs:=0::m::(List.range r.was.length).map g) (ks:=m::(List.range r.was.length).map g) rfl h.nd hbl ?_ (h.awg _ fun _ _=>rfl) ⟨r.cell0 1,rfl,rfl⟩ ?_ (by omega) ?_
 · intro c y hc hcb _ _
   exact (qwZ.1 hc).resolve_left hcb
 · intro i y hy hd
   have hm:=qcZ hy;simp only[RF.blks,RF.cell0,qwZ]at hm;rcases hm with rfl | rfl | hm
   · rfl
   · rfl
   · obtain⟨e,_,rfl⟩:=reZ.1 hm
     rfl
 · refine Aft.weak (Fn:=Fn) (Hn:=[.obj true r.blks]) (Weak.mk' [0] (by decide) ?_ hF (zM (b:=0) hbl _ _ rfl fun i c x h1 h2=>?_)) (by simp;omega) (Aft.done (by simp;omega) hk)
   · obtain rfl | rfl:n0=0\/n0=1:=by omega
     · rfl
     · rfl
   · match i,h1,h2 with
     | 0,h1,h2=>cases h1;cases h2;exact .inl ⟨rfl,rfl⟩
theorem zIE(r:RF):zY [.obj true r.blks] 0 r.blks=.cells true [.sl 1 0 r.was.length 1 false,.int .i64 r.last]::.cells true (zAl (fun i=>i+2) 0 r.was)::ZX r.was:=by
 have hg:∀i,Zr 0 1 i=i:=fun i=>by unfold Zr;split <;> omega
 unfold zY;rw[RF.blks_head];simp only[q7Z,q8Z,List.getD_cons_zero,s9Z,List.drop_succ_cons,List.drop_zero,q9Z,qaZ,s8Z];rw[zEQ hg,List.map_congr_left (fun B _=>zEQ hg B)];simp
theorem FAt.same(r:RF)(x:Int)(T:zA):FAt (.cells true [.sl 1 0 r.was.length 1 false,.int .i64 x]::.cells true (zAl (fun i=>i+2) 0 r.was)::(ZX r.was++T)) ⟨r.was,x⟩ (.sl 1 0 r.was.length 1 false) 0 1 (fun i=>i+2):=by
 refine ⟨rfl,.inl rfl,rfl,fun i W h=>?_,?_⟩
 · simp only[r9Z]
   rw[q4Z (by rw[zAB];exact (q1Z.1 h).1)];exact Zp h
 · dsimp only
   rw[rdZ,rdZ];refine ⟨fun h=>?_,fun h=>?_,?_⟩
   · rcases qwZ.1 h with h | h
     · omega
     · obtain⟨a,_,h⟩:=reZ.1 h;omega
   · obtain⟨a,_,h⟩:=reZ.1 h;omega
   · rw[List.nodup_iff_pairwise_ne,List.pairwise_map]
     exact (List.nodup_iff_pairwise_ne.1 List.nodup_range).imp fun h e=>h (by omega)
theorem FAt.more(r:RF)(x:Int)(W:NM)(y:AV)(m q:Nat)(T:zA)(o:ABlk){R:List AV}(hR:R=zAl (fun i=>i+2) 0 r.was++[.sl q 0 W.length 2 false])
   (hm:(.cells true [y,.int .i64 x]::o::(ZX r.was++T))[m]? = some (.cells true R)) (hq:(.cells true [y,.int .i64 x]::o::(ZX r.was++T))[q]? = some (.cells true (ndA W)))
   (h1:r.was.length+2<=m) (h2:r.was.length+2<=q) (h3:m≠q) (hy:y=.sl m 0 (r.was.length+1) 1 false\/∃c,y=.slice m 0 (r.was.length+1) 1 c) :
   FAt (.cells true [y,.int .i64 x]::o::(ZX r.was++T)) ⟨r.was++[W],x⟩ y 0 m (fun i=>if i<r.was.length then i+2 else q):=by
 refine ⟨rfl,by simpa using hy,?_,fun i V h=>?_,?_⟩
 · rw[hm,hR,zHd,zIU r.was 0 (g':=fun i=>if i<r.was.length then i+2 else q) fun i _ hi=>(if_pos (by omega)).symm]
   simp[zAl]
 · dsimp only at h ⊢
   rcases Nat.lt_trichotomy i r.was.length with h1 | h1 | h1
   · rw[q4Z h1]at h
     rw[if_pos h1];simp only[r9Z];rw[q4Z (by rw[zAB];exact h1)];exact Zp h
   · subst h1
     rw[q5Z (qnZ _),Nat.sub_self]at h;cases h;rw[if_neg (rnZ _)];exact hq
   · rw[s4Z (by simp;omega)]at h;cases h
 · dsimp only
   have hg:∀a,a<(r.was++[W]).length->a<r.was.length/\(if a<r.was.length then a+2 else q)=a+2\/a=r.was.length/\(if a<r.was.length then a+2 else q)=q:=fun a ha=>by
     simp at ha;by_cases h:a<r.was.length
     · exact .inl ⟨h,if_pos h⟩
     · exact .inr ⟨by omega,if_neg h⟩
   rw[rdZ,rdZ];refine ⟨fun h=>?_,fun h=>?_,?_⟩
   · rcases qwZ.1 h with h | h
     · omega
     · obtain⟨a,ha,h⟩:=reZ.1 h
       rcases hg a (List.mem_range.1 ha) with⟨_,e⟩ | ⟨_,e⟩ <;> omega
   · obtain⟨a,ha,h⟩:=reZ.1 h
     rcases hg a (List.mem_range.1 ha) with⟨_,e⟩ | ⟨_,e⟩ <;> omega
   · rw[List.nodup_iff_pairwise_ne,List.pairwise_map,List.pairwise_iff_getElem]
     intro a b ha hb hab;simp only[List.length_range]at ha hb;simp only[List.getElem_range];rcases hg a ha with⟨_,e⟩ | ⟨_,e⟩ <;> rcases hg b hb with⟨_,f⟩ | ⟨_,f⟩ <;> omega
theorem FAt.one{H:zA}{x:Int}{W:NM}{y:AV}{m k:Nat}(h0:H[0]? = some (.cells true [y,.int .i64 x]))(hm:H[m]? = some (.cells true [.sl k 0 W.length 2 false]))(hk:H[k]? = some (.cells true (ndA W)))(h1:0<m)(h2:0<k)(h3:m≠k)
   (hy:y=.sl m 0 1 1 false\/∃c,y=.slice m 0 1 1 c):FAt H ⟨[W],x⟩ y 0 m (fun _=>k):=by
 refine ⟨h0,hy,hm,fun i V h=>?_,?_⟩
 · match i,h with
   | 0,h=>cases h;exact hk
   | i+1,h=>simp at h
 · simp[List.range,List.range.loop]
   omega
def zAK:List FuncId:=[188,187,176]
def zDm:Gam:=zZ [(177,zFC),(178,zBR),(189,zW0),(290,zWZ)]
theorem zF4:GOk Pz (zAV Pz zDm 0 zAK 2):=zp hmix (zB zJE (zB zMo (zB zTU (zB zS0 zC)))) 0 zAK 2
theorem zZQ(l:NM)(k:List UInt8):(NM.wo l k).length<=l.length:=List.length_filter_le _ _
theorem zRL(r:RF){B:Nat}(h:r.ok B)(hB:B<=1000000)(s:List UInt8)(hs:s.length<=9223372036854775807) :
   Ct Pz 93 [.ptr 0 0,.str s] [.obj true r.blks] (.tuple [.int .i64 (r.create s).2.1,.int .i64 (r.create s).2.2]) [.obj true (r.create s).1.blks]:=by
 have hΓ:=zF4;obtain⟨p,hp⟩:∃p,r.was.length=p+1:=⟨r.was.length-1,by have:=h.ne;omega⟩
 have hpB:p<=1000000:=by have:=h.len;omega
 have b1:(p+1)*24<=140737488355328:=Nat.le_trans (Nat.mul_le_mul_right 24 (Nat.succ_le_succ hpB)) (by decide);have b2:p+1<=9223372036854775807:=Nat.le_trans (Nat.succ_le_succ hpB) (by decide);have b3:(p+1+1)*24<=140737488355328:=Nat.le_trans (Nat.mul_le_mul_right 24 (Nat.succ_le_succ (Nat.succ_le_succ hpB))) (by decide);have b4:p+1+1<=9223372036854775807:=Nat.le_trans (Nat.succ_le_succ (Nat.succ_le_succ hpB)) (by decide);have hR:=zDc (fun i=>i+2) r.was 0 _ _ (RF.now_get h.ne);have hXn:=Zp (RF.now_get h.ne);have hRl:=zBW (fun i=>i+2) 0 r.was;have hXl:=zAB r.was;have hRc:=zBZ (fun i=>i+2) r.was 0;have hsame:=FAt.same r;have hmore:=FAt.more r;have hWB:r.now.length<=1000000:=Nat.le_trans (h.row _ (qcZ (RF.now_get h.ne))) hB;have hlo:=h.lo;have hhi:=h.hi;rw[hp]at hR hXn hRl hXl hsame hmore;rw[Nat.add_sub_cancel]at hR hXn;rw[show 0+p+2=p+1+1 by omega]at hR;refine zE Tryz.func93 rfl ?_;simp only[Tryz.ntmps93,q7Z,q8Z,Nat.reduceAdd,Nat.reduceSub,qbZ,q9Z,qaZ];refine Sim.aft (Aft.open (b:=0) rfl (by simp) (Aft.done (by simp[zY]) ?_));rw[zIE,hp];obtain⟨R,eR⟩:∃R,zAl (fun i=>i+2) 0 r.was=R:=⟨_,rfl⟩
 obtain⟨X,eX⟩:∃X,ZX r.was=X:=⟨_,rfl⟩
 obtain⟨W,eW⟩:∃W,r.now=W:=⟨_,rfl⟩
 obtain⟨a,ea⟩:∃a,r.last=a:=⟨_,rfl⟩
 rw[eR,ea];rw[eX]at hXn hXl hsame hmore ⊢;rw[eR]at hR hRl hRc hsame hmore;rw[eW]at hR hXn hWB;rw[ea]at hlo hhi;obtain⟨L,eL⟩:∃L,W.length=L:=⟨_,rfl⟩
 rw[eL]at hR hWB;have hR':∀h,R[p]'h=.sl (p+1+1) 0 L 2 false:=fun h=>(q1Z.1 hR).2;have hpR:p<R.length:=by omega
 have hRt:R.take (p+1)=R:=q6Z (by omega);have hXT:∀T,(X++T)[p]? = some (.cells true (ndA W)):=fun T=>by rw[q4Z (by omega)];exact hXn
 have hXn':∀h,X[p]'h=.cells true (ndA W):=fun h=>(q1Z.1 hXn).2;have hXT':∀T h,(X++T)[p]'h=.cells true (ndA W):=fun T h=>(q1Z.1 (hXT T)).2;have hne:(p+1 != p)=true:=by simp
 have hBX:=ZC X hXl;have hXg:=hBX.get;have hXg0:=hBX.get0;have hXs:=hBX.set;have hXs0:=hBX.set0;have n1:p+1<=1000000000:=by omega
 have n2:L<=1000000000:=by omega
 have hndW:(ndA W).take (L*2)=ndA W:=zAt eL;have hndl:(ndA W).length=L*2:=by rw[ZB,eL]
 unfold RF.create;rw[eW,ea];have hsm:=fun T=>hsame a T;rw[show (⟨r.was,a⟩:RF)=r by rw[<-ea]]at hsm;have hsm0:=hsm [];rw[r2Z]at hsm0;refine wS hΓ (by simp;exact wR) ?_;by_cases hm:zNI s;rotate_left
 · rw[if_neg hm]
   dsimp only;obtain⟨u,v,hfv⟩:∃u v,Zs W s=.tuple [.int .i64 u,.bool v]:=by
     unfold Zs;cases NM.get W s with
     | some z=>exact⟨_,_,rfl⟩
     | none=>exact⟨_,_,rfl⟩
   refine wS hΓ (by simp[zAK,zDm,zBR,ZS,hRl,hR',hXn,eL,n1,n2,hfv];exact wR) ?_;by_cases h0:s=[]
   · subst h0
     refine Sim.after (wE hΓ (by simp[zAK,Tryz.f187];exact wT) ?_);exact hsm0.close (qnZ 1) ([.top,.top,.top,.top,.int .i64 0,.int .i64 2]++qbZ 34 .top) (by simp[AWs,AW]) ⟨.inr rfl,_,by simp[Tryz.f93] <;> rfl,Weak.mk' [0] (by decide) rfl (by simp) (by simp[AWb])⟩
   · have h1:0<s.length:=List.length_pos_iff.2 h0
     have h2:¬s.length<=64:=fun h=>hm ⟨h1,h⟩;have h2i:¬(s.length:Int)<=64:=by omega
     have h1i:(0:Int)<s.length:=by omega
     refine Sim.after (wE hΓ (by simp[zAK,Tryz.f187,h1,h2i];exact wT) ?_);exact hsm0.close (qnZ 1) ([.top,.top,.top,.top,.int .i64 0,.int .i64 2]++qbZ 34 .top) (by simp[AWs,AW]) ⟨.inr rfl,_,by simp[Tryz.f93] <;> rfl,Weak.mk' [0] (by decide) rfl (by simp) (by simp[AWb])⟩
 rw[if_pos hm];have h1:0<s.length:=hm.1;have h1i:(0:Int)<s.length:=by omega
 have h2:s.length<=64:=hm.2;have h2i:(s.length:Int)<=64:=by omega
 cases hg:NM.get W s with
 | some z =>
   have hfv:Zs W s=.tuple [.int .i64 z,.bool true]:=by unfold Zs;rw[hg]
   refine wS hΓ (by simp[zAK,zDm,zBR,ZS,hRl,hR',hXn,eL,n1,n2,hfv];exact wR) ?_;refine Sim.after (wE hΓ (by simp[zAK,Tryz.f187,h1,h2i];exact wT) ?_);exact hsm0.close (qnZ 1) ([.top,.top,.top,.top,.int .i64 0,.int .i64 8]++qbZ 34 .top) (by simp[AWs,AW]) ⟨.inr rfl,_,by simp[Tryz.f93] <;> rfl,Weak.mk' [0] (by decide) rfl (by simp) (by simp[AWb])⟩
 | none =>
   have hfv:Zs W s=.tuple [.int .i64 0,.bool false]:=by unfold Zs;rw[hg]
   have hw:IntKind.i64.wrap (a+1)=a+1:=zI (by omega) (by omega);obtain⟨a1,ha1⟩:∃x,a+1=x:=⟨_,rfl⟩
   rw[ha1]at hw ⊢;obtain⟨V,hV⟩:∃V,NM.wi W s a1=V:=⟨_,rfl⟩
   rw[hV];obtain⟨M,hM⟩:∃M,V.length=M:=⟨_,rfl⟩
   refine wS hΓ (by simp[zAK,zDm,zBR,ZS,hRl,hR',hXn,eL,n1,n2,hfv];exact wR) ?_;refine wS hΓ (by simp[zAK,Tryz.f187,h1,h2i];exact wR) ?_;refine wS hΓ (by simp;exact wR) ?_;refine wS hΓ (by simp[ha1,hw];exact wR) ?_;refine Sim.seq (Sim.draw hmix (by simp) ?_);refine SimR.many hΓ 10 (by simp[zF];rfl) (by omega) (by kernel_rfl) (by simp +decide [zAK,zDm,zFC,zW0,ZS,zAs,zIT,hRl,hR',hXn',hXl,eL,n1,n2,hndl,hndW,hV,hM,shA,shB,hne];first | exact wR | exact⟨by kernel_rfl,wR⟩) ?_;refine SimR.one hΓ _ rfl (by kernel_rfl) (by simp +decide [zAK,Tryz.f188,hRl,hRt,hRc,hXl,b1,b2,b3,b4];exact wR) ?_;refine SimR.done rfl ?_;dsimp only;refine Sim.after (wE hΓ (by simp;exact wT) ?_);exact (hmore a1 V _ (p+1+4+1+1) (p+1+1+1) _ _ (by rw[hM]) (by simp only[r9Z];exact hXg _ 4) (by simp only[r9Z];exact hXg0 _) (by omega) (by omega) (by omega) (.inr ⟨_,rfl⟩)).close
     (qnZ 1) ([.top,.top,.top,.top,.int .i64 a1,.int .i64 0]++qbZ 34 .top) (by simp[AWs,AW]) ⟨.inr rfl,_,by simp[Tryz.f93] <;> rfl,Weak.mk' [0] (by decide) rfl (by simp) (by simp[AWb])⟩
theorem zP9(r:RF){B:Nat}(h:r.ok B)(hB:B<=1000000)(s t:List UInt8)(ht:t.length<=9223372036854775807) :
   Ct Pz 295 [.ptr 0 0,.str s,.str t] [.obj true r.blks] (.int .i64 (r.rename s t).2) [.obj true (r.rename s t).1.blks]:=by
 have hΓ:=zF4;obtain⟨p,hp⟩:∃p,r.was.length=p+1:=⟨r.was.length-1,by have:=h.ne;omega⟩
 have hpB:p<=1000000:=by have:=h.len;omega
 have b1:(p+1)*24<=140737488355328:=Nat.le_trans (Nat.mul_le_mul_right 24 (Nat.succ_le_succ hpB)) (by decide);have b2:p+1<=9223372036854775807:=Nat.le_trans (Nat.succ_le_succ hpB) (by decide);have b3:(p+1+1)*24<=140737488355328:=Nat.le_trans (Nat.mul_le_mul_right 24 (Nat.succ_le_succ (Nat.succ_le_succ hpB))) (by decide);have b4:p+1+1<=9223372036854775807:=Nat.le_trans (Nat.succ_le_succ (Nat.succ_le_succ hpB)) (by decide);have hR:=zDc (fun i=>i+2) r.was 0 _ _ (RF.now_get h.ne);have hXn:=Zp (RF.now_get h.ne);have hRl:=zBW (fun i=>i+2) 0 r.was;have hXl:=zAB r.was;have hRc:=zBZ (fun i=>i+2) r.was 0;have hsame:=FAt.same r;have hmore:=FAt.more r;have hWB:r.now.length<=1000000:=Nat.le_trans (h.row _ (qcZ (RF.now_get h.ne))) hB;have hlo:=h.lo;have hhi:=h.hi;rw[hp]at hR hXn hRl hXl hsame hmore;rw[Nat.add_sub_cancel]at hR hXn;rw[show 0+p+2=p+1+1 by omega]at hR;refine zE Tryz.func295 rfl ?_;simp only[Tryz.ntmps295,q7Z,q8Z,Nat.reduceAdd,Nat.reduceSub,qbZ,q9Z,qaZ];refine Sim.aft (Aft.open (b:=0) rfl (by simp) (Aft.done (by simp[zY]) ?_));rw[zIE,hp];obtain⟨R,eR⟩:∃R,zAl (fun i=>i+2) 0 r.was=R:=⟨_,rfl⟩
 obtain⟨X,eX⟩:∃X,ZX r.was=X:=⟨_,rfl⟩
 obtain⟨W,eW⟩:∃W,r.now=W:=⟨_,rfl⟩
 obtain⟨a,ea⟩:∃a,r.last=a:=⟨_,rfl⟩
 rw[eR,ea];rw[eX]at hXn hXl hsame hmore ⊢;rw[eR]at hR hRl hRc hsame hmore;rw[eW]at hR hXn hWB;rw[ea]at hlo hhi;obtain⟨L,eL⟩:∃L,W.length=L:=⟨_,rfl⟩
 rw[eL]at hR hWB;have hR':∀h,R[p]'h=.sl (p+1+1) 0 L 2 false:=fun h=>(q1Z.1 hR).2;have hpR:p<R.length:=by omega
 have hRt:R.take (p+1)=R:=q6Z (by omega);have hXT:∀T,(X++T)[p]? = some (.cells true (ndA W)):=fun T=>by rw[q4Z (by omega)];exact hXn
 have hXn':∀h,X[p]'h=.cells true (ndA W):=fun h=>(q1Z.1 hXn).2;have hXT':∀T h,(X++T)[p]'h=.cells true (ndA W):=fun T h=>(q1Z.1 (hXT T)).2;have hne:(p+1 != p)=true:=by simp
 have hBX:=ZC X hXl;have hXg:=hBX.get;have hXg0:=hBX.get0;have hXs:=hBX.set;have hXs0:=hBX.set0;have n1:p+1<=1000000000:=by omega
 have n2:L<=1000000000:=by omega
 have hndW:(ndA W).take (L*2)=ndA W:=zAt eL;have hndl:(ndA W).length=L*2:=by rw[ZB,eL]
 unfold RF.rename;rw[eW,ea];have hsm:=fun T=>hsame a T;rw[show (⟨r.was,a⟩:RF)=r by rw[<-ea]]at hsm;have hsm0:=hsm [];rw[r2Z]at hsm0;refine wS hΓ (by simp;exact wR) ?_;by_cases hm:zNI t;rotate_left
 · rw[if_neg hm]
   dsimp only;obtain⟨u,v,hfv⟩:∃u v,Zs W s=.tuple [.int .i64 u,.bool v]:=by
     unfold Zs;cases NM.get W s with
     | some z=>exact⟨_,_,rfl⟩
     | none=>exact⟨_,_,rfl⟩
   refine wS hΓ (by simp[zAK,zDm,zBR,ZS,hRl,hR',hXn,eL,n1,n2,hfv];exact wR) ?_;by_cases h0:t=[]
   · subst h0
     refine Sim.after (wE hΓ (by simp[zAK,Tryz.f187];exact wT) ?_);exact hsm0.close (qnZ 1) ([.top,.top,.top,.top,.top,.top,.int .i64 2]++qbZ 23 .top) (by simp[AWs,AW]) ⟨.inr rfl,_,by simp[Tryz.f295] <;> rfl,Weak.mk' [0] (by decide) rfl (by simp) (by simp[AWb])⟩
   · have h1:0<t.length:=List.length_pos_iff.2 h0
     have h2:¬t.length<=64:=fun h=>hm ⟨h1,h⟩;have h2i:¬(t.length:Int)<=64:=by omega
     have h1i:(0:Int)<t.length:=by omega
     refine Sim.after (wE hΓ (by simp[zAK,Tryz.f187,h1,h2i];exact wT) ?_);exact hsm0.close (qnZ 1) ([.top,.top,.top,.top,.top,.top,.int .i64 2]++qbZ 23 .top) (by simp[AWs,AW]) ⟨.inr rfl,_,by simp[Tryz.f295] <;> rfl,Weak.mk' [0] (by decide) rfl (by simp) (by simp[AWb])⟩
 rw[if_pos hm];have h1:0<t.length:=hm.1;have h1i:(0:Int)<t.length:=by omega
 have h2:t.length<=64:=hm.2;have h2i:(t.length:Int)<=64:=by omega
 cases hg:NM.get W s with
 | none =>
   have hfv:Zs W s=.tuple [.int .i64 0,.bool false]:=by unfold Zs;rw[hg]
   refine wS hΓ (by simp[zAK,zDm,zBR,ZS,hRl,hR',hXn,eL,n1,n2,hfv];exact wR) ?_;refine Sim.after (wE hΓ (by simp[zAK,Tryz.f187,h1,h2i];exact wT) ?_);exact hsm0.close (qnZ 1) ([.top,.top,.top,.top,.top,.top,.int .i64 9]++qbZ 23 .top) (by simp[AWs,AW]) ⟨.inr rfl,_,by simp[Tryz.f295] <;> rfl,Weak.mk' [0] (by decide) rfl (by simp) (by simp[AWb])⟩
 | some z =>
   dsimp only;have hfv:Zs W s=.tuple [.int .i64 z,.bool true]:=by unfold Zs;rw[hg]
   have hUl:=zZQ W s;obtain⟨U,hU⟩:∃U,NM.wo W s=U:=⟨_,rfl⟩
   rw[hU,eL]at hUl;obtain⟨M1,hM1⟩:∃M,U.length=M:=⟨_,rfl⟩
   rw[hM1]at hUl;have n3:M1<=1000000000:=Nat.le_trans hUl n2;have hndU:(ndA U).take (M1*2)=ndA U:=zAt hM1;have hndlU:(ndA U).length=M1*2:=by rw[ZB,hM1]
   rw[hU];obtain⟨V,hV⟩:∃V,NM.wi U t z=V:=⟨_,rfl⟩
   rw[hV];obtain⟨M,hM⟩:∃M,V.length=M:=⟨_,rfl⟩
   refine wS hΓ (by simp[zAK,zDm,zBR,ZS,hRl,hR',hXn,eL,n1,n2,hfv];exact wR) ?_;refine wS hΓ (by simp[zAK,Tryz.f187,h1,h2i];exact wR) ?_;refine wS hΓ (by simp;exact wR) ?_;refine wS hΓ (by simp[zAK,zDm,zFC,zW0,zWZ,ZS,zAs,zIT,hRl,hR',hXn',hXl,eL,n1,n2,n3,hndl,hndW,hndlU,hndU,hU,hV,hM,hM1,shA,shB,Tryz.f188,hRt,hRc,b1,b2,b3,b4];exact wR) ?_;refine Sim.after (wE hΓ (by simp;exact wT) ?_);exact (hmore a V _ (p+1+5+1+1) (p+1+1+1+1) _ _ (by rw[hM]) (by simp only[r9Z];exact hXg _ 5) (by simp only[r9Z];exact hXg _ 1) (by omega) (by omega) (by omega) (.inr ⟨_,rfl⟩)).close
     (qnZ 1) ([.top,.top,.top,.top,.top,.top,.int .i64 0]++qbZ 23 .top) (by simp[AWs,AW]) ⟨.inr rfl,_,by simp[Tryz.f295] <;> rfl,Weak.mk' [0] (by decide) rfl (by simp) (by simp[AWb])⟩
theorem zQa(r:RF){B:Nat}(h:r.ok B)(hB:B<=1000000)(s:List UInt8) :
   Ct Pz 220 [.ptr 0 0,.str s] [.obj true r.blks] (.int .i64 (r.remove s).2) [.obj true (r.remove s).1.blks]:=by
 have hΓ:=zF4;obtain⟨p,hp⟩:∃p,r.was.length=p+1:=⟨r.was.length-1,by have:=h.ne;omega⟩
 have hpB:p<=1000000:=by have:=h.len;omega
 have b1:(p+1)*24<=140737488355328:=Nat.le_trans (Nat.mul_le_mul_right 24 (Nat.succ_le_succ hpB)) (by decide);have b2:p+1<=9223372036854775807:=Nat.le_trans (Nat.succ_le_succ hpB) (by decide);have b3:(p+1+1)*24<=140737488355328:=Nat.le_trans (Nat.mul_le_mul_right 24 (Nat.succ_le_succ (Nat.succ_le_succ hpB))) (by decide);have b4:p+1+1<=9223372036854775807:=Nat.le_trans (Nat.succ_le_succ (Nat.succ_le_succ hpB)) (by decide);have hR:=zDc (fun i=>i+2) r.was 0 _ _ (RF.now_get h.ne);have hXn:=Zp (RF.now_get h.ne);have hRl:=zBW (fun i=>i+2) 0 r.was;have hXl:=zAB r.was;have hRc:=zBZ (fun i=>i+2) r.was 0;have hsame:=FAt.same r;have hmore:=FAt.more r;have hWB:r.now.length<=1000000:=Nat.le_trans (h.row _ (qcZ (RF.now_get h.ne))) hB;have hlo:=h.lo;have hhi:=h.hi;rw[hp]at hR hXn hRl hXl hsame hmore;rw[Nat.add_sub_cancel]at hR hXn;rw[show 0+p+2=p+1+1 by omega]at hR;refine zE Tryz.func220 rfl ?_;simp only[Tryz.ntmps220,q7Z,q8Z,Nat.reduceAdd,Nat.reduceSub,qbZ,q9Z,qaZ];refine Sim.aft (Aft.open (b:=0) rfl (by simp) (Aft.done (by simp[zY]) ?_));rw[zIE,hp];obtain⟨R,eR⟩:∃R,zAl (fun i=>i+2) 0 r.was=R:=⟨_,rfl⟩
 obtain⟨X,eX⟩:∃X,ZX r.was=X:=⟨_,rfl⟩
 obtain⟨W,eW⟩:∃W,r.now=W:=⟨_,rfl⟩
 obtain⟨a,ea⟩:∃a,r.last=a:=⟨_,rfl⟩
 rw[eR,ea];rw[eX]at hXn hXl hsame hmore ⊢;rw[eR]at hR hRl hRc hsame hmore;rw[eW]at hR hXn hWB;rw[ea]at hlo hhi;obtain⟨L,eL⟩:∃L,W.length=L:=⟨_,rfl⟩
 rw[eL]at hR hWB;have hR':∀h,R[p]'h=.sl (p+1+1) 0 L 2 false:=fun h=>(q1Z.1 hR).2;have hpR:p<R.length:=by omega
 have hRt:R.take (p+1)=R:=q6Z (by omega);have hXT:∀T,(X++T)[p]? = some (.cells true (ndA W)):=fun T=>by rw[q4Z (by omega)];exact hXn
 have hXn':∀h,X[p]'h=.cells true (ndA W):=fun h=>(q1Z.1 hXn).2;have hXT':∀T h,(X++T)[p]'h=.cells true (ndA W):=fun T h=>(q1Z.1 (hXT T)).2;have hne:(p+1 != p)=true:=by simp
 have hBX:=ZC X hXl;have hXg:=hBX.get;have hXg0:=hBX.get0;have hXs:=hBX.set;have hXs0:=hBX.set0;have n1:p+1<=1000000000:=by omega
 have n2:L<=1000000000:=by omega
 have hndW:(ndA W).take (L*2)=ndA W:=zAt eL;have hndl:(ndA W).length=L*2:=by rw[ZB,eL]
 unfold RF.remove;rw[eW,ea];have hsm:=fun T=>hsame a T;rw[show (⟨r.was,a⟩:RF)=r by rw[<-ea]]at hsm;have hsm0:=hsm [];rw[r2Z]at hsm0;refine wS hΓ (by simp;exact wR) ?_;cases hg:NM.get W s with
 | none =>
   have hfv:Zs W s=.tuple [.int .i64 0,.bool false]:=by unfold Zs;rw[hg]
   refine wS hΓ (by simp[zAK,zDm,zBR,ZS,hRl,hR',hXn,eL,n1,n2,hfv];exact wR) ?_;refine Sim.after (wE hΓ (by simp;exact wT) ?_);exact hsm0.close (qnZ 1) ([.top,.top,.top,.top,.int .i64 9]++qbZ 16 .top) (by simp[AWs,AW]) ⟨.inr rfl,_,by simp[Tryz.f220] <;> rfl,Weak.mk' [0] (by decide) rfl (by simp) (by simp[AWb])⟩
 | some z =>
   dsimp only;have hfv:Zs W s=.tuple [.int .i64 z,.bool true]:=by unfold Zs;rw[hg]
   obtain⟨U,hU⟩:∃U,NM.wo W s=U:=⟨_,rfl⟩
   obtain⟨M1,hM1⟩:∃M,U.length=M:=⟨_,rfl⟩
   rw[hU];refine wS hΓ (by simp[zAK,zDm,zBR,ZS,hRl,hR',hXn,eL,n1,n2,hfv];exact wR) ?_;refine wS hΓ (by simp;exact wR) ?_;refine wS hΓ (by simp[zAK,zDm,zFC,zWZ,ZS,zAs,zIT,hRl,hR',hXn',hXl,eL,n1,n2,hndl,hndW,hU,hM1,shA,shB,Tryz.f188,hRt,hRc,b1,b2,b3,b4];exact wR) ?_;refine Sim.after (wE hΓ (by simp;exact wT) ?_);exact (hmore a U _ (p+1+4+1+1) (p+1+1+1) _ _ (by rw[hM1]) (by simp only[r9Z];exact hXg _ 4) (by simp only[r9Z];exact hXg0 _) (by omega) (by omega) (by omega) (.inr ⟨_,rfl⟩)).close
     (qnZ 1) ([.top,.top,.top,.top,.int .i64 0]++qbZ 16 .top) (by simp[AWs,AW]) ⟨.inr rfl,_,by simp[Tryz.f220] <;> rfl,Weak.mk' [0] (by decide) rfl (by simp) (by simp[AWb])⟩
theorem zN0(r:RF){B:Nat}(h:r.ok B)(hB:B<=1000000)(m:Int)(_hm : -9223372036854775808<=m/\m<=9223372036854775807) :
   Ct Pz 78 [.ptr 0 0,.int .i64 m] [.obj true r.blks] (.tuple []) [.obj true (r.survive m).blks]:=by
 have hΓ:=zF4;obtain⟨p,hp⟩:∃p,r.was.length=p+1:=⟨r.was.length-1,by have:=h.ne;omega⟩
 have hpB:p<=1000000:=by have:=h.len;omega
 have b1:(p+1)*24<=140737488355328:=Nat.le_trans (Nat.mul_le_mul_right 24 (Nat.succ_le_succ hpB)) (by decide);have b2:p+1<=9223372036854775807:=Nat.le_trans (Nat.succ_le_succ hpB) (by decide);have b3:(p+1+1)*24<=140737488355328:=Nat.le_trans (Nat.mul_le_mul_right 24 (Nat.succ_le_succ (Nat.succ_le_succ hpB))) (by decide);have b4:p+1+1<=9223372036854775807:=Nat.le_trans (Nat.succ_le_succ (Nat.succ_le_succ hpB)) (by decide);have hR:=zDc (fun i=>i+2) r.was 0 _ _ (RF.now_get h.ne);have hXn:=Zp (RF.now_get h.ne);have hRl:=zBW (fun i=>i+2) 0 r.was;have hXl:=zAB r.was;have hRc:=zBZ (fun i=>i+2) r.was 0;have hsame:=FAt.same r;have hmore:=FAt.more r;have hWB:r.now.length<=1000000:=Nat.le_trans (h.row _ (qcZ (RF.now_get h.ne))) hB;have hlo:=h.lo;have hhi:=h.hi;rw[hp]at hR hXn hRl hXl hsame hmore;rw[Nat.add_sub_cancel]at hR hXn;rw[show 0+p+2=p+1+1 by omega]at hR;have hcl:r.clamp m<=p:=by unfold RF.clamp;rw[hp];omega
 have hcl2:max 0 (min m (p:Int))=(r.clamp m:Int):=by unfold RF.clamp;rw[hp,Nat.add_sub_cancel];omega
 have hcw:r.was[r.clamp m]? = some (r.was.getD (r.clamp m) []):=by rw[q2Z,q3Z (by omega)];rfl
 have hRc0:=zDc (fun i=>i+2) r.was 0 _ _ hcw;have hXc0:=Zp hcw;have w1:IntKind.i64.wrap ((p:Int)+1)=p+1:=zI (by omega) (by omega);have w2:IntKind.i64.wrap (p:Int)=p:=zI (by omega) (by omega);have w3:IntKind.i64.wrap ((p:Int)+1-1)=p:=by rw[show (p:Int)+1-1=p by omega];exact w2
 unfold RF.survive;obtain⟨c,hc⟩:∃c,r.clamp m=c:=⟨_,rfl⟩
 rw[hc]at hcl hcl2 hRc0 hXc0 ⊢;rw[show 0+c+2=c+1+1 by omega]at hRc0;refine zE Tryz.func78 rfl ?_;simp only[Tryz.ntmps78,q7Z,q8Z,Nat.reduceAdd,Nat.reduceSub,qbZ,q9Z,qaZ];refine Sim.aft (Aft.open (b:=0) rfl (by simp) (Aft.done (by simp[zY]) ?_));rw[zIE,hp];obtain⟨R,eR⟩:∃R,zAl (fun i=>i+2) 0 r.was=R:=⟨_,rfl⟩
 obtain⟨X,eX⟩:∃X,ZX r.was=X:=⟨_,rfl⟩
 obtain⟨W,eW⟩:∃W,r.now=W:=⟨_,rfl⟩
 obtain⟨a,ea⟩:∃a,r.last=a:=⟨_,rfl⟩
 rw[eR,ea];rw[eX]at hXn hXl hsame hmore ⊢;rw[eR]at hR hRl hRc hsame hmore;rw[eW]at hR hXn hWB;rw[ea]at hlo hhi;obtain⟨L,eL⟩:∃L,W.length=L:=⟨_,rfl⟩
 rw[eL]at hR hWB;have hR':∀h,R[p]'h=.sl (p+1+1) 0 L 2 false:=fun h=>(q1Z.1 hR).2;have hpR:p<R.length:=by omega
 have hRt:R.take (p+1)=R:=q6Z (by omega);have hXT:∀T,(X++T)[p]? = some (.cells true (ndA W)):=fun T=>by rw[q4Z (by omega)];exact hXn
 have hXn':∀h,X[p]'h=.cells true (ndA W):=fun h=>(q1Z.1 hXn).2;have hXT':∀T h,(X++T)[p]'h=.cells true (ndA W):=fun T h=>(q1Z.1 (hXT T)).2;have hne:(p+1 != p)=true:=by simp
 have hBX:=ZC X hXl;have hXg:=hBX.get;have hXg0:=hBX.get0;have hXs:=hBX.set;have hXs0:=hBX.set0;have n1:p+1<=1000000000:=by omega
 have n2:L<=1000000000:=by omega
 have hndW:(ndA W).take (L*2)=ndA W:=zAt eL;have hndl:(ndA W).length=L*2:=by rw[ZB,eL]
 rw[eR]at hRc0;rw[eX]at hXc0;obtain⟨V,hV⟩:∃V,r.was.getD c []=V:=⟨_,rfl⟩
 rw[hV]at hRc0 hXc0 ⊢;obtain⟨M,hM⟩:∃M,V.length=M:=⟨_,rfl⟩
 rw[hM]at hRc0;have hRc':∀h,R[c]'h=.sl (c+1+1) 0 M 2 false:=fun h=>(q1Z.1 hRc0).2;have c1:c<R.length:=by omega
 have c2:(c:Int)<(p:Int)+1:=by omega
 have c3:c<p+1:=by omega
 refine wS hΓ (by simp +decide [-zAx,Zv,zAW,zAK,Tryz.f176,w2,hcl2];exact wR) ?_;refine Sim.after (wE hΓ (by simp +decide [hRl,hRc',c2,c3,hXl];exact wT) ?_);have hg:FAt (.cells true [.slice (p+1+1+1) 0 1 1 true,.int .i64 a]::.cells true R::(X++[.cells true [.sl (c+1+1) 0 M 2 false]])) ⟨[V],a⟩ (.slice (p+1+1+1) 0 1 1 true) 0 (p+1+1+1) (fun _=>c+1+1):=by
   refine FAt.one rfl (by simp only[r9Z];rw[hXg0,hM];rfl) (by simp only[r9Z];rw[q4Z (by omega)];exact hXc0) (by omega) (by omega) (by omega) (.inr ⟨_,rfl⟩)
 exact hg.close (qnZ 1) (qbZ 20 .top) (by simp[AWs,AW]) ⟨.inl rfl,_,by simp[Tryz.f78] <;> rfl,Weak.mk' [0] (by decide) rfl (by simp) (by simp[AWb])⟩
theorem zPj(W:NM)(i:Nat)(h:i<W.length):(W.take i).map (fun e=>AV.str e.1)++[.str W[i].1]=(W.take (i+1)).map fun e=>AV.str e.1:=by
 rw[List.take_succ_eq_append_getElem h,roZ];rfl
theorem zLh(W:NM):zV (W.map fun e=>AV.str e.1)=true:=ZO _ _ fun _=>rfl
theorem zTo(r:RF){B:Nat}(h:r.ok B)(hB:B<=1000000) :
   Ct Pz 80 [.ptr 0 0] r.blks (.sl (r.was.length+2) 0 r.names.length 1 false) (r.blks++[.cells true (r.names.map .str)]):=by
 have hΓ:=zN1;have hne:=h.ne;have hA0:=zLM r h hB (x:=r.last) (T:=[]);rw[r2Z,<-RF.blks_head]at hA0;have hAl:=r.blks_length;have hid:=r.blks_id;have hAk:∀T,(r.blks++T)[r.was.length+1]? = some (.cells true (ndA r.now)):=fun T=>by
   rw[q4Z (by omega),RF.blks_head];obtain⟨p,hp⟩:∃p,r.was.length=p+1:=⟨r.was.length-1,by omega⟩
   have:=RF.now_get h.ne;rw[hp]at this ⊢;simp only[r9Z];exact Zp this
 have hWB:r.now.length<=1000000:=Nat.le_trans (h.row _ (qcZ (RF.now_get h.ne))) hB;unfold RF.names;rw[List.map_map,show (AV.str ∘ fun x:List UInt8×Int=>x.1)=fun e=>AV.str e.1 from rfl,r7Z];obtain⟨W,eW⟩:∃W,r.now=W:=⟨_,rfl⟩
 obtain⟨L,eL⟩:∃L,W.length=L:=⟨_,rfl⟩
 obtain⟨N,eN⟩:∃N,r.was.length+2=N:=⟨_,rfl⟩
 obtain⟨k,ek⟩:∃k,r.was.length+1=k:=⟨_,rfl⟩
 have hkN:k<N:=by omega
 rw[eW]at hA0 hAk hWB ⊢;rw[eL]at hA0 hWB ⊢;rw[ek]at hA0 hAk;rw[eN]at hAl ⊢;rw[hAl]at hid;obtain⟨A,eA⟩:∃A,r.blks=A:=⟨_,rfl⟩
 rw[eA]at hA0 hAk hAl hid ⊢;clear eA hne;have hBX:=ZC A hAl;have hXg:=hBX.get;have hXg0:=hBX.get0;have hXs:=hBX.set;have hXs0:=hBX.set0;have tl:=fun {T Tn F Fn}=>Weak.tailG (A:=A) (N:=N) hAl hid (T:=T) (Tn:=Tn) (F:=F) (Fn:=Fn);have ok':∀ts:List Nat,(List.range N++ts)[k]? = some k:=fun ts=>zCA _ _ hkN;have hAr:∀(j:Nat) (rn:List Nat),AWs rn ((W.map fun e=>AV.str e.1).take j) ((W.map fun e=>AV.str e.1).take j):=fun j rn=>by rw[<-List.map_take];exact AWs.refl _ _ (zLh _)
 have fin:∀T,Weak N [.top] (A++T) [.top] (A++T)->True:=fun _ _=>trivial;clear fin;refine zE Tryz.func80 rfl ?_;simp only[Tryz.ntmps80,q7Z,q8Z,Nat.reduceAdd,Nat.reduceSub,qbZ,q9Z,qaZ];rw[hAl];refine wS hΓ (by simp;exact wR) ?_ (by simp[hAl]);refine wS hΓ (by simp;exact wR) ?_ (by simp[hAl]);refine wS hΓ (by simp[zYd,hA0];exact wR) ?_ (by simp[hAl]);refine Sim.seq (wS hΓ (by simp;exact wR) ?_ (by simp[hAl]));refine Sim.block (Sim.loopW (fun i:Nat=>i<=L)
   (fun i=>[.top,.top,.top,.sl N 0 i 1 false,.sl k 0 L 2 false,.int .i64 i]++qbZ 17 .top)
   (fun i=>A++[.cells true ((W.map fun e=>AV.str e.1).take i)]) (fun i=>L-i) 0 (by simp[hAl]) (qqZ _) ?_ fun i hi=>?_)
 · have:=tl (T:=[]) (Tn:=[.cells true []]) (F:=[.ptr 0 0,.tuple [],.nils,.nils,.sl k 0 L 2 false,.int .i64 0,.ptr 0 0,.sl k 0 L 2 false]++qbZ 15 (.tuple [])) (Fn:=[.top,.top,.top,.sl N 0 0 1 false,.sl k 0 L 2 false,.int .i64 0]++qbZ 17 .top) [100] (by decide) (by simp[AWs,AW,ok']) (by simp[AWg,hAl])
   simpa using this
 by_cases hlt:i<L
 · have hil:i<W.length:=by omega
   have hiI:(i:Int)<L:=by omega
   obtain⟨f1,f2⟩:=zDt W i hil;have hR:=zPj W i hil;rw[List.map_take,List.map_take]at hR;have hRl:((W.map fun e=>AV.str e.1).take i).length=i:=by simp;omega
   obtain⟨⟨a,m⟩,hx⟩:∃x,W[i]=x:=⟨_,rfl⟩
   rw[hx]at f1 f2 hR;dsimp only at f1 f2 hR;obtain⟨RW,hRW⟩:∃R,(W.map fun e=>AV.str e.1).take i=R:=⟨_,rfl⟩
   have hRc:RW.all ZG=true:=s5Z.2 fun v hv=>by rw[<-hRW]at hv;obtain⟨s,_,rfl⟩:=reZ.1 (List.mem_of_mem_take hv);rfl
   rw[hRW]at hR hRl ⊢;have hRt:RW.take i=RW:=q6Z (by omega);have i1:i*2<L*2:=by omega
   have i2:i*2+2<=L*2:=by omega
   have i6:i*2+2<=W.length*2:=by omega
   have i8:i*2<W.length*2:=by omega
   have i9:(i+1)*16<=140737488355328:=by omega
   have i10:i+1<=9223372036854775807:=by omega
   have y1:IntKind.i64.wrap ((i:Int)+1)=i+1:=zI (by omega) (by omega);refine wS hΓ (by simp[hiI];exact wR) ?_ (by simp[hAl]);refine Sim.seq (Sim.block (wE hΓ (by simp +decide [hAl,hAk,hXs0,hlt,f1,i8,i9,i10,hRl,hR,hRt];exact wT) ?_ (by simp[hAl])));dsimp only;refine wE hΓ (by simp[y1];exact wT) ?_ (by simp[hAl]);exact⟨i+1,by omega,tl [2] (by decide) (by simp[AWs,AW,ok']) (by simp[AWg,AWb,hAl,hAr]),by omega⟩
 · have hie:i=L:=by omega
   subst hie;rw[q6Z (by simp;omega)];refine wE hΓ (by simp;exact wT) ?_ (by simp[hAl]);dsimp only;rw[if_pos rfl];refine wE hΓ (by simp;exact wT) ?_ (by simp[hAl]);exact⟨.inr rfl,_,by simp[Tryz.f80] <;> rfl,tl [0] (by decide) (by simp[AWs,AW]) (by simp[AWg,AWb,hAl];exact AWs.refl _ _ (zLh _))⟩
end
section
open Go Go.Lib
attribute [-simp] zH zc zq zK zy
theorem zX4:Ct Pz 67 [] [] (.ptr 0 0) [.obj true RF.new.blks]:=by
 refine zE Tryz.func67 rfl ?_;simp only[Tryz.ntmps67,q7Z,q8Z,Nat.reduceAdd,Nat.reduceSub,qbZ,q9Z,qaZ];refine Sim.after (wE zC (by simp;exact wT) ?_);refine Aft.weak (Fn:=[.ptr 0 0]++qbZ 3 .top) (Hn:=RF.new.blks++[]) (Weak.mk' [1,0,100] (by decide) (by decide) (by simp[AWs,AW]) (by simp[RF.blks,RF.cell0,RF.new,zAl,ZX,ndA,AWg,AWb,AWs,AW])) (by simp) ?_;exact (FAt.same RF.new 0 []).close (by decide) ([.ptr 0 0]++qbZ 3 .top) (by simp[AWs,AW]) ⟨.inr rfl,_,by simp[Tryz.f67] <;> rfl,Weak.mk' [0] (by decide) rfl (by simp) (by simp[AWb,RF.new])⟩
theorem zUX(r:RF){B:Nat}(h:r.ok B)(hB:B<=1000000):Ct Pz 176 [.ptr 0 0] r.blks (.int .i64 ((r.was.length-1:Nat):Int)) r.blks:=by
 obtain⟨p,hp⟩:∃p,r.was.length=p+1:=⟨r.was.length-1,by have:=h.ne;omega⟩
 have hpB:p<=1000000:=by have:=h.len;omega
 have w2:IntKind.i64.wrap (p:Int)=p:=zI (by omega) (by omega);have w3:IntKind.i64.wrap ((p:Int)+1-1)=p:=by rw[show (p:Int)+1-1=p by omega];exact w2
 rw[RF.blks_head,hp,Nat.add_sub_cancel];refine zL Tryz.func176 rfl ?_;simp only[Tryz.ntmps176,q7Z,q8Z,Nat.reduceAdd,Nat.reduceSub,qbZ,q9Z,qaZ];refine wE zC (by simp[w2,w3];exact wT) ?_;exact⟨.inr rfl,by simp[Tryz.f176],rfl⟩
theorem zTl(r:RF){B:Nat}(h:r.ok B)(hB:B<=1000000)(s:List UInt8):Ct Pz 178 [.ptr 0 0,.str s] r.blks (Zs r.now s) r.blks:=by
 have hA0:=zLM r h hB (x:=r.last) (T:=[]);rw[r2Z,<-RF.blks_head]at hA0;have hne:=h.ne;refine zLb r.blks 0 _ true _ _ s hA0 ?_ (Nat.le_trans (h.row _ (qcZ (RF.now_get h.ne))) (by omega)) rfl;rw[RF.blks_head];obtain⟨p,hp⟩:∃p,r.was.length=p+1:=⟨r.was.length-1,by omega⟩
 have:=RF.now_get h.ne;rw[hp]at this ⊢;simp only[r9Z];exact Zp this
theorem zI3(W:NM)(s:List UInt8):zBl (Zs W s)=true:=by
 unfold Zs;split <;> rfl
theorem zPt(r:RF){B:Nat}(h:r.ok B)(hB:B<=1000000):Ct Pz 80 [.ptr 0 0] [.obj true r.blks] (.sl 1 0 r.names.length 1 false) [.obj true r.blks,.cells true (r.names.map .str)] :=
 zB3 (zTo r h hB) (by rw[RF.blks_length];omega) (Aft.closeRF r (qnZ 1) (T:=[.cells true (r.names.map .str)]) (Tn:=[.cells true (r.names.map .str)]) [0] (by decide) rfl (by simp[AW]) fun i t x h1 h2=>by
   match i,h1,h2 with
   | 0,h1,h2=>cases h1;cases h2;exact⟨_,rfl,id,AWs.refl _ _ (ZO _ _ fun _=>rfl)⟩)
noncomputable section
open Classical
def zQw:zJ:=zAM zJa RF.blks fun f xs _=>match xs with
 | [.str k]=>if f.ok 1000000/\k.length<=9223372036854775807 then some ((f.create k).1,.tuple [.int .i64 (f.create k).2.1,.int .i64 (f.create k).2.2]) else none
 | _=>none
theorem zNi:Sound Pz 93 zQw:=by
 refine zS (zD Tryz.func93 rfl (by decide)) (fun _ _=>zDJ) fun f xs H s' v b hg hb=>?_;split at hg;rotate_left
 · cases hg
 split at hg <;> cases hg
 rename_i hs;exact ze (zRL f hs.1 (qnZ _) _ hs.2) rfl rfl hb
def zWC:zJ:=zAM zJa RF.blks fun f xs _=>match xs with
 | [.str a,.str b]=>if f.ok 1000000/\b.length<=9223372036854775807 then some ((f.rename a b).1,.int .i64 (f.rename a b).2) else none
 | _=>none
theorem zOs:Sound Pz 295 zWC:=by
 refine zS (zD Tryz.func295 rfl (by decide)) (fun _ _=>zDJ) fun f xs H s' v b hg hb=>?_;split at hg;rotate_left
 · cases hg
 split at hg <;> cases hg
 rename_i hs;exact ze (zP9 f hs.1 (qnZ _) _ _ hs.2) rfl rfl hb
def zVR:zJ:=zAM zJa RF.blks fun f xs _=>match xs with
 | [.str a]=>if f.ok 1000000 then some ((f.remove a).1,.int .i64 (f.remove a).2) else none
 | _=>none
theorem zOx:Sound Pz 220 zVR:=by
 refine zS (zD Tryz.func220 rfl (by decide)) (fun _ _=>zDJ) fun f xs H s' v b hg hb=>?_;split at hg;rotate_left
 · cases hg
 split at hg <;> cases hg
 rename_i hs;exact ze (zQa f hs (qnZ _) _) rfl rfl hb
def zML:zJ:=zAM zJa RF.blks fun f xs _=>match xs with
 | [.str a]=>if f.ok 1000000 then some (f,Zs f.now a) else none
 | _=>none
theorem zO0:Sound Pz 178 zML:=by
 refine zS (zD Tryz.func178 rfl (by decide)) (fun _ _=>zDJ) fun f xs H s' v b hg hb=>?_;split at hg;rotate_left
 · cases hg
 split at hg <;> cases hg
 rename_i hs;exact ze (zYa (zTl f hs (qnZ _) _) (zI3 _ _)) rfl (zI3 _ _) hb
def zKO:zJ:=zAM zJa RF.blks fun f xs _=>match xs with
 | [.int .i64 m]=>if f.ok 1000000/\(-9223372036854775808<=m/\m<=9223372036854775807) then some (f.survive m,.tuple []) else none
 | _=>none
theorem zHo:Sound Pz 78 zKO:=by
 refine zS (zD Tryz.func78 rfl (by decide)) (fun _ _=>zDJ) fun f xs H s' v b hg hb=>?_;split at hg;rotate_left
 · cases hg
 split at hg <;> cases hg
 rename_i hs;exact ze (zN0 f hs.1 (qnZ _) _ hs.2) rfl rfl hb
def zFP:zJ:=fun args H=>match args with
 | [.ptr b 0]=>match H[b]? with
   | some (.obj true sub)=>match zJa sub with
     | some f=>if f.ok 1000000 then some (.sl H.length 0 f.names.length 1 false,H++[.cells true (f.names.map .str)],[]) else none
     | none=>none
   | _=>none
 | _=>none
theorem zER:Sound Pz 80 zFP:=by
 refine ⟨zD Tryz.func80 rfl (by decide),fun args H v H' W hs=>?_,fun args H v H' W hs=>?_⟩ <;> (unfold zFP at hs;split at hs <;> try cases hs) <;> (split at hs <;> try cases hs) <;> (rename_i b _ sub hb;split at hs <;> try cases hs) <;> (rename_i f hf;split at hs <;> cases hs;rename_i hk)
 · have e:=zDJ hf
   subst e;have hbl:b<H.length:=(q1Z.1 hb).1;have fs:∀g,zj g (f.names.map AV.str)=f.names.map AV.str:=fun g=>zBO g _ (by simp[zt,zAT]);have:=zP (H:=H) (args:=[.ptr b 0]) (zPt f hk (qnZ _)) [b] (by simp) ⟨⟨rfl,rfl⟩,trivial⟩ ⟨by rw[q2Z,hb];exact⟨rfl,rfl⟩,hbl,trivial⟩ rfl;obtain⟨h1,h2⟩:=q1Z.1 hb;have hset:H.set b (.obj true f.blks)=H:=by rw[<-h2,List.set_getElem_self]
   simpa[zN,ABlk.own,reB,reA,zn,hset,fs] using this
 · exact⟨by simp,fun c hc _=>by rw[q4Z hc]⟩
def zM5:zJ:=fun args H=>match args with
 | []=>some (.ptr H.length 0,H++[.obj true RF.new.blks],[])
 | _=>none
theorem zNB:Sound Pz 67 zM5:=by
 refine ⟨zD Tryz.func67 rfl (by decide),fun args H v H' W hs=>?_,fun args H v H' W hs=>?_⟩ <;> (unfold zM5 at hs;split at hs <;> cases hs)
 · have:=zP (H:=H) (args:=[]) zX4 [] (by simp) trivial trivial rfl
   simpa[zN,ABlk.own,reB,reA,zn] using this
 · exact⟨by simp,fun c hc _=>by rw[q4Z hc]⟩
end
end
section
open Go Go.Lib
def zBC(g:Nat->Nat):Nat->Nat->List AV
 | _,0=>[]
 | k,n+1=>.ptr (g k) 0::zBC g (k+1) n
@[simp] theorem zED(g:Nat->Nat):∀(n k:Nat),(zBC g k n).length=n
 | 0,_=>rfl
 | n+1,k=>by simp[zBC,zED g n (k+1)]
theorem zRa(g:Nat->Nat):∀(n k i:Nat),i<n->(zBC g k n)[i]? = some (.ptr (g (k+i)) 0)
 | n+1,k,0,_=>rfl
 | n+1,k,i+1,h=>by
   simp only[zBC,r9Z,zRa g n (k+1) i (by omega)];rw[show k+1+i=k+(i+1) by omega]
theorem zLd(g:Nat->Nat):∀(n k:Nat),zBC g k (n+1)=zBC g k n++[.ptr (g (k+n)) 0]
 | 0,k=>rfl
 | n+1,k=>by
   rw[zBC,zLd g n (k+1),zBC];simp only[q9Z];rw[show k+1+n=k+(n+1) by omega]
theorem zDh{g g':Nat->Nat}:∀(n k:Nat),(∀i,k<=i->i<k+n->g i=g' i)->zBC g k n=zBC g' k n
 | 0,_,_=>rfl
 | n+1,k,h=>by
   simp only[zBC];rw[h k (qnZ _) (by omega),zDh n (k+1) fun i h1 h2=>h i (by omega) (by omega)]
theorem zFd(rn:List Nat)(g g':Nat->Nat):∀(n k:Nat),(∀i,k<=i->i<k+n->rn[g i]? = some (g' i))->AWs rn (zBC g k n) (zBC g' k n)
 | 0,_,_=>trivial
 | n+1,k,h=>⟨by simp[AW,h k (qnZ _) (by omega)],zFd rn g g' n (k+1) fun i h1 h2=>h i (by omega) (by omega)⟩
theorem zGw(h g:Nat->Nat):∀(n k:Nat),zj h (zBC g k n)=zBC (fun i=>h (g i)) k n
 | 0,_=>rfl
 | n+1,k=>by simp only[zBC,zj,reA,zGw h g n (k+1)]
theorem zHQ(g:Nat->Nat):∀(n k:Nat),(zBC g k n).all ZG=true
 | 0,_=>rfl
 | n+1,k=>by have:=zHQ g n (k+1);simp only[zBC,List.all_cons,this,ZG,Bool.and_true]
def zAc(l:List PF):zA:=l.map fun f=>.obj true f.rblks
@[simp] theorem zKa(l:List PF):(zAc l).length=l.length:=by simp[zAc]
theorem zFT{l:List PF}{i:Nat}{f:PF}(h:l[i]? = some f):(zAc l)[i]? = some (.obj true f.rblks):=by simp[zAc,h]
def RS.cell0(r:RS)(x:AV)(fo:Nat):ABlk:=.cells true [.ptr fo 0,x,.int .i64 r.room,.int .i64 r.steps,.int .i64 r.left,.bool r.down]
def RS.blks(r:RS):zA:=r.cell0 (.sl 2 0 r.F.length 1 false) 1::.obj true r.dir.blks::.cells true (zBC (fun i=>i+3) 0 r.F.length)::zAc r.F
theorem RS.blks_length(r:RS):r.blks.length=r.F.length+3:=by simp[RS.blks]
structure RAt (H:zA) (r:RS) (x:AV) (b fo m:Nat) (g:Nat->Nat):Prop where
 c0:H[b]? = some (r.cell0 x fo)
 hx:x=.sl m 0 r.F.length 1 false\/∃c,x=.slice m 0 r.F.length 1 c
 fold:H[fo]? = some (.obj true r.dir.blks)
 row:H[m]? = some (.cells true (zBC g 0 r.F.length))
 file:∀(i:Nat) f,r.F[i]? = some f->H[g i]? = some (.obj true f.rblks)
 nd:(b::fo::m::(List.range r.F.length).map g).Nodup
theorem RAt.awg{H:zA}{r:RS}{x:AV}{b fo m:Nat}{g:Nat->Nat}(h:RAt H r x b fo m g)(rn:List Nat)(hr:∀i,i<r.F.length+3->rn[i]? = (b::fo::m::(List.range r.F.length).map g)[i]?) :
   AWg rn H r.blks (b::fo::m::(List.range r.F.length).map g):=by
 refine AWg.of _ _ (by simp[RS.blks]) fun i y c hy hc hlt=>?_;have hil:i<r.F.length+3:=by rw[<-RS.blks_length];exact (q1Z.1 hy).1
 rw[q2Z]
 match i,hy,hc with
 | 0,hy,hc =>
   cases hy;cases hc
   rw[h.c0];have h1:=hr 1 (by omega);have h2:=hr 2 (by omega);simp only[r9Z,raZ]at h1 h2;rcases h.hx with e | ⟨c,e⟩ <;> rw[e] <;> exact⟨id,by simp[AWs,AW,h1,h2]⟩
 | 1,hy,hc =>
   cases hy;cases hc
   rw[h.fold];exact⟨rfl,rfl⟩
 | 2,hy,hc =>
   cases hy;cases hc
   rw[h.row];refine ⟨id,zFd _ _ _ _ _ fun i _ hi=>?_⟩;rw[hr (i+3) (by omega)];simp only[r9Z,qzZ];rw[rfZ (by omega)];rfl
 | i+3,hy,hc =>
   simp only[RS.blks,r9Z]at hy hc;rw[qzZ]at hc;have hi:i<r.F.length:=by omega
   rw[rfZ hi]at hc;cases hc;have hw:=q3Z hi;rw[zFT hw]at hy;cases hy;rw[h.file i _ hw];exact⟨rfl,rfl⟩
theorem RS.blks_at(r:RS):RAt r.blks r (.sl 2 0 r.F.length 1 false) 0 1 2 (fun i=>i+3):=by
 refine ⟨rfl,.inl rfl,rfl,rfl,fun i f h=>?_,?_⟩
 · simp only[RS.blks,r9Z]
   exact zFT h
 · rw[rdZ,rdZ,rdZ]
   refine ⟨fun h=>?_,fun h=>?_,fun h=>?_,?_⟩
   · rcases qwZ.1 h with h | h
     · omega
     rcases qwZ.1 h with h | h
     · omega
     · obtain⟨a,_,h⟩:=reZ.1 h;omega
   · rcases qwZ.1 h with h | h
     · omega
     · obtain⟨a,_,h⟩:=reZ.1 h;omega
   · obtain⟨a,_,h⟩:=reZ.1 h;omega
   · rw[List.nodup_iff_pairwise_ne,List.pairwise_map]
     exact (List.nodup_iff_pairwise_ne.1 List.nodup_range).imp fun h e=>h (by omega)
section
variable {H:zA} {r:RS} {x:AV} {b fo m:Nat} {g:Nat->Nat}
theorem RAt.ne(h:RAt H r x b fo m g):fo≠b/\m≠b/\fo≠m/\(∀i,i<r.F.length->g i≠b/\g i≠fo/\g i≠m)/\∀i k,i<r.F.length->k<r.F.length->g i=g k->i=k:=by
 have h0:=h.nd;rw[rdZ,rdZ,rdZ]at h0;obtain⟨h1,h2,h3,h4⟩:=h0;simp only[qwZ,reZ,List.mem_range,not_or,not_exists,not_and]at h1 h2 h3;refine ⟨fun e=>h1.1 e.symm,fun e=>h1.2.1 e.symm,h2.1,fun i hi=>⟨h1.2.2 i hi,h2.2 i hi,h3 i hi⟩,fun i k hi hk e=>?_⟩;rw[List.nodup_iff_pairwise_ne,List.pairwise_map]at h4;rcases Nat.lt_trichotomy i k with hl | hl | hl
 · have:=List.pairwise_iff_getElem.1 h4 i k (by simpa using hi) (by simpa using hk) hl
   simp only[List.getElem_range]at this;exact absurd e this
 · exact hl
 · have:=List.pairwise_iff_getElem.1 h4 k i (by simpa using hk) (by simpa using hi) hl
   simp only[List.getElem_range]at this;exact absurd e.symm this
theorem RAt.c0set(h:RAt H r x b fo m g)(s l:Int)(w:Bool):RAt (H.set b ((⟨r.dir,r.F,r.room,s,l,w⟩:RS).cell0 x fo)) ⟨r.dir,r.F,r.room,s,l,w⟩ x b fo m g:=by
 obtain⟨n1,n2,_,n4,_⟩:=h.ne;have hl:b<H.length:=(q1Z.1 h.c0).1;refine ⟨by rw[List.getElem?_set,if_pos rfl,if_pos hl],h.hx,by rw[qfZ (Ne.symm n1)];exact h.fold,by rw[qfZ (Ne.symm n2)];exact h.row,fun i f hf=>?_,h.nd⟩;rw[qfZ (Ne.symm (n4 i (q1Z.1 hf).1).1)];exact h.file i f hf
theorem RAt.dirset(h:RAt H r x b fo m g)(d:RF):RAt (H.set fo (.obj true d.blks)) ⟨d,r.F,r.room,r.steps,r.left,r.down⟩ x b fo m g:=by
 obtain⟨n1,_,n3,n4,_⟩:=h.ne;have hl:fo<H.length:=(q1Z.1 h.fold).1;refine ⟨by rw[qfZ n1];exact h.c0,h.hx,by rw[List.getElem?_set,if_pos rfl,if_pos hl],by rw[qfZ n3];exact h.row,fun i f hf=>?_,h.nd⟩;rw[qfZ (Ne.symm (n4 i (q1Z.1 hf).1).2.1)];exact h.file i f hf
theorem RAt.fileset(h:RAt H r x b fo m g){i:Nat}(hi:i<r.F.length)(f:PF):RAt (H.set (g i) (.obj true f.rblks)) ⟨r.dir,r.F.set i f,r.room,r.steps,r.left,r.down⟩ x b fo m g:=by
 obtain⟨n1,n2,n3,n4,n5⟩:=h.ne;have hf0:=h.file i _ (q3Z hi);have hl:g i<H.length:=(q1Z.1 hf0).1;obtain⟨k1,k2,k3⟩:=n4 i hi;refine ⟨by rw[qfZ k1];exact h.c0,by simpa using h.hx,by rw[qfZ k2];exact h.fold,by dsimp only;rw[r8Z,qfZ k3];exact h.row,fun j f' hj=>?_,by simpa using h.nd⟩;dsimp only at hj;rw[List.getElem?_set]at hj;split at hj
 · rename_i e
   subst e;cases hj;rw[List.getElem?_set,if_pos rfl,if_pos hl]
 · rename_i e
   have hjl:=(q1Z.1 hj).1;rw[qfZ fun e'=>e (n5 i j hi hjl e')];exact h.file j f' hj
theorem RAt.app(h:RAt H r x b fo m g)(T:zA):RAt (H++T) r x b fo m g:=by
 have key:∀(q:Nat) y,H[q]? = some y->(H++T)[q]? = some y:=fun q y hb=>by rw[q4Z (q1Z.1 hb).1];exact hb
 exact⟨key _ _ h.c0,h.hx,key _ _ h.fold,key _ _ h.row,fun i f hf=>key _ _ (h.file i f hf),h.nd⟩
theorem RAt.close(h:RAt H r x 0 fo m g){n0:Nat}{F:List AV}(Fn:List AV){K:List AV->zA->Prop}(hF:AWs [0] Fn F)(hk:K Fn [.obj true r.blks])(h01:n0<=1:=by decide):Aft n0 F H K:=by
 have hbl:0<H.length:=(q1Z.1 h.c0).1;refine Aft.close (o:=true) (b:=0) (sub:=r.blks) (rs:=0::fo::m::(List.range r.F.length).map g) (ks:=fo::m::(List.range r.F.length).map g) rfl h.nd hbl ?_ (h.awg _ fun _ _=>rfl) ⟨_,rfl,rfl⟩ ?_ (by omega) ?_
 · intro c y hc hcb _ _
   exact (qwZ.1 hc).resolve_left hcb
 · intro i y hy hd
   have hm:=qcZ hy;simp only[RS.blks,RS.cell0,qwZ]at hm;rcases hm with rfl | rfl | rfl | hm
   · rfl
   · rfl
   · rfl
   · obtain⟨e,_,rfl⟩:=reZ.1 hm
     rfl
 · refine Aft.weak (Fn:=Fn) (Hn:=[.obj true r.blks]) (Weak.mk' [0] (by decide) (by match n0,h01 with | 0,_=>rfl | 1,_=>rfl) hF (zM (b:=0) hbl _ _ rfl fun i c x h1 h2=>?_)) (by simp;omega) (Aft.done (by simp;omega) hk)
   match i,h1,h2 with
   | 0,h1,h2=>cases h1;cases h2;exact .inl ⟨rfl,rfl⟩
theorem RAt.close2(h:RAt H r x 0 fo m g){o:Bool}{l:List AV}(h1:H[1]? = some (.cells o l))(hl:∀rn,AWs rn l l)(hf:fo≠1)(hm:m≠1)(hg:∀i,i<r.F.length->g i≠1){F:List AV}(Fn:List AV){K:List AV->zA->Prop}(hF:AWs [0,1] Fn F)
   (hk:K Fn [.obj true r.blks,.cells o l]):Aft 2 F H K:=by
 have hbl:0<H.length:=(q1Z.1 h.c0).1;have hbl1:1<H.length:=(q1Z.1 h1).1;refine Aft.close (o:=true) (b:=0) (sub:=r.blks) (rs:=0::fo::m::(List.range r.F.length).map g) (ks:=fo::m::(List.range r.F.length).map g) rfl h.nd hbl ?_ (h.awg _ fun _ _=>rfl) ⟨_,rfl,rfl⟩ ?_ hbl1 ?_
 · intro c y hc hcb _ _
   exact (qwZ.1 hc).resolve_left hcb
 · intro i y hy hd
   have hm:=qcZ hy;simp only[RS.blks,RS.cell0,qwZ]at hm;rcases hm with rfl | rfl | rfl | hm
   · rfl
   · rfl
   · rfl
   · obtain⟨e,_,rfl⟩:=reZ.1 hm
     rfl
 · refine Aft.weak (Fn:=Fn) (Hn:=[.obj true r.blks,.cells o l]) (Weak.mk' [0,1] (by decide) rfl hF (zM (b:=0) hbl _ _ rfl fun i c y e1 e2=>?_)) (by simp;omega) (Aft.done (by simp) hk)
   match i,e1,e2 with
   | 0,e1,e2=>cases e1;cases e2;exact .inl ⟨rfl,rfl⟩
   | 1,e1,e2 =>
     cases e1;cases e2
     refine .inr ⟨⟨by decide,fun hc=>?_⟩,by rw[q2Z,h1];exact⟨id,hl _⟩⟩;rcases qwZ.1 hc with e | hc
     · exact hf e.symm
     rcases qwZ.1 hc with e | hc
     · exact hm e.symm
     · obtain⟨a,ha,e⟩:=reZ.1 hc
       exact hg a (List.mem_range.1 ha) e
end
theorem zIQ(r:RS):zY [.obj true r.blks] 0 r.blks=r.blks:=by
 have hg:∀i,Zr 0 1 i=i:=fun i=>by unfold Zr;split <;> omega
 unfold zY;simp only[RS.blks,q7Z,q8Z,List.getD_cons_zero,s9Z,List.drop_succ_cons,List.drop_zero,q9Z,qaZ,s8Z];rw[zEQ hg,List.map_congr_left (fun B _=>zEQ hg B)];simp
theorem zOL(r:RS)(o:Bool)(l:List AV):RAt (zY [.obj true r.blks,.cells o l] 0 r.blks) r (.sl 3 0 r.F.length 1 false) 0 2 3 (fun i=>i+4)/\(zY [.obj true r.blks,.cells o l] 0 r.blks)[1]? = some (.cells o l):=by
 have e:zY [.obj true r.blks,.cells o l] 0 r.blks=r.cell0 (.sl 3 0 r.F.length 1 false) 2::.cells o l::.obj true r.dir.blks::.cells true (zBC (fun i=>i+4) 0 r.F.length)::zAc r.F:=by
   unfold zY;simp only[RS.blks,RS.cell0,q7Z,q8Z,List.getD_cons_zero,s9Z,List.drop_succ_cons,List.drop_zero,q9Z,qaZ,s8Z,Nat.reduceAdd,s1Z,reB,zj,reA,Zr,zGw];simp only[zAc,List.map_map];rw[zDh (g':=fun i=>i+4) _ _ fun i _ _=>by rw[if_neg (by omega)];omega];simp[Function.comp_def,reB]
 rw[e];refine ⟨⟨rfl,.inl rfl,rfl,rfl,fun i f h=>?_,?_⟩,rfl⟩
 · simp only[r9Z]
   exact zFT h
 · rw[rdZ,rdZ,rdZ]
   refine ⟨fun h=>?_,fun h=>?_,fun h=>?_,?_⟩
   · rcases qwZ.1 h with h | h
     · omega
     rcases qwZ.1 h with h | h
     · omega
     · obtain⟨a,_,h⟩:=reZ.1 h;omega
   · rcases qwZ.1 h with h | h
     · omega
     · obtain⟨a,_,h⟩:=reZ.1 h;omega
   · obtain⟨a,_,h⟩:=reZ.1 h;omega
   · rw[List.nodup_iff_pairwise_ne,List.pairwise_map]
     exact (List.nodup_iff_pairwise_ne.1 List.nodup_range).imp fun h e=>h (by omega)
noncomputable def zDQ(sub:zA):Option RS:=open Classical in if h:∃r:RS,sub=r.blks then some h.choose else none
theorem zAE{sub:zA}{r:RS}(h:zDQ sub=some r):sub=r.blks:=by
 unfold zDQ at h;split at h
 · rename_i hx
   cases h;exact hx.choose_spec
 · cases h
theorem zJ5:∀{l m:List PF},zAc l=zAc m->l=m
 | [],[],_=>rfl
 | [],_::_,h=>by simp[zAc]at h
 | _::_,[],h=>by simp[zAc]at h
 | a::l,b::m,h=>by
   simp only[zAc,s1Z,List.cons.injEq,ABlk.obj.injEq,true_and]at h;have h3:=congrArg zEF h.1;rw[zHK,zHK]at h3;rw[Option.some.inj h3,zJ5 (l:=l) (m:=m) h.2]
theorem zPg{r s:RS}(h:r.blks=s.blks):r=s:=by
 obtain⟨d,f,q,s1,a,w⟩:=r;obtain⟨d',f',q',s',a',w'⟩:=s;simp only[RS.blks,RS.cell0,List.cons.injEq,ABlk.cells.injEq,ABlk.obj.injEq,AV.int.injEq,AV.bool.injEq,true_and,and_true]at h;obtain⟨⟨_,h1,h2,h3,h4⟩,h5,_,h7⟩:=h;rw[h1,h2,h3,h4,zIS h5,zJ5 h7]
@[simp] theorem zK2(r:RS):zDQ r.blks=some r:=by
 unfold zDQ;have h:∃s:RS,r.blks=s.blks:=⟨r,rfl⟩
 rw[dif_pos h];exact congrArg some (zPg h.choose_spec).symm
end
section
open Go Go.Lib
attribute [-simp] zH zc zq zK zy
def zCg(l:Int)(w:Bool):Int×Bool:=if 0<l/\w=false then (l-1,decide (l-1=0)) else (l,w)
theorem RS.count_eq(r:RS):r.count=⟨r.dir,r.F,r.room,r.steps+1,(zCg r.left r.down).1,(zCg r.left r.down).2⟩:=by
 unfold RS.count zCg;split <;> rfl
theorem zU7(x0 x1 x2:AV)(s l:Int)(w:Bool)(rest:zA)(hs:0<=s/\s<=4611686018427387903)(hl:0<=l/\l<=4611686018427387903) :
   Ct Pz 92 [.ptr 0 0] (.cells true [x0,x1,x2,.int .i64 s,.int .i64 l,.bool w]::rest) (.bool (!(zCg l w).2)) (.cells true [x0,x1,x2,.int .i64 (s+1),.int .i64 (zCg l w).1,.bool (zCg l w).2]::rest):=by
 have hΓ:GOk Pz (zZ []):=zC;have w1:IntKind.i64.wrap (s+1)=s+1:=zI (by omega) (by omega);refine zL Tryz.func92 rfl ?_;simp only[Tryz.ntmps92,q7Z,q8Z,Nat.reduceAdd,Nat.reduceSub,qbZ,q9Z,qaZ];refine wS hΓ (by simp;exact wR) ?_;refine wS hΓ (by simp[w1];exact wR) ?_;unfold zCg;by_cases h1:0<l
 · cases w with
   | true =>
     rw[if_neg (by simp)];refine wE hΓ (by simp[h1];exact wT) ?_;exact⟨.inr rfl,by simp[Tryz.f92],rfl⟩
   | false =>
     rw[if_pos ⟨h1,rfl⟩];have w2:IntKind.i64.wrap (l-1)=l-1:=zI (by omega) (by omega);obtain⟨l',hl'⟩:∃x,l-1=x:=⟨_,rfl⟩
     rw[hl']at w2 ⊢;by_cases h2:l'=0
     · subst h2
       refine wE hΓ (by simp[h1,hl',w2];exact wT) ?_;exact⟨.inr rfl,by simp[Tryz.f92],rfl⟩
     · have h3:(l'==0)=false:=beq_eq_false_iff_ne.2 h2
       refine wE hΓ (by simp[h1,h2,h3,hl',w2];exact wT) ?_;exact⟨.inr rfl,by simp[Tryz.f92,h2],by simp[h2]⟩
 · rw[if_neg (fun h=>h1 h.1)]
   refine wE hΓ (by simp[h1];exact wT) ?_;exact⟨.inr rfl,by simp[Tryz.f92],rfl⟩
def zKW:zJ:=fun args H=>match args with
 | [.ptr 0 0]=>match H[(0:Nat)]? with
   | some (.cells true [x0,x1,x2,.int .i64 s,.int .i64 l,.bool w])=>if (0<=s/\s<=4611686018427387903)/\(0<=l/\l<=4611686018427387903) then
       some (.bool (!(zCg l w).2),H.set 0 (.cells true [x0,x1,x2,.int .i64 (s+1),.int .i64 (zCg l w).1,.bool (zCg l w).2]),[0]) else none
   | _=>none
 | _=>none
theorem zOl:Sound Pz 92 zKW:=by
 refine ⟨zD Tryz.func92 rfl (by decide),fun args H v H' W hs=>?_,fun args H v H' W hs=>?_⟩ <;> (unfold zKW at hs;split at hs <;> try cases hs) <;> (split at hs <;> try cases hs) <;> (rename_i h0;split at hs <;> cases hs;rename_i hc)
 · cases H with
   | nil=>cases h0
   | cons B rest =>
     cases h0;exact zU7 _ _ _ _ _ _ rest hc.1 hc.2
 · exact⟨by simp,fun c hc hn=>by rw[qfZ (fun e=>hn (by simp[e]))]⟩
theorem RAt.step{H:zA}{r:RS}{x:AV}{fo m:Nat}{g:Nat->Nat}(h:RAt H r x 0 fo m g)(h1:0<=r.steps/\r.steps<=4611686018427387903)(h2:0<=r.left/\r.left<=4611686018427387903) :
   zKW [.ptr 0 0] H=some (.bool (!r.count.down),H.set 0 (r.count.cell0 x fo),[0]):=by
 have h0:=h.c0;unfold RS.cell0 at h0;simp only[zKW,h0];rw[if_pos ⟨h1,h2⟩,RS.count_eq];rfl
theorem RAt.count{H:zA}{r:RS}{x:AV}{fo m:Nat}{g:Nat->Nat}(h:RAt H r x 0 fo m g):RAt (H.set 0 (r.count.cell0 x fo)) r.count x 0 fo m g:=by
 rw[RS.count_eq];exact h.c0set _ _ _
theorem RS.ok_count{r:RS}{A B:Nat}(h:r.ok A B):r.count.ok (A+1) B:=by
 have h1:=h.s0;have h2:=h.s1;have h3:=h.a0;have h4:=h.a1;have hd:r.dir.ok (A+1):=⟨h.dir.ne,by have:=h.dir.len;omega,fun W hW=>Nat.le_trans (h.dir.row W hW) (by omega),h.dir.lo,by have:=h.dir.hi;omega⟩
 unfold RS.count;split
 · exact⟨hd,h.flen,h.fine,h.has,h.q0,h.q1,by dsimp only;omega,by dsimp only;omega,by dsimp only;omega,by dsimp only;omega⟩
 · exact⟨hd,h.flen,h.fine,h.has,h.q0,h.q1,by dsimp only;omega,by dsimp only;omega,h3,h4⟩
theorem RF.ok_mono{r:RF}{A B:Nat}(h:r.ok A)(hab:A<=B):r.ok B:=⟨h.ne,by have:=h.len;omega,fun W hW=>Nat.le_trans (h.row W hW) hab,h.lo,by have:=h.hi;omega⟩
noncomputable def zUY:Gam:=zZ [(178,zML)]
theorem zS5:GOk Pz zUY:=zB zO0 zC
def zI7(dir:RF)(g:Nat->Nat)(k:List UInt8):AV:=match NM.get dir.now k with
 | some z=>.ptr (g (z-1).toNat) 0
 | none=>.nilp
theorem zGL{H:zA}{r:RS}{fo m:Nat}{g:Nat->Nat}{c:Bool}(h:RAt H r (.sl m 0 r.F.length 1 c) 0 fo m g){A B:Nat}(hok:r.ok A B)(hA:A<=1000000)(k:List UInt8) :
   Ct Pz 81 [.ptr 0 0,.str k] H (zI7 r.dir g k) H:=by
 have hΓ:=zS5;have h0:=h.c0;have h1:=h.fold;have h2:=h.row;unfold RS.cell0 at h0;have hdo:r.dir.ok 1000000:=RF.ok_mono hok.dir hA;have hset:H.set fo (.obj true r.dir.blks)=H:=by
   obtain⟨a,b⟩:=q1Z.1 h1;rw[<-b,List.set_getElem_self]
 have hFA:r.F.length<=1000000:=by have:=hok.flen;have:=hok.dir.hi;omega
 refine zL Tryz.func81 rfl ?_;simp only[Tryz.ntmps81,q7Z,q8Z,Nat.reduceAdd,Nat.reduceSub,qbZ,q9Z,qaZ];refine wS hΓ (by simp;exact wR) ?_;unfold zI7;cases hg:NM.get r.dir.now k with
 | none =>
   have hfv:Zs r.dir.now k=.tuple [.int .i64 0,.bool false]:=by unfold Zs;rw[hg]
   refine wS hΓ (by simp[zUY,zML,h0,h1,hdo,hset,hfv];exact wR) ?_;refine wE hΓ (by simp;exact wT) ?_;exact⟨.inr rfl,by simp[Tryz.f81],rfl⟩
 | some z =>
   have hfv:Zs r.dir.now k=.tuple [.int .i64 z,.bool true]:=by unfold Zs;rw[hg]
   obtain⟨z1,z2⟩:=hok.hasN k z hg;obtain⟨i,hi⟩:∃i:Nat,z=i+1:=⟨(z-1).toNat,by omega⟩
   subst hi;have hiF:i<r.F.length:=by omega
   have e1:=zRa g r.F.length 0 i hiF;rw[s8Z]at e1;have e2:=zED g r.F.length 0;obtain⟨R,hR⟩:∃R,zBC g 0 r.F.length=R:=⟨_,rfl⟩
   rw[hR]at e1 e2 h2;obtain⟨n,hn⟩:∃n,r.F.length=n:=⟨_,rfl⟩
   rw[hn]at h0 hiF e2 hFA;have e3:∀h,R[i]'h=.ptr (g i) 0:=fun h=>(q1Z.1 e1).2;have w1:IntKind.i64.wrap ((i:Int)+1-1)=i:=by rw[show (i:Int)+1-1=i by omega];exact zI (by omega) (by omega)
   have w2:IntKind.i64.wrap (i:Int)=i:=zI (by omega) (by omega);have i1:i<R.length:=by omega
   have i2:(i:Int)<n:=by omega
   have hzt:((i:Int)+1-1).toNat=i:=by omega
   dsimp only;rw[hzt];refine wS hΓ (by simp[zUY,zML,h0,h1,hdo,hset,hfv];exact wR) ?_;refine wS hΓ (by simp;exact wR) ?_;refine wE hΓ (by simp[h0,h2,e1,e2,e3,w1,w2,i1,i2,hiF];exact wT) ?_;exact⟨.inr rfl,by simp[Tryz.f81],rfl⟩
theorem zSX{H:zA}{b:Nat}{x:ABlk}(h:H[b]? = some x):H.set b x=H:=by
 obtain⟨h1,h2⟩:=q1Z.1 h;rw[<-h2,List.set_getElem_self]
noncomputable def zQ7:zJ:=open Classical in ZS fun args H=>match args with
 | [.ptr b 0]=>match H[b]? with
   | some (.obj true sub)=>match zJa sub with
     | some f=>if f.ok 1000000 then some (.int .i64 ((f.was.length-1:Nat):Int)) else none
     | none=>none
   | _=>none
 | _=>none
theorem zM3:Sound Pz 176 zQ7:=by
 refine Zm (zD Tryz.func176 rfl (by decide)) fun args H v h=>?_;split at h <;> try cases h
 split at h <;> try cases h
 rename_i b _ sub hb;split at h <;> try cases h
 rename_i f hf;split at h <;> cases h
 rename_i hk;rw[zDJ hf]at hb;have:=ze (zYa (zUX f hk (qnZ _)) rfl) rfl rfl hb
 rwa [zSX hb]at this
noncomputable def zC2:Gam:=zZ [(92,zKW),(93,zQw),(295,zWC),(220,zVR),(176,zQ7),(78,zKO),(250,zYI),(168,zQd)]
theorem zGU:GOk Pz zC2:=zB zOl (zB zNi (zB zOs (zB zOx (zB zM3 (zB zHo (zB zQo (zB zO6 zC)))))))
theorem zVf{H:zA}{r:RS}{fo m:Nat}{g:Nat->Nat}{c:Bool}(h:RAt H r (.sl m 0 r.F.length 1 c) 0 fo m g){A B:Nat}(hok:r.ok A B)(hA:A<=1000000)(k:List UInt8) :
   GOk Pz (zZ [(81,zB7 [.ptr 0 0,.str k] H (zI7 r.dir g k) H)]) :=
 zB (ZA (zD Tryz.func81 rfl (by decide)) (zGL h hok hA k) (qnZ _)) zC
theorem zBK{r:RS}{A B:Nat}(hok:r.ok A B){k:List UInt8}{z:Int}(hk:NM.get r.dir.now k=some z)(g:Nat->Nat):∃i f,(z-1).toNat=i/\i<r.F.length/\r.F[i]? = some f/\f.ok B/\zI7 r.dir g k=.ptr (g i) 0:=by
 obtain⟨h1,h2⟩:=hok.hasN k z hk;obtain⟨i,hi⟩:∃i,(z-1).toNat=i:=⟨_,rfl⟩
 have hl:i<r.F.length:=by omega
 refine ⟨i,r.F[i],hi,hl,q3Z hl,hok.fine _ (r3Z hl),?_⟩;unfold zI7;rw[hk];show AV.ptr (g (z-1).toNat) 0=_;rw[hi]
theorem zFI{r:RS}{k:List UInt8}(hk:NM.get r.dir.now k=none)(g:Nat->Nat):zI7 r.dir g k=.nilp:=by
 unfold zI7;rw[hk]
theorem zTY(r:RS){A B:Nat}(hok:r.ok A B)(hA:A<=900000)(hB:B<=1000000000000)(k:List UInt8) :
   Ct Pz 71 [.ptr 0 0,.str k] [.obj true r.blks] (.int .i64 (r.sync k).2) [.obj true (r.sync k).1.blks]:=by
 have hΓ:=zGU;refine zE Tryz.func71 rfl ?_;simp only[Tryz.ntmps71,q7Z,q8Z,Nat.reduceAdd,Nat.reduceSub,qbZ,q9Z,qaZ];refine Sim.aft (Aft.open (b:=0) rfl (by simp) (Aft.done (by simp[zY]) ?_));rw[zIQ];have ha:=r.blks_at;have hlen:1<=r.blks.length:=by rw[RS.blks_length];omega
 obtain⟨H,hH⟩:∃H,r.blks=H:=⟨_,rfl⟩
 rw[hH]at ha hlen ⊢;have hst:=ha.step ⟨hok.s0,by have:=hok.s1;omega⟩ ⟨hok.a0,hok.a1⟩;have ha2:=ha.count;have hok2:=RS.ok_count hok;rw[show r.F=r.count.F from (RS.count_F r).symm]at hst ha2;unfold RS.sync RS.of RS.step;obtain⟨q,hq⟩:∃q,r.count=q:=⟨_,rfl⟩
 rw[hq]at hst ha2 hok2 ⊢;obtain⟨H2,hH2⟩:∃X,H.set 0 (q.cell0 (.sl 2 0 q.F.length 1 false) 1)=X:=⟨_,rfl⟩
 have hlen2:1<=H2.length:=by rw[<-hH2,r8Z];exact hlen
 rw[hH2]at hst ha2;have hdo:q.dir.ok 1000000:=RF.ok_mono hok2.dir (by omega);have h0:=ha2.c0;unfold RS.cell0 at h0;have h1:=ha2.fold;clear hH2 hH hq;refine wS hΓ (by simp;exact wR) ?_ (by simp[hlen] <;> omega);cases hd:q.down with
 | true =>
   rw[hd]at hst;simp only[Bool.not_true]at hst;rw[if_pos rfl];refine Sim.after (wE hΓ (by simp[zC2,hst];exact wT) ?_ (by simp[hlen] <;> omega));exact ha2.close ([.top,.top,.top,.top,.int .i64 13]++qbZ 11 .top) (by simp[AWs,AW]) ⟨.inr rfl,_,by simp[Tryz.f71] <;> rfl,Weak.mk' [0] (by decide) rfl (by simp) (by simp[AWb])⟩
 | false =>
   rw[hd]at hst;simp only[Bool.not_false]at hst;rw[if_neg (by simp)];dsimp only;refine wS hΓ (by simp[zC2,hst];exact wR) ?_ (by simp[hlen] <;> omega);have hΓf:=zVf ha2 hok2 (by omega) k;cases hk:NM.get q.dir.now k with
   | none =>
     rw[zFI hk]at hΓf;refine wS hΓf (by simp[zFw];exact wR) ?_ (by omega);refine Sim.after (wE hΓ (by simp;exact wT) ?_ (by omega));exact ha2.close ([.top,.top,.top,.top,.int .i64 9]++qbZ 11 .top) (by simp[AWs,AW]) ⟨.inr rfl,_,by simp[Tryz.f71] <;> rfl,Weak.mk' [0] (by decide) rfl (by simp) (by simp[AWb])⟩
   | some z =>
     obtain⟨i,f,e1,e2,e3,e4,e5⟩:=zBK hok2 hk (fun i=>i+3);have e6:=ha2.file i f e3;have e7:f.small:=PF.ok_mono e4 hB;rw[e5]at hΓf;try dsimp only
     rw[e1,e3];try dsimp only
     have e8:=ha2.fileset e2 ⟨f.now,[]⟩;try dsimp only at e8
     refine wS hΓf (by simp[zFw];exact wR) ?_ (by omega);refine wS hΓ (by simp;exact wR) ?_ (by omega);refine Sim.after (wE hΓ (by simp[zC2,zQd,e6,e7];exact wT) ?_ (by omega));exact e8.close ([.top,.top,.top,.top,.int .i64 0]++qbZ 11 .top) (by simp[AWs,AW]) ⟨.inr rfl,_,by simp[Tryz.f71] <;> rfl,Weak.mk' [0] (by decide) rfl (by simp) (by simp[AWb])⟩
theorem zMc(r:RS){A B:Nat}(hok:r.ok A B)(hA:A<=900000) :
   Ct Pz 133 [.ptr 0 0] [.obj true r.blks] (.int .i64 (r.syncDir).2) [.obj true (r.syncDir).1.blks]:=by
 have hΓ:=zGU;refine zE Tryz.func133 rfl ?_;simp only[Tryz.ntmps133,q7Z,q8Z,Nat.reduceAdd,Nat.reduceSub,qbZ,q9Z,qaZ];refine Sim.aft (Aft.open (b:=0) rfl (by simp) (Aft.done (by simp[zY]) ?_));rw[zIQ];have ha:=r.blks_at;have hlen:1<=r.blks.length:=by rw[RS.blks_length];omega
 obtain⟨H,hH⟩:∃H,r.blks=H:=⟨_,rfl⟩
 rw[hH]at ha hlen ⊢;have hst:=ha.step ⟨hok.s0,by have:=hok.s1;omega⟩ ⟨hok.a0,hok.a1⟩;have ha2:=ha.count;have hok2:=RS.ok_count hok;rw[show r.F=r.count.F from (RS.count_F r).symm]at hst ha2;unfold RS.syncDir RS.step;obtain⟨q,hq⟩:∃q,r.count=q:=⟨_,rfl⟩
 rw[hq]at hst ha2 hok2 ⊢;obtain⟨H2,hH2⟩:∃X,H.set 0 (q.cell0 (.sl 2 0 q.F.length 1 false) 1)=X:=⟨_,rfl⟩
 have hlen2:1<=H2.length:=by rw[<-hH2,r8Z];exact hlen
 rw[hH2]at hst ha2;have hdo:q.dir.ok 1000000:=RF.ok_mono hok2.dir (by omega);have h0:=ha2.c0;unfold RS.cell0 at h0;have h1:=ha2.fold;clear hH2 hH hq;refine wS hΓ (by simp;exact wR) ?_ (by simp[hlen] <;> omega);cases hd:q.down with
 | true =>
   rw[hd]at hst;simp only[Bool.not_true]at hst;rw[if_pos rfl];refine Sim.after (wE hΓ (by simp[zC2,hst];exact wT) ?_ (by simp[hlen] <;> omega));exact ha2.close ([.top,.top,.int .i64 13]++qbZ 13 .top) (by simp[AWs,AW]) ⟨.inr rfl,_,by simp[Tryz.f133] <;> rfl,Weak.mk' [0] (by decide) rfl (by simp) (by simp[AWb])⟩
 | false =>
   rw[hd]at hst;simp only[Bool.not_false]at hst;rw[if_neg (by simp)];dsimp only;refine wS hΓ (by simp[zC2,hst];exact wR) ?_ (by simp[hlen] <;> omega);obtain⟨p,hp⟩:∃p:Nat,q.dir.was.length-1=p:=⟨_,rfl⟩
   have hpl:(p:Int)<=9223372036854775807:=by have:=hdo.len;omega
   have hpl0:(-9223372036854775808:Int)<=p:=by omega
   rw[hp];refine Sim.seq (Sim.draw hmix (by omega) ?_);refine SimR.many hΓ 9 (by simp[zF];rfl) (by omega) (by kernel_rfl) (by simp +decide [zC2,zQ7,ZS,h0,h1,hdo,hp];first | exact wR | exact⟨by kernel_rfl,wR⟩) ?_;refine SimR.one hΓ _ rfl (by kernel_rfl) (by simp +decide [zC2,zKO,h1,hdo,hpl,hpl0];exact wR) ?_;refine SimR.done rfl ?_;dsimp only;refine Sim.after (wE hΓ (by simp;exact wT) ?_ (by simp <;> omega));exact (ha2.dirset (q.dir.survive p)).close ([.top,.top,.int .i64 0]++qbZ 13 .top) (by simp[AWs,AW]) ⟨.inr rfl,_,by simp[Tryz.f133] <;> rfl,Weak.mk' [0] (by decide) rfl (by simp) (by simp[AWb])⟩
theorem zWI(r:RS)(n:Int):Ct Pz 15 [.ptr 0 0,.int .i64 n] [.obj true r.blks] (.tuple []) [.obj true (r.arm n).blks]:=by
 refine zE Tryz.func15 rfl ?_;simp only[Tryz.ntmps15,q7Z,q8Z,Nat.reduceAdd,Nat.reduceSub,qbZ,q9Z,qaZ];refine Sim.aft (Aft.open (b:=0) rfl (by simp) (Aft.done (by simp[zY]) ?_));rw[zIQ];have ha:=r.blks_at;have hlen:1<=r.blks.length:=by rw[RS.blks_length];omega
 obtain⟨H,hH⟩:∃H,r.blks=H:=⟨_,rfl⟩
 rw[hH]at ha hlen ⊢;have h0:=ha.c0;unfold RS.cell0 at h0;have ha2:=ha.c0set r.steps (max 0 n) r.down;obtain⟨y,hy⟩:∃y,max 0 n=y:=⟨_,rfl⟩
 unfold RS.arm;rw[hy]at ha2 ⊢;refine Sim.after (wE zC (by simp[-zAx,zAW,h0,hy];exact wT) ?_ (by omega));exact ha2.close (qbZ 9 .top) (by simp[AWs,AW]) ⟨.inl rfl,_,by simp[Tryz.f15] <;> rfl,Weak.mk' [0] (by decide) rfl (by simp) (by simp[AWb])⟩
end
end Go.Proofs.YtfhidaoiofeooaaGreatDoor
