/- Parts of the proof of SweepTells: lemmas, each with its own conditions. -/
import Derived.Test.YtfhidaoiofeooaaGreatDoorY21
set_option maxHeartbeats 64000000
open List renaming getElem?_eq_some_iff → q1Z, getD_eq_getElem?_getD → q2Z, getElem?_eq_getElem → q3Z, getElem?_append_left → q4Z, getElem?_append_right → q5Z, take_of_length_le → q6Z, length_cons → q7Z, length_nil → q8Z, cons_append → q9Z, nil_append → qaZ, replicate → qbZ, mem_of_getElem? → qcZ, length_append → qdZ, getElem?_set_ne → qfZ, length_take → qjZ, mem_cons → qwZ, getElem?_map → qzZ, append_nil → r2Z, getElem_mem → r3Z, getElem?_take → r4Z, getElem?_drop → r5Z, take_append_drop → r6Z, length_map → r7Z, getElem?_cons_succ → r9Z, getElem?_cons_zero → raZ, nodup_cons → rdZ, mem_map → reZ, getElem?_range → rfZ, map_append → roZ, map_cons → s1Z, getElem?_eq_none → s4Z, all_eq_true → s5Z, set_cons_zero → s9Z
open Option renaming map_eq_some_iff → qlZ
open Nat renaming le_refl → qnZ, zero_le → qqZ, lt_irrefl → rnZ, add_sub_cancel_left → s3Z, zero_add → s8Z
namespace Go.Proofs.YtfhidaoiofeooaaGreatDoor
open _root_.Go.Proofs.Tryz renaming prog → Pz
set_option maxRecDepth 100000
section
open Go Go.Lib
attribute [-simp] zG zT zc zJ zn
theorem zPq(l:List (List UInt8))(v:List UInt8)(hl:l.length<=9223372036854775807):Ct Pz 213 [.sl 0 0 l.length 1 false,.str v] [.cells true (l.map .str)] (.int .i64 (if v∈l then (l.idxOf v:Int) else -1)) [.cells true (l.map .str)]:=by
 refine zE Tryz.func213 rfl ?_;simp only[Tryz.ntmps213,q7Z,q8Z,Nat.reduceAdd,Nat.reduceSub,qbZ,q9Z,qaZ];obtain⟨L,hL⟩:∃L,l.length=L:=⟨_,rfl⟩
 rw[hL]at hl ⊢;have hfr:zL (l.map AV.str)=true:=zH _ _ fun _=>rfl;refine wS zB (by simp;exact wR) ?_;refine Sim.seq (Sim.mono (Q:=fun e F' H'=>(e=.normal/\v∉l/\Weak 1 F' H' ([.top,.top,.top,.top,.int .i64 0]++qbZ 14 .top) [.cells true (l.map .str)])\/(e=.ret/\∃v1,zCt Pz Tryz.f213.results.toList F' H'=some v1/\Weak 1 [v1] H' [.int .i64 (if v∈l then (l.idxOf v:Int) else -1)] [.cells true (l.map .str)]))
   (wS zB (by simp;exact wR) (Sim.block (Sim.loopW (fun k:Nat=>k<=L/\v∉l.take k) (fun k=>[.sl 0 0 L 1 false,.str v,.top,.top,.int .i64 0,.top,.top,.int .i64 L,.int .i64 k]++qbZ 10 .top) (fun _=>[.cells true (l.map .str)]) (fun k=>L-k) 0 (by simp) ⟨qqZ _,by simp⟩ ?_ fun k hk=>?_))) ?_)
 · exact wW [0] (by simp[AWb,Z7 hfr])
 · obtain⟨hk1,hk2⟩:=hk
   by_cases hlt:k<L
   · have hltI:(k:Int)<L:=by omega
     have hkl:k<l.length:=by omega
     have y1:IntKind.i64.wrap ((k:Int)+1)=k+1:=zK (by omega) (by omega);obtain⟨u,hu⟩:∃u,l[k]=u:=⟨_,rfl⟩
     by_cases he:v=u
     · have hb:(v==u)=true:=by simpa using he
       refine wE zB (by simp +decide [hltI,hlt,hL,hu,he,hb];exact wT) ?_;have hmem:v∈l:=by rw[he,<-hu];exact r3Z hkl
       have hidx:l.idxOf v=k:=by
         have h1:l.idxOf v<=k:=by
           have:v∈l.take (k+1):=by rw[List.take_add_one,q3Z hkl,hu,<-he];simp
           have h3:l.idxOf v=(l.take (k+1)).idxOf v:=by
             conv=>lhs;rw[<-r6Z (k+1) l]
             rw[List.idxOf_append,if_pos this]
           have h4:=List.idxOf_lt_length_of_mem this;rw[qjZ]at h4;omega
         have h2:k<=l.idxOf v:=by
           apply Nat.le_of_not_lt;intro h;apply hk2;have h5:l.idxOf v<l.length:=by omega
           have h6:l[l.idxOf v]=v:=List.getElem_idxOf h5;rw[<-h6];exact List.mem_take_iff_getElem.2 ⟨l.idxOf v,by omega,rfl⟩
         omega
       rw[if_pos hmem];exact .inr ⟨rfl,_,by simp[Tryz.f213] <;> rfl,Weak.mk' [0] (by decide) (by decide) (by simp[hidx]) (by simp[AWb,Z7 hfr])⟩
     · have hb:(v==u)=false:=by simpa using he
       refine wE zB (by simp +decide [hltI,hlt,hL,hu,he,hb,y1];exact wT) ?_;refine ⟨k+1,⟨by omega,?_⟩,wW [0] (by simp[AWb,Z7 hfr]),by omega⟩;rw[List.take_add_one,q3Z hkl,hu];simp[hk2,he]
   · have hin:k=L:=by omega
     subst hin;refine wE zB (by simp;exact wT) ?_;dsimp only;rw[if_pos rfl];rw[q6Z (by omega)]at hk2;exact .inl ⟨rfl,hk2,wW [0] (by simp[AWb,Z7 hfr])⟩
 · rintro e F' H' hlen (⟨rfl,h1,hw⟩ | ⟨rfl,hw⟩)
   · dsimp only
     refine Sim.weak hw hlen ?_;simp only[q9Z,qaZ,qbZ];rw[if_neg h1];refine wE zB (by simp;exact wT) ?_;exact⟨.inr rfl,_,by simp[Tryz.f213] <;> rfl,wW [0] (by simp[AWb,Z7 hfr])⟩
   · exact⟨.inr rfl,hw⟩
noncomputable def zGy:zS:=ZD fun args H=>match args with
 | [.sl b 0 n 1 _c,.str v]=>match H[b]? with
   | some (.cells true l)=>match zp l with
     | some a=>if n=a.length/\a.length<=9223372036854775807 then some (.int .i64 (if v∈a then (a.idxOf v:Int) else -1)) else none
     | none=>none
   | _=>none
 | _=>none
theorem zJ4:Sound Pz 213 zGy:=by
 refine ZU (zD Tryz.func213 rfl (by decide)) fun args H v h=>?_;split at h <;> try cases h
 rename_i b n c w;split at h <;> try cases h
 rename_i l hb;split at h <;> try cases h
 rename_i a ha;split at h <;> cases h
 rename_i hc;obtain⟨rfl,hl⟩:=hc;have e:=zAL ha;subst e;have hbl:b<H.length:=(q1Z.1 hb).1;have hfr:zL (a.map AV.str)=true:=zH _ _ fun _=>rfl;have:=zZ (H:=H) (args:=[.sl b 0 a.length 1 c,.str w]) (zPq a w hl) [b] (by simp) ⟨⟨rfl,rfl,rfl,by simp⟩,rfl,trivial⟩ ⟨by rw[q2Z,hb];exact⟨id,AWs.refl _ _ hfr⟩,hbl,trivial⟩ rfl;obtain⟨h1,h2⟩:=q1Z.1 hb;have hset:H.set b (.cells true (a.map .str))=H:=by rw[<-h2,List.set_getElem_self]
 simpa[zW,ABlk.own,reB,reA,hset,ZH _ _ (show Zo (a.map AV.str)=true by simp[Zo,zAs])] using this
noncomputable def zJl:zS:=ZD fun args H=>match args with
 | [.sl b 0 n 1 _c,.str v]=>match H[b]? with
   | some (.cells true l)=>match zp l with
     | some a=>if n=a.length/\a.length<=9223372036854775807 then some (.bool (decide (v∈a))) else none
     | none=>none
   | _=>none
 | _=>none
theorem zLS:Sound Pz 126 zJl:=by
 refine ZU (zD Tryz.func126 rfl (by decide)) fun args H v h=>?_;split at h <;> try cases h
 rename_i b n c w;split at h <;> try cases h
 rename_i l hb;split at h <;> try cases h
 rename_i a ha;split at h <;> cases h
 rename_i hc;have hΓ:GOk Pz (zh [(213,zGy)]):=zC zJ4 zB;refine ZG Tryz.func126 rfl ?_;simp only[Tryz.ntmps126,q7Z,q8Z,Nat.reduceAdd,Nat.reduceSub,qbZ,q9Z,qaZ];have hn:=hc.1;have hl:=hc.2;by_cases hm:w∈a
 · have h0:(0:Int)<=(a.idxOf w:Int):=by omega
   refine wE hΓ (by simp +decide [zGy,ZD,hb,ha,hn,hl,hm,h0];exact wT) ?_;exact⟨.inr rfl,by simp[Tryz.f126,hm],rfl⟩
 · refine wE hΓ (by simp +decide [zGy,ZD,hb,ha,hn,hl,hm];exact wT) ?_
   exact⟨.inr rfl,by simp[Tryz.f126,hm],rfl⟩
end
section
open Go Go.Lib
def ndA:NM->List AV
 | []=>[]
 | e::l=>.str e.1::.int .i64 e.2::ndA l
@[simp] theorem zz:∀l,(ndA l).length=l.length*2
 | []=>rfl
 | e::l=>by simp[ndA,zz l];omega
theorem zBy:∀l m,ndA (l++m)=ndA l++ndA m
 | [],m=>rfl
 | e::l,m=>by simp[ndA,zBy l m]
@[simp] theorem Zz:∀l,zL (ndA l)=true
 | []=>rfl
 | e::l=>by simp[ndA,Zz l]
@[simp] theorem zQT:∀l,Zo (ndA l)=true
 | []=>rfl
 | e::l=>by have:=zQT l;simp only[Zo]at this ⊢;simp[ndA,zAs,this]
@[simp] theorem zBs:∀l,(ndA l).all zx=true
 | []=>rfl
 | e::l=>by have:=zBs l;simp only[ndA,List.all_cons,this,zx,Bool.and_true]
@[simp] theorem zSr(k:Nat):∀l:NM,zAK k (ndA l)=ndA l
 | []=>rfl
 | e::l=>by simp[ndA,zSr k l,shA]
theorem zAl{l:NM}{n:Nat}(h:l.length=n):(ndA l).take (n*2)=ndA l:=q6Z (by simp[h])
theorem zDz:∀(l:NM) (k:Nat) (h:k<l.length),((ndA l).drop (k*2)).take 2=[.str l[k].1,.int .i64 l[k].2]
 | a::l,0,_=>by simp[ndA]
 | a::l,k+1,h=>by
   have:=zDz l k (by simpa using h);rw[show (k+1)*2=2+k*2 by omega];simp only[ndA,List.getElem_cons_succ];rw[<-List.drop_drop];simpa using this
theorem zDX(l:NM)(k:Nat)(h:k<l.length):(∀h',(ndA l)[k*2]'h'=.str l[k].1)/\(ndA l)[k*2]? = some (.str l[k].1):=by
 have e:(ndA l)[k*2]? = some (.str l[k].1):=by
   have:=zDz l k h;have h2:(((ndA l).drop (k*2)).take 2)[0]? = some (.str l[k].1):=by rw[this];rfl
   rw[r4Z,if_pos (by decide),r5Z,Nat.add_zero]at h2;exact h2
 exact⟨fun h'=>(q1Z.1 e).2,e⟩
theorem zQA(l:NM)(k:Nat)(h:k<l.length):(∀h',(ndA l)[k*2+1]'h'=.int .i64 l[k].2)/\(ndA l)[k*2+1]? = some (.int .i64 l[k].2):=by
 have e:(ndA l)[k*2+1]? = some (.int .i64 l[k].2):=by
   have:=zDz l k h;have h2:(((ndA l).drop (k*2)).take 2)[1]? = some (.int .i64 l[k].2):=by rw[this];rfl
   rw[r4Z,if_pos (by decide),r5Z]at h2;exact h2
 exact⟨fun h'=>(q1Z.1 e).2,e⟩
def ndOf:List AV->Option NM
 | []=>some []
 | .str k::.int .i64 n::l=>(ndOf l).map fun m=>(k,n)::m
 | _=>none
@[simp] theorem zHD:∀l,ndOf (ndA l)=some l
 | []=>rfl
 | e::l=>by simp[ndA,ndOf,zHD l]
theorem zO2:∀{l:List AV} {m:NM},ndOf l=some m->l=ndA m:=by
 intro l;induction l using ndOf.induct with
 | case1=>intro m h;cases h;rfl
 | case2 k n l ih =>
   intro m h;simp only[ndOf,qlZ]at h;obtain⟨m',h1,rfl⟩:=h;rw[ih h1];rfl
 | case3 l h1 h2 =>
   intro m h;unfold ndOf at h;split at h <;> simp_all
theorem zS5{l m:NM}(h:ndA l=ndA m):l=m:=by
 have:=zHD l;rw[h,zHD]at this;exact (Option.some.inj this).symm
def zIU(H:zA):AV->Option NM
 | .nils=>some []
 | .slice b off len 2 _=>match H[b]? with
   | some (.cells _ l)=>if off+len*2<=l.length then ndOf ((l.drop off).take (len*2)) else none
   | _=>none
 | .sl b off len 2 _=>match H[b]? with
   | some (.cells _ l)=>if off+len*2<=l.length then ndOf ((l.drop off).take (len*2)) else none
   | _=>none
 | _=>none
theorem zI1{H:zA}{x:AV}{a:NM}(h:zIU H x=some a):∃b off,(∀(i:Nat) (wd:List (Nat×Nat)),wd[i]? = some (b,off)->zAR wd (.sl i 0 a.length 2 false) x) /\
   (match H[b]? with | some (.cells _ l)=>off+(ndA a).length<=l.length/\ndA a=(l.drop off).take (ndA a).length | none=>True | _=>False):=by
 have key:∀(b off len:Nat) (o:Bool) (l:List AV),H[b]? = some (.cells o l)->off+len*2<=l.length->ndOf ((l.drop off).take (len*2))=some a->len=a.length/\off+(ndA a).length<=l.length/\ndA a=(l.drop off).take (ndA a).length:=by
   intro b off len o l hb hle hs;have e:=zO2 hs;have hlen:len=a.length:=by
     have:=congrArg List.length e;simp at this;omega
   subst hlen;exact⟨rfl,by simpa using hle,by rw[zz];exact e.symm⟩
 unfold zIU at h;split at h
 · cases h
   exact⟨H.length,0,fun i wd _=>by simp[zAR],by simp⟩
 · rename_i b off len c
   split at h;rotate_left
   · cases h
   rename_i o l hb;split at h;rotate_left
   · cases h
   rename_i hle;obtain⟨rfl,h1,h2⟩:=key b off len o l hb hle h;exact⟨b,off,fun i wd hw=>by simp[zAR,hw],by rw[hb];exact⟨h1,h2⟩⟩
 · rename_i b off len c
   split at h;rotate_left
   · cases h
   rename_i o l hb;split at h;rotate_left
   · cases h
   rename_i hle;obtain⟨rfl,h1,h2⟩:=key b off len o l hb hle h;exact⟨b,off,fun i wd hw=>by simp[zAR,hw],by rw[hb];exact⟨h1,h2⟩⟩
 · cases h
def zAk(g:Nat->Nat):Nat->List NM->List AV
 | _,[]=>[]
 | k,W::l=>.sl (g k) 0 W.length 2 false::zAk g (k+1) l
@[simp] theorem zBG(g:Nat->Nat):∀(k:Nat) (l:List NM),(zAk g k l).length=l.length
 | _,[]=>rfl
 | k,W::l=>by simp[zAk,zBG g (k+1) l]
theorem zGI(g:Nat->Nat):∀(l m:List NM) (k:Nat),zAk g k (l++m)=zAk g k l++zAk g (k+l.length) m
 | [],m,k=>rfl
 | W::l,m,k=>by
   simp only[q9Z,zAk,zGI g l m (k+1),q7Z];rw[show k+1+l.length=k+(l.length+1) by omega]
theorem zCr(g:Nat->Nat):∀(l:List NM) (k i:Nat) (W:NM),l[i]? = some W->(zAk g k l)[i]? = some (.sl (g (k+i)) 0 W.length 2 false)
 | V::l,k,0,W,h=>by cases h;rfl
 | V::l,k,i+1,W,h=>by
   have:=zCr g l (k+1) i W (by simpa using h);simp only[zAk,r9Z,this];rw[show k+1+i=k+(i+1) by omega]
theorem zG9{g g':Nat->Nat}:∀(l:List NM) (k:Nat),(∀i,k<=i->i<k+l.length->g i=g' i)->zAk g k l=zAk g' k l
 | [],_,_=>rfl
 | W::l,k,h=>by
   simp only[zAk];rw[h k (qnZ _) (by simp),zG9 l (k+1) fun i h1 h2=>h i (by omega) (by simp;omega)]
theorem zHp(rn:List Nat)(g g':Nat->Nat):∀(l:List NM) (k:Nat),(∀i,k<=i->i<k+l.length->rn[g i]? = some (g' i))->AWs rn (zAk g k l) (zAk g' k l)
 | [],_,_=>trivial
 | W::l,k,h=>⟨by simp[AW,h k (qnZ _) (by simp)],zHp rn g g' l (k+1) fun i h1 h2=>h i (by omega) (by simp;omega)⟩
theorem zBI(g:Nat->Nat):∀(l:List NM) (k:Nat),(zAk g k l).all zx=true
 | [],_=>rfl
 | W::l,k=>by have:=zBI g l (k+1);simp only[zAk,List.all_cons,this,zx,Bool.and_true]
def ZS(l:List NM):zA:=l.map fun W=>.cells true (ndA W)
@[simp] theorem Z1(l:List NM):(ZS l).length=l.length:=by simp[ZS]
theorem Zi{l:List NM}{i:Nat}{W:NM}(h:l[i]? = some W):(ZS l)[i]? = some (.cells true (ndA W)):=by simp[ZS,h]
def RF.cell0(r:RF)(m:Nat):ABlk:=.cells true [.sl m 0 r.was.length 1 false,.int .i64 r.last]
def RF.blks(r:RF):zA:=r.cell0 1::.cells true (zAk (fun i=>i+2) 0 r.was)::ZS r.was
theorem RF.blks_length(r:RF):r.blks.length=r.was.length+2:=by simp[RF.blks]
theorem RF.blks_id(r:RF)(rn:List Nat)(hr:∀i,i<r.blks.length->rn[i]? = some i):∀B∈r.blks,AWb rn B B:=by
 rw[RF.blks_length]at hr;intro B hB;simp only[RF.blks,RF.cell0,qwZ]at hB;rcases hB with rfl | rfl | hB
 · exact⟨id,by simp[AWs,AW,hr 1 (by omega)]⟩
 · exact⟨id,zHp _ _ _ _ _ fun i _ hi=>hr (i+2) (by omega)⟩
 · obtain⟨W,_,rfl⟩:=reZ.1 hB
   exact⟨id,AWs.refl _ _ (Zz W)⟩
structure FAt (H:zA) (r:RF) (x:AV) (b m:Nat) (g:Nat->Nat):Prop where
 c0:H[b]? = some (.cells true [x,.int .i64 r.last])
 hx:x=.sl m 0 r.was.length 1 false\/∃c,x=.slice m 0 r.was.length 1 c
 row:H[m]? = some (.cells true (zAk g 0 r.was))
 each:∀(i:Nat) W,r.was[i]? = some W->H[g i]? = some (.cells true (ndA W))
 nd:(b::m::(List.range r.was.length).map g).Nodup
theorem FAt.awg{H:zA}{r:RF}{x:AV}{b m:Nat}{g:Nat->Nat}(h:FAt H r x b m g)(rn:List Nat)(hr:∀i,i<r.was.length+2->rn[i]? = (b::m::(List.range r.was.length).map g)[i]?) :
   AWg rn H r.blks (b::m::(List.range r.was.length).map g):=by
 refine AWg.of _ _ (by simp[RF.blks]) fun i x c hx hc hlt=>?_;have hil:i<r.was.length+2:=by rw[<-RF.blks_length];exact (q1Z.1 hx).1
 rw[q2Z]
 match i,hx,hc with
 | 0,hx,hc =>
   cases hx;cases hc
   rw[h.c0];have h1:=hr 1 (by omega);simp only[r9Z,raZ]at h1;rcases h.hx with e | ⟨c,e⟩ <;> rw[e] <;> exact⟨id,by simp[AWs,AW,h1]⟩
 | 1,hx,hc =>
   cases hx;cases hc
   rw[h.row];refine ⟨id,zHp _ _ _ _ _ fun i _ hi=>?_⟩;rw[hr (i+2) (by omega)];simp only[r9Z,qzZ];rw[rfZ (by omega)];rfl
 | i+2,hx,hc =>
   simp only[RF.blks,r9Z]at hx hc;rw[qzZ]at hc;have hi:i<r.was.length:=by omega
   rw[rfZ hi]at hc;cases hc;have hw:=q3Z hi;rw[Zi hw]at hx;cases hx;rw[h.each i _ hw];exact⟨id,AWs.refl _ _ (Zz _)⟩
theorem Aft.closeRF(r:RF){n0:Nat}(h01:n0<=1){T Tn:zA}{v v':AV}(ts:List Nat)(hts:ts.Nodup)(hlen:Tn.length=ts.length)(hF:AW (0::ts.map (r.was.length+2+·)) v' v)
   (hT:∀(i t:Nat) x,ts[i]? = some t->Tn[i]? = some x->∃y,T[t]? = some y/\AWb (0::ts.map (r.was.length+2+·)) x y):Aft n0 [v] (r.blks++T) fun F H=>F=[v']/\H=.obj true r.blks::Tn:=by
 have hl:=r.blks_length;have hr:∀i,i<r.blks.length->(List.range r.blks.length)[i]? = some i:=fun i hi=>rfZ hi;refine Aft.close (o:=true) (b:=0) (sub:=r.blks) (rs:=List.range r.blks.length) (ks:=List.range' 1 (r.was.length+1)) (hr 0 (by omega)) List.nodup_range (by simp;omega) ?_ ?_ ⟨r.cell0 1,rfl,rfl⟩ ?_ (by simp;omega) ?_
 · intro c x hc h0 _ _
   have:=List.mem_range.1 hc;rw[List.mem_range'_1];omega
 · refine AWg.of _ _ (by simp) fun i x b hx hb hlt=>?_
   have hi:i<r.blks.length:=(q1Z.1 hx).1;rw[hr i hi]at hb;cases hb
   rw[q2Z,q4Z hi,hx];exact r.blks_id _ hr x (qcZ hx)
 · intro i y hy hd
   have hm:=qcZ hy;simp only[RF.blks,RF.cell0,qwZ]at hm;rcases hm with rfl | rfl | hm
   · rfl
   · rfl
   · obtain⟨e,_,rfl⟩:=reZ.1 hm
     rfl
 · refine Aft.weak (Fn:=[v']) (Hn:=.obj true r.blks::Tn) (Weak.mk' (0::ts.map (r.was.length+2+·)) ?_ ?_ ⟨hF,trivial⟩ (zR (b:=0) (by simp;omega) _ _ (by simp[hlen]) fun i c x h1 h2=>?_)) (by simp;omega) (Aft.done (by simp;omega) ⟨rfl,rfl⟩)
   · rw[rdZ]
     refine ⟨fun h=>?_,?_⟩
     · obtain⟨a,_,h⟩:=reZ.1 h;omega
     · rw[List.nodup_iff_pairwise_ne,List.pairwise_map]
       exact (List.nodup_iff_pairwise_ne.1 hts).imp fun h e=>h (by omega)
   · obtain rfl | rfl:n0=0\/n0=1:=by omega
     · rfl
     · rfl
   · cases i with
     | zero =>
       cases h1;cases h2;exact .inl ⟨rfl,rfl⟩
     | succ i =>
       simp only[r9Z,qzZ]at h1 h2;obtain⟨t,ht,rfl⟩:=qlZ.1 h1;obtain⟨y,hy,hw⟩:=hT i t x ht h2;refine .inr ⟨⟨by omega,by rw[List.mem_range'_1];omega⟩,?_⟩;rw[q2Z,q5Z (by omega),hl,s3Z,hy];exact hw
theorem zUb{P:Program}{f:FuncId}{xs:List AV}{v:AV}{r r':RF}(h:Ct P f xs r.blks v r'.blks)(hv:zD9 v=true):Ct P f xs [.obj true r.blks] v [.obj true r'.blks] :=
 zBi h (by rw[RF.blks_length];omega) (by
   have:=Aft.closeRF r' (qnZ 1) (T:=[]) (Tn:=[]) (v:=v) (v':=v) [] List.nodup_nil rfl (zFT v hv) (fun i t x h=>by simp at h)
   rwa [r2Z]at this)
noncomputable def zHJ(sub:zA):Option RF:=open Classical in if h:∃r:RF,sub=r.blks then some h.choose else none
theorem zC0{sub:zA}{r:RF}(h:zHJ sub=some r):sub=r.blks:=by
 unfold zHJ at h;split at h
 · rename_i hx
   cases h;exact hx.choose_spec
 · cases h
theorem zHB:∀{l m:List NM},ZS l=ZS m->l=m
 | [],[],_=>rfl
 | [],_::_,h=>by simp[ZS]at h
 | _::_,[],h=>by simp[ZS]at h
 | a::l,b::m,h=>by
   simp only[ZS,s1Z,List.cons.injEq,ABlk.cells.injEq,true_and]at h;rw[zS5 h.1,zHB (l:=l) (m:=m) h.2]
theorem zHz{r s:RF}(h:r.blks=s.blks):r=s:=by
 obtain⟨w,n⟩:=r;obtain⟨w',n'⟩:=s;simp only[RF.blks,RF.cell0,List.cons.injEq,ABlk.cells.injEq,AV.int.injEq,true_and,and_true]at h;obtain⟨⟨_,h1⟩,_,h2⟩:=h;rw[h1,zHB h2]
@[simp] theorem zVV(r:RF):zHJ r.blks=some r:=by
 unfold zHJ;have h:∃s:RF,r.blks=s.blks:=⟨r,rfl⟩
 rw[dif_pos h];exact congrArg some (zHz h.choose_spec).symm
end
section
open Go Go.Lib
attribute [-simp] zG zT zc zJ zn
theorem NM.wo_le(l:NM)(k:List UInt8):(NM.wo l k).length<=l.length:=List.length_filter_le _ _
theorem NM.wo_snoc(l:NM)(i:Nat)(h:i<l.length)(k:List UInt8):NM.wo (l.take (i+1)) k=if l[i].1=k then NM.wo (l.take i) k else NM.wo (l.take i) k++[l[i]]:=by
 unfold NM.wo;rw[List.take_succ_eq_append_getElem h,List.filter_append];split
 · rename_i e;simp[e]
 · rename_i e;simp[e]
theorem zNj(l:NM)(k:List UInt8)(hl:l.length<=1000000000) :
   Ct Pz 290 [.sl 0 0 l.length 2 false,.str k] [.cells false (ndA l)] (.sl 1 0 (NM.wo l k).length 2 false) [.cells false (ndA l),.cells true (ndA (NM.wo l k))]:=by
 have hΓ:GOk Pz (zh []):=zB;have hA0:∀rn:List Nat,AWs rn (ndA l) (ndA l):=fun rn=>AWs.refl _ _ (Zz l);obtain⟨n,hn⟩:∃n,l.length=n:=⟨_,rfl⟩
 have hfl:(ndA l).length=n*2:=by rw[zz,hn]
 refine zE Tryz.func290 rfl ?_;simp only[Tryz.ntmps290,q7Z,q8Z,Nat.reduceAdd,Nat.reduceSub,qbZ,q9Z,qaZ];rw[hn];refine wS hΓ (by simp;exact wR) ?_;refine wS hΓ (by simp;exact wR) ?_;refine Sim.seq (wS hΓ (by simp;exact wR) ?_);refine Sim.block (Sim.loopW (fun i:Nat=>i<=n)
   (fun i=>[.sl 0 0 n 2 false,.str k,.top,.top,.top,.sl 1 0 (NM.wo (l.take i) k).length 2 false,.int .i64 i]++qbZ 21 .top)
   (fun i=>[.cells false (ndA l),.cells true (ndA (NM.wo (l.take i) k))]) (fun i=>n-i) 0 (by simp) (qqZ _) (Weak.mk' [0,100] (by decide) (by decide) (by simp[NM.wo]) (by simp[AWb,AWg])) fun i hi=>?_)
 have hob:(NM.wo (l.take i) k).length<=i:=Nat.le_trans (NM.wo_le _ _) (by rw[qjZ];omega);by_cases hlt:i<n
 · have hil:i<l.length:=by omega
   have hiI:(i:Int)<n:=by omega
   obtain⟨f1,f2⟩:=zDX l i hil;have g1:=zDz l i hil;have hnext:=NM.wo_snoc l i hil k;obtain⟨⟨a,m⟩,hx⟩:∃x,l[i]=x:=⟨_,rfl⟩
   rw[hx]at f1 f2 g1 hnext;dsimp only at f1 f2 g1 hnext;obtain⟨out,hout⟩:∃o,NM.wo (l.take i) k=o:=⟨_,rfl⟩
   rw[hout]at hnext hob ⊢;obtain⟨M,hM⟩:∃M,out.length=M:=⟨_,rfl⟩
   rw[hM]at hob ⊢;have hol:(ndA out).length=M*2:=by rw[zz,hM]
   have htk:=zAl hM;have hAo:∀(o:NM) (rn:List Nat),AWs rn (ndA o) (ndA o):=fun o rn=>AWs.refl _ _ (Zz o);have hco:=zBs out;have i1:i*2<n*2:=by omega
   have i2:i*2+2<=n*2:=by omega
   have i6:i*2+2<=l.length*2:=by omega
   have i8:i*2<l.length*2:=by omega
   have i9:(M+1)*24<=140737488355328:=by omega
   have i10:M+1<=9223372036854775807:=by omega
   have i11:M*2<=(ndA out).length:=by omega
   have y1:IntKind.i64.wrap ((i:Int)+1)=i+1:=zK (by omega) (by omega);refine wS hΓ (by simp[hiI];exact wR) ?_;by_cases he:a=k
   · rw[if_pos he]at hnext
     have he2:(a != k)=false:=by simp[he]
     have he3:(a==k)=true:=by simp[he]
     refine Sim.seq (Sim.block (wE hΓ (by simp +decide [hlt,f1,i8,he];exact wT) ?_));dsimp only;refine wE hΓ (by simp[y1];exact wT) ?_;exact⟨i+1,by omega,Weak.mk' [0,1] (by decide) (by decide) (by simp[hnext,hM]) (by simp[AWb,AWg,hnext]),by omega⟩
   · rw[if_neg he]at hnext
     have he2:(a != k)=true:=by simp[he]
     have he3:(a==k)=false:=by simp[he]
     have hap:ndA out++[.str a,.int .i64 m]=ndA (out++[(a,m)]):=by rw[zBy];rfl
     refine Sim.seq (Sim.block (wE hΓ (by simp +decide [hlt,f1,g1,i6,i8,i9,i10,he3,hol,htk,hap];exact wT) ?_));dsimp only;refine wE hΓ (by simp[y1];exact wT) ?_;exact⟨i+1,by omega,Weak.mk' [0,3] (by decide) (by decide) (by simp[hnext,hM]) (by simp[AWb,AWg,hnext]),by omega⟩
 · have hie:i=n:=by omega
   subst hie;rw[q6Z (by omega)];have hAo:∀(o:NM) (rn:List Nat),AWs rn (ndA o) (ndA o):=fun o rn=>AWs.refl _ _ (Zz o);refine wE hΓ (by simp;exact wT) ?_;dsimp only;rw[if_pos rfl];refine wE hΓ (by simp;exact wT) ?_;exact⟨.inr rfl,_,by simp[Tryz.f290] <;> rfl,wW [0,1] (by simp[AWb,AWg])⟩
def zUH:zS:=zi fun args H=>match args with
 | [x,.str k]=>match zIU H x with
   | some l=>if l.length<=1000000000 then some (.sl 0 0 (NM.wo l k).length 2 false,[.cells true (ndA (NM.wo l k))]) else none
   | none=>none
 | _=>none
theorem zQS:Sound Pz 290 zUH:=by
 refine ZQ (zD Tryz.func290 rfl (by decide)) fun args H v N h=>?_;split at h <;> try cases h
 rename_i x k;split at h <;> try cases h
 rename_i l hx;split at h <;> cases h
 rename_i hc;obtain⟨b1,o1,w1,g1⟩:=zI1 hx;refine zB4 (H0:=[.cells false (ndA l)]) (args0:=[.sl 0 0 l.length 2 false,.str k]) ?_ rfl [(b1,o1)] ⟨w1 0 _ rfl,by simp[zAR],trivial⟩ ⟨g1,Zz _,trivial⟩;have:=zNj l k hc;simpa[shA,shB] using this
def gtN(k:List UInt8)(e:List UInt8×Int):Bool:=!(Op.bytesLess e.1 k || e.1==k)
theorem zQw(p:List UInt8×Int->Bool)(l:NM)(i:Nat)(h:i<l.length):(l.take (i+1)).filter p=if p l[i]=true then (l.take i).filter p++[l[i]] else (l.take i).filter p:=by
 rw[List.take_succ_eq_append_getElem h,List.filter_append];split
 · rename_i e;simp[e]
 · rename_i e;simp[e]
theorem zMX(p:List UInt8×Int->Bool):∀(l:NM) (i:Nat) (h:i<l.length),i<=(l.takeWhile p).length->(p l[i]=true->i+1<=(l.takeWhile p).length)/\(p l[i]=false->(l.takeWhile p).length=i)
 | a::l,0,_,_=>by
   simp only[List.getElem_cons_zero,List.takeWhile_cons];exact⟨fun h=>by rw[h];simp,fun h=>by rw[h];rfl⟩
 | a::l,i+1,h,hi=>by
   rw[List.takeWhile_cons]at hi ⊢;cases ha:p a with
   | false=>rw[ha]at hi;simp at hi
   | true =>
     rw[ha]at hi;simp only[if_true,q7Z]at hi ⊢;have:=zMX p l i (by simpa using h) (by omega);simp only[List.getElem_cons_succ];exact⟨fun h=>by have:=this.1 h;omega,fun h=>by have:=this.2 h;omega⟩
theorem zNd(p:List UInt8×Int->Bool)(l:NM):l.take (l.takeWhile p).length=l.takeWhile p:=by
 have:=List.takeWhile_append_dropWhile (p:=p) (l:=l)
 conv=>lhs;rw[<-this]
 rw[List.take_left' ?_];rw[this]
theorem zRq(l:NM)(k:List UInt8)(z:Int)(hl:l.length<=1000000000) :
   Ct Pz 189 [.sl 0 0 l.length 2 false,.agg [.str k,.int .i64 z]] [.cells false (ndA l)] (.sl 1 0 (NM.wi l k z).length 2 false) [.cells false (ndA l),.cells true (ndA (NM.wi l k z))]:=by
 have hΓ:GOk Pz (zh []):=zB;have hA0:∀rn:List Nat,AWs rn (ndA l) (ndA l):=fun rn=>AWs.refl _ _ (Zz l);have hAo:∀(o:NM) (rn:List Nat),AWs rn (ndA o) (ndA o):=fun o rn=>AWs.refl _ _ (Zz o);obtain⟨n,hn⟩:∃n,l.length=n:=⟨_,rfl⟩
 have hfl:(ndA l).length=n*2:=by rw[zz,hn]
 obtain⟨P,hP⟩:∃P:List UInt8×Int->Bool,P=fun e=>Op.bytesLess e.1 k:=⟨_,rfl⟩
 obtain⟨tw,htw⟩:∃t,l.takeWhile P=t:=⟨_,rfl⟩
 have hwi:NM.wi l k z=tw++(k,z)::l.filter (gtN k):=by rw[<-htw,hP];rfl
 have htwl:tw.length<=n:=by rw[<-htw,<-hn];exact (List.takeWhile_prefix _).length_le
 have htk:l.take tw.length=tw:=by rw[<-htw];exact zNd P l
 refine zE Tryz.func189 rfl ?_;simp only[Tryz.ntmps189,q7Z,q8Z,Nat.reduceAdd,Nat.reduceSub,qbZ,q9Z,qaZ];rw[hn];refine wS hΓ (by simp;exact wR) ?_;refine wS hΓ (by simp;exact wR) ?_;refine Sim.seq (wS hΓ (by simp;exact wR) ?_);refine Sim.block (Sim.mono (Q:=fun e' F' H'=>e'=.exit 0/\Weak 1 F' H' ([.sl 0 0 n 2 false,.top,.top,.ptr 1 0,.top,.sl 2 0 tw.length 2 false]++qbZ 51 .top) [.cells false (ndA l),.cells true [.str k,.int .i64 z],.cells true (ndA tw)]) (Sim.loopW (fun i:Nat=>i<=tw.length)
   (fun i=>[.sl 0 0 n 2 false,.top,.top,.ptr 1 0,.top,.sl 2 0 i 2 false,.int .i64 i]++qbZ 50 .top)
   (fun i=>[.cells false (ndA l),.cells true [.str k,.int .i64 z],.cells true (ndA (l.take i))]) (fun i=>tw.length-i) 0 (by simp) (qqZ _) (wW [0,1,100] (by simp[AWb,AWg,AW])) fun i hi=>?_) ?_)
 · by_cases hlt:i<n
   · have hil:i<l.length:=by omega
     have hiI:(i:Int)<n:=by omega
     obtain⟨f1,f2⟩:=zDX l i hil;have g1:=zDz l i hil;have hta:=zMX P l i hil (by rw[htw];exact hi);rw[htw]at hta;have hap0:=List.take_succ_eq_append_getElem hil;obtain⟨⟨a,m⟩,hx⟩:∃x,l[i]=x:=⟨_,rfl⟩
     rw[hx]at f1 f2 g1 hta hap0;have hPa:P (a,m)=Op.bytesLess a k:=by rw[hP]
     rw[hPa]at hta;dsimp only at f1 f2 g1;have i1:i*2<n*2:=by omega
     have i2:i*2+2<=n*2:=by omega
     have i6:i*2+2<=l.length*2:=by omega
     have i8:i*2<l.length*2:=by omega
     have i9:(i+1)*24<=140737488355328:=by omega
     have i10:i+1<=9223372036854775807:=by omega
     have y1:IntKind.i64.wrap ((i:Int)+1)=i+1:=zK (by omega) (by omega);obtain⟨out,hout⟩:∃o,l.take i=o:=⟨_,rfl⟩
     have hM:out.length=i:=by rw[<-hout,qjZ];omega
     have hol:(ndA out).length=i*2:=by rw[zz,hM]
     have htk2:=zAl hM;have hco:=zBs out;rw[hout]at hap0 ⊢;have hap:ndA out++[.str a,.int .i64 m]=ndA (l.take (i+1)):=by rw[hap0,zBy];rfl
     cases hb:Op.bytesLess a k with
     | true =>
       rw[hb]at hta;have:=hta.1 rfl;refine wS hΓ (by simp +decide [hiI,f1,i8,hb];first | exact wR | exact⟨by kernel_rfl,wR⟩) ?_;refine Sim.seq (Sim.block (wE hΓ (by simp +decide [hlt,g1,i6,i9,i10,hol,htk2,hap];exact wT) ?_));dsimp only;refine wE hΓ (by simp[y1];exact wT) ?_;exact⟨i+1,by omega,wW [0,1,4] (by simp[AWb,AWg,AW]),by omega⟩
     | false =>
       rw[hb]at hta;have:=hta.2 rfl;refine wE hΓ (by simp +decide [hiI,f1,i8,hb];first | exact⟨rfl,rfl,rfl⟩ | exact⟨by kernel_rfl,rfl,rfl,rfl⟩) ?_;refine ⟨rfl,?_⟩;rw[<-hout,<-this,htk];exact wW [0,1,2] (by simp[AWb,AWg,AW])
   · have hie:i=n:=by omega
     have hit:i=tw.length:=by omega
     have hnI:¬(i:Int)<n:=by omega
     refine wE hΓ (by simp +decide [hnI];first | exact⟨rfl,rfl,rfl⟩ | exact⟨by kernel_rfl,rfl,rfl,rfl⟩) ?_;refine ⟨rfl,?_⟩;rw[hit,htk];exact wW [0,1,2] (by simp[AWb,AWg,AW])
 rintro _ F7 H7 hl7 ⟨rfl,hw7⟩;dsimp only;rw[if_pos rfl];refine Sim.weak hw7 hl7 ?_;clear hw7 hl7 F7 H7;dsimp only[qbZ,q9Z,qaZ];obtain⟨M,hM⟩:∃M,tw.length=M:=⟨_,rfl⟩
 rw[hM]at htwl ⊢;have hol:(ndA tw).length=M*2:=by rw[zz,hM]
 have htk3:=zAl hM;have hco:=zBs tw;have i9:(M+1)*24<=140737488355328:=by omega
 have i10:M+1<=9223372036854775807:=by omega
 have hap:ndA tw++[.str k,.int .i64 z]=ndA (tw++[(k,z)]):=by rw[zBy];rfl
 refine wS hΓ (by simp +decide [i9,i10,hol,htk3,hap];exact wR) ?_;refine Sim.seq (wS hΓ (by simp +decide;exact wR) ?_);obtain⟨G,hG⟩:∃G:Nat->NM,∀i,G i=tw++[(k,z)]++(l.take i).filter (gtN k):=⟨_,fun _=>rfl⟩
 have hG0:G 0=tw++[(k,z)]:=by rw[hG];simp
 have hGn:G n=NM.wi l k z:=by rw[hG,hwi,q6Z (by omega)];simp
 have hGl:∀i,(G i).length<=M+1+i:=fun i=>by
   rw[hG];have:=List.length_filter_le (gtN k) (l.take i);rw[qjZ]at this;simp only[qdZ,q7Z,q8Z];omega
 have hGs:∀i (h:i<l.length),G (i+1)=if gtN k l[i]=true then G i++[l[i]] else G i:=fun i h=>by
   rw[hG,hG,zQw _ _ _ h];split
   · simp
   · rfl
 refine Sim.block (Sim.loopW (fun i:Nat=>i<=n)
   (fun i=>[.sl 0 0 n 2 false,.top,.top,.ptr 1 0,.top,.sl 2 0 (G i).length 2 false,.top,.int .i64 i]++qbZ 49 .top)
   (fun i=>[.cells false (ndA l),.cells true [.str k,.int .i64 z],.cells true (ndA (G i))]) (fun i=>n-i) 0 (by simp) (qqZ _) (Weak.mk' [0,1,4] (by decide) (by decide) (by simp[hG0,hM]) (by simp[AWb,AWg,AW,hG0])) fun i hi=>?_)
 by_cases hlt:i<n
 · have hil:i<l.length:=by omega
   have hiI:(i:Int)<n:=by omega
   obtain⟨f1,f2⟩:=zDX l i hil;have g1:=zDz l i hil;have hGi:=hGs i hil;have hGb:=hGl i;obtain⟨⟨a,m⟩,hx⟩:∃x,l[i]=x:=⟨_,rfl⟩
   rw[hx]at f1 f2 g1 hGi;dsimp only at f1 f2 g1;have hgt:gtN k (a,m)=!(Op.bytesLess a k || a==k):=rfl;rw[hgt]at hGi;obtain⟨out,hout⟩:∃o,G i=o:=⟨_,rfl⟩
   rw[hout]at hGi hGb ⊢;obtain⟨L,hL⟩:∃L,out.length=L:=⟨_,rfl⟩
   rw[hL]at hGb ⊢;have hol:(ndA out).length=L*2:=by rw[zz,hL]
   have htk4:=zAl hL;have hco:=zBs out;have i1:i*2<n*2:=by omega
   have i2:i*2+2<=n*2:=by omega
   have i6:i*2+2<=l.length*2:=by omega
   have i8:i*2<l.length*2:=by omega
   have i9:(L+1)*24<=140737488355328:=by omega
   have i10:L+1<=9223372036854775807:=by omega
   have y1:IntKind.i64.wrap ((i:Int)+1)=i+1:=zK (by omega) (by omega);have hap:ndA out++[.str a,.int .i64 m]=ndA (out++[(a,m)]):=by rw[zBy];rfl
   refine wS hΓ (by simp[hiI];exact wR) ?_;by_cases hc:Op.bytesLess a k=false/\¬a=k
   · have hcT:(Op.bytesLess a k=false/\¬a=k)=True:=eq_true hc
     have hcb:(!(Op.bytesLess a k || a==k))=true:=by simp[hc.1,hc.2]
     rw[if_pos hcb]at hGi;refine Sim.seq (Sim.block ?_);refine wS hΓ (by simp +decide [hlt,f1,i8];first | exact wR | exact⟨by kernel_rfl,wR⟩) ?_;refine wE hΓ (by simp +decide [hcT,hlt,g1,i6,i9,i10,hol,htk4,hap];exact wT) ?_;dsimp only;refine wE hΓ (by simp[y1];exact wT) ?_;exact⟨i+1,by omega,Weak.mk' [0,1,4] (by decide) (by decide) (by simp[hGi,hL]) (by simp[AWb,AWg,AW,hGi]),by omega⟩
   · have hcF:(Op.bytesLess a k=false/\¬a=k)=False:=eq_false hc
     have hcb:¬(!(Op.bytesLess a k || a==k))=true:=by
       intro h;apply hc;simpa using h
     rw[if_neg hcb]at hGi;refine Sim.seq (Sim.block ?_);refine wS hΓ (by simp +decide [hlt,f1,i8];first | exact wR | exact⟨by kernel_rfl,wR⟩) ?_;refine wE hΓ (by simp[hcF];exact wT) ?_;dsimp only;refine wE hΓ (by simp[y1];exact wT) ?_;exact⟨i+1,by omega,Weak.mk' [0,1,2] (by decide) (by decide) (by simp[hGi,hL]) (by simp[AWb,AWg,AW,hGi]),by omega⟩
 · have hie:i=n:=by omega
   subst hie;rw[hGn];refine wE hΓ (by simp;exact wT) ?_;dsimp only;rw[if_pos rfl];refine wE hΓ (by simp;exact wT) ?_;exact⟨.inr rfl,_,by simp[Tryz.f189] <;> rfl,wW [0,2] (by simp[AWb,AWg])⟩
def zTp:zS:=zi fun args H=>match args with
 | [x,.agg [.str k,.int .i64 z]]=>match zIU H x with
   | some l=>if l.length<=1000000000 then some (.sl 0 0 (NM.wi l k z).length 2 false,[.cells true (ndA (NM.wi l k z))]) else none
   | none=>none
 | _=>none
theorem zPb:Sound Pz 189 zTp:=by
 refine ZQ (zD Tryz.func189 rfl (by decide)) fun args H v N h=>?_;split at h <;> try cases h
 rename_i x k z;split at h <;> try cases h
 rename_i l hx;split at h <;> cases h
 rename_i hc;obtain⟨b1,o1,w1,g1⟩:=zI1 hx;refine zB4 (H0:=[.cells false (ndA l)]) (args0:=[.sl 0 0 l.length 2 false,.agg [.str k,.int .i64 z]]) ?_ rfl [(b1,o1)] ⟨w1 0 _ rfl,by simp[zAR,zCS],trivial⟩ ⟨g1,Zz _,trivial⟩;have:=zRq l k z hc;simpa[shA,shB] using this
theorem NM.get_at:∀{W:NM} {s:List UInt8} {i:Nat} (h:i<W.length),(∀j (hj:j<W.length),j<i->W[j].1≠s)->W[i].1=s->NM.get W s=some W[i].2
 | a::W,s,0,_,_,h=>by simp only[List.getElem_cons_zero]at h ⊢;simp[NM.get,h]
 | a::W,s,i+1,hl,h0,h=>by
   have h1:=h0 0 (by simp) (by omega);simp only[List.getElem_cons_zero]at h1;simp only[List.getElem_cons_succ]at h ⊢;unfold NM.get;rw[if_neg h1];exact NM.get_at (by simpa using hl) (fun j hj hji=>by have:=h0 (j+1) (by simpa using hj) (by omega);simpa using this) h
theorem NM.get_no{W:NM}{s:List UInt8}(h:∀j (hj:j<W.length),W[j].1≠s):NM.get W s=none:=by
 rw[NM.get_none];intro hm;obtain⟨e,he,hs⟩:=reZ.1 hm;obtain⟨i,hi,rfl⟩:=List.getElem_of_mem he;exact h i hi hs
theorem zT0(H:zA)(b m n k L:Nat)(o o2 c c2:Bool)(x:AV)(row:List AV)(h1:H[b]? = some (.cells o [.sl m 0 n 1 c,x]))(h2:H[m]? = some (.cells o2 row))(h0:0<n)(hn:n<=row.length)(hn2:n<=1000000000)(h3:row[n-1]? = some (.sl k 0 L 2 c2)) :
   Ct Pz 177 [.ptr b 0] H (.sl k 0 L 2 c2) H:=by
 obtain⟨p,rfl⟩:∃p,n=p+1:=⟨n-1,by omega⟩
 rw[Nat.add_sub_cancel]at h3;have h3':∀h,row[p]'h=.sl k 0 L 2 c2:=fun h=>(q1Z.1 h3).2;have w1:IntKind.i64.wrap ((p:Int)+1)=p+1:=zK (by omega) (by omega);have w2:IntKind.i64.wrap (p:Int)=p:=zK (by omega) (by omega);have w3:IntKind.i64.wrap ((p:Int)+1-1)=p:=by rw[show (p:Int)+1-1=p by omega];exact w2
 have l1:p<row.length:=by omega
 have l2:(p:Int)<p+1:=by omega
 have l3:p+1<=row.length:=hn;refine ZG Tryz.func177 rfl ?_;simp only[Tryz.ntmps177,q7Z,q8Z,Nat.reduceAdd,Nat.reduceSub,qbZ,q9Z,qaZ];refine wS zB (by simp;exact wR) ?_;refine wS zB (by simp +decide [h1,h2,h3',w2,l1,l2];first | exact wR | exact⟨by kernel_rfl,wR⟩) ?_;refine wE zB (by simp;exact wT) ?_;exact⟨.inr rfl,by simp[Tryz.f177],rfl⟩
def zEE:zS:=ZD fun args H=>match args with
 | [.ptr b 0]=>match H[b]? with
   | some (.cells _ [.sl m 0 n 1 _,_])=>match H[m]? with
     | some (.cells _ row)=>if 0<n/\n<=row.length/\n<=1000000000 then match row[n-1]? with
       | some (.sl k 0 L 2 c)=>some (.sl k 0 L 2 c)
       | _=>none else none
     | _=>none
   | _=>none
 | _=>none
theorem zH0:Sound Pz 177 zEE:=by
 refine ZU (zD Tryz.func177 rfl (by decide)) fun args H v h=>?_;split at h <;> try cases h
 split at h <;> try cases h
 rename_i hb;split at h <;> try cases h
 rename_i hm;split at h <;> try cases h
 rename_i hc;split at h <;> cases h
 rename_i hr;exact zT0 H _ _ _ _ _ _ _ _ _ _ _ hb hm hc.1 hc.2.1 hc.2.2 hr
def zVI:Gam:=zh [(177,zEE)]
theorem zMC:GOk Pz zVI:=zC zH0 zB
def Zk(W:NM)(s:List UInt8):AV:=match NM.get W s with
 | some n=>.tuple [.int .i64 n,.bool true]
 | none=>.tuple [.int .i64 0,.bool false]
theorem zJN(H:zA)(b k:Nat)(o c:Bool)(W:NM)(s:List UInt8)(hN:zEE [.ptr b 0] H=some (.sl k 0 W.length 2 c,H,[]))(hk:H[k]? = some (.cells o (ndA W)))(hW:W.length<=1000000000){v:AV}
   (hv:v=Zk W s) :
   Ct Pz 178 [.ptr b 0,.str s] H v H:=by
 have hΓ:=zMC;obtain⟨n,hn⟩:∃n,W.length=n:=⟨_,rfl⟩
 have hfl:(ndA W).length=n*2:=by rw[zz,hn]
 rw[hn]at hN hW;refine ZG Tryz.func178 rfl ?_;simp only[Tryz.ntmps178,q7Z,q8Z,Nat.reduceAdd,Nat.reduceSub,qbZ,q9Z,qaZ];refine wS hΓ (by simp;exact wR) ?_;refine wS hΓ (by simp[zVI,hN];exact wR) ?_;refine Sim.seq (wS hΓ (by simp;exact wR) ?_);refine Sim.block (Sim.loopS (fun i:Nat=>i<=n/\∀j (hj:j<W.length),j<i->W[j].1≠s)
   (fun i=>[.ptr b 0,.str s,.top,.top,.int .i64 0,.bool false,.sl k 0 n 2 c,.int .i64 i]++qbZ 20 .top)
   (fun _=>H) (fun i=>n-i) 0 (by simp) ⟨qqZ _,fun j _ h=>by omega⟩ ⟨by simp,rfl⟩ fun i hi=>?_)
 obtain⟨hi,hb⟩:=hi;by_cases hlt:i<n
 · have hil:i<W.length:=by omega
   have hiI:(i:Int)<n:=by omega
   obtain⟨f1,f2⟩:=zDX W i hil;obtain⟨f3,f4⟩:=zQA W i hil;have hgt:=NM.get_at hil hb;obtain⟨⟨a,m⟩,hx⟩:∃x,W[i]=x:=⟨_,rfl⟩
   have hx1:W[i].1=a:=by rw[hx]
   rw[hx]at f1 f2 f3 f4 hgt;dsimp only at f1 f2 f3 f4 hgt;have i1:i*2<n*2:=by omega
   have i2:i*2+2<=n*2:=by omega
   have i3:i*2+1<n*2:=by omega
   have i6:i*2+2<=W.length*2:=by omega
   have i8:i*2<W.length*2:=by omega
   have i7:i*2+1<W.length*2:=by omega
   have y1:IntKind.i64.wrap ((i:Int)+1)=i+1:=zK (by omega) (by omega);refine wS hΓ (by simp[hiI];exact wR) ?_;by_cases he:a=s
   · have he3:(a==s)=true:=by simp[he]
     refine Sim.seq (Sim.block (wE hΓ (by simp +decide [hk,hlt,f1,f3,i7,i8,he];exact wT) ?_));unfold Zk at hv;rw[hgt he]at hv;dsimp only at hv ⊢;subst hv;exact⟨.inr rfl,by simp[Tryz.f178],rfl⟩
   · have he3:(a==s)=false:=by simp[he]
     refine Sim.seq (Sim.block (wE hΓ (by simp +decide [hk,hlt,f1,i8,he3];exact wT) ?_));dsimp only;refine wE hΓ (by simp[y1];exact wT) ?_;refine ⟨i+1,⟨by omega,fun j hj hji=>?_⟩,⟨by simp,rfl⟩,by omega⟩;by_cases e:j=i
     · subst e;rw[hx1];exact he
     · exact hb j hj (by omega)
 · have hie:i=n:=by omega
   subst hie;unfold Zk at hv;rw[NM.get_no fun j hj=>hb j hj (by omega)]at hv;dsimp only at hv;subst hv;refine wE hΓ (by simp;exact wT) ?_;dsimp only;rw[if_pos rfl];refine wE hΓ (by simp;exact wT) ?_;exact⟨.inr rfl,by simp[Tryz.f178],rfl⟩
theorem RF.now_get{r:RF}(h:0<r.was.length):r.was[r.was.length-1]? = some r.now:=by
 unfold RF.now;rw[q2Z,q3Z (by omega)];rfl
theorem RF.blks_head(r:RF):r.blks=.cells true [.sl 1 0 r.was.length 1 false,.int .i64 r.last]::.cells true (zAk (fun i=>i+2) 0 r.was)::ZS r.was:=rfl
theorem zJT(r:RF){B:Nat}(h:r.ok B)(hB:B<=1000000){x:Int}{T:zA}:zEE [.ptr 0 0] (.cells true [.sl 1 0 r.was.length 1 false,.int .i64 x]::.cells true (zAk (fun i=>i+2) 0 r.was)::(ZS r.was++T)) =
   some (.sl (r.was.length+1) 0 r.now.length 2 false,.cells true [.sl 1 0 r.was.length 1 false,.int .i64 x]::.cells true (zAk (fun i=>i+2) 0 r.was)::(ZS r.was++T),[]):=by
 have h1:=zCr (fun i=>i+2) r.was 0 _ _ (RF.now_get h.ne);have h2:=h.len;have h3:=h.ne;rw[show 0+(r.was.length-1)+2=r.was.length+1 by omega]at h1;simp[zEE,ZD,h1,h3,show r.was.length<=1000000000 by omega]
def zBD:zS:=ZD fun args H=>match args with
 | [.ptr b 0,.str s]=>match H[b]? with
   | some (.cells _ [.sl m 0 n 1 _,_])=>match H[m]? with
     | some (.cells _ row)=>if 0<n/\n<=row.length/\n<=1000000000 then match row[n-1]? with
       | some (.sl k 0 L 2 _)=>match H[k]? with
         | some (.cells _ l)=>match ndOf l with
           | some W=>if L=W.length/\L<=1000000000 then some (Zk W s) else none
           | none=>none
         | _=>none
       | _=>none else none
     | _=>none
   | _=>none
 | _=>none
theorem zKc:Sound Pz 178 zBD:=by
 refine ZU (zD Tryz.func178 rfl (by decide)) fun args H v h=>?_;split at h <;> try cases h
 split at h <;> try cases h
 rename_i hb;split at h <;> try cases h
 rename_i hm;split at h <;> try cases h
 rename_i hc;split at h <;> try cases h
 rename_i kk LL cc hr;split at h <;> try cases h
 rename_i hk;split at h <;> try cases h
 rename_i W hW;split at h <;> cases h
 rename_i hL;obtain⟨rfl,hL2⟩:=hL;rw[zO2 hW]at hk;refine zJN H _ kk _ cc W _ ?_ hk hL2 rfl;simp only[zEE,ZD,hb,hm];rw[if_pos hc,hr];rfl
theorem FAt.close{H:zA}{r:RF}{x:AV}{m:Nat}{g:Nat->Nat}(h:FAt H r x 0 m g){n0:Nat}(h01:n0<=1){F:List AV}(Fn:List AV){K:List AV->zA->Prop}(hF:AWs [0] Fn F)(hk:K Fn [.obj true r.blks]):Aft n0 F H K:=by
 have hbl:0<H.length:=(q1Z.1 h.c0).1;refine Aft.close (o:=true) (b:=0) (sub:=r.blks) (rs:=0::m::(List.range r.was.length).map g) (ks:=m::(List.range r.was.length).map g) rfl h.nd hbl ?_ (h.awg _ fun _ _=>rfl) ⟨r.cell0 1,rfl,rfl⟩ ?_ (by omega) ?_
 · intro c y hc hcb _ _
   exact (qwZ.1 hc).resolve_left hcb
 · intro i y hy hd
   have hm:=qcZ hy;simp only[RF.blks,RF.cell0,qwZ]at hm;rcases hm with rfl | rfl | hm
   · rfl
   · rfl
   · obtain⟨e,_,rfl⟩:=reZ.1 hm
     rfl
 · refine Aft.weak (Fn:=Fn) (Hn:=[.obj true r.blks]) (Weak.mk' [0] (by decide) ?_ hF (zR (b:=0) hbl _ _ rfl fun i c x h1 h2=>?_)) (by simp;omega) (Aft.done (by simp;omega) hk)
   · obtain rfl | rfl:n0=0\/n0=1:=by omega
     · rfl
     · rfl
   · match i,h1,h2 with
     | 0,h1,h2=>cases h1;cases h2;exact .inl ⟨rfl,rfl⟩
theorem zGp(r:RF):zo [.obj true r.blks] 0 r.blks=.cells true [.sl 1 0 r.was.length 1 false,.int .i64 r.last]::.cells true (zAk (fun i=>i+2) 0 r.was)::ZS r.was:=by
 have hg:∀i,zBU 0 1 i=i:=fun i=>by unfold zBU;split <;> omega
 unfold zo;rw[RF.blks_head];simp only[q7Z,q8Z,List.getD_cons_zero,s9Z,List.drop_succ_cons,List.drop_zero,q9Z,qaZ,s8Z];rw[zDJ hg,List.map_congr_left (fun B _=>zDJ hg B)];simp
theorem FAt.same(r:RF)(x:Int)(T:zA):FAt (.cells true [.sl 1 0 r.was.length 1 false,.int .i64 x]::.cells true (zAk (fun i=>i+2) 0 r.was)::(ZS r.was++T)) ⟨r.was,x⟩ (.sl 1 0 r.was.length 1 false) 0 1 (fun i=>i+2):=by
 refine ⟨rfl,.inl rfl,rfl,fun i W h=>?_,?_⟩
 · simp only[r9Z]
   rw[q4Z (by rw[Z1];exact (q1Z.1 h).1)];exact Zi h
 · dsimp only
   rw[rdZ,rdZ];refine ⟨fun h=>?_,fun h=>?_,?_⟩
   · rcases qwZ.1 h with h | h
     · omega
     · obtain⟨a,_,h⟩:=reZ.1 h;omega
   · obtain⟨a,_,h⟩:=reZ.1 h;omega
   · rw[List.nodup_iff_pairwise_ne,List.pairwise_map]
     exact (List.nodup_iff_pairwise_ne.1 List.nodup_range).imp fun h e=>h (by omega)
theorem FAt.more(r:RF)(x:Int)(W:NM)(y:AV)(m q:Nat)(T:zA)(o:ABlk){R:List AV}(hR:R=zAk (fun i=>i+2) 0 r.was++[.sl q 0 W.length 2 false])
   (hm:(.cells true [y,.int .i64 x]::o::(ZS r.was++T))[m]? = some (.cells true R)) (hq:(.cells true [y,.int .i64 x]::o::(ZS r.was++T))[q]? = some (.cells true (ndA W)))
   (h1:r.was.length+2<=m) (h2:r.was.length+2<=q) (h3:m≠q) (hy:y=.sl m 0 (r.was.length+1) 1 false\/∃c,y=.slice m 0 (r.was.length+1) 1 c) :
   FAt (.cells true [y,.int .i64 x]::o::(ZS r.was++T)) ⟨r.was++[W],x⟩ y 0 m (fun i=>if i<r.was.length then i+2 else q):=by
 refine ⟨rfl,by simpa using hy,?_,fun i V h=>?_,?_⟩
 · rw[hm,hR,zGI,zG9 r.was 0 (g':=fun i=>if i<r.was.length then i+2 else q) fun i _ hi=>(if_pos (by omega)).symm]
   simp[zAk]
 · dsimp only at h ⊢
   rcases Nat.lt_trichotomy i r.was.length with h1 | h1 | h1
   · rw[q4Z h1]at h
     rw[if_pos h1];simp only[r9Z];rw[q4Z (by rw[Z1];exact h1)];exact Zi h
   · subst h1
     rw[q5Z (qnZ _),Nat.sub_self]at h;cases h;rw[if_neg (rnZ _)];exact hq
   · rw[s4Z (by simp;omega)]at h;cases h
 · dsimp only
   have hg:∀a,a<(r.was++[W]).length->a<r.was.length/\(if a<r.was.length then a+2 else q)=a+2\/a=r.was.length/\(if a<r.was.length then a+2 else q)=q:=fun a ha=>by
     simp at ha;by_cases h:a<r.was.length
     · exact .inl ⟨h,if_pos h⟩
     · exact .inr ⟨by omega,if_neg h⟩
   rw[rdZ,rdZ];refine ⟨fun h=>?_,fun h=>?_,?_⟩
   · rcases qwZ.1 h with h | h
     · omega
     · obtain⟨a,ha,h⟩:=reZ.1 h
       rcases hg a (List.mem_range.1 ha) with⟨_,e⟩ | ⟨_,e⟩ <;> omega
   · obtain⟨a,ha,h⟩:=reZ.1 h
     rcases hg a (List.mem_range.1 ha) with⟨_,e⟩ | ⟨_,e⟩ <;> omega
   · rw[List.nodup_iff_pairwise_ne,List.pairwise_map,List.pairwise_iff_getElem]
     intro a b ha hb hab;simp only[List.length_range]at ha hb;simp only[List.getElem_range];rcases hg a ha with⟨_,e⟩ | ⟨_,e⟩ <;> rcases hg b hb with⟨_,f⟩ | ⟨_,f⟩ <;> omega
theorem FAt.one{H:zA}{x:Int}{W:NM}{y:AV}{m k:Nat}(h0:H[0]? = some (.cells true [y,.int .i64 x]))(hm:H[m]? = some (.cells true [.sl k 0 W.length 2 false]))(hk:H[k]? = some (.cells true (ndA W)))(h1:0<m)(h2:0<k)(h3:m≠k)
   (hy:y=.sl m 0 1 1 false\/∃c,y=.slice m 0 1 1 c):FAt H ⟨[W],x⟩ y 0 m (fun _=>k):=by
 refine ⟨h0,hy,hm,fun i V h=>?_,?_⟩
 · match i,h with
   | 0,h=>cases h;exact hk
   | i+1,h=>simp at h
 · simp[List.range,List.range.loop]
   omega
def zAJ:List FuncId:=[188,187,176]
def zDE:Gam:=zh [(177,zEE),(178,zBD),(189,zTp),(290,zUH)]
theorem zEt:GOk Pz (zAF Pz zDE 0 zAJ 2):=zq hmix (zC zH0 (zC zKc (zC zPb (zC zQS zB)))) 0 zAJ 2
theorem zUg(l:NM)(k:List UInt8):(NM.wo l k).length<=l.length:=List.length_filter_le _ _
theorem zM5(r:RF){B:Nat}(h:r.ok B)(hB:B<=1000000)(s:List UInt8)(hs:s.length<=9223372036854775807) :
   Ct Pz 93 [.ptr 0 0,.str s] [.obj true r.blks] (.tuple [.int .i64 (r.create s).2.1,.int .i64 (r.create s).2.2]) [.obj true (r.create s).1.blks]:=by
 have hΓ:=zEt;obtain⟨p,hp⟩:∃p,r.was.length=p+1:=⟨r.was.length-1,by have:=h.ne;omega⟩
 have hpB:p<=1000000:=by have:=h.len;omega
 have b1:(p+1)*24<=140737488355328:=Nat.le_trans (Nat.mul_le_mul_right 24 (Nat.succ_le_succ hpB)) (by decide);have b2:p+1<=9223372036854775807:=Nat.le_trans (Nat.succ_le_succ hpB) (by decide);have b3:(p+1+1)*24<=140737488355328:=Nat.le_trans (Nat.mul_le_mul_right 24 (Nat.succ_le_succ (Nat.succ_le_succ hpB))) (by decide);have b4:p+1+1<=9223372036854775807:=Nat.le_trans (Nat.succ_le_succ (Nat.succ_le_succ hpB)) (by decide);have hR:=zCr (fun i=>i+2) r.was 0 _ _ (RF.now_get h.ne);have hXn:=Zi (RF.now_get h.ne);have hRl:=zBG (fun i=>i+2) 0 r.was;have hXl:=Z1 r.was;have hRc:=zBI (fun i=>i+2) r.was 0;have hsame:=FAt.same r;have hmore:=FAt.more r;have hWB:r.now.length<=1000000:=Nat.le_trans (h.row _ (qcZ (RF.now_get h.ne))) hB;have hlo:=h.lo;have hhi:=h.hi;rw[hp]at hR hXn hRl hXl hsame hmore;rw[Nat.add_sub_cancel]at hR hXn;rw[show 0+p+2=p+1+1 by omega]at hR;refine zE Tryz.func93 rfl ?_;simp only[Tryz.ntmps93,q7Z,q8Z,Nat.reduceAdd,Nat.reduceSub,qbZ,q9Z,qaZ];refine Sim.aft (Aft.open (b:=0) rfl (by simp) (Aft.done (by simp[zo]) ?_));rw[zGp,hp];obtain⟨R,eR⟩:∃R,zAk (fun i=>i+2) 0 r.was=R:=⟨_,rfl⟩
 obtain⟨X,eX⟩:∃X,ZS r.was=X:=⟨_,rfl⟩
 obtain⟨W,eW⟩:∃W,r.now=W:=⟨_,rfl⟩
 obtain⟨a,ea⟩:∃a,r.last=a:=⟨_,rfl⟩
 rw[eR,ea];rw[eX]at hXn hXl hsame hmore ⊢;rw[eR]at hR hRl hRc hsame hmore;rw[eW]at hR hXn hWB;rw[ea]at hlo hhi;obtain⟨L,eL⟩:∃L,W.length=L:=⟨_,rfl⟩
 rw[eL]at hR hWB;have hR':∀h,R[p]'h=.sl (p+1+1) 0 L 2 false:=fun h=>(q1Z.1 hR).2;have hpR:p<R.length:=by omega
 have hRt:R.take (p+1)=R:=q6Z (by omega);have hXT:∀T,(X++T)[p]? = some (.cells true (ndA W)):=fun T=>by rw[q4Z (by omega)];exact hXn
 have hXn':∀h,X[p]'h=.cells true (ndA W):=fun h=>(q1Z.1 hXn).2;have hXT':∀T h,(X++T)[p]'h=.cells true (ndA W):=fun T h=>(q1Z.1 (hXT T)).2;have hne:(p+1 != p)=true:=by simp
 have hBX:=Z4 X hXl;have hXg:=hBX.get;have hXg0:=hBX.get0;have hXs:=hBX.set;have hXs0:=hBX.set0;have n1:p+1<=1000000000:=by omega
 have n2:L<=1000000000:=by omega
 have hndW:(ndA W).take (L*2)=ndA W:=zAl eL;have hndl:(ndA W).length=L*2:=by rw[zz,eL]
 unfold RF.create;rw[eW,ea];have hsm:=fun T=>hsame a T;rw[show (⟨r.was,a⟩:RF)=r by rw[<-ea]]at hsm;have hsm0:=hsm [];rw[r2Z]at hsm0;refine wS hΓ (by simp;exact wR) ?_;by_cases hm:zEO s;rotate_left
 · rw[if_neg hm]
   dsimp only;obtain⟨u,v,hfv⟩:∃u v,Zk W s=.tuple [.int .i64 u,.bool v]:=by
     unfold Zk;cases NM.get W s with
     | some z=>exact⟨_,_,rfl⟩
     | none=>exact⟨_,_,rfl⟩
   refine wS hΓ (by simp[zAJ,zDE,zBD,ZD,hRl,hR',hXn,eL,n1,n2,hfv];exact wR) ?_;by_cases h0:s=[]
   · subst h0
     refine Sim.after (wE hΓ (by simp[zAJ,Tryz.f187];exact wT) ?_);exact hsm0.close (qnZ 1) ([.top,.top,.top,.top,.int .i64 0,.int .i64 2]++qbZ 34 .top) (by simp[AWs,AW]) ⟨.inr rfl,_,by simp[Tryz.f93] <;> rfl,Weak.mk' [0] (by decide) rfl (by simp) (by simp[AWb])⟩
   · have h1:0<s.length:=List.length_pos_iff.2 h0
     have h2:¬s.length<=64:=fun h=>hm ⟨h1,h⟩;have h2i:¬(s.length:Int)<=64:=by omega
     have h1i:(0:Int)<s.length:=by omega
     refine Sim.after (wE hΓ (by simp[zAJ,Tryz.f187,h1,h2i];exact wT) ?_);exact hsm0.close (qnZ 1) ([.top,.top,.top,.top,.int .i64 0,.int .i64 2]++qbZ 34 .top) (by simp[AWs,AW]) ⟨.inr rfl,_,by simp[Tryz.f93] <;> rfl,Weak.mk' [0] (by decide) rfl (by simp) (by simp[AWb])⟩
 rw[if_pos hm];have h1:0<s.length:=hm.1;have h1i:(0:Int)<s.length:=by omega
 have h2:s.length<=64:=hm.2;have h2i:(s.length:Int)<=64:=by omega
 cases hg:NM.get W s with
 | some z =>
   have hfv:Zk W s=.tuple [.int .i64 z,.bool true]:=by unfold Zk;rw[hg]
   refine wS hΓ (by simp[zAJ,zDE,zBD,ZD,hRl,hR',hXn,eL,n1,n2,hfv];exact wR) ?_;refine Sim.after (wE hΓ (by simp[zAJ,Tryz.f187,h1,h2i];exact wT) ?_);exact hsm0.close (qnZ 1) ([.top,.top,.top,.top,.int .i64 0,.int .i64 8]++qbZ 34 .top) (by simp[AWs,AW]) ⟨.inr rfl,_,by simp[Tryz.f93] <;> rfl,Weak.mk' [0] (by decide) rfl (by simp) (by simp[AWb])⟩
 | none =>
   have hfv:Zk W s=.tuple [.int .i64 0,.bool false]:=by unfold Zk;rw[hg]
   have hw:IntKind.i64.wrap (a+1)=a+1:=zK (by omega) (by omega);obtain⟨a1,ha1⟩:∃x,a+1=x:=⟨_,rfl⟩
   rw[ha1]at hw ⊢;obtain⟨V,hV⟩:∃V,NM.wi W s a1=V:=⟨_,rfl⟩
   rw[hV];obtain⟨M,hM⟩:∃M,V.length=M:=⟨_,rfl⟩
   refine wS hΓ (by simp[zAJ,zDE,zBD,ZD,hRl,hR',hXn,eL,n1,n2,hfv];exact wR) ?_;refine wS hΓ (by simp[zAJ,Tryz.f187,h1,h2i];exact wR) ?_;refine wS hΓ (by simp;exact wR) ?_;refine wS hΓ (by simp[ha1,hw];exact wR) ?_;refine Sim.seq (Sim.draw hmix (by simp) ?_);refine SimR.many hΓ 10 (by simp[zF];rfl) (by omega) (by kernel_rfl) (by simp +decide [zAJ,zDE,zEE,zTp,ZD,zi,zIU,hRl,hR',hXn',hXl,eL,n1,n2,hndl,hndW,hV,hM,shA,shB,hne];first | exact wR | exact⟨by kernel_rfl,wR⟩) ?_;refine SimR.one hΓ _ rfl (by kernel_rfl) (by simp +decide [zAJ,Tryz.f188,hRl,hRt,hRc,hXl,b1,b2,b3,b4];exact wR) ?_;refine SimR.done rfl ?_;dsimp only;refine Sim.after (wE hΓ (by simp;exact wT) ?_);exact (hmore a1 V _ (p+1+4+1+1) (p+1+1+1) _ _ (by rw[hM]) (by simp only[r9Z];exact hXg _ 4) (by simp only[r9Z];exact hXg0 _) (by omega) (by omega) (by omega) (.inr ⟨_,rfl⟩)).close
     (qnZ 1) ([.top,.top,.top,.top,.int .i64 a1,.int .i64 0]++qbZ 34 .top) (by simp[AWs,AW]) ⟨.inr rfl,_,by simp[Tryz.f93] <;> rfl,Weak.mk' [0] (by decide) rfl (by simp) (by simp[AWb])⟩
theorem zOD(r:RF){B:Nat}(h:r.ok B)(hB:B<=1000000)(s t:List UInt8)(ht:t.length<=9223372036854775807) :
   Ct Pz 295 [.ptr 0 0,.str s,.str t] [.obj true r.blks] (.int .i64 (r.rename s t).2) [.obj true (r.rename s t).1.blks]:=by
 have hΓ:=zEt;obtain⟨p,hp⟩:∃p,r.was.length=p+1:=⟨r.was.length-1,by have:=h.ne;omega⟩
 have hpB:p<=1000000:=by have:=h.len;omega
 have b1:(p+1)*24<=140737488355328:=Nat.le_trans (Nat.mul_le_mul_right 24 (Nat.succ_le_succ hpB)) (by decide);have b2:p+1<=9223372036854775807:=Nat.le_trans (Nat.succ_le_succ hpB) (by decide);have b3:(p+1+1)*24<=140737488355328:=Nat.le_trans (Nat.mul_le_mul_right 24 (Nat.succ_le_succ (Nat.succ_le_succ hpB))) (by decide);have b4:p+1+1<=9223372036854775807:=Nat.le_trans (Nat.succ_le_succ (Nat.succ_le_succ hpB)) (by decide);have hR:=zCr (fun i=>i+2) r.was 0 _ _ (RF.now_get h.ne);have hXn:=Zi (RF.now_get h.ne);have hRl:=zBG (fun i=>i+2) 0 r.was;have hXl:=Z1 r.was;have hRc:=zBI (fun i=>i+2) r.was 0;have hsame:=FAt.same r;have hmore:=FAt.more r;have hWB:r.now.length<=1000000:=Nat.le_trans (h.row _ (qcZ (RF.now_get h.ne))) hB;have hlo:=h.lo;have hhi:=h.hi;rw[hp]at hR hXn hRl hXl hsame hmore;rw[Nat.add_sub_cancel]at hR hXn;rw[show 0+p+2=p+1+1 by omega]at hR;refine zE Tryz.func295 rfl ?_;simp only[Tryz.ntmps295,q7Z,q8Z,Nat.reduceAdd,Nat.reduceSub,qbZ,q9Z,qaZ];refine Sim.aft (Aft.open (b:=0) rfl (by simp) (Aft.done (by simp[zo]) ?_));rw[zGp,hp];obtain⟨R,eR⟩:∃R,zAk (fun i=>i+2) 0 r.was=R:=⟨_,rfl⟩
 obtain⟨X,eX⟩:∃X,ZS r.was=X:=⟨_,rfl⟩
 obtain⟨W,eW⟩:∃W,r.now=W:=⟨_,rfl⟩
 obtain⟨a,ea⟩:∃a,r.last=a:=⟨_,rfl⟩
 rw[eR,ea];rw[eX]at hXn hXl hsame hmore ⊢;rw[eR]at hR hRl hRc hsame hmore;rw[eW]at hR hXn hWB;rw[ea]at hlo hhi;obtain⟨L,eL⟩:∃L,W.length=L:=⟨_,rfl⟩
 rw[eL]at hR hWB;have hR':∀h,R[p]'h=.sl (p+1+1) 0 L 2 false:=fun h=>(q1Z.1 hR).2;have hpR:p<R.length:=by omega
 have hRt:R.take (p+1)=R:=q6Z (by omega);have hXT:∀T,(X++T)[p]? = some (.cells true (ndA W)):=fun T=>by rw[q4Z (by omega)];exact hXn
 have hXn':∀h,X[p]'h=.cells true (ndA W):=fun h=>(q1Z.1 hXn).2;have hXT':∀T h,(X++T)[p]'h=.cells true (ndA W):=fun T h=>(q1Z.1 (hXT T)).2;have hne:(p+1 != p)=true:=by simp
 have hBX:=Z4 X hXl;have hXg:=hBX.get;have hXg0:=hBX.get0;have hXs:=hBX.set;have hXs0:=hBX.set0;have n1:p+1<=1000000000:=by omega
 have n2:L<=1000000000:=by omega
 have hndW:(ndA W).take (L*2)=ndA W:=zAl eL;have hndl:(ndA W).length=L*2:=by rw[zz,eL]
 unfold RF.rename;rw[eW,ea];have hsm:=fun T=>hsame a T;rw[show (⟨r.was,a⟩:RF)=r by rw[<-ea]]at hsm;have hsm0:=hsm [];rw[r2Z]at hsm0;refine wS hΓ (by simp;exact wR) ?_;by_cases hm:zEO t;rotate_left
 · rw[if_neg hm]
   dsimp only;obtain⟨u,v,hfv⟩:∃u v,Zk W s=.tuple [.int .i64 u,.bool v]:=by
     unfold Zk;cases NM.get W s with
     | some z=>exact⟨_,_,rfl⟩
     | none=>exact⟨_,_,rfl⟩
   refine wS hΓ (by simp[zAJ,zDE,zBD,ZD,hRl,hR',hXn,eL,n1,n2,hfv];exact wR) ?_;by_cases h0:t=[]
   · subst h0
     refine Sim.after (wE hΓ (by simp[zAJ,Tryz.f187];exact wT) ?_);exact hsm0.close (qnZ 1) ([.top,.top,.top,.top,.top,.top,.int .i64 2]++qbZ 23 .top) (by simp[AWs,AW]) ⟨.inr rfl,_,by simp[Tryz.f295] <;> rfl,Weak.mk' [0] (by decide) rfl (by simp) (by simp[AWb])⟩
   · have h1:0<t.length:=List.length_pos_iff.2 h0
     have h2:¬t.length<=64:=fun h=>hm ⟨h1,h⟩;have h2i:¬(t.length:Int)<=64:=by omega
     have h1i:(0:Int)<t.length:=by omega
     refine Sim.after (wE hΓ (by simp[zAJ,Tryz.f187,h1,h2i];exact wT) ?_);exact hsm0.close (qnZ 1) ([.top,.top,.top,.top,.top,.top,.int .i64 2]++qbZ 23 .top) (by simp[AWs,AW]) ⟨.inr rfl,_,by simp[Tryz.f295] <;> rfl,Weak.mk' [0] (by decide) rfl (by simp) (by simp[AWb])⟩
 rw[if_pos hm];have h1:0<t.length:=hm.1;have h1i:(0:Int)<t.length:=by omega
 have h2:t.length<=64:=hm.2;have h2i:(t.length:Int)<=64:=by omega
 cases hg:NM.get W s with
 | none =>
   have hfv:Zk W s=.tuple [.int .i64 0,.bool false]:=by unfold Zk;rw[hg]
   refine wS hΓ (by simp[zAJ,zDE,zBD,ZD,hRl,hR',hXn,eL,n1,n2,hfv];exact wR) ?_;refine Sim.after (wE hΓ (by simp[zAJ,Tryz.f187,h1,h2i];exact wT) ?_);exact hsm0.close (qnZ 1) ([.top,.top,.top,.top,.top,.top,.int .i64 9]++qbZ 23 .top) (by simp[AWs,AW]) ⟨.inr rfl,_,by simp[Tryz.f295] <;> rfl,Weak.mk' [0] (by decide) rfl (by simp) (by simp[AWb])⟩
 | some z =>
   dsimp only;have hfv:Zk W s=.tuple [.int .i64 z,.bool true]:=by unfold Zk;rw[hg]
   have hUl:=zUg W s;obtain⟨U,hU⟩:∃U,NM.wo W s=U:=⟨_,rfl⟩
   rw[hU,eL]at hUl;obtain⟨M1,hM1⟩:∃M,U.length=M:=⟨_,rfl⟩
   rw[hM1]at hUl;have n3:M1<=1000000000:=Nat.le_trans hUl n2;have hndU:(ndA U).take (M1*2)=ndA U:=zAl hM1;have hndlU:(ndA U).length=M1*2:=by rw[zz,hM1]
   rw[hU];obtain⟨V,hV⟩:∃V,NM.wi U t z=V:=⟨_,rfl⟩
   rw[hV];obtain⟨M,hM⟩:∃M,V.length=M:=⟨_,rfl⟩
   refine wS hΓ (by simp[zAJ,zDE,zBD,ZD,hRl,hR',hXn,eL,n1,n2,hfv];exact wR) ?_;refine wS hΓ (by simp[zAJ,Tryz.f187,h1,h2i];exact wR) ?_;refine wS hΓ (by simp;exact wR) ?_;refine wS hΓ (by simp[zAJ,zDE,zEE,zTp,zUH,ZD,zi,zIU,hRl,hR',hXn',hXl,eL,n1,n2,n3,hndl,hndW,hndlU,hndU,hU,hV,hM,hM1,shA,shB,Tryz.f188,hRt,hRc,b1,b2,b3,b4];exact wR) ?_;refine Sim.after (wE hΓ (by simp;exact wT) ?_);exact (hmore a V _ (p+1+5+1+1) (p+1+1+1+1) _ _ (by rw[hM]) (by simp only[r9Z];exact hXg _ 5) (by simp only[r9Z];exact hXg _ 1) (by omega) (by omega) (by omega) (.inr ⟨_,rfl⟩)).close
     (qnZ 1) ([.top,.top,.top,.top,.top,.top,.int .i64 0]++qbZ 23 .top) (by simp[AWs,AW]) ⟨.inr rfl,_,by simp[Tryz.f295] <;> rfl,Weak.mk' [0] (by decide) rfl (by simp) (by simp[AWb])⟩
theorem zNL(r:RF){B:Nat}(h:r.ok B)(hB:B<=1000000)(s:List UInt8) :
   Ct Pz 220 [.ptr 0 0,.str s] [.obj true r.blks] (.int .i64 (r.remove s).2) [.obj true (r.remove s).1.blks]:=by
 have hΓ:=zEt;obtain⟨p,hp⟩:∃p,r.was.length=p+1:=⟨r.was.length-1,by have:=h.ne;omega⟩
 have hpB:p<=1000000:=by have:=h.len;omega
 have b1:(p+1)*24<=140737488355328:=Nat.le_trans (Nat.mul_le_mul_right 24 (Nat.succ_le_succ hpB)) (by decide);have b2:p+1<=9223372036854775807:=Nat.le_trans (Nat.succ_le_succ hpB) (by decide);have b3:(p+1+1)*24<=140737488355328:=Nat.le_trans (Nat.mul_le_mul_right 24 (Nat.succ_le_succ (Nat.succ_le_succ hpB))) (by decide);have b4:p+1+1<=9223372036854775807:=Nat.le_trans (Nat.succ_le_succ (Nat.succ_le_succ hpB)) (by decide);have hR:=zCr (fun i=>i+2) r.was 0 _ _ (RF.now_get h.ne);have hXn:=Zi (RF.now_get h.ne);have hRl:=zBG (fun i=>i+2) 0 r.was;have hXl:=Z1 r.was;have hRc:=zBI (fun i=>i+2) r.was 0;have hsame:=FAt.same r;have hmore:=FAt.more r;have hWB:r.now.length<=1000000:=Nat.le_trans (h.row _ (qcZ (RF.now_get h.ne))) hB;have hlo:=h.lo;have hhi:=h.hi;rw[hp]at hR hXn hRl hXl hsame hmore;rw[Nat.add_sub_cancel]at hR hXn;rw[show 0+p+2=p+1+1 by omega]at hR;refine zE Tryz.func220 rfl ?_;simp only[Tryz.ntmps220,q7Z,q8Z,Nat.reduceAdd,Nat.reduceSub,qbZ,q9Z,qaZ];refine Sim.aft (Aft.open (b:=0) rfl (by simp) (Aft.done (by simp[zo]) ?_));rw[zGp,hp];obtain⟨R,eR⟩:∃R,zAk (fun i=>i+2) 0 r.was=R:=⟨_,rfl⟩
 obtain⟨X,eX⟩:∃X,ZS r.was=X:=⟨_,rfl⟩
 obtain⟨W,eW⟩:∃W,r.now=W:=⟨_,rfl⟩
 obtain⟨a,ea⟩:∃a,r.last=a:=⟨_,rfl⟩
 rw[eR,ea];rw[eX]at hXn hXl hsame hmore ⊢;rw[eR]at hR hRl hRc hsame hmore;rw[eW]at hR hXn hWB;rw[ea]at hlo hhi;obtain⟨L,eL⟩:∃L,W.length=L:=⟨_,rfl⟩
 rw[eL]at hR hWB;have hR':∀h,R[p]'h=.sl (p+1+1) 0 L 2 false:=fun h=>(q1Z.1 hR).2;have hpR:p<R.length:=by omega
 have hRt:R.take (p+1)=R:=q6Z (by omega);have hXT:∀T,(X++T)[p]? = some (.cells true (ndA W)):=fun T=>by rw[q4Z (by omega)];exact hXn
 have hXn':∀h,X[p]'h=.cells true (ndA W):=fun h=>(q1Z.1 hXn).2;have hXT':∀T h,(X++T)[p]'h=.cells true (ndA W):=fun T h=>(q1Z.1 (hXT T)).2;have hne:(p+1 != p)=true:=by simp
 have hBX:=Z4 X hXl;have hXg:=hBX.get;have hXg0:=hBX.get0;have hXs:=hBX.set;have hXs0:=hBX.set0;have n1:p+1<=1000000000:=by omega
 have n2:L<=1000000000:=by omega
 have hndW:(ndA W).take (L*2)=ndA W:=zAl eL;have hndl:(ndA W).length=L*2:=by rw[zz,eL]
 unfold RF.remove;rw[eW,ea];have hsm:=fun T=>hsame a T;rw[show (⟨r.was,a⟩:RF)=r by rw[<-ea]]at hsm;have hsm0:=hsm [];rw[r2Z]at hsm0;refine wS hΓ (by simp;exact wR) ?_;cases hg:NM.get W s with
 | none =>
   have hfv:Zk W s=.tuple [.int .i64 0,.bool false]:=by unfold Zk;rw[hg]
   refine wS hΓ (by simp[zAJ,zDE,zBD,ZD,hRl,hR',hXn,eL,n1,n2,hfv];exact wR) ?_;refine Sim.after (wE hΓ (by simp;exact wT) ?_);exact hsm0.close (qnZ 1) ([.top,.top,.top,.top,.int .i64 9]++qbZ 16 .top) (by simp[AWs,AW]) ⟨.inr rfl,_,by simp[Tryz.f220] <;> rfl,Weak.mk' [0] (by decide) rfl (by simp) (by simp[AWb])⟩
 | some z =>
   dsimp only;have hfv:Zk W s=.tuple [.int .i64 z,.bool true]:=by unfold Zk;rw[hg]
   obtain⟨U,hU⟩:∃U,NM.wo W s=U:=⟨_,rfl⟩
   obtain⟨M1,hM1⟩:∃M,U.length=M:=⟨_,rfl⟩
   rw[hU];refine wS hΓ (by simp[zAJ,zDE,zBD,ZD,hRl,hR',hXn,eL,n1,n2,hfv];exact wR) ?_;refine wS hΓ (by simp;exact wR) ?_;refine wS hΓ (by simp[zAJ,zDE,zEE,zUH,ZD,zi,zIU,hRl,hR',hXn',hXl,eL,n1,n2,hndl,hndW,hU,hM1,shA,shB,Tryz.f188,hRt,hRc,b1,b2,b3,b4];exact wR) ?_;refine Sim.after (wE hΓ (by simp;exact wT) ?_);exact (hmore a U _ (p+1+4+1+1) (p+1+1+1) _ _ (by rw[hM1]) (by simp only[r9Z];exact hXg _ 4) (by simp only[r9Z];exact hXg0 _) (by omega) (by omega) (by omega) (.inr ⟨_,rfl⟩)).close
     (qnZ 1) ([.top,.top,.top,.top,.int .i64 0]++qbZ 16 .top) (by simp[AWs,AW]) ⟨.inr rfl,_,by simp[Tryz.f220] <;> rfl,Weak.mk' [0] (by decide) rfl (by simp) (by simp[AWb])⟩
theorem zLI(r:RF){B:Nat}(h:r.ok B)(hB:B<=1000000)(m:Int)(_hm : -9223372036854775808<=m/\m<=9223372036854775807) :
   Ct Pz 78 [.ptr 0 0,.int .i64 m] [.obj true r.blks] (.tuple []) [.obj true (r.survive m).blks]:=by
 have hΓ:=zEt;obtain⟨p,hp⟩:∃p,r.was.length=p+1:=⟨r.was.length-1,by have:=h.ne;omega⟩
 have hpB:p<=1000000:=by have:=h.len;omega
 have b1:(p+1)*24<=140737488355328:=Nat.le_trans (Nat.mul_le_mul_right 24 (Nat.succ_le_succ hpB)) (by decide);have b2:p+1<=9223372036854775807:=Nat.le_trans (Nat.succ_le_succ hpB) (by decide);have b3:(p+1+1)*24<=140737488355328:=Nat.le_trans (Nat.mul_le_mul_right 24 (Nat.succ_le_succ (Nat.succ_le_succ hpB))) (by decide);have b4:p+1+1<=9223372036854775807:=Nat.le_trans (Nat.succ_le_succ (Nat.succ_le_succ hpB)) (by decide);have hR:=zCr (fun i=>i+2) r.was 0 _ _ (RF.now_get h.ne);have hXn:=Zi (RF.now_get h.ne);have hRl:=zBG (fun i=>i+2) 0 r.was;have hXl:=Z1 r.was;have hRc:=zBI (fun i=>i+2) r.was 0;have hsame:=FAt.same r;have hmore:=FAt.more r;have hWB:r.now.length<=1000000:=Nat.le_trans (h.row _ (qcZ (RF.now_get h.ne))) hB;have hlo:=h.lo;have hhi:=h.hi;rw[hp]at hR hXn hRl hXl hsame hmore;rw[Nat.add_sub_cancel]at hR hXn;rw[show 0+p+2=p+1+1 by omega]at hR;have hcl:r.clamp m<=p:=by unfold RF.clamp;rw[hp];omega
 have hcl2:max 0 (min m (p:Int))=(r.clamp m:Int):=by unfold RF.clamp;rw[hp,Nat.add_sub_cancel];omega
 have hcw:r.was[r.clamp m]? = some (r.was.getD (r.clamp m) []):=by rw[q2Z,q3Z (by omega)];rfl
 have hRc0:=zCr (fun i=>i+2) r.was 0 _ _ hcw;have hXc0:=Zi hcw;have w1:IntKind.i64.wrap ((p:Int)+1)=p+1:=zK (by omega) (by omega);have w2:IntKind.i64.wrap (p:Int)=p:=zK (by omega) (by omega);have w3:IntKind.i64.wrap ((p:Int)+1-1)=p:=by rw[show (p:Int)+1-1=p by omega];exact w2
 unfold RF.survive;obtain⟨c,hc⟩:∃c,r.clamp m=c:=⟨_,rfl⟩
 rw[hc]at hcl hcl2 hRc0 hXc0 ⊢;rw[show 0+c+2=c+1+1 by omega]at hRc0;refine zE Tryz.func78 rfl ?_;simp only[Tryz.ntmps78,q7Z,q8Z,Nat.reduceAdd,Nat.reduceSub,qbZ,q9Z,qaZ];refine Sim.aft (Aft.open (b:=0) rfl (by simp) (Aft.done (by simp[zo]) ?_));rw[zGp,hp];obtain⟨R,eR⟩:∃R,zAk (fun i=>i+2) 0 r.was=R:=⟨_,rfl⟩
 obtain⟨X,eX⟩:∃X,ZS r.was=X:=⟨_,rfl⟩
 obtain⟨W,eW⟩:∃W,r.now=W:=⟨_,rfl⟩
 obtain⟨a,ea⟩:∃a,r.last=a:=⟨_,rfl⟩
 rw[eR,ea];rw[eX]at hXn hXl hsame hmore ⊢;rw[eR]at hR hRl hRc hsame hmore;rw[eW]at hR hXn hWB;rw[ea]at hlo hhi;obtain⟨L,eL⟩:∃L,W.length=L:=⟨_,rfl⟩
 rw[eL]at hR hWB;have hR':∀h,R[p]'h=.sl (p+1+1) 0 L 2 false:=fun h=>(q1Z.1 hR).2;have hpR:p<R.length:=by omega
 have hRt:R.take (p+1)=R:=q6Z (by omega);have hXT:∀T,(X++T)[p]? = some (.cells true (ndA W)):=fun T=>by rw[q4Z (by omega)];exact hXn
 have hXn':∀h,X[p]'h=.cells true (ndA W):=fun h=>(q1Z.1 hXn).2;have hXT':∀T h,(X++T)[p]'h=.cells true (ndA W):=fun T h=>(q1Z.1 (hXT T)).2;have hne:(p+1 != p)=true:=by simp
 have hBX:=Z4 X hXl;have hXg:=hBX.get;have hXg0:=hBX.get0;have hXs:=hBX.set;have hXs0:=hBX.set0;have n1:p+1<=1000000000:=by omega
 have n2:L<=1000000000:=by omega
 have hndW:(ndA W).take (L*2)=ndA W:=zAl eL;have hndl:(ndA W).length=L*2:=by rw[zz,eL]
 rw[eR]at hRc0;rw[eX]at hXc0;obtain⟨V,hV⟩:∃V,r.was.getD c []=V:=⟨_,rfl⟩
 rw[hV]at hRc0 hXc0 ⊢;obtain⟨M,hM⟩:∃M,V.length=M:=⟨_,rfl⟩
 rw[hM]at hRc0;have hRc':∀h,R[c]'h=.sl (c+1+1) 0 M 2 false:=fun h=>(q1Z.1 hRc0).2;have c1:c<R.length:=by omega
 have c2:(c:Int)<(p:Int)+1:=by omega
 have c3:c<p+1:=by omega
 refine wS hΓ (by simp +decide [-zDS,zIK,zFq,zAJ,Tryz.f176,w2,hcl2];exact wR) ?_;refine Sim.after (wE hΓ (by simp +decide [hRl,hRc',c2,c3,hXl];exact wT) ?_);have hg:FAt (.cells true [.slice (p+1+1+1) 0 1 1 true,.int .i64 a]::.cells true R::(X++[.cells true [.sl (c+1+1) 0 M 2 false]])) ⟨[V],a⟩ (.slice (p+1+1+1) 0 1 1 true) 0 (p+1+1+1) (fun _=>c+1+1):=by
   refine FAt.one rfl (by simp only[r9Z];rw[hXg0,hM];rfl) (by simp only[r9Z];rw[q4Z (by omega)];exact hXc0) (by omega) (by omega) (by omega) (.inr ⟨_,rfl⟩)
 exact hg.close (qnZ 1) (qbZ 20 .top) (by simp[AWs,AW]) ⟨.inl rfl,_,by simp[Tryz.f78] <;> rfl,Weak.mk' [0] (by decide) rfl (by simp) (by simp[AWb])⟩
theorem zOa(W:NM)(i:Nat)(h:i<W.length):(W.take i).map (fun e=>AV.str e.1)++[.str W[i].1]=(W.take (i+1)).map fun e=>AV.str e.1:=by
 rw[List.take_succ_eq_append_getElem h,roZ];rfl
theorem zJi(W:NM):zL (W.map fun e=>AV.str e.1)=true:=zH _ _ fun _=>rfl
theorem zPj(r:RF){B:Nat}(h:r.ok B)(hB:B<=1000000) :
   Ct Pz 80 [.ptr 0 0] r.blks (.sl (r.was.length+2) 0 r.names.length 1 false) (r.blks++[.cells true (r.names.map .str)]):=by
 have hΓ:=zMC;have hne:=h.ne;have hA0:=zJT r h hB (x:=r.last) (T:=[]);rw[r2Z,<-RF.blks_head]at hA0;have hAl:=r.blks_length;have hid:=r.blks_id;have hAk:∀T,(r.blks++T)[r.was.length+1]? = some (.cells true (ndA r.now)):=fun T=>by
   rw[q4Z (by omega),RF.blks_head];obtain⟨p,hp⟩:∃p,r.was.length=p+1:=⟨r.was.length-1,by omega⟩
   have:=RF.now_get h.ne;rw[hp]at this ⊢;simp only[r9Z];exact Zi this
 have hWB:r.now.length<=1000000:=Nat.le_trans (h.row _ (qcZ (RF.now_get h.ne))) hB;unfold RF.names;rw[List.map_map,show (AV.str ∘ fun x:List UInt8×Int=>x.1)=fun e=>AV.str e.1 from rfl,r7Z];obtain⟨W,eW⟩:∃W,r.now=W:=⟨_,rfl⟩
 obtain⟨L,eL⟩:∃L,W.length=L:=⟨_,rfl⟩
 obtain⟨N,eN⟩:∃N,r.was.length+2=N:=⟨_,rfl⟩
 obtain⟨k,ek⟩:∃k,r.was.length+1=k:=⟨_,rfl⟩
 have hkN:k<N:=by omega
 rw[eW]at hA0 hAk hWB ⊢;rw[eL]at hA0 hWB ⊢;rw[ek]at hA0 hAk;rw[eN]at hAl ⊢;rw[hAl]at hid;obtain⟨A,eA⟩:∃A,r.blks=A:=⟨_,rfl⟩
 rw[eA]at hA0 hAk hAl hid ⊢;clear eA hne;have hBX:=Z4 A hAl;have hXg:=hBX.get;have hXg0:=hBX.get0;have hXs:=hBX.set;have hXs0:=hBX.set0;have tl:=fun {T Tn F Fn}=>Weak.tailG (A:=A) (N:=N) hAl hid (T:=T) (Tn:=Tn) (F:=F) (Fn:=Fn);have ok':∀ts:List Nat,(List.range N++ts)[k]? = some k:=fun ts=>zBw _ _ hkN;have hAr:∀(j:Nat) (rn:List Nat),AWs rn ((W.map fun e=>AV.str e.1).take j) ((W.map fun e=>AV.str e.1).take j):=fun j rn=>by rw[<-List.map_take];exact AWs.refl _ _ (zJi _)
 have fin:∀T,Weak N [.top] (A++T) [.top] (A++T)->True:=fun _ _=>trivial;clear fin;refine zE Tryz.func80 rfl ?_;simp only[Tryz.ntmps80,q7Z,q8Z,Nat.reduceAdd,Nat.reduceSub,qbZ,q9Z,qaZ];rw[hAl];refine wS hΓ (by simp;exact wR) ?_ (by simp[hAl]);refine wS hΓ (by simp;exact wR) ?_ (by simp[hAl]);refine wS hΓ (by simp[zVI,hA0];exact wR) ?_ (by simp[hAl]);refine Sim.seq (wS hΓ (by simp;exact wR) ?_ (by simp[hAl]));refine Sim.block (Sim.loopW (fun i:Nat=>i<=L)
   (fun i=>[.top,.top,.top,.sl N 0 i 1 false,.sl k 0 L 2 false,.int .i64 i]++qbZ 17 .top)
   (fun i=>A++[.cells true ((W.map fun e=>AV.str e.1).take i)]) (fun i=>L-i) 0 (by simp[hAl]) (qqZ _) ?_ fun i hi=>?_)
 · have:=tl (T:=[]) (Tn:=[.cells true []]) (F:=[.ptr 0 0,.tuple [],.nils,.nils,.sl k 0 L 2 false,.int .i64 0,.ptr 0 0,.sl k 0 L 2 false]++qbZ 15 (.tuple [])) (Fn:=[.top,.top,.top,.sl N 0 0 1 false,.sl k 0 L 2 false,.int .i64 0]++qbZ 17 .top) [100] (by decide) (by simp[AWs,AW,ok']) (by simp[AWg,hAl])
   simpa using this
 by_cases hlt:i<L
 · have hil:i<W.length:=by omega
   have hiI:(i:Int)<L:=by omega
   obtain⟨f1,f2⟩:=zDX W i hil;have hR:=zOa W i hil;rw[List.map_take,List.map_take]at hR;have hRl:((W.map fun e=>AV.str e.1).take i).length=i:=by simp;omega
   obtain⟨⟨a,m⟩,hx⟩:∃x,W[i]=x:=⟨_,rfl⟩
   rw[hx]at f1 f2 hR;dsimp only at f1 f2 hR;obtain⟨RW,hRW⟩:∃R,(W.map fun e=>AV.str e.1).take i=R:=⟨_,rfl⟩
   have hRc:RW.all zx=true:=s5Z.2 fun v hv=>by rw[<-hRW]at hv;obtain⟨s,_,rfl⟩:=reZ.1 (List.mem_of_mem_take hv);rfl
   rw[hRW]at hR hRl ⊢;have hRt:RW.take i=RW:=q6Z (by omega);have i1:i*2<L*2:=by omega
   have i2:i*2+2<=L*2:=by omega
   have i6:i*2+2<=W.length*2:=by omega
   have i8:i*2<W.length*2:=by omega
   have i9:(i+1)*16<=140737488355328:=by omega
   have i10:i+1<=9223372036854775807:=by omega
   have y1:IntKind.i64.wrap ((i:Int)+1)=i+1:=zK (by omega) (by omega);refine wS hΓ (by simp[hiI];exact wR) ?_ (by simp[hAl]);refine Sim.seq (Sim.block (wE hΓ (by simp +decide [hAl,hAk,hXs0,hlt,f1,i8,i9,i10,hRl,hR,hRt];exact wT) ?_ (by simp[hAl])));dsimp only;refine wE hΓ (by simp[y1];exact wT) ?_ (by simp[hAl]);exact⟨i+1,by omega,tl [2] (by decide) (by simp[AWs,AW,ok']) (by simp[AWg,AWb,hAl,hAr]),by omega⟩
 · have hie:i=L:=by omega
   subst hie;rw[q6Z (by simp;omega)];refine wE hΓ (by simp;exact wT) ?_ (by simp[hAl]);dsimp only;rw[if_pos rfl];refine wE hΓ (by simp;exact wT) ?_ (by simp[hAl]);exact⟨.inr rfl,_,by simp[Tryz.f80] <;> rfl,tl [0] (by decide) (by simp[AWs,AW]) (by simp[AWg,AWb,hAl];exact AWs.refl _ _ (zJi _))⟩
end
section
open Go Go.Lib
attribute [-simp] zG zT zc zJ zn
theorem zUD:Ct Pz 67 [] [] (.ptr 0 0) [.obj true RF.new.blks]:=by
 refine zE Tryz.func67 rfl ?_;simp only[Tryz.ntmps67,q7Z,q8Z,Nat.reduceAdd,Nat.reduceSub,qbZ,q9Z,qaZ];refine Sim.after (wE zB (by simp;exact wT) ?_);refine Aft.weak (Fn:=[.ptr 0 0]++qbZ 3 .top) (Hn:=RF.new.blks++[]) (Weak.mk' [1,0,100] (by decide) (by decide) (by simp[AWs,AW]) (by simp[RF.blks,RF.cell0,RF.new,zAk,ZS,ndA,AWg,AWb,AWs,AW])) (by simp) ?_;exact (FAt.same RF.new 0 []).close (by decide) ([.ptr 0 0]++qbZ 3 .top) (by simp[AWs,AW]) ⟨.inr rfl,_,by simp[Tryz.f67] <;> rfl,Weak.mk' [0] (by decide) rfl (by simp) (by simp[AWb,RF.new])⟩
theorem zRV(r:RF){B:Nat}(h:r.ok B)(hB:B<=1000000):Ct Pz 176 [.ptr 0 0] r.blks (.int .i64 ((r.was.length-1:Nat):Int)) r.blks:=by
 obtain⟨p,hp⟩:∃p,r.was.length=p+1:=⟨r.was.length-1,by have:=h.ne;omega⟩
 have hpB:p<=1000000:=by have:=h.len;omega
 have w2:IntKind.i64.wrap (p:Int)=p:=zK (by omega) (by omega);have w3:IntKind.i64.wrap ((p:Int)+1-1)=p:=by rw[show (p:Int)+1-1=p by omega];exact w2
 rw[RF.blks_head,hp,Nat.add_sub_cancel];refine ZG Tryz.func176 rfl ?_;simp only[Tryz.ntmps176,q7Z,q8Z,Nat.reduceAdd,Nat.reduceSub,qbZ,q9Z,qaZ];refine wE zB (by simp[w2,w3];exact wT) ?_;exact⟨.inr rfl,by simp[Tryz.f176],rfl⟩
theorem zPr(r:RF){B:Nat}(h:r.ok B)(hB:B<=1000000)(s:List UInt8):Ct Pz 178 [.ptr 0 0,.str s] r.blks (Zk r.now s) r.blks:=by
 have hA0:=zJT r h hB (x:=r.last) (T:=[]);rw[r2Z,<-RF.blks_head]at hA0;have hne:=h.ne;refine zJN r.blks 0 _ true _ _ s hA0 ?_ (Nat.le_trans (h.row _ (qcZ (RF.now_get h.ne))) (by omega)) rfl;rw[RF.blks_head];obtain⟨p,hp⟩:∃p,r.was.length=p+1:=⟨r.was.length-1,by omega⟩
 have:=RF.now_get h.ne;rw[hp]at this ⊢;simp only[r9Z];exact Zi this
theorem zIA(W:NM)(s:List UInt8):zD9 (Zk W s)=true:=by
 unfold Zk;split <;> rfl
theorem zNt(r:RF){B:Nat}(h:r.ok B)(hB:B<=1000000):Ct Pz 80 [.ptr 0 0] [.obj true r.blks] (.sl 1 0 r.names.length 1 false) [.obj true r.blks,.cells true (r.names.map .str)] :=
 zBi (zPj r h hB) (by rw[RF.blks_length];omega) (Aft.closeRF r (qnZ 1) (T:=[.cells true (r.names.map .str)]) (Tn:=[.cells true (r.names.map .str)]) [0] (by decide) rfl (by simp[AW]) fun i t x h1 h2=>by
   match i,h1,h2 with
   | 0,h1,h2=>cases h1;cases h2;exact⟨_,rfl,id,AWs.refl _ _ (zH _ _ fun _=>rfl)⟩)
noncomputable section
open Classical
def zKX:zS:=zBc zHJ RF.blks fun f xs _=>match xs with
 | [.str k]=>if f.ok 1000000/\k.length<=9223372036854775807 then some ((f.create k).1,.tuple [.int .i64 (f.create k).2.1,.int .i64 (f.create k).2.2]) else none
 | _=>none
theorem zGU:Sound Pz 93 zKX:=by
 refine zg (zD Tryz.func93 rfl (by decide)) (fun _ _=>zC0) fun f xs H s' v b hg hb=>?_;split at hg;rotate_left
 · cases hg
 split at hg <;> cases hg
 rename_i hs;exact zy (zM5 f hs.1 (qnZ _) _ hs.2) rfl rfl hb
def zR1:zS:=zBc zHJ RF.blks fun f xs _=>match xs with
 | [.str a,.str b]=>if f.ok 1000000/\b.length<=9223372036854775807 then some ((f.rename a b).1,.int .i64 (f.rename a b).2) else none
 | _=>none
theorem zMO:Sound Pz 295 zR1:=by
 refine zg (zD Tryz.func295 rfl (by decide)) (fun _ _=>zC0) fun f xs H s' v b hg hb=>?_;split at hg;rotate_left
 · cases hg
 split at hg <;> cases hg
 rename_i hs;exact zy (zOD f hs.1 (qnZ _) _ _ hs.2) rfl rfl hb
def zNZ:zS:=zBc zHJ RF.blks fun f xs _=>match xs with
 | [.str a]=>if f.ok 1000000 then some ((f.remove a).1,.int .i64 (f.remove a).2) else none
 | _=>none
theorem zM0:Sound Pz 220 zNZ:=by
 refine zg (zD Tryz.func220 rfl (by decide)) (fun _ _=>zC0) fun f xs H s' v b hg hb=>?_;split at hg;rotate_left
 · cases hg
 split at hg <;> cases hg
 rename_i hs;exact zy (zNL f hs (qnZ _) _) rfl rfl hb
def zJ6:zS:=zBc zHJ RF.blks fun f xs _=>match xs with
 | [.str a]=>if f.ok 1000000 then some (f,Zk f.now a) else none
 | _=>none
theorem zMB:Sound Pz 178 zJ6:=by
 refine zg (zD Tryz.func178 rfl (by decide)) (fun _ _=>zC0) fun f xs H s' v b hg hb=>?_;split at hg;rotate_left
 · cases hg
 split at hg <;> cases hg
 rename_i hs;exact zy (zUb (zPr f hs (qnZ _) _) (zIA _ _)) rfl (zIA _ _) hb
def zH2:zS:=zBc zHJ RF.blks fun f xs _=>match xs with
 | [.int .i64 m]=>if f.ok 1000000/\(-9223372036854775808<=m/\m<=9223372036854775807) then some (f.survive m,.tuple []) else none
 | _=>none
theorem zGa:Sound Pz 78 zH2:=by
 refine zg (zD Tryz.func78 rfl (by decide)) (fun _ _=>zC0) fun f xs H s' v b hg hb=>?_;split at hg;rotate_left
 · cases hg
 split at hg <;> cases hg
 rename_i hs;exact zy (zLI f hs.1 (qnZ _) _ hs.2) rfl rfl hb
def zIF:zS:=fun args H=>match args with
 | [.ptr b 0]=>match H[b]? with
   | some (.obj true sub)=>match zHJ sub with
     | some f=>if f.ok 1000000 then some (.sl H.length 0 f.names.length 1 false,H++[.cells true (f.names.map .str)],[]) else none
     | none=>none
   | _=>none
 | _=>none
theorem zGX:Sound Pz 80 zIF:=by
 refine ⟨zD Tryz.func80 rfl (by decide),fun args H v H' W hs=>?_,fun args H v H' W hs=>?_⟩ <;> (unfold zIF at hs;split at hs <;> try cases hs) <;> (split at hs <;> try cases hs) <;> (rename_i b _ sub hb;split at hs <;> try cases hs) <;> (rename_i f hf;split at hs <;> cases hs;rename_i hk)
 · have e:=zC0 hf
   subst e;have hbl:b<H.length:=(q1Z.1 hb).1;have fs:∀g,ZV g (f.names.map AV.str)=f.names.map AV.str:=fun g=>ZH g _ (by simp[Zo,zAs]);have:=zZ (H:=H) (args:=[.ptr b 0]) (zNt f hk (qnZ _)) [b] (by simp) ⟨⟨rfl,rfl⟩,trivial⟩ ⟨by rw[q2Z,hb];exact⟨rfl,rfl⟩,hbl,trivial⟩ rfl;obtain⟨h1,h2⟩:=q1Z.1 hb;have hset:H.set b (.obj true f.blks)=H:=by rw[<-h2,List.set_getElem_self]
   simpa[zW,ABlk.own,reB,reA,Zr,hset,fs] using this
 · exact⟨by simp,fun c hc _=>by rw[q4Z hc]⟩
def zKe:zS:=fun args H=>match args with
 | []=>some (.ptr H.length 0,H++[.obj true RF.new.blks],[])
 | _=>none
theorem zMo:Sound Pz 67 zKe:=by
 refine ⟨zD Tryz.func67 rfl (by decide),fun args H v H' W hs=>?_,fun args H v H' W hs=>?_⟩ <;> (unfold zKe at hs;split at hs <;> cases hs)
 · have:=zZ (H:=H) (args:=[]) zUD [] (by simp) trivial trivial rfl
   simpa[zW,ABlk.own,reB,reA,Zr] using this
 · exact⟨by simp,fun c hc _=>by rw[q4Z hc]⟩
end
end
section
open Go Go.Lib
def zAO(g:Nat->Nat):Nat->Nat->List AV
 | _,0=>[]
 | k,n+1=>.ptr (g k) 0::zAO g (k+1) n
@[simp] theorem zDG(g:Nat->Nat):∀(n k:Nat),(zAO g k n).length=n
 | 0,_=>rfl
 | n+1,k=>by simp[zAO,zDG g n (k+1)]
theorem zO8(g:Nat->Nat):∀(n k i:Nat),i<n->(zAO g k n)[i]? = some (.ptr (g (k+i)) 0)
 | n+1,k,0,_=>rfl
 | n+1,k,i+1,h=>by
   simp only[zAO,r9Z,zO8 g n (k+1) i (by omega)];rw[show k+1+i=k+(i+1) by omega]
theorem zJb(g:Nat->Nat):∀(n k:Nat),zAO g k (n+1)=zAO g k n++[.ptr (g (k+n)) 0]
 | 0,k=>rfl
 | n+1,k=>by
   rw[zAO,zJb g n (k+1),zAO];simp only[q9Z];rw[show k+1+n=k+(n+1) by omega]
theorem zEh{g g':Nat->Nat}:∀(n k:Nat),(∀i,k<=i->i<k+n->g i=g' i)->zAO g k n=zAO g' k n
 | 0,_,_=>rfl
 | n+1,k,h=>by
   simp only[zAO];rw[h k (qnZ _) (by omega),zEh n (k+1) fun i h1 h2=>h i (by omega) (by omega)]
theorem zIW(rn:List Nat)(g g':Nat->Nat):∀(n k:Nat),(∀i,k<=i->i<k+n->rn[g i]? = some (g' i))->AWs rn (zAO g k n) (zAO g' k n)
 | 0,_,_=>trivial
 | n+1,k,h=>⟨by simp[AW,h k (qnZ _) (by omega)],zIW rn g g' n (k+1) fun i h1 h2=>h i (by omega) (by omega)⟩
theorem zIv(h g:Nat->Nat):∀(n k:Nat),ZV h (zAO g k n)=zAO (fun i=>h (g i)) k n
 | 0,_=>rfl
 | n+1,k=>by simp only[zAO,ZV,reA,zIv h g n (k+1)]
theorem zGK(g:Nat->Nat):∀(n k:Nat),(zAO g k n).all zx=true
 | 0,_=>rfl
 | n+1,k=>by have:=zGK g n (k+1);simp only[zAO,List.all_cons,this,zx,Bool.and_true]
def zAc(l:List PF):zA:=l.map fun f=>.obj true f.rblks
@[simp] theorem zIm(l:List PF):(zAc l).length=l.length:=by simp[zAc]
theorem zES{l:List PF}{i:Nat}{f:PF}(h:l[i]? = some f):(zAc l)[i]? = some (.obj true f.rblks):=by simp[zAc,h]
def RS.cell0(r:RS)(x:AV)(fo:Nat):ABlk:=.cells true [.ptr fo 0,x,.int .i64 r.room,.int .i64 r.steps,.int .i64 r.left,.bool r.down]
def RS.blks(r:RS):zA:=r.cell0 (.sl 2 0 r.F.length 1 false) 1::.obj true r.dir.blks::.cells true (zAO (fun i=>i+3) 0 r.F.length)::zAc r.F
theorem RS.blks_length(r:RS):r.blks.length=r.F.length+3:=by simp[RS.blks]
structure RAt (H:zA) (r:RS) (x:AV) (b fo m:Nat) (g:Nat->Nat):Prop where
 c0:H[b]? = some (r.cell0 x fo)
 hx:x=.sl m 0 r.F.length 1 false\/∃c,x=.slice m 0 r.F.length 1 c
 fold:H[fo]? = some (.obj true r.dir.blks)
 row:H[m]? = some (.cells true (zAO g 0 r.F.length))
 file:∀(i:Nat) f,r.F[i]? = some f->H[g i]? = some (.obj true f.rblks)
 nd:(b::fo::m::(List.range r.F.length).map g).Nodup
theorem RAt.awg{H:zA}{r:RS}{x:AV}{b fo m:Nat}{g:Nat->Nat}(h:RAt H r x b fo m g)(rn:List Nat)(hr:∀i,i<r.F.length+3->rn[i]? = (b::fo::m::(List.range r.F.length).map g)[i]?) :
   AWg rn H r.blks (b::fo::m::(List.range r.F.length).map g):=by
 refine AWg.of _ _ (by simp[RS.blks]) fun i y c hy hc hlt=>?_;have hil:i<r.F.length+3:=by rw[<-RS.blks_length];exact (q1Z.1 hy).1
 rw[q2Z]
 match i,hy,hc with
 | 0,hy,hc =>
   cases hy;cases hc
   rw[h.c0];have h1:=hr 1 (by omega);have h2:=hr 2 (by omega);simp only[r9Z,raZ]at h1 h2;rcases h.hx with e | ⟨c,e⟩ <;> rw[e] <;> exact⟨id,by simp[AWs,AW,h1,h2]⟩
 | 1,hy,hc =>
   cases hy;cases hc
   rw[h.fold];exact⟨rfl,rfl⟩
 | 2,hy,hc =>
   cases hy;cases hc
   rw[h.row];refine ⟨id,zIW _ _ _ _ _ fun i _ hi=>?_⟩;rw[hr (i+3) (by omega)];simp only[r9Z,qzZ];rw[rfZ (by omega)];rfl
 | i+3,hy,hc =>
   simp only[RS.blks,r9Z]at hy hc;rw[qzZ]at hc;have hi:i<r.F.length:=by omega
   rw[rfZ hi]at hc;cases hc;have hw:=q3Z hi;rw[zES hw]at hy;cases hy;rw[h.file i _ hw];exact⟨rfl,rfl⟩
theorem RS.blks_at(r:RS):RAt r.blks r (.sl 2 0 r.F.length 1 false) 0 1 2 (fun i=>i+3):=by
 refine ⟨rfl,.inl rfl,rfl,rfl,fun i f h=>?_,?_⟩
 · simp only[RS.blks,r9Z]
   exact zES h
 · rw[rdZ,rdZ,rdZ]
   refine ⟨fun h=>?_,fun h=>?_,fun h=>?_,?_⟩
   · rcases qwZ.1 h with h | h
     · omega
     rcases qwZ.1 h with h | h
     · omega
     · obtain⟨a,_,h⟩:=reZ.1 h;omega
   · rcases qwZ.1 h with h | h
     · omega
     · obtain⟨a,_,h⟩:=reZ.1 h;omega
   · obtain⟨a,_,h⟩:=reZ.1 h;omega
   · rw[List.nodup_iff_pairwise_ne,List.pairwise_map]
     exact (List.nodup_iff_pairwise_ne.1 List.nodup_range).imp fun h e=>h (by omega)
section
variable {H:zA} {r:RS} {x:AV} {b fo m:Nat} {g:Nat->Nat}
theorem RAt.ne(h:RAt H r x b fo m g):fo≠b/\m≠b/\fo≠m/\(∀i,i<r.F.length->g i≠b/\g i≠fo/\g i≠m)/\∀i k,i<r.F.length->k<r.F.length->g i=g k->i=k:=by
 have h0:=h.nd;rw[rdZ,rdZ,rdZ]at h0;obtain⟨h1,h2,h3,h4⟩:=h0;simp only[qwZ,reZ,List.mem_range,not_or,not_exists,not_and]at h1 h2 h3;refine ⟨fun e=>h1.1 e.symm,fun e=>h1.2.1 e.symm,h2.1,fun i hi=>⟨h1.2.2 i hi,h2.2 i hi,h3 i hi⟩,fun i k hi hk e=>?_⟩;rw[List.nodup_iff_pairwise_ne,List.pairwise_map]at h4;rcases Nat.lt_trichotomy i k with hl | hl | hl
 · have:=List.pairwise_iff_getElem.1 h4 i k (by simpa using hi) (by simpa using hk) hl
   simp only[List.getElem_range]at this;exact absurd e this
 · exact hl
 · have:=List.pairwise_iff_getElem.1 h4 k i (by simpa using hk) (by simpa using hi) hl
   simp only[List.getElem_range]at this;exact absurd e.symm this
theorem RAt.c0set(h:RAt H r x b fo m g)(s l:Int)(w:Bool):RAt (H.set b ((⟨r.dir,r.F,r.room,s,l,w⟩:RS).cell0 x fo)) ⟨r.dir,r.F,r.room,s,l,w⟩ x b fo m g:=by
 obtain⟨n1,n2,_,n4,_⟩:=h.ne;have hl:b<H.length:=(q1Z.1 h.c0).1;refine ⟨by rw[List.getElem?_set,if_pos rfl,if_pos hl],h.hx,by rw[qfZ (Ne.symm n1)];exact h.fold,by rw[qfZ (Ne.symm n2)];exact h.row,fun i f hf=>?_,h.nd⟩;rw[qfZ (Ne.symm (n4 i (q1Z.1 hf).1).1)];exact h.file i f hf
theorem RAt.dirset(h:RAt H r x b fo m g)(d:RF):RAt (H.set fo (.obj true d.blks)) ⟨d,r.F,r.room,r.steps,r.left,r.down⟩ x b fo m g:=by
 obtain⟨n1,_,n3,n4,_⟩:=h.ne;have hl:fo<H.length:=(q1Z.1 h.fold).1;refine ⟨by rw[qfZ n1];exact h.c0,h.hx,by rw[List.getElem?_set,if_pos rfl,if_pos hl],by rw[qfZ n3];exact h.row,fun i f hf=>?_,h.nd⟩;rw[qfZ (Ne.symm (n4 i (q1Z.1 hf).1).2.1)];exact h.file i f hf
theorem RAt.app(h:RAt H r x b fo m g)(T:zA):RAt (H++T) r x b fo m g:=by
 have key:∀(q:Nat) y,H[q]? = some y->(H++T)[q]? = some y:=fun q y hb=>by rw[q4Z (q1Z.1 hb).1];exact hb
 exact⟨key _ _ h.c0,h.hx,key _ _ h.fold,key _ _ h.row,fun i f hf=>key _ _ (h.file i f hf),h.nd⟩
theorem RAt.close(h:RAt H r x 0 fo m g){n0:Nat}{F:List AV}(Fn:List AV){K:List AV->zA->Prop}(hF:AWs [0] Fn F)(hk:K Fn [.obj true r.blks])(h01:n0<=1:=by decide):Aft n0 F H K:=by
 have hbl:0<H.length:=(q1Z.1 h.c0).1;refine Aft.close (o:=true) (b:=0) (sub:=r.blks) (rs:=0::fo::m::(List.range r.F.length).map g) (ks:=fo::m::(List.range r.F.length).map g) rfl h.nd hbl ?_ (h.awg _ fun _ _=>rfl) ⟨_,rfl,rfl⟩ ?_ (by omega) ?_
 · intro c y hc hcb _ _
   exact (qwZ.1 hc).resolve_left hcb
 · intro i y hy hd
   have hm:=qcZ hy;simp only[RS.blks,RS.cell0,qwZ]at hm;rcases hm with rfl | rfl | rfl | hm
   · rfl
   · rfl
   · rfl
   · obtain⟨e,_,rfl⟩:=reZ.1 hm
     rfl
 · refine Aft.weak (Fn:=Fn) (Hn:=[.obj true r.blks]) (Weak.mk' [0] (by decide) (by match n0,h01 with | 0,_=>rfl | 1,_=>rfl) hF (zR (b:=0) hbl _ _ rfl fun i c x h1 h2=>?_)) (by simp;omega) (Aft.done (by simp;omega) hk)
   match i,h1,h2 with
   | 0,h1,h2=>cases h1;cases h2;exact .inl ⟨rfl,rfl⟩
end
theorem zJ9(r:RS):zo [.obj true r.blks] 0 r.blks=r.blks:=by
 have hg:∀i,zBU 0 1 i=i:=fun i=>by unfold zBU;split <;> omega
 unfold zo;simp only[RS.blks,q7Z,q8Z,List.getD_cons_zero,s9Z,List.drop_succ_cons,List.drop_zero,q9Z,qaZ,s8Z];rw[zDJ hg,List.map_congr_left (fun B _=>zDJ hg B)];simp
noncomputable def zGc(sub:zA):Option RS:=open Classical in if h:∃r:RS,sub=r.blks then some h.choose else none
theorem zCo{sub:zA}{r:RS}(h:zGc sub=some r):sub=r.blks:=by
 unfold zGc at h;split at h
 · rename_i hx
   cases h;exact hx.choose_spec
 · cases h
theorem zIR:∀{l m:List PF},zAc l=zAc m->l=m
 | [],[],_=>rfl
 | [],_::_,h=>by simp[zAc]at h
 | _::_,[],h=>by simp[zAc]at h
 | a::l,b::m,h=>by
   simp only[zAc,s1Z,List.cons.injEq,ABlk.obj.injEq,true_and]at h;have h3:=congrArg zGF h.1;rw[zGA,zGA]at h3;rw[Option.some.inj h3,zIR (l:=l) (m:=m) h.2]
theorem zN1{r s:RS}(h:r.blks=s.blks):r=s:=by
 obtain⟨d,f,q,s1,a,w⟩:=r;obtain⟨d',f',q',s',a',w'⟩:=s;simp only[RS.blks,RS.cell0,List.cons.injEq,ABlk.cells.injEq,ABlk.obj.injEq,AV.int.injEq,AV.bool.injEq,true_and,and_true]at h;obtain⟨⟨_,h1,h2,h3,h4⟩,h5,_,h7⟩:=h;rw[h1,h2,h3,h4,zHz h5,zIR h7]
@[simp] theorem zQv(r:RS):zGc r.blks=some r:=by
 unfold zGc;have h:∃s:RS,r.blks=s.blks:=⟨r,rfl⟩
 rw[dif_pos h];exact congrArg some (zN1 h.choose_spec).symm
end
end Go.Proofs.YtfhidaoiofeooaaGreatDoor
