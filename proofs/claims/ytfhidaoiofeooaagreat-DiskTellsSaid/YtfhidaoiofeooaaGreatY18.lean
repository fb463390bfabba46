/- Parts of the proof of DiskTells: lemmas, each with its own conditions. -/
import Derived.Test.YtfhidaoiofeooaaGreatY17
set_option maxHeartbeats 64000000
open List renaming getElem?_eq_some_iff → q1Z, getD_eq_getElem?_getD → q2Z, getElem?_eq_getElem → q3Z, getElem?_append_left → q4Z, length_cons → q7Z, length_nil → q8Z, cons_append → q9Z, nil_append → qaZ, replicate → qbZ, mem_of_getElem? → qcZ, getElem?_set_ne → qfZ, getElem?_set_self → qgZ, length_take → qjZ, mem_cons → qwZ, getElem?_map → qzZ, mem_singleton → r1Z, getElem_mem → r3Z, getElem?_take → r4Z, length_map → r7Z, length_set → r8Z, map_cons → s1Z, getElem?_eq_none → s4Z
open Option renaming map_eq_some_iff → qlZ, getD_some → rgZ
open Nat renaming zero_le → qqZ
open Int renaming toNat_of_nonneg → rqZ
namespace Go.Proofs.YtfhidaoiofeooaaGreat
open _root_.Go.Proofs.Tryz renaming prog → Pz
set_option maxRecDepth 100000
section
open Go Go.Lib
attribute [-simp] zN zr ZI zT ZL
def zp(l:List Int):List AV:=l.map (.int .u16)
@[simp] theorem zV0(l:List Int):(zp l).length=l.length:=by simp[zp]
@[simp] theorem ZB:∀l,zh (zp l)=true
 | []=>rfl
 | _::l=>by have:=ZB l;simpa[zp,free] using this
def nxt(l:List Int)(o n:Nat):Int:=((l.drop o).take n).headD 0
def nxO(o n:Nat):Nat:=o+min 1 n
def nxN(n:Nat):Nat:=n-1
def zWP(l:List Int)(o n:Nat):Prop:=o+n<=l.length/\l.length<=9223372036854775807/\∀x∈l,0<=x/\x<=65535
theorem zVT(H:zA)(c b o n:Nat)(w cl:Bool)(l:List Int)(hok:zWP l o n)(hc:H[c]? = some (.cells true [.sl b o n 1 cl]))(hb:H[b]? = some (.cells w (zp l))) :
   Ct Pz 95 [.ptr c 0] H (.int .i64 (nxt l o n)) (H.set c (.cells true [.sl b (nxO o n) (nxN n) 1 cl])):=by
 obtain⟨ho,hl,hr⟩:=hok;have hcl:c<H.length:=(q1Z.1 hc).1;refine zR Tryz.func95 rfl ?_;simp only[Tryz.ntmps95,q7Z,q8Z,Nat.reduceAdd,Nat.reduceSub,qbZ,q9Z,qaZ]
 refine Sim.step hmix zC (n:=0) (by simp;exact⟨rfl,rfl⟩) (by simp) ?_
 by_cases h:0<n
 · have hol:o<l.length:=by omega
   obtain⟨x,hx⟩:∃x,l[o]=x:=⟨_,rfl⟩
   have hxr:=hr x (by rw[<-hx];exact r3Z hol)
   have hd:nxt l o n=x:=by
     unfold nxt
     obtain⟨m,rfl⟩:∃m,n=m+1:=⟨n-1,by omega⟩
     rw[List.drop_eq_getElem_cons hol,hx];rfl
   have hat:∀q,(zp l)[o]'q=.int .u16 x:=fun q=>by simp[zp,hx]
   have hlt:o<(zp l).length:=by simpa using hol
   have hw:IntKind.i64.wrap x=x:=zV (by omega) (by omega)
   have p1:(0:Int)<(n:Int):=by omega
   have p3:1<=n:=by omega
   have p4:(1:Int)<=(n:Int):=by omega
   have e1:nxO o n=o+1:=by unfold nxO;omega
   have e2:nxN n=n-1:=rfl;rw[hd,e1,e2]
   refine Sim.seq (Sim.step hmix zC (n:=0) (by simp[hc,h];exact⟨rfl,rfl⟩) (by simp) (Sim.cond (t:=true) (by simp) ?_))
   rw[if_pos rfl]
   refine Sim.draw hmix (by simp) ?_
   refine SimR.many zC 7 (by simp[zI];rfl) (by omega) (by kernel_rfl) (by simp +decide [hc,hb,hat,hol,h,hw,p4];first | exact⟨rfl,rfl⟩ | exact⟨by kernel_rfl,rfl,rfl⟩) ?_
   refine SimR.one zC _ rfl (by kernel_rfl) (by simp +decide [hc];exact⟨rfl,rfl⟩) ?_
   refine SimR.done rfl ?_;dsimp only
   refine Sim.exec hmix zC (n:=0) (by simp;exact⟨rfl,rfl,rfl⟩) (by simp) ?_
   exact⟨.inr rfl,by simp[Tryz.f95],rfl⟩
 · have e:n=0:=by omega
   subst e
   have hd:nxt l o 0=0:=by unfold nxt;rw[List.take_zero];rfl
   have hset:H.set c (.cells true [.sl b (nxO o 0) (nxN 0) 1 cl])=H:=by
     show H.set c (.cells true [.sl b o 0 1 cl])=H;obtain⟨h1,h2⟩:=q1Z.1 hc;rw[<-h2,List.set_getElem_self]
   rw[hd,hset]
   refine Sim.step hmix zC (n:=0) (by simp[hc];exact⟨rfl,rfl⟩) (by simp) ?_
   refine Sim.exec hmix zC (n:=0) (by simp;exact⟨rfl,rfl,rfl⟩) (by simp) ?_
   exact⟨.inr rfl,by simp[Tryz.f95],rfl⟩
def numsOf:List AV->Option (List Int)
 | []=>some []
 | .int .u16 n::l=>(numsOf l).map (n::·)
 | _=>none
theorem zAz:∀l:List Int,numsOf (zp l)=some l
 | []=>rfl
 | x::l=>by
   have:=zAz l;simp only[zp,s1Z,numsOf]at this ⊢
   rw[this];rfl
theorem zEl:∀{a:List AV} {l:List Int},numsOf a=some l->a=zp l
 | [],_,h=>by cases h;rfl
 | x::a,l,h=>by
   unfold numsOf at h;split at h
   · rename_i h0;cases h0
   · rename_i n a' e
     cases e;obtain⟨l',h1,rfl⟩:=qlZ.1 h
     rw[zEl h1];rfl
   · cases h
noncomputable def zKQ:zU:=open Classical in fun args H=>match args with
 | [.ptr c 0]=>match H[c]? with
   | some (.cells true [.sl b o n 1 cl])=>match H[b]? with
     | some (.cells _ a)=>match numsOf a with
       | some l=>if zWP l o n then some (.int .i64 (nxt l o n),H.set c (.cells true [.sl b (nxO o n) (nxN n) 1 cl]),[c]) else none
       | none=>none
     | _=>none
   | _=>none
 | _=>none
theorem zPe:Sound Pz 95 zKQ:=by
 refine ⟨zE Tryz.func95 rfl (by decide),fun args H v H' W hs=>?_,fun args H v H' W hs=>?_⟩ <;> (unfold zKQ at hs;split at hs <;> try cases hs) <;> (split at hs <;> try cases hs) <;> (rename_i c _ b o n cl hc;split at hs <;> try cases hs) <;> (rename_i w a hb;split at hs <;> try cases hs) <;> (rename_i l hl;split at hs <;> cases hs;rename_i hk)
 · have e:=zEl hl
   subst e;exact zVT H c b o n w cl l hk hc hb
 · refine ⟨by simp,fun d hd hn=>?_⟩
   simp only[r1Z]at hn;rw[qfZ (Ne.symm hn)]
def thM(g:Int->Nat)(th:List Int):List (AV×AV):=th.map fun n=>(.int .i64 n,.ptr (g n) 0)
theorem zLp(g:Int->Nat)(v:Int):∀(th:List Int) (i:Nat),zAS (thM g th) (.int .i64 v) i=some (if v∈th then some (i+th.idxOf v,.ptr (g v) 0) else none)
 | [],i=>by simp[thM,zAS]
 | a::th,i=>by
   have ih:=zLp g v th (i+1);simp only[thM]at ih;by_cases h:a=v
   · subst h
     simp[thM,zAS,Z2]
   · have h2:(v==a)=false:=by simpa using (fun q=>h q.symm)
     have h3:(a==v)=false:=by simpa using h
     simp only[thM,s1Z,zAS,Z2,h2,ih,qwZ,Ne.symm h,false_or];rw[List.idxOf_cons,h3]
     by_cases hm:v∈th <;> simp[hm]
     omega
theorem zWc(g:Int->Nat){v:Int}{th:List Int}(h:v∈th):(thM g th).set (th.idxOf v) (.int .i64 v,.ptr (g v) 0)=thM g th:=by
 have hl:th.idxOf v<th.length:=List.idxOf_lt_length_of_mem h
 have e:(thM g th)[th.idxOf v]'(by simpa[thM] using hl)=(.int .i64 v,.ptr (g v) 0):=by
   simp[thM,List.getElem_idxOf hl]
 rw[<-e,List.set_getElem_self]
theorem FS.at_keys{l m:FS}(h:FS.keys l=FS.keys m)(n:Int):FS.at l n=FS.at m n:=by unfold FS.at;rw[h]
theorem zOx(H:zA)(b1 p:Nat)(o c:Bool)(nums:List Int)(n a:Nat)(h1:H[b1]? = some (.cells o (zp nums)))(hp:H[p]? = some (.cells true [.int .i64 a]))(hne:p≠b1)(hn:n<=nums.length)(hn2:n<=9223372036854775807)(ha:a<=1000000000)(hx:∀x∈nums,0<=x/\x<=65535) :
   Ct Pz 120 [.sl b1 0 n 1 c,.ptr p 0] H (.int .i64 ((nums.take n).getD a 0)) (H.set p (.cells true [.int .i64 ((a+1:Nat):Int)])):=by
 have hΓ:GOk Pz (zo []):=zC;have hpl:p<H.length:=(q1Z.1 hp).1
 have w1:IntKind.i64.wrap ((a:Int)+1)=((a+1:Nat):Int):=by rw[Int.natCast_add];exact zV (by omega) (by omega)
 have w2:IntKind.i64.wrap (((a+1:Nat):Int)-1)=a:=by rw[show ((a+1:Nat):Int)-1=a by omega];exact zV (by omega) (by omega)
 obtain⟨H2,hH2⟩:∃X,H.set p (.cells true [.int .i64 ((a+1:Nat):Int)])=X:=⟨_,rfl⟩
 have k1:H2[b1]? = some (.cells o (zp nums)):=by rw[<-hH2,qfZ hne];exact h1
 have k2:H2[p]? = some (.cells true [.int .i64 ((a+1:Nat):Int)]):=by rw[<-hH2,List.getElem?_set,if_pos rfl,if_pos hpl]
 have hl2:H2.length=H.length:=by rw[<-hH2,r8Z]
 obtain⟨a1,ha1⟩:∃x:Nat,a+1=x:=⟨_,rfl⟩;rw[ha1]at w1 w2 k2 hH2;refine zR Tryz.func120 rfl ?_;simp only[Tryz.ntmps120,q7Z,q8Z,Nat.reduceAdd,Nat.reduceSub,qbZ,q9Z,qaZ];rw[ha1]
 refine Sim.step hmix hΓ (n:=0) (by simp;exact⟨rfl,rfl⟩) (by simp) ?_
 refine Sim.step hmix hΓ (n:=0) (by simp[hp,w1,hH2];exact⟨rfl,rfl⟩) (by simp) ?_
 by_cases hlt:a<n
 · have hgt:¬(n:Int)<a1:=by omega
   have hal:a<nums.length:=by omega
   have hg:(nums.take n).getD a 0=nums[a]:=by rw[q2Z,r4Z,if_pos hlt,q3Z hal];rfl
   have hxa:=hx _ (r3Z hal);rw[hg]
   have f2:(zp nums)[a]? = some (.int .u16 nums[a]):=by unfold zp;rw[qzZ,q3Z hal];rfl
   obtain⟨x,hxx⟩:∃x,nums[a]=x:=⟨_,rfl⟩;rw[hxx]at f2 hxa ⊢
   have f1:∀h,(zp nums)[a]'h=.int .u16 x:=fun h=>(q1Z.1 f2).2
   have w3:IntKind.i64.wrap x=x:=zV (by omega) (by omega)
   have i2:(a:Int)<n:=by omega
   refine Sim.step hmix hΓ (n:=0) (by simp[k2,hgt];exact⟨rfl,rfl⟩) (by simp[hl2]) ?_
   refine Sim.exec hmix hΓ (n:=0) (by simp[k1,k2,w2,f1,f2,w3,i2,hlt,hal];exact⟨rfl,rfl,rfl⟩) (by simp[hl2]) ?_
   exact⟨.inr rfl,by simp[Tryz.f120],hH2.symm⟩
 · have hgt:(n:Int)<a1:=by omega
   have hg:(nums.take n).getD a 0=0:=by rw[q2Z,s4Z (by rw[qjZ];omega)];rfl
   rw[hg]
   refine Sim.exec hmix hΓ (n:=0) (by simp[k2,hgt];exact⟨rfl,rfl,rfl⟩) (by simp[hl2]) ?_
   exact⟨.inr rfl,by simp[Tryz.f120],hH2.symm⟩
noncomputable def zKU:zU:=open Classical in fun args H=>match args with
 | [.sl b1 0 n 1 _c,.ptr p 0]=>match H[b1]?,H[p]? with
   | some (.cells _ l),some (.cells true [.int .i64 a])=>match numsOf l with
     | some nums=>if n<=nums.length/\n<=9223372036854775807/\(0<=a/\a<=1000000000)/\p≠b1/\(∀x∈nums,0<=x/\x<=65535) then
         some (.int .i64 ((nums.take n).getD a.toNat 0),H.set p (.cells true [.int .i64 ((a.toNat+1:Nat):Int)]),[p]) else none
     | none=>none
   | _,_=>none
 | _=>none
theorem zPQ:∀{l:List AV} {m:List Int},numsOf l=some m->l=zp m:=by
 intro l
 induction l using numsOf.induct with
 | case1=>intro m h;cases h;rfl
 | case2 n l ih =>
   intro m h;simp only[numsOf,qlZ]at h;obtain⟨m',h1,rfl⟩:=h
   rw[ih h1];rfl
 | case3 l h1 h2 =>
   intro m h;unfold numsOf at h
   split at h <;> simp_all
theorem zNa:Sound Pz 120 zKU:=by
 refine ⟨zE Tryz.func120 rfl (by decide),fun args H v H' W hs=>?_,fun args H v H' W hs=>?_⟩ <;> (unfold zKU at hs;split at hs <;> try cases hs) <;> (split at hs <;> try cases hs) <;> (rename_i h1 hp;split at hs <;> try cases hs) <;> (rename_i nums hm;split at hs <;> cases hs;rename_i hc)
 · obtain⟨c1,c2,⟨c3,c4⟩,c5,c6⟩:=hc
   rw[zPQ hm]at h1
   refine zOx H _ _ _ _ nums _ _ h1 ?_ c5 c1 c2 (by omega) c6
   rw[rqZ c3];exact hp
 · exact⟨by simp,fun c hc hn=>by rw[qfZ (fun e=>hn (by simp[e]))]⟩
theorem zPE(l:List Int):∀a,(l.drop a).headD 0=l.getD a 0:=fun a=>by
 rw[List.headD_eq_head?_getD,List.head?_drop,q2Z]
theorem tail_drop(l:List Int)(a:Nat):(l.drop a).tail=l.drop (a+1):=by
 rw[<-List.drop_one,List.drop_drop]
def zE0(dir:RF)(K:List Int)(F:List PF)(ks:List (List UInt8))(i:Nat):List Int×List PF:=(ks.take i).foldl (zBW dir) (K.tail,F)
theorem zJy(dir:RF)(K:List Int)(F:List PF)(ks:List (List UInt8))(i:Nat)(h:i<ks.length):zE0 dir K F ks (i+1)=zBW dir (zE0 dir K F ks i) ks[i]:=by
 unfold zE0
 rw[List.take_succ_eq_append_getElem h,List.foldl_append];rfl
theorem zMD(dir:RF)(K:List Int)(F:List PF)(ks:List (List UInt8)):∀i,i<=ks.length->(zE0 dir K F ks i).1=K.drop (1+2*i)
 | 0,_=>by simp[zE0]
 | i+1,h=>by
   rw[zJy dir K F ks i (by omega)]
   simp only[zBW,zMD dir K F ks i (by omega),tail_drop]
   rw[show 1+2*i+1+1=1+2*(i+1) by omega]
noncomputable def zJ3:Gam:=zo [(120,zKU),(20,zFh),(121,zFR)]
theorem zT8:GOk Pz zJ3:=zB zNa (zB zEJ (zB zEI zC))
noncomputable def zSd(args:List AV)(H:zA)(v:AV):Gam:=zo [(103,zEX args H v),(122,zON)]
theorem zRY{args:List AV}{H:zA}{v:AV}(h:Ct Pz 103 args H v H):GOk Pz (zSd args H v) :=
 zB (zB3 (zE Tryz.func103 rfl (by decide)) h) (zB zNn zC)
theorem RF.ok_survive{r:RF}{B:Nat}(h:r.ok B)(n:Int):(r.survive n).ok B/\∀W∈(r.survive n).was,W∈r.was:=by
 have h0:=h.ne
 have hc:r.clamp n<r.was.length:=by unfold RF.clamp;omega
 have hm:r.was.getD (r.clamp n) []∈r.was:=by
   rw[q2Z,q3Z hc];exact r3Z _
 refine ⟨⟨by simp[RF.survive],by simp[RF.survive],fun W hW=>?_,h.lo,h.hi⟩,fun W hW=>?_⟩
 · simp only[RF.survive,r1Z]at hW
   subst hW;exact h.row _ hm
 · simp only[RF.survive,r1Z]at hW
   subst hW;exact hm
theorem zLj(r:RS){A B:Nat}(hok:r.ok A B)(hA:A<=900000)(hB:B<=1000000000000)(o:Bool)(nums:List Int)(hx:∀x∈nums,0<=x/\x<=65535)(n:Nat)(hn:n<=nums.length)(hn2:n<=9223372036854775807) :
   Ct Pz 58 [.ptr 0 0,.sl 1 0 n 1 false] [.obj true r.blks,.cells o (zp nums)] (.tuple []) [.obj true (r.restart (nums.take n)).blks,.cells o (zp nums)]:=by
 have hΓ:=zT8
 have hAr:∀rn:List Nat,AWs rn (zp nums) (zp nums):=fun rn=>AWs.refl _ _ (ZB _)
 have hxT:(∀x∈nums,0<=x/\x<=65535)=True:=by simpa using hx
 refine zG Tryz.func58 rfl ?_;simp only[Tryz.ntmps58,q7Z,q8Z,Nat.reduceAdd,Nat.reduceSub,qbZ,q9Z,qaZ]
 refine Sim.aft (Aft.open (b:=0) rfl (by simp) (Aft.done (by simp[zX]) ?_))
 obtain⟨ha,hr1⟩:=zNg r o (zp nums);have hse:=zFC r o (zp nums) hAr;obtain⟨H,hH⟩:∃H,zX [.obj true r.blks,.cells o (zp nums)] 0 r.blks=H:=⟨_,rfl⟩;rw[hH]at ha hr1 hse ⊢;clear hH;obtain⟨N,hN⟩:∃N,H.length=N:=⟨_,rfl⟩
 have l1:1<N:=by rw[<-hN];exact (q1Z.1 hr1).1
 have h0:=ha.c0;unfold RS.cell0 at h0;have h2:=ha.fold
 have hdo:r.dir.ok 1000000:=RF.ok_mono hok.dir (by omega)
 have hBX:=ZC H hN;have hXg:=hBX.get;have hXg0:=hBX.get0;have hXs:=hBX.set;have hXs0:=hBX.set0
 have l2:2<N:=by rw[<-hN];exact (q1Z.1 h2).1
 have k0:∀T:zA,(H++T)[0]? = H[0]?:=fun T=>q4Z (by omega)
 have k1:∀T:zA,(H++T)[1]? = H[1]?:=fun T=>q4Z (by omega)
 have k2:∀T:zA,(H++T)[2]? = H[2]?:=fun T=>q4Z (by omega)
 have k3:∀(T:zA) v,(H++T).set 2 v=H.set 2 v++T:=fun T v=>by rw[List.set_append_left _ _ (by omega)]
 rw[h0]at k0;rw[hr1]at k1;rw[h2]at k2
 have k0':∀(T:zA) h,(H++T)[0]'h=_:=fun T h=>(q1Z.1 (k0 T)).2
 have k1':∀(T:zA) h,(H++T)[1]'h=_:=fun T h=>(q1Z.1 (k1 T)).2
 have k2':∀(T:zA) h,(H++T)[2]'h=_:=fun T h=>(q1Z.1 (k2 T)).2
 obtain⟨K,hK⟩:∃K,nums.take n=K:=⟨_,rfl⟩
 have hKb:∀a:Nat,0<=(K[a]?).getD 0/\(K[a]?).getD 0<=65535:=fun a=>by
   cases hg:K[a]? with
   | none=>simp
   | some y =>
     have:=qcZ hg;rw[<-hK]at this;exact hx y (List.mem_of_mem_take this)
 obtain⟨a0,hA0⟩:∃x,(K[0]?).getD 0=x:=⟨_,rfl⟩;have ha0:=hKb 0;rw[hA0]at ha0
 have ha0b : -9223372036854775808<=a0/\a0<=9223372036854775807:=by omega
 have hne1:N≠1:=by omega
 have hN1:¬N=1:=hne1;rw[hK]
 refine Sim.step hmix hΓ (n:=0) (by simp[hN];exact⟨rfl,rfl⟩) (by omega) ?_
 refine Sim.seq (Sim.draw hmix (by simp[hN] <;> omega) ?_)
 refine SimR.hard hΓ 5 16 _ rfl (by simp[zI];rfl) (by omega) (by kernel_rfl) (by kernel_rfl) (by simp +decide [hN,k0'];exact⟨rfl,rfl,rfl⟩) (by kernel_rfl) (by simp +decide [zBL,List.range,List.range.loop];rfl) (by simp +decide [zJ3,zKU,zAz,hN,k1,hXs0,hn,hn2,hN1,hxT,hK,hA0];exact⟨rfl,rfl⟩) (by simp +decide [zFT,zLh,ZM,List.range,List.range.loop,k0']) ?_
 refine SimR.one hΓ _ rfl (by kernel_rfl) (by simp +decide [zJ3,zFh,k2,k3,hdo,ha0b.1,ha0b.2];exact⟨rfl,rfl⟩) ?_
 refine SimR.done rfl ?_;dsimp only;have ha1:=ha.dirset (r.dir.survive a0);obtain⟨ok1,ok2⟩:=RF.ok_survive hok.dir a0;have hlast:(r.dir.survive a0).last=r.dir.last:=rfl
 have hrs:r.restart K=⟨r.dir.survive a0,((r.dir.survive a0).names.foldl (zBW (r.dir.survive a0)) (K.tail,r.F)).2,r.room,r.steps,0,false⟩:=by
   unfold RS.restart
   rw[show K.headD 0=a0 by rw[<-hA0,List.headD_eq_head?_getD,List.head?_eq_getElem?]]
 rw[hrs];obtain⟨dr,hdr⟩:∃x,r.dir.survive a0=x:=⟨_,rfl⟩;rw[hdr]at ha1 ok1 ok2 hlast ⊢
 have hse1:=hse.set 2 (B:=.obj true dr.blks) fun _ _=>⟨rfl,rfl⟩
 have hr1':(H.set 2 (.obj true dr.blks))[1]? = some (.cells o (zp nums)):=by rw[qfZ (by decide)];exact hr1
 have hN1:(H.set 2 (.obj true dr.blks)).length=N:=by rw[r8Z,hN]
 obtain⟨H1,hH1⟩:∃X,H.set 2 (.obj true dr.blks)=X:=⟨_,rfl⟩;rw[hH1]at ha1 hse1 hr1' hN1 ⊢;clear hH1 hse hr1 h0 h2 hBX hXg hXg0 hXs hXs0 k0 k1 k2 k3 k0' k1' k2' ha hrs
 have hdo1:dr.ok 1000000:=RF.ok_mono ok1 (by omega)
 obtain⟨ks,hks⟩:∃ks,dr.names=ks:=⟨_,rfl⟩
 have hLn:ks.length<=1000000:=by
   rw[<-hks];unfold RF.names;rw[r7Z]
   exact Nat.le_trans (ok1.row _ (qcZ (RF.now_get ok1.ne))) (by omega)
 have hnget:∀k∈ks,∃z,NM.get dr.now k=some z:=fun k hk=>RF.names_get (by rw[hks];exact hk)
 obtain⟨L,hL⟩:∃L,ks.length=L:=⟨_,rfl⟩;rw[hL]at hLn;rw[hks];have g0:=ha1.c0;have g1:=ha1.fold;unfold RS.cell0 at g0;dsimp only at g0 g1;have lfo:2<N:=l2
 have kk0:∀T:zA,(H1++T)[0]? = H1[0]?:=fun T=>q4Z (by omega)
 have kk2:∀T:zA,(H1++T)[2]? = H1[2]?:=fun T=>q4Z (by omega)
 rw[g0]at kk0;rw[g1]at kk2
 have kk0':∀(T:zA) h,(H1++T)[0]'h=_:=fun T h=>(q1Z.1 (kk0 T)).2
 have kk2':∀(T:zA) h,(H1++T)[2]'h=_:=fun T h=>(q1Z.1 (kk2 T)).2
 refine Sim.step hmix hΓ (n:=0) (by simp[zJ3,zFR,kk0',kk2,hN1,hdo1,hks,hL];exact⟨rfl,rfl⟩) (by simp[hN1] <;> omega) ?_
 refine Sim.seq (Sim.step hmix hΓ (n:=0) (by simp;exact⟨rfl,rfl⟩) (by simp[hN1] <;> omega) ?_)
 have hfull:(zE0 dr K r.F ks L).2=(ks.foldl (zBW dr) (K.tail,r.F)).2:=by unfold zE0;rw[<-hL,List.take_length]
 have hgetN:∀i (h:i<ks.length),(∀h',(ks.map AV.str)[i]'h'=.str ks[i])/\(ks.map AV.str)[i]? = some (.str ks[i]):=fun i h=>⟨fun h'=>List.getElem_map _,by rw[qzZ,q3Z h];rfl⟩
 refine Sim.block (Sim.loopS (fun t:Nat×zA=>t.1<=L/\RAt t.2 ⟨dr,(zE0 dr K r.F ks t.1).2,r.room,r.steps,r.left,r.down⟩ (.sl 3 0 r.F.length 1 false) 0 2 3 (fun i=>i+4)/\t.2.length=N/\t.2[1]? = some (.cells o (zp nums))/\SelfW t.2/\(∀f∈(zE0 dr K r.F ks t.1).2,f.ok B)/\(zE0 dr K r.F ks t.1).2.length=r.F.length)
   (fun t=>[.ptr 0 0,.sl 1 0 n 1 false,.top,.top,.ptr N 0,.sl (N+1) 0 L 1 false,.int .i64 t.1,.top,.top]++qbZ 38 .top)
   (fun t=>t.2++[.cells true [.int .i64 ((1+2*t.1:Nat):Int)],.cells true (ks.map .str)]) (fun t=>L-t.1) (0,H1) (by simp[hN1] <;> omega)
   ⟨qqZ _,ha1,hN1,hr1',hse1,hok.fine,rfl⟩ ⟨by simp,rfl⟩ fun t ht=>?_)
 obtain⟨i,G⟩:=t;obtain⟨hi,hG,hGl,hG1,hGs,hGf,hGn⟩:=ht;dsimp only at hi hG hGl hG1 hGs hGf hGn ⊢;have hBX:=ZC G hGl;have hXg:=hBX.get;have hXg0:=hBX.get0;have hXs:=hBX.set;have hXs0:=hBX.set0
 have k1:∀T:zA,(G++T)[1]? = some (.cells o (zp nums)):=fun T=>by rw[q4Z (by omega)];exact hG1
 have k1':∀(T:zA) h,(G++T)[1]'h=_:=fun T h=>(q1Z.1 (k1 T)).2
 by_cases hlt:i<L
 · have hil:i<ks.length:=by omega
   have hiI:(i:Int)<L:=by omega
   obtain⟨f1,f2⟩:=hgetN i hil;obtain⟨z,hz⟩:=hnget _ (r3Z hil);have hsucc:=zJy dr K r.F ks i hil
   have hrow:=zMD dr K r.F ks i (by omega)
   obtain⟨k,hk⟩:∃k,ks[i]=k:=⟨_,rfl⟩;rw[hk]at f1 f2 hz hsucc;obtain⟨c,hc⟩:∃c,1+2*i=c:=⟨_,rfl⟩;rw[hc]at hrow ⊢
   have hc2:((1+2*(i+1):Nat):Int)=(c:Int)+1+1:=by omega
   have hc9:(c:Int)<=1000000000:=by omega
   have hc9':(c:Int)+1<=1000000000:=by omega
   have hc0:(0:Int)<=c+1:=by omega
   have hct:((c:Int)+1).toNat=c+1:=by omega
   have hmx:max ((c:Int)+1) 0=c+1:=by omega
   obtain⟨dn,hdn⟩:∃x,(K[c]?).getD 0=x:=⟨_,rfl⟩;obtain⟨pt,hpt⟩:∃x,(K[c+1]?).getD 0=x:=⟨_,rfl⟩
   have hoki:RS.ok ⟨dr,(zE0 dr K r.F ks i).2,r.room,r.steps,r.left,r.down⟩ A B:=⟨ok1,by dsimp only;rw[hGn,hlast];exact hok.flen,hGf,fun W hW k n hk=>by dsimp only;rw[hGn];exact hok.has W (ok2 W hW) k n hk,hok.q0,hok.q1,hok.s0,hok.s1,hok.a0,hok.a1⟩
   obtain⟨j,f,e1,e2,e3,e4,e5⟩:=zAN hoki hz (fun i=>i+4)
   dsimp only at e2 e3 e5;have e7:f.small:=PF.ok_mono e4 hB
   have hnew:(zE0 dr K r.F ks (i+1)).2=(zE0 dr K r.F ks i).2.set j ⟨f.stays dn pt,[]⟩:=by
     rw[hsucc];simp only[zBW,hz,e1,e3,rgZ,hrow,tail_drop,zPE,q2Z,hdn,hpt]
   have hGx:RAt G ⟨dr,(zE0 dr K r.F ks i).2,r.room,r.steps,r.left,r.down⟩ (.sl 3 0 (zE0 dr K r.F ks i).2.length 1 false) 0 2 3 (fun i=>i+4):=by rw[hGn];exact hG
   have ha2:=hGx.app [ABlk.cells true [.int .i64 ((c:Int)+1+1)],ABlk.cells true (ks.map .str)]
   have hΓ2:=zRY (zEG (r:=⟨dr,(zE0 dr K r.F ks i).2,r.room,r.steps,r.left,r.down⟩) ha2 hoki (by omega) k)
   dsimp only at hΓ2;rw[e5]at hΓ2;have e6:=hG.file j f e3
   have lj:j+4<N:=by rw[<-hGl];exact (q1Z.1 e6).1
   have k4:∀T:zA,(G++T)[j+4]? = some (.obj true f.rblks):=fun T=>by rw[q4Z (by omega)];exact e6
   have k5:∀(T:zA) v,(G++T).set (j+4) v=G.set (j+4) v++T:=fun T v=>by rw[List.set_append_left _ _ (by omega)]
   have y1:IntKind.i64.wrap ((i:Int)+1)=i+1:=zV (by omega) (by omega)
   have i1:i<(ks.map AV.str).length:=by simp;omega
   refine Sim.step hmix hΓ (n:=0) (by simp[hiI];exact⟨rfl,rfl⟩) (by simp[hGl] <;> omega) ?_
   refine Sim.seq (Sim.block ?_)
   refine Sim.step hmix hΓ (n:=0) (by simp[zJ3,zKU,zAz,k1',hXg0,hXs0,hn,hn2,hne1,hxT,hK,hc9,hdn];exact⟨rfl,rfl⟩) (by simp[hGl] <;> omega) ?_
   refine Sim.step hmix hΓ (n:=0) (by simp[zJ3,zKU,zAz,k1',hXg0,hXs0,hn,hn2,hne1,hxT,hK,hc9',hc0,hct,hmx,hpt];exact⟨rfl,rfl⟩) (by simp[hGl] <;> omega) ?_
   refine Sim.exec hmix hΓ2 (n:=0) (by simp[zSd,zON,hXg,hlt,hL,f1,k4,k5,e7];exact⟨rfl,rfl,rfl⟩) (by simp[hGl] <;> omega) ?_
   dsimp only
   refine Sim.exec hmix hΓ (n:=0) (by simp[y1];exact⟨rfl,rfl,rfl⟩) (by simp[hGl] <;> omega) ?_
   have hset:=hG.fileset e2 ⟨f.stays dn pt,[]⟩;dsimp only at hset;rw[<-hnew]at hset
   refine ⟨(i+1,G.set (j+4) (.obj true (⟨f.stays dn pt,[]⟩:PF).rblks)),⟨by dsimp only;omega,hset,by dsimp only;rw[r8Z,hGl],by dsimp only;rw[qfZ (by omega)];exact hG1,hGs.set _ fun _ _=>⟨rfl,rfl⟩,fun f' hf'=>?_,by dsimp only;rw[hnew,r8Z];exact hGn⟩,⟨by simp,by dsimp only;rw[hc2]⟩,by dsimp only;omega⟩
   dsimp only at hf';rw[hnew]at hf';rcases List.mem_or_eq_of_mem_set hf' with hf' | rfl
   · exact hGf f' hf'
   · exact PF.ok_new _ _ (PF.ok_stays e4 _ _)
 · have hie:i=L:=by omega
   subst hie;rw[<-hfull]
   refine Sim.exec hmix hΓ (n:=0) (by simp;exact⟨rfl,rfl,rfl⟩) (by simp[hGl] <;> omega) ?_
   dsimp only;rw[if_pos rfl];have m0:=hG.c0;unfold RS.cell0 at m0;dsimp only at m0
   have m1:∀T:zA,(G++T)[0]? = G[0]?:=fun T=>q4Z (by omega)
   rw[m0]at m1
   have m1':∀(T:zA) h,(G++T)[0]'h=_:=fun T h=>(q1Z.1 (m1 T)).2
   have m2:∀(T:zA) v,(G++T).set 0 v=G.set 0 v++T:=fun T v=>by rw[List.set_append_left _ _ (by omega)]
   refine Sim.step hmix hΓ (n:=0) (by simp[m1',m2];exact⟨rfl,rfl⟩) (by simp[hGl] <;> omega) ?_
   have m3:∀(v:ABlk) (T:zA),(G.set 0 v++T)[0]? = some v:=fun v T=>by
     rw[q4Z (by rw[r8Z];omega),qgZ (by omega)]
   have m3':∀(v:ABlk) (T:zA) h,(G.set 0 v++T)[0]'h=v:=fun v T h=>(q1Z.1 (m3 v T)).2
   have m4:∀(v w:ABlk) (T:zA),(G.set 0 v++T).set 0 w=G.set 0 w++T:=fun v w T=>by rw[List.set_append_left _ _ (by rw[r8Z];omega),List.set_set]
   refine Sim.after (Sim.exec hmix hΓ (n:=0) (by simp[m3',m4];exact⟨rfl,rfl,rfl⟩) (by simp[hGl] <;> omega) ?_)
   have hz1:=(hG.c0set r.steps 0 false).app [.cells true [.int .i64 (1+2*(i:Int))],.cells true (ks.map .str)];unfold RS.cell0 at hz1;dsimp only at hz1
   have hz2:(G.set 0 (.cells true [.ptr 2 0,.sl 3 0 r.F.length 1 false,.int .i64 r.room,.int .i64 r.steps,.int .i64 0,.bool false])++[ABlk.cells true [.int .i64 (1+2*(i:Int))],ABlk.cells true (ks.map .str)])[1]? = some (.cells o (zp nums)):=by
     rw[q4Z (by rw[r8Z];omega),qfZ (by decide)];exact hG1
   exact hz1.close2 hz2 hAr (by decide) (by decide) (fun i _=>by omega) (qbZ 47 .top) (by simp[AWs,AW]) ⟨.inl rfl,_,by simp[Tryz.f58] <;> rfl,Weak.mk' [0,1] (by decide) rfl (by simp) (by simp[AWb])⟩
end
end Go.Proofs.YtfhidaoiofeooaaGreat
