/- Parts of the proof of WalTells: lemmas, each with its own conditions. -/
import Derived.Test.YtfhidaoiofeooaaGreatDoorY34
set_option maxHeartbeats 64000000
open List renaming getElem?_eq_some_iff → q1Z, getD_eq_getElem?_getD → q2Z, getElem?_eq_getElem → q3Z, getElem?_append_left → q4Z, getElem?_append_right → q5Z, take_of_length_le → q6Z, length_cons → q7Z, length_nil → q8Z, cons_append → q9Z, nil_append → qaZ, replicate → qbZ, length_append → qdZ, mem_cons → qwZ, mem_append → qxZ, mem_singleton → r1Z, append_nil → r2Z, getElem_mem → r3Z, flatten_cons → rcZ, mem_map → reZ, replicate_succ → rvZ, drop_append → sdZ
open Nat renaming le_refl → qnZ, zero_le → qqZ, zero_add → s8Z
open Option renaming getD_some → rgZ
open Int renaming tmod_eq_emod_of_nonneg → rrZ
namespace Go.Proofs.YtfhidaoiofeooaaGreatDoor
open _root_.Go.Proofs.Tryz renaming prog → Pz
set_option maxRecDepth 100000
section
open Go
def zF6:List FuncId:=[95,23,89,21,46,48,40,16,83,248,164,219,131,97,190,94,134,88,195,98,135,180,77,249,194,175,186,90,76,75,202,74,117,185,103,26,111,112,107,108,109,12,104,268,200,69,68,84,105,70,113,114,349,266,318,368,367,7,32,169,73,197,91,174,116,184,198,265,127,203,206,264,317,10,18,102,267,199,315,263,316,284,261,254,173]
def zGK:zJ:=Zt fun | []=>some (.bool true) | _=>none
theorem zKC {f : FuncId} {fn : Func} (hf : Tryz.prog.funcs[f]? = some fn) (hb : fn.body.isSome = true) (hn : (fn.name == "runtime.NumGoroutine") = false) (h : Ct Pz f [] [] (.bool true) []) : Sound Pz f zGK := by
 refine zU (zD hf hb hn) fun args v hv=>?_;split at hv <;> cases hv
 exact⟨h,rfl,rfl⟩
def zFp:Gam:=zZ [(172,zLA),(171,zDL),(170,zF2),(96,zP6),(214,zNx)]
theorem zQV:GOk Pz zFp:=zB zJ1 (zB zFm (zB zFz (zB join_sound2 (zB zKJ zC))))
noncomputable abbrev zJj:Code:=zAU Tryz.f29
noncomputable abbrev zVp:List AV:=[]++qbZ (Tryz.f29.ntmps-0) zX
abbrev zUC:zA:=[]
noncomputable abbrev zOv:Code:=zAY 2 zJj
def zNT:List AV:=[.bool false,.ptr 3 0,.ptr 4 0]++qbZ 7 (.tuple [])++[.top,.top,.top,.top]++qbZ 55 (.tuple [])++[.top]++qbZ 46 (.tuple [])
def zO8:zA:=[.map [(.str [119,97,108,45,53],.int .i64 (1))],.cells true [.map 0,.map 6,.nils,.int .i64 (1)],.map [(.int .i64 (1),.ptr 5 0)],.cells true [.ptr 1 0,.map 2,.int .i64 (100),.int .i64 (4),.int .i64 (0),.bool false],.cells true [.ptr 3 0,.int .i64 (12),.int .i64 (5),.int .i64 (6),.int .i64 (2),.bool false],.cells true [.str [],.slice 9 0 2 1 false,.str [3,1,1,97,74,122,157,17,3,1,2,98,51,120,185,163]],.map [(.str [119,97,108,45,53],.int .i64 (1))],.cells true [.str [3,1,1,97,74,122,157,17]],.cells true [.str [3,1,2,98,51,120,185,163]],.cells true [.func 195 [] [.ptr 7 0],.func 195 [] [.ptr 8 0]]]
theorem zSl:zM7 0 (zDM Pz (zBf Pz zFp 400 zF6 30) 400 true 2 zJj zVp zUC) zNT zO8=true:=by kernel_rfl
noncomputable abbrev zOa:Code:=zAY 4 zOv
def zPC:List AV:=[.bool false,.ptr 3 0,.top,.top,.int .i64 (0)]++qbZ 5 (.tuple [])++qbZ 58 .top++[.tuple [],.top]++qbZ 46 (.tuple [])
def zNb:zA:=[.map [(.str [119,97,108,45,53],.int .i64 (1)),(.str [119,97,108,45,54],.int .i64 (2))],.cells true [.map 0,.map 6,.nils,.int .i64 (2)],.map [(.int .i64 (1),.ptr 4 0),(.int .i64 (2),.ptr 5 0)],.cells true [.ptr 1 0,.map 2,.int .i64 (100),.int .i64 (9),.int .i64 (0),.bool false],.cells true [.str [3,1,1,97,74,122,157,17,3,1,2,98,51,120,185,163],.nils,.str [3,1,1,97,74,122,157,17,3,1,2,98,51,120,185,163]],.cells true [.str [3,1,3,99,228,121,165,205],.nils,.str [3,1,3,99,228,121,165,205]],.map [(.str [119,97,108,45,53],.int .i64 (1)),(.str [119,97,108,45,54],.int .i64 (2))]]
theorem zTV:zM7 0 (zDM Pz (zBf Pz zFp 400 zF6 30) 400 true 4 zOv zNT zO8) zPC zNb=true:=by kernel_rfl
noncomputable abbrev zVc:Code:=zAY 6 zOa
def zOh:List AV:=[.bool true]++qbZ 115 .top
def zOD:zA:=[]
theorem zSp:zM7 0 (zDM Pz (zBf Pz zFp 400 zF6 30) 400 true 6 zOa zPC zNb) zOh zOD=true:=by kernel_rfl
theorem zP5:zUL Pz Tryz.f29.results.toList (zw Pz (zBf Pz zFp 400 zF6 30) 400 true zVc zOh zOD)=true:=by kernel_rfl
theorem zSN:Ct Pz 29 [] [] (.bool true) []:=by
 have hΓ:=zPG hmix zQV 400 zF6 30;refine zE (c:=zJj) Tryz.func29 (by kernel_rfl) ?_;refine Sim.kmanyM (n:=400) hmix hΓ 2 zSl (qqZ _) ?_;refine Sim.kmanyM (n:=400) hmix hΓ 4 zTV (qqZ _) ?_;refine Sim.kmanyM (n:=400) hmix hΓ 6 zSp (qqZ _) ?_;exact Sim.kret (n:=400) hmix hΓ zP5
theorem zMv:Sound Pz 29 zGK:=zKC Tryz.func29 rfl (by decide) zSN
end
section
open Go Go.Lib
attribute [-simp] zH zc zq zK zy
def zUx(a:Ac):Prop:=zaT a/\(∀z∈a.2.2.2,0<=z/\z<=65535)/\a.2.2.2.length<=9223372036854775807
theorem zLZ:∀(n k:Nat) (ys:List AV) (H:zA),AbsT (qbZ n zVg).flatten k ys H ->
   ∃cs:List Ac,cs.length=n/\(∀a∈cs,zUx a)/\∀rn:List Nat,(∀i,i<k+H.length->rn[i]? = some i)->AWs rn (ZP k cs) ys/\All2 (AWb rn) (ZZ k cs) H
 | 0,k,ys,H,h=>by
   obtain⟨rfl,rfl⟩:=zCq h;exact⟨[],rfl,by simp,fun _ _=>⟨by simp[ZP,AWs],trivial⟩⟩
 | n+1,k,ys,H,h=>by
   rw[rvZ,rcZ]at h;unfold zVg at h;obtain⟨x1,w1,rfl,⟨a,rfl,ha⟩,k1⟩:=zBa h;obtain⟨x2,w2,rfl,⟨b,rfl,hb⟩,k2⟩:=zBa k1;obtain⟨x3,w3,m3,y3,H3,H4,rfl,hx3,hm3,hd3,rfl,k3⟩:=zGE k2;obtain⟨x4,w4,m4,y4,H5,H6,rfl,hx4,hm4,hd4,rfl,k4⟩:=zGE k3;obtain⟨ds,d1,d2,d3,d4,d5⟩:=zOq hd3;obtain⟨zs,rfl,z2,z3,rfl⟩:=zTB hd4;subst d1;subst z2
   obtain⟨cs,a1,a2,a3⟩:=zLZ n _ w4 H6 k4;have ba:=bounds_u8 ha;have bb:=bounds_u8 hb;unfold maxLen at hm3 hm4;have hk:k+1+H3.length+1+([]:zA).length=k+ds.length+2:=by rw[d4];simp;omega
   rw[hk]at a3;refine ⟨(a,b,ds,zs)::cs,by simp[a1],fun c hc=>?_,fun rn hr=>?_⟩
   · rcases qwZ.1 hc with rfl | hc
     · exact⟨⟨by dsimp only;omega,by dsimp only;omega,d2,d3,by dsimp only;omega⟩,z3,by dsimp only;omega⟩
     · exact a2 c hc
   · simp only[q7Z,qdZ,q8Z,s8Z,d4]at hr
     obtain⟨g1,g2⟩:=a3 rn fun i hi=>hr i (by omega);have g3:=d5 rn fun i hi=>hr i (by omega);refine ⟨⟨⟨rfl,rfl⟩,⟨rfl,rfl⟩,zMG hx3 (hr k (by omega)),?_,g1⟩,?_⟩
     · have:=zMG hx4 (rn:=rn) (hr _ (by rw[d4];omega))
       rwa [show k+1+H3.length=k+ds.length+1 by omega]at this
     · unfold ZZ
       have:(.cells false y3::(H3++.cells false (ZE zs)::([]++H6)):zA)=(.cells false y3::H3)++(.cells false (ZE zs)::H6):=by simp
       rw[this];exact g3.app ⟨⟨id,AWs.refl _ _ (zCI _)⟩,g2⟩
theorem zVn:∀(cs:List Ac) (k:Nat) (pre R:zA) (i:Nat) (hi:i<cs.length),pre.length=k ->
   ∃(k1 k2:Nat),((ZP k cs).drop (i*4)).take 4=[.int .u8 cs[i].1,.int .u8 cs[i].2.1,.sl k1 0 cs[i].2.2.1.length 3 false,.sl k2 0 cs[i].2.2.2.length 1 false]/\(pre++ZZ k cs++R)[k2]? = some (.cells false (ZE cs[i].2.2.2))
 | a::cs,k,pre,R,0,_,hp=>⟨k,k+a.2.2.1.length+1,by simp[ZP],by
     have e:pre++ZZ k (a::cs)++R=(pre++drK k a.2.2.1)++(.cells false (ZE a.2.2.2)::(ZZ (k+a.2.2.1.length+2) cs++R)):=by simp[ZZ]
     rw[e,q5Z (by simp[ZQ];omega)];simp only[qdZ,ZQ];rw[show k+a.2.2.1.length+1-(pre.length+(a.2.2.1.length+1))=0 by omega];rfl⟩
 | a::cs,k,pre,R,i+1,hi,hp=>by
   obtain⟨k1,k2,h1,h2⟩:=zVn cs (k+a.2.2.1.length+2) (pre++(drK k a.2.2.1++[.cells false (ZE a.2.2.2)])) R i (by simpa using hi) (by simp[ZQ];omega);refine ⟨k1,k2,?_,?_⟩
   · rw[show (i+1)*4=i*4+4 by omega]
     simpa[ZP] using h1
   · have e:pre++ZZ k (a::cs)++R=pre++(drK k a.2.2.1++[.cells false (ZE a.2.2.2)])++ZZ (k+a.2.2.1.length+2) cs++R:=by simp[ZZ]
     rw[e];exact h2
theorem zVC{H:zA}{b:Nat}{f m:Int}{d:DS}(hb:H[b]? = some (.obj true d.blks))(hd:d.small)(hc:¬((1<=f/\f<=1000000000/\1<=m)/\(d.size (mk 3 f)).2=0)):zCu [.ptr b 0,.int .i64 f,.int .i64 m] H=some (.nilp,H,[]):=by
 unfold zCu;simp only[hb,zOK,if_pos hd];split
 · rename_i h1
   rw[if_neg fun h2=>hc ⟨h1,h2⟩]
 · rfl
theorem zWJ{H:zA}{b:Nat}{f m:Int}{d:RS}(hb:H[b]? = some (.obj true d.blks))(hd:d.small)(hc:¬((1<=f/\f<=1000000000/\1<=m)/\(d.size (mk 3 f)).2=0)):zC5 [.ptr b 0,.int .i64 f,.int .i64 m] H=some (.nilp,H,[]):=by
 unfold zC5;simp only[hb,zK2,if_pos hd];split
 · rename_i h1
   rw[if_neg fun h2=>hc ⟨h1,h2⟩]
 · rfl
def wtH(cs:List Ac):zA:=.cells false (ZP 1 cs)::ZZ 1 cs
theorem zWd{ds:List Dr}(h:∀d∈ds,0<=d.2.1/\d.2.1<4294967296)(m:Nat):∀e∈dEs (ds.take m),okE e:=fun e he=>by
 obtain⟨d,hd,rfl⟩:=reZ.1 he;have:=h d (List.mem_of_mem_take hd);exact zZr d.1 d.2.1 d.2.2 (by simp[okN];omega)
noncomputable def zBb:Gam:=zZ [(12,zIO),(13,zIF),(14,zU1),(15,zRD),(16,zMa),(17,zJk),(9,zG2),(18,zCu),(19,zC5),(10,zAI),(11,Zl),(20,zBY),(21,zPL),(22,zJt),(23,zJV),(24,zFQ),(26,zGl),(27,zG1),(28,zIP)]
theorem zUj:GOk Pz zBb:=zB zMw (zB zMt (zB zQr (zB zPF (zB zMC (zB zPM (zB zHS (zB zIx (zB zJb (zB zCS (zB zBq (zB zCZ (zB zI9 (zB zHI (zB zJf (zB zHp (zB zO9 (zB zOj (zB zMx zC))))))))))))))))))
def zQX:List FuncId:=[25]
noncomputable def zVH:Gam:=zZ [(101,drS zDl)]
theorem zTd:GOk Pz (zAV Pz zVH 0 zQX 2):=zp hmix (zB zJS zC) 0 zQX 2
def zZU:Code->Code
 | .seq x _=>x
 | c=>c
abbrev wtF(N n nxt:Nat)(mo:Int)(i:AV):List AV:=[.top,.top,.sl 0 0 n 4 false,.top,.top,.top,.top,.ptr N 0,.ptr (N+1) 0,.int .i64 nxt,.int .i64 mo,.ptr (N+2) 0,.ptr (N+3) 0,i]++qbZ 198 .top
abbrev wtT(N:Nat)(l:RL)(w:WL):zA:=[.obj true w.d.blks,.obj true l.d.blks,.cells true (wlC N w.most w.file w.next w.done w.bad),.cells true (rlC (N+1) l.most l.file l.next l.bad l.done)]
theorem zXb(X:zA)(N n:Nat)(hXl:X.length=N)(cs:List Ac)(hcs:∀c∈cs,zUx c)(hn:cs.length=n)(hcl:n<=9223372036854775807)(hA0:X[0]? = some (.cells false (ZP 1 cs)))
   (hact:∀(i:Nat) (hi:i<cs.length),∃k1 k2,((ZP 1 cs).drop (i*4)).take 4=[.int .u8 cs[i].1,.int .u8 cs[i].2.1,.sl k1 0 cs[i].2.2.1.length 3 false,.sl k2 0 cs[i].2.2.2.length 1 false]/\k1<N/\k2<N /\
     (∀T,drS zDl [.sl k1 0 cs[i].2.2.1.length 3 false,.int .i64 3] (X++T)=some (.sl (X++T).length 0 (zDl cs[i].2.2.1 3).length 3 false,X++T++[.cells true (zb (zDl cs[i].2.2.1 3))],[]))/\X[k2]? = some (.cells false (ZE cs[i].2.2.2)))
   (hXid:∀rn:List Nat,(∀i,i<N->rn[i]? = some i)->∀B∈X,AWb rn B B) (nxt:Nat) (hnx:1<=nxt/\nxt<=1000000000) (mo:Int) (hmo:1<=mo/\mo<=1000) (l0:RL) (w0:WL) (h0:WT mo l0 w0 0) :
   Sim Pz none N (zZU (zAY 7 (zAU Tryz.f3))) (wtF N n nxt mo .top) (X++wtT N l0 w0)
     fun e F' H'=>e=.normal/\Weak N F' H' (qbZ 212 .top) X:=by
 have hΓ:=zUj;have hΓ1:=zTd;simp only[zAU,Tryz.f3,rgZ,zAY,zZU,wtF,wtT,qbZ,q9Z,qaZ];have hXd:∀(T:zA) (k:Nat),(X++T).drop (N+k)=T.drop k:=fun T k=>by
   rw[sdZ,List.drop_of_length_le (by omega),qaZ];congr 1;omega
 have hBX:=ZC X hXl;have hXg:=hBX.get;have hXg0:=hBX.get0;have hXs:=hBX.set;have hXs0:=hBX.set0;have hN0:0<N:=by
   have:=(q1Z.1 hA0).1;omega
 have o0:∀ts:List Nat,(List.range N++ts)[0]? = some 0:=fun ts=>zCA _ _ (by omega);have o0g:∀(ts:List Nat) h,(List.range N++ts)[0]'h=0:=fun ts h=>by
   have:=o0 ts;rw[q3Z h]at this;exact Option.some.inj this
 have hX0:∀T:zA,(X++T)[0]? = some (.cells false (ZP 1 cs)):=fun T=>by rw[q4Z (by omega)];exact hA0
 have hX0g:∀(T:zA) h,(X++T)[0]'h=.cells false (ZP 1 cs):=fun T h=>(q1Z.1 (hX0 T)).2;have gl:(ZP 1 cs).length=n*4:=by rw[zE6,hn]
 have hm1:=hmo.1;refine wS hΓ (by simp;exact wR) ?_ (by simp[hXl]);refine Sim.block (Sim.loopW (fun s:Nat×RL×WL=>s.1<=n/\s.1<=30/\WT mo s.2.1 s.2.2 s.1) (fun s=>wtF N n nxt mo (.int .i64 s.1)) (fun s=>X++wtT N s.2.1 s.2.2)
   (fun s=>30-s.1) (0,l0,w0) (by simp[hXl]) ⟨qqZ _,qqZ _,h0⟩ (Weak.tailG hXl hXid [0,1,2,3] (by decide) (by simp[AWs,AW,o0g]) (by simp[AWg,AWb,AW,wlC,rlC,hXl])) fun s hs=>?_)
 obtain⟨i,⟨r,lm,lf,ln,ld,lb⟩,⟨d,wm,wf,wn',wd,wb⟩⟩:=s;obtain⟨hi1,hi2,hT⟩:=hs;dsimp only at hi1 hi2 hT;dsimp only[wtF,wtT,qbZ,q9Z,qaZ];by_cases hlt:i<n/\i<30;rotate_left
 · have hend:∀(T:zA) (F:List AV),F.length=212->Weak N F (X++T) (qbZ 212 .top) X:=fun T F hF=>by
     have:=Weak.tailG hXl hXid (T:=T) (Tn:=[]) (F:=F) (Fn:=qbZ 212 .top) [] (by decide) (zAX _ _ _ hF) (by simp[AWg])
     rwa [r2Z]at this
   by_cases h1:i<n
   · have hltI:(i:Int)<n:=by omega
     have h30:¬(i:Int)<30:=by omega
     refine wE hΓ (by simp +decide [hltI,h30];exact wT) ?_ (by simp[hXl]);dsimp only;rw[if_pos rfl];exact⟨rfl,hend _ _ rfl⟩
   · have hltI:¬(i:Int)<n:=by omega
     refine wE hΓ (by simp +decide [hltI];exact wT) ?_ (by simp[hXl]);dsimp only;rw[if_pos rfl];exact⟨rfl,hend _ _ rfl⟩
 obtain⟨hlt1,hlt2⟩:=hlt;have g1:(i:Int)<n:=by omega
 have g2:(i:Int)<30:=by omega
 have hil:i<cs.length:=by omega
 obtain⟨c1,c2,a1,a2,a3,a4,a5⟩:=hact i hil;have hok:=hcs _ (r3Z hil);obtain⟨⟨wh,nn,ds,nl⟩,hc⟩:∃c,cs[i]=c:=⟨_,rfl⟩
 rw[hc]at a1 a4 a5 hok;dsimp only at a1 a4 a5;obtain⟨⟨⟨ok1,ok2⟩,⟨ok3,ok4⟩,_,ok5,_⟩,ok6,ok7⟩:=hok;dsimp only at ok1 ok2 ok3 ok4 ok5 ok6 ok7;have k4:i*4+4<=n*4:=by omega
 have v6:IntKind.i64.wrap ((i:Int)+1)=(i:Int)+1:=zI (by omega) (by omega);obtain⟨W,rfl⟩:∃W:Nat,wh=W:=⟨wh.toNat,by omega⟩
 obtain⟨K,rfl⟩:∃K:Nat,nn=K:=⟨nn.toNat,by omega⟩
 obtain⟨q,hq⟩:∃q,W % 10=q:=⟨_,rfl⟩
 have t1:(W:Int).tmod 10=q:=by rw[rrZ (by omega)];omega
 have v1:IntKind.u8.wrap (q:Int)=q:=zCw (by omega) (by omega);have hsm:=hT.small hi2;dsimp only at hsm;obtain⟨hsd,hsr⟩:=hsm;refine wS hΓ (by simp +decide [g1,g2];exact wR) ?_ (by simp[hXl]);refine Sim.seq (Sim.block ?_);refine wS hΓ (by simp +decide [hXl,hX0g,hlt1,a1,gl,k4];exact wR) ?_ (by simp[hXl]);refine Sim.seq (Sim.mono (Q:=fun e' F' H'=>e'=.normal/\∃l' w',WT mo l' w' (i+1)/\Weak N F' H' (wtF N n nxt mo (.int .i64 i)) (X++wtT N l' w')) ?_ ?_);rotate_left
 · rintro e F6 H6 hl6 ⟨rfl,l',w',hT',hw6⟩
   dsimp only;refine Sim.weak hw6 hl6 ?_;clear hw6 hl6 F6 H6;have hrl:RLr l' w' 800000 1000000000000:=hT'.rl.mono (by omega) (by omega);obtain⟨r',lm',lf',ln',ld',lb'⟩:=l';obtain⟨d',wm',wf',wn1',wd',wb'⟩:=w';dsimp only[wtF,wtT,qbZ,q9Z,qaZ];refine wE hΓ (by simp +decide [zBb,zIP,hXl,hrl];exact wT) ?_ (by simp[hXl]);dsimp only;refine wE hΓ (by simp +decide [v6];exact wT) ?_ (by simp[hXl]);exact⟨(i+1,⟨r',lm',lf',ln',ld',lb'⟩,⟨d',wm',wf',wn1',wd',wb'⟩),⟨by dsimp only;omega,by dsimp only;omega,hT'⟩,Weak.tailG hXl hXid [0,1,2,3] (by decide) (by simp[AWs,AW,o0g]) (by simp[AWg,AWb,AW,wlC,rlC,hXl]),by dsimp only;omega⟩
 refine wS hΓ (by simp +decide [hXl,t1,v1];exact wR) ?_ (by simp[hXl]);refine Sim.block ?_;have out:∀(T:zA) (F:List AV) (l':RL) (w':WL) (a b c e:Nat),WT mo l' w' (i+1)->[a,b,c,e].Nodup->AWs (List.range N++[a,b,c,e].map (N+·)) (wtF N n nxt mo (.int .i64 i)) F->AWg (List.range N++[a,b,c,e].map (N+·)) (X++T) (wtT N l' w') ([a,b,c,e].map (N+·)) ->
     ∃l' w',WT mo l' w' (i+1)/\Weak N F (X++T) (wtF N n nxt mo (.int .i64 i)) (X++wtT N l' w'):=fun T F l' w' a b c e h1 h2 h3 h4=>⟨l',w',h1,Weak.tailG hXl hXid [a,b,c,e] h2 h3 h4⟩
 have q10:q<10:=by omega
 by_cases q56:q=5\/q=6
 · -- it is synced
   have hsy:=hT.sync;obtain⟨⟨d2,m2,f2,n2,dn2,b2⟩,e2,hx2⟩:∃w e,(⟨d,wm,wf,wn',wd,wb⟩:WL).syncs=(w,e):=⟨_,_,rfl⟩
   obtain⟨⟨r3,m3,f3,n3,dn3,b3⟩,e3,hx3⟩:∃w e,(⟨r,lm,lf,ln,ld,lb⟩:RL).sync=(w,e):=⟨_,_,rfl⟩
   rw[hx2,hx3]at hsy;dsimp only at hsy;obtain⟨hT2,he⟩:=hsy;subst he;rcases q56 with rfl | rfl
   · refine wS hΓ (by simp +decide;exact wR) ?_ (by simp[hXl])
     refine wE hΓ (by simp +decide [zBb,zIO,wlS,zIF,rlS,hXl,hXs,hXs0,hsd,hsr,hx2,hx3];exact wT) ?_ (by simp[hXl]);exact⟨rfl,out _ _ _ _ 0 1 2 3 hT2 (by decide) (by simp[AWs,AW,o0g]) (by simp[AWg,AWb,AW,wlC,rlC,hXl])⟩
   · refine wS hΓ (by simp +decide;exact wR) ?_ (by simp[hXl])
     refine wE hΓ (by simp +decide [zBb,zIO,wlS,zIF,rlS,hXl,hXs,hXs0,hsd,hsr,hx2,hx3];exact wT) ?_ (by simp[hXl]);exact⟨rfl,out _ _ _ _ 0 1 2 3 hT2 (by decide) (by simp[AWs,AW,o0g]) (by simp[AWg,AWb,AW,wlC,rlC,hXl])⟩
 have q5:((q:Int)==5)=false:=by simp;omega
 have q6:((q:Int)==6)=false:=by simp;omega
 refine wS hΓ (by simp +decide [q5,q6];exact wR) ?_ (by simp[hXl]);refine Sim.cond (t:=false) (by simp) ?_;rw[if_neg (by decide)];by_cases q7:q=7
 · -- it is armed
   subst q7;obtain⟨z,hz⟩:∃z,K % 9=z:=⟨_,rfl⟩
   have t2:(K:Int).tmod 9=z:=by rw[rrZ (by omega)];omega
   have v2:IntKind.u8.wrap (z:Int)=z:=zCw (by omega) (by omega);have v3:IntKind.i64.wrap (z:Int)=z:=zI (by omega) (by omega);have hT2:=hT.disk ((hT.rl.rd.arm (z:Int) (by omega)).mono (by omega) (by omega)) hT.quota;dsimp only at hT2;refine wS hΓ (by simp +decide;exact wR) ?_ (by simp[hXl]);refine Sim.cond (t:=true) (by simp) ?_;rw[if_pos rfl];refine wE hΓ (by simp +decide [zBb,zU1,zRD,hXl,hXs,hXs0,hsr,t2,v2,v3];exact wT) ?_ (by simp[hXl]);exact⟨rfl,out _ _ _ _ 0 1 2 3 hT2 (by decide) (by simp[AWs,AW,o0g]) (by simp[AWg,AWb,AW,wlC,rlC,hXl])⟩
 have q7b:((q:Int)==7)=false:=by simp;omega
 refine wS hΓ (by simp +decide [q7b];exact wR) ?_ (by simp[hXl]);refine Sim.cond (t:=false) (by simp) ?_;rw[if_neg (by decide)];by_cases q8:q=8
 · -- all stops,and the last log goes on
   subst q8;obtain⟨m,hm⟩:∃m,nl.length=m:=⟨_,rfl⟩
   rw[hm]at a1 ok7;obtain⟨J,hJ⟩:∃J:Nat,min (m:Int) 20=J:=⟨min m 20,by omega⟩
   have hJm:J<=m:=by omega
   have hJI:(J:Int)<=m:=by omega
   have hJ0:(0:Int)<=J:=by omega
   have hst':(∀x∈nl,0<=x/\x<=65535)=True:=by simpa using ok6
   have hXn:∀T:zA,(X++T)[c2]? = some (.cells false (ZE nl)):=fun T=>by rw[q4Z (by omega)];exact a5
   have hre:=(hT.rl.rd.restart (nl.take J)).mono (show 40*i<=40*i+40 by omega) (show 8000000*i<=8000000*i+8000000 by omega);have hDq:(d.restart (nl.take J)).quota<=1048576:=by
     obtain⟨_,_,_,_,e4,_⟩:=zMP hT.rl.rd.ok (nl.take J);dsimp only at e4;rw[e4];exact hT.quota
   dsimp only at hre;obtain⟨D,hD⟩:∃D,d.restart (nl.take J)=D:=⟨_,rfl⟩
   obtain⟨R,hR⟩:∃R,r.restart (nl.take J)=R:=⟨_,rfl⟩
   rw[hD,hR]at hre;rw[hD]at hDq;have hra:RD R D 800000 1000000000000:=hre.mono (by omega) (by omega);have hsD:D.small:=DS.ok_mono hra.ok (by decide) (qnZ _);have hsR:R.small:=(hra.mono (by decide) (qnZ _)).rok;have hfl:=hT.rl.file;dsimp only at hfl;subst hfl;have hsz:=hra.size (mk 3 (lf:Int));refine wS hΓ (by simp +decide;exact wR) ?_ (by simp[hXl]);refine Sim.cond (t:=true) (by simp) ?_;rw[if_pos rfl];refine wS hΓ (by simp +decide [-zAx,Zv,zBb,zMa,zMF,zGm,zCW,zAS,hXl,hXs,hXs0,hXn,a3,hm,hJ,hJm,hJI,hJ0,ok7,hst',hsd,hD];exact wR) ?_ (by simp[hXl]);refine wS hΓ (by simp +decide [-zAx,Zv,zBb,zJk,zCW,zAS,hXl,hXs,hXs0,hXn,a3,hm,hJ,hJm,hJI,hJ0,ok7,hst',hsr,hR];exact wR) ?_ (by simp[hXl]);refine wS hΓ (by simp +decide [hXl,rlC];exact wR) ?_ (by simp[hXl]);refine wS hΓ (by simp +decide [zBb,zG2,hXl,hra];exact wR) ?_ (by simp[hXl]);by_cases hc:(1<=(lf:Int)/\(lf:Int)<=1000000000/\1<=mo)/\(D.size (mk 3 (lf:Int))).2=0
   · obtain⟨⟨f1,f2,_⟩,f3⟩:=hc
     have f4:(R.size (mk 3 (lf:Int))).2=0:=by rw[hsz];exact f3
     have hT2:=hT.new hre hDq lf (lf+1) (by omega);refine wS hΓ (by simp +decide [zBb,zCu,hXl,hXs,hXs0,hsD,f1,f2,f3,hm1];exact wR) ?_ (by simp[hXl]);refine wS hΓ (by simp +decide [zBb,zC5,hXl,hXs,hXs0,hsR,f1,f2,f4,hm1];exact wR) ?_ (by simp[hXl]);refine wS hΓ (by simp +decide;exact wR) ?_ (by simp[hXl]);refine wE hΓ (by simp +decide;exact wT) ?_ (by simp[hXl]);exact⟨rfl,out _ _ _ _ 0 1 5 6 hT2 (by decide) (by simp[AWs,AW,o0g]) (by simp[AWg,AWb,AW,wlC,rlC,hXl])⟩
   · have f1:∀T:zA,(X++T)[N]? = some (.obj true D.blks)->zCu [.ptr N 0,.int .i64 (lf:Int),.int .i64 mo] (X++T)=some (.nilp,X++T,[]):=fun T h=>zVC h hsD hc
     have f2:∀T:zA,(X++T)[N+1]? = some (.obj true R.blks)->zC5 [.ptr (N+1) 0,.int .i64 (lf:Int),.int .i64 mo] (X++T)=some (.nilp,X++T,[]):=fun T h=>zWJ h hsR (by rw[hsz];exact hc);have n1:(1:Int)<=nxt:=by omega
     have n2:(nxt:Int)<=1000000000:=by omega
     have hT2:=hT.new hre hDq 0 nxt (by omega);refine wS hΓ (by simp +decide [zBb,f1,hXg0];exact wR) ?_ (by simp[hXl]);refine wS hΓ (by simp +decide [zBb,f2,hXg];exact wR) ?_ (by simp[hXl]);refine wS hΓ (by simp +decide [zBb,zAI,Zl,hXl,n1,n2,hm1];exact wR) ?_ (by simp[hXl]);refine wE hΓ (by simp +decide;exact wT) ?_ (by simp[hXl]);exact⟨rfl,out _ _ _ _ 0 1 5 6 hT2 (by decide) (by simp[AWs,AW,o0g]) (by simp[AWg,AWb,AW,wlC,rlC,hXl])⟩
 have q8b:((q:Int)==8)=false:=by simp;omega
 refine wS hΓ (by simp +decide [q8b];exact wR) ?_ (by simp[hXl]);refine Sim.cond (t:=false) (by simp) ?_;rw[if_neg (by decide)];by_cases q9:q=9
 · -- a file stands in the way
   subst q9;have hfa:okE ([97],0,false):=by refine ⟨by decide,by decide,by decide⟩
   obtain⟨s,hs⟩:∃s,frE ([97],0,false)=s:=⟨_,rfl⟩
   have hsl:s.length<=1000000:=by rw[<-hs];have:=zQK ([97],0,false);omega
   obtain⟨z,hz⟩:∃z,K % 4=z:=⟨_,rfl⟩
   have t2:(K:Int).tmod 4=z:=by rw[rrZ (by omega)];omega
   have v2:IntKind.u8.wrap (z:Int)=z:=zCw (by omega) (by omega);refine wS hΓ (by simp +decide;exact wR) ?_ (by simp[hXl]);refine Sim.cond (t:=true) (by simp) ?_;rw[if_pos rfl];refine wS hΓ (by simp +decide [zBb,zBY,hfa,hs];exact wR) ?_ (by simp[hXl]);by_cases z0:z=0
   · subst z0
     obtain⟨k,hk⟩:∃k:List UInt8,[119,97,108,45,57]=k:=⟨_,rfl⟩
     have hkl:k.length<=9223372036854775807:=by rw[<-hk];decide
     have hkl2:k.length<=1000000000000:=by rw[<-hk];decide
     obtain⟨h1,h2⟩:=hT.rl.rd.create k;dsimp only at h1 h2;have h3:(d.create k).1.quota<=1048576:=by rw[zGg];exact hT.quota
     obtain⟨⟨d1,e1⟩,hd1⟩:∃z,d.create k=z:=⟨_,rfl⟩
     obtain⟨⟨r1,e1'⟩,hr1⟩:∃z,r.create k=z:=⟨_,rfl⟩
     rw[hd1,hr1]at h1 h2;rw[hd1]at h3;dsimp only at h1 h2 h3;subst h2;obtain⟨h4,h5⟩:=h1.append k s 1048576 (by decide) h3;have h6:(d1.append k s).1.quota<=1048576:=by unfold DS.append;rw[zJh];exact h3
     have s1:d1.small:=DS.ok_mono h1.ok (by omega) (by omega);have s2:r1.small:=(h1.mono (by omega) (by omega)).rok;obtain⟨⟨d2,e2⟩,hd2⟩:∃z,d1.append k s=z:=⟨_,rfl⟩
     obtain⟨⟨r2,e2'⟩,hr2⟩:∃z,r1.append k s=z:=⟨_,rfl⟩
     rw[hd2,hr2]at h4 h5;rw[hd2]at h6;dsimp only at h4 h5 h6;subst h5;have hT2:=hT.disk (h4.mono (by omega) (by omega)) h6;dsimp only at hT2;have hdq:d1.quota<=1000000000000:=by omega
     have hs3:s.length<=140737488355328:=by omega
     have hs4:s.length<=1000000000000:=by omega
     refine wE hΓ (by simp +decide [zBb,zPL,zJt,zJV,zFQ,zCW,ZY,zt,zAT,hXl,hXs,hXs0,hk,hkl,hkl2,hsd,hsr,hd1,hr1,s1,s2,hd2,hr2,hdq,hs3,hs4,t2,v2];exact wT) ?_ (by simp[hXl]);exact⟨rfl,out _ _ _ _ 0 1 2 3 hT2 (by decide) (by simp[AWs,AW,o0g]) (by simp[AWg,AWb,AW,wlC,rlC,hXl])⟩
   · have z1:((z:Int)==0)=false:=by simp;omega
     have hT2:=hT.disk (hT.rl.rd.mono (by omega) (by omega)) hT.quota;dsimp only at hT2;refine wE hΓ (by simp +decide [hXl,z0,z1,t2,v2];exact wT) ?_ (by simp[hXl]);exact⟨rfl,out _ _ _ _ 0 1 2 3 hT2 (by decide) (by simp[AWs,AW,o0g]) (by simp[AWg,AWb,AW,wlC,rlC,hXl])⟩
 have q9b:((q:Int)==9)=false:=by simp;omega
 refine wS hΓ (by simp +decide [q9b];exact wR) ?_ (by simp[hXl]);refine Sim.cond (t:=false) (by simp) ?_;rw[if_neg (by decide)];obtain⟨own,hown⟩:∃own,zDl ds 3=own:=⟨_,rfl⟩
 rw[hown]at a4;have hokO:zZN own:=by rw[<-hown];exact zWd ok5 3
 have hany:zGX own:=fun e he=>(hokO e he).2;have hO3:own.length<=3:=by rw[<-hown];exact zQY ds 3
 obtain⟨M,hM⟩:∃M,own.length=M:=⟨_,rfl⟩
 rw[hM]at a4 hO3;have z5:M<=1000:=by omega
 have z6:M+1<=1000:=by omega
 have hwk:=hT.wok hi2;have hrk:=hT.rlok hi2;have hln:=hT.rl.next;have hld:=hT.rl.done;have hTn:=hT.next;have hTd0:=hT.done0;have hTd1:=hT.done1;dsimp only at hln hld hTn hTd0 hTd1;subst hln;subst hld
 have hld1:ld<=1000000000:=by omega
 refine wS hΓ1 (by simp +decide [zQX,zVH,Tryz.f25,a4,hXl];exact wR) ?_ (by simp[hXl]);obtain⟨z,hz⟩:∃z,K % 16=z:=⟨_,rfl⟩
 have t2:(K:Int).tmod 16=z:=by rw[rrZ (by omega)];omega
 have v2:IntKind.u8.wrap (z:Int)=z:=zCw (by omega) (by omega);have hfo:zV (zb own)=true:=ZD own;have elo:(zb own).length=M*3:=by rw[Z4,hM]
 by_cases z1:z=1
 · subst z1
   obtain⟨Z,hZ⟩:∃Z:List UInt8,qbZ 256 0=Z:=⟨_,rfl⟩
   have hZl:Z.length=256:=by rw[<-hZ];simp
   have hZw:okW Z=false:=by unfold okW;rw[hZl];rfl
   have hzr:(Zb [AV.int .u8 0] 256).length=256:=by rw[zAA];rfl
   have zA1:∀z:List AV,Zb z 1=z:=fun z=>by simp[Zb]
   have hzb:Zi (Zb [AV.int .u8 0] 256)=some Z:=by rw[<-hZ];kernel_rfl
   obtain⟨zr,hzz⟩:∃zr,Zb [AV.int .u8 0] 256=zr:=⟨_,rfl⟩
   rw[hzz]at hzr hzb;have hzt:zr.take 256=zr:=q6Z (by omega);have e3:zb own++[AV.str Z,.int .u32 0,.bool false]=zb (own++[(Z,0,false)]):=by
     rw[show zb (own++[(Z,0,false)])=zb own++zb [(Z,0,false)] by simp];rfl
   have hany2:zGX (own++[(Z,0,false)]):=fun e he=>by
     rcases qxZ.1 he with he | he
     · exact hany e he
     · rw[r1Z.1 he];exact⟨rfl,by simp⟩
   have tk2:(zb own).take (M*3)=zb own:=q6Z (by omega);have p1:(M+1)*24<=140737488355328:=by omega
   have p2:M+1<=9223372036854775807:=by omega
   have hM2:(own++[(Z,0,false)]).length=M+1:=by simp[hM]
   obtain⟨own2,ho2⟩:∃o2,own++[(Z,0,false)]=o2:=⟨_,rfl⟩
   rw[ho2]at e3 hany2 hM2;obtain⟨hT2,he⟩:=hT.append own2 (by omega);obtain⟨⟨d2,m2,f2,n2,dn2,b2⟩,e2,hx2⟩:∃w e,(⟨d,wm,wf,ln,ld,wb⟩:WL).appends2 own2=(w,e):=⟨_,_,rfl⟩
   obtain⟨⟨r3,m3,f3,n3,dn3,b3⟩,e3',hx3⟩:∃w e,(⟨r,lm,lf,ln,ld,lb⟩:RL).appends own2=(w,e):=⟨_,_,rfl⟩
   rw[hx2,hx3]at hT2 he;dsimp only at hT2 he;subst he;refine wS hΓ (by simp +decide [-Zb,-Zi,zA1,hXl,hXs,hXs0,t2,v2,hzz,hzr,hzb,hzt,elo,tk2,p1,p2,e3];exact wR) ?_ (by simp[hXl]);refine wE hΓ (by simp +decide [zBb,zGl,zG1,hXl,hXs,hXs0,hM2,hany2,z6,hwk,hrk,hTn,hTd0,hld1,hx2,hx3];exact wT) ?_ (by simp[hXl]);exact⟨rfl,out _ _ _ _ 0 1 2 3 hT2 (by decide) (by simp[AWs,AW,o0g]) (by simp[AWg,AWb,AW,wlC,rlC,hXl])⟩
 · have z2:((z:Int)==1)=false:=by simp;omega
   obtain⟨hT2,he⟩:=hT.append own (by omega);obtain⟨⟨d2,m2,f2,n2,dn2,b2⟩,e2,hx2⟩:∃w e,(⟨d,wm,wf,ln,ld,wb⟩:WL).appends2 own=(w,e):=⟨_,_,rfl⟩
   obtain⟨⟨r3,m3,f3,n3,dn3,b3⟩,e3,hx3⟩:∃w e,(⟨r,lm,lf,ln,ld,lb⟩:RL).appends own=(w,e):=⟨_,_,rfl⟩
   rw[hx2,hx3]at hT2 he;dsimp only at hT2 he;subst he;refine wS hΓ (by simp +decide [hXl,z1,z2,t2,v2];exact wR) ?_ (by simp[hXl]);refine wE hΓ (by simp +decide [zBb,zGl,zG1,hXl,hXs,hXs0,hM,hany,z5,hwk,hrk,hTn,hTd0,hld1,hx2,hx3];exact wT) ?_ (by simp[hXl]);exact⟨rfl,out _ _ _ _ 0 1 2 3 hT2 (by decide) (by simp[AWs,AW,o0g]) (by simp[AWg,AWb,AW,wlC,rlC,hXl])⟩
noncomputable def zOo:Gam:=zZ [(29,zGK),(7,zWB),(8,zQ6),(9,zG2),(10,zAI),(11,Zl)]
theorem zUS:GOk Pz zOo:=zB zMv (zB zPU (zB zNj (zB zHS (zB zCS (zB zBq zC)))))
theorem zXs{n:Int}(h0:0<=n)(h:n<=65535):IntKind.u16.wrap n=n:=by simp[IntKind.wrap,IntKind.bits,IntKind.signed];omega
theorem zWR{n:Int}(h0 : -32768<=n)(h:n<=32767):IntKind.i16.wrap n=n:=by simp[IntKind.wrap,IntKind.bits,IntKind.signed];omega
theorem zV9(cs:List Ac):∀B∈wtH cs,∃o l,B=ABlk.cells o l/\zi (wtH cs).length l=true:=by
 intro B hB;unfold wtH at hB ⊢;simp only[q7Z];rcases qwZ.1 hB with rfl | hB
 · exact⟨_,_,rfl,zCN 1 _ cs (by omega)⟩
 · exact zIk 1 _ cs (by omega) B hB
theorem zSr(q:Int)(hq:0<=q/\q<=65535)(x0 x1 x2:Int)(h0 : -32768<=x0/\x0<=32767)(h1 : -32768<=x1/\x1<=32767)(h2 : -32768<=x2/\x2<=32767)(cs:List Ac)(hcs:∀c∈cs,zUx c)(hcl:cs.length<=9223372036854775807) :
   ∃H',Ct Pz 3 [.int .u16 q,.agg [.int .i16 x0,.int .i16 x1,.int .i16 x2],.sl 0 0 cs.length 4 false] (wtH cs) (.bool true) H':=by
 have hΓ:=zUS;refine ⟨wtH cs,zE Tryz.func3 rfl ?_⟩;obtain⟨N,hXl⟩:∃N,(wtH cs).length=N:=⟨_,rfl⟩
 have hXf:=zV9 cs;rw[hXl]at hXf;have hXid:∀rn:List Nat,(∀i,i<N->rn[i]? = some i)->∀B∈wtH cs,AWb rn B B:=fun rn hr B hB=>by
   obtain⟨o,l,rfl,hl⟩:=hXf B hB;exact⟨id,AWs.pre hr _ hl⟩
 have hA0:(wtH cs)[0]? = some (.cells false (ZP 1 cs)):=rfl;have hact:∀(i:Nat) (hi:i<cs.length),∃k1 k2,((ZP 1 cs).drop (i*4)).take 4=[.int .u8 cs[i].1,.int .u8 cs[i].2.1,.sl k1 0 cs[i].2.2.1.length 3 false,.sl k2 0 cs[i].2.2.2.length 1 false]/\k1<N/\k2<N /\
     (∀T,drS zDl [.sl k1 0 cs[i].2.2.1.length 3 false,.int .i64 3] (wtH cs++T)=some (.sl (wtH cs++T).length 0 (zDl cs[i].2.2.1 3).length 3 false,wtH cs++T++[.cells true (zb (zDl cs[i].2.2.1 3))],[]))/\(wtH cs)[k2]? = some (.cells false (ZE cs[i].2.2.2)):=fun i hi=>by
   obtain⟨k1,k2,T0,T,g1,g2,g3,g4,g5⟩:=zYX cs 1 [.cells false (ZP 1 cs)] [] i hi rfl;obtain⟨j1,j2,g6,g7⟩:=zVn cs 1 [.cells false (ZP 1 cs)] [] i hi rfl;have hok:=(hcs _ (r3Z hi)).1;have e:j2=k2:=by
     rw[g1]at g6;simp only[List.cons.injEq,AV.sl.injEq]at g6;exact g6.2.2.2.1.1.symm
   subst e;have hl:([ABlk.cells false (ZP 1 cs)]++ZZ 1 cs).length=N:=hXl;rw[hl]at g4 g5;refine ⟨k1,j2,g1,g4,g5,fun T'=>?_,by simpa[wtH] using g7⟩;have e:wtH cs++T'=T0++(drK k1 cs[i].2.2.1++(T++T')):=by
     have:wtH cs=[.cells false (ZP 1 cs)]++ZZ 1 cs++[]:=by simp[wtH]
     rw[this,g2];simp
   exact zYe (m:=3) ⟨rfl,⟨T0,T++T',g3,e⟩,by decide,hok.2.2.1,hok.2.2.2.2⟩
 obtain⟨X,hX⟩:∃X,wtH cs=X:=⟨_,rfl⟩
 rw[hX]at hXl hXid hA0 hact ⊢;clear hX hXf;have hBX:=ZC X hXl;have hXg:=hBX.get;have hXg0:=hBX.get0;have hXs:=hBX.set;have hXs0:=hBX.set0;have hN0:0<N:=by
   have:=(q1Z.1 hA0).1;omega
 have o0:∀ts:List Nat,(List.range N++ts)[0]? = some 0:=fun ts=>zCA _ _ (by omega);have o0g:∀(ts:List Nat) h,(List.range N++ts)[0]'h=0:=fun ts h=>by
   have:=o0 ts;rw[q3Z h]at this;exact Option.some.inj this
 obtain⟨n,hn⟩:∃n,cs.length=n:=⟨_,rfl⟩
 rw[hn]at hcl;rw[hXl,hn];simp only[Tryz.ntmps3,q7Z,q8Z,Nat.reduceAdd,Nat.reduceSub,qbZ,q9Z,qaZ];obtain⟨Q,hQ⟩:∃Q,q.tmod 2000=Q:=⟨_,rfl⟩
 have hQ1:0<=Q/\Q<=1999:=by rw[<-hQ,rrZ hq.1];omega
 have v1:IntKind.u16.wrap Q=Q:=zXs (by omega) (by omega);have v2:IntKind.i64.wrap Q=Q:=zI (by omega) (by omega);have v3:IntKind.i64.wrap x0=x0:=zI (by omega) (by omega);have v4:IntKind.i64.wrap x1=x1:=zI (by omega) (by omega);obtain⟨y0,hy0⟩:∃y,x0.tmod 40=y:=⟨_,rfl⟩
 have hy0b : -40<y0/\y0<40:=by rw[<-hy0];exact⟨Int.lt_tmod_of_pos _ (by decide),Int.tmod_lt_of_pos _ (by decide)⟩
 obtain⟨z0,hz0⟩:∃z,(y0+40).tmod 40=z:=⟨_,rfl⟩
 have hz0b:0<=z0/\z0<40:=by rw[<-hz0,rrZ (by omega)];omega
 obtain⟨y1,hy1⟩:∃y,x1.tmod 90=y:=⟨_,rfl⟩
 have hy1b : -90<y1/\y1<90:=by rw[<-hy1];exact⟨Int.lt_tmod_of_pos _ (by decide),Int.tmod_lt_of_pos _ (by decide)⟩
 obtain⟨z1,hz1⟩:∃z,(y1+90).tmod 90=z:=⟨_,rfl⟩
 have hz1b:0<=z1/\z1<90:=by rw[<-hz1,rrZ (by omega)];omega
 have a1:IntKind.i64.wrap y0=y0:=zI (by omega) (by omega);have a2:IntKind.i64.wrap (y0+40)=y0+40:=zI (by omega) (by omega);have a3:IntKind.i64.wrap z0=z0:=zI (by omega) (by omega);have a4:IntKind.i64.wrap (1+z0)=1+z0:=zI (by omega) (by omega);have b1:IntKind.i64.wrap y1=y1:=zI (by omega) (by omega);have b2:IntKind.i64.wrap (y1+90)=y1+90:=zI (by omega) (by omega);have b3:IntKind.i64.wrap z1=z1:=zI (by omega) (by omega);have b4:IntKind.i64.wrap (1+z1)=1+z1:=zI (by omega) (by omega);obtain⟨y2,hy2⟩:∃y,x2.tmod 16=y:=⟨_,rfl⟩
 have hy2b : -16<y2/\y2<16:=by rw[<-hy2];exact⟨Int.lt_tmod_of_pos _ (by decide),Int.tmod_lt_of_pos _ (by decide)⟩
 have c1:IntKind.i16.wrap y2=y2:=zWR (by omega) (by omega);obtain⟨mo,hmo⟩:∃mo,1+z1=mo:=⟨_,rfl⟩
 have hmo1:1<=mo/\mo<=1000:=by omega
 have b5:IntKind.i64.wrap mo=mo:=zI (by omega) (by omega);have hm1:=hmo1.1;have hQI:=hQ1.1;have hrd:=RD.new Q (by omega) (by omega);have hdq:(DS.new Q).quota<=1048576:=by show Q<=_;omega
 obtain⟨d,hd⟩:∃d,DS.new Q=d:=⟨_,rfl⟩
 obtain⟨r,hr⟩:∃r,RS.new Q=r:=⟨_,rfl⟩
 rw[hd,hr]at hrd;rw[hd]at hdq;have hra:RD r d 800000 1000000000000:=hrd.mono (by omega) (by omega);have fin:∀nxt:Nat,1<=nxt/\nxt<=1000000000->Sim Pz none N (zAY 5 (zAU Tryz.f3)) ([.top,.top,.sl 0 0 n 4 false,.top,.top,.top,.top,.ptr N 0,.ptr (N+1) 0,.int .i64 nxt,.int .i64 mo]++qbZ 201 .top) (X++[.obj true d.blks,.obj true r.blks])
     fun x F1 H1=>(x=.normal\/x=.ret)/\∃v1,zDB Pz Tryz.f3.results.toList F1 H1=some v1/\Weak N [v1] H1 [.bool true] X:=fun nxt hnx=>by
   have n1:(1:Int)<=nxt:=by omega
   have n2:(nxt:Int)<=1000000000:=by omega
   have hT0:WT mo ⟨r,mo,0,nxt,0,false⟩ ⟨d,mo,0,nxt,0,false⟩ 0:=⟨⟨hrd,rfl,rfl,rfl,rfl,rfl⟩,hdq,by dsimp only;omega,Int.le_refl _,by simp,rfl⟩
   have hlp:=zXb X N n hXl cs hcs hn hcl hA0 hact hXid nxt hnx mo hmo1 _ _ hT0;simp only[zAU,Tryz.f3,rgZ,zAY,zZU,wtF,wtT,qbZ,q9Z,qaZ]at hlp ⊢;refine wS hΓ (by simp +decide [zOo,zAI,Zl,hXl,n1,n2,hm1];exact wR) ?_ (by simp[hXl]);refine wS hΓ (by simp +decide;exact wR) ?_ (by simp[hXl]);refine Sim.seq (Sim.weak (Weak.tailG hXl hXid [0,1,2,3] (by decide) (by simp[AWs,AW,o0g]) (by simp[AWg,AWb,AW,wlC,rlC,hXl])) (by simp[hXl]) (hlp.mono fun e F' H' hl h=>?_));obtain⟨rfl,hw⟩:=h;dsimp only;refine Sim.weak hw hl ?_;clear hlp hw hl;refine wE hΓ (by simp +decide [zOo,zGK];exact wT) ?_ (by simp[hXl]);refine ⟨.inr rfl,_,by simp <;> rfl,?_⟩;have:=Weak.tailG hXl hXid (T:=[]) (Tn:=[]) (F:=[.bool true]) (Fn:=[.bool true]) [] (by decide) (by simp[AWs,AW]) (by simp[AWg])
   rwa [r2Z]at this
 have fin2:∀(nxt:Nat) (F:List AV) (T:zA),1<=nxt/\nxt<=1000000000->(X++T)[N+1]? = some (.obj true d.blks)->(X++T)[N+2]? = some (.obj true r.blks)->AWs (List.range N++[N+1,N+2]) ([.top,.top,.sl 0 0 n 4 false,.top,.top,.top,.top,.ptr N 0,.ptr (N+1) 0,.int .i64 nxt,.int .i64 mo]++qbZ 201 .top) F ->
     Sim Pz none N (zAY 5 (zAU Tryz.f3)) F (X++T)
     fun x F1 H1=>(x=.normal\/x=.ret)/\∃v1,zDB Pz Tryz.f3.results.toList F1 H1=some v1/\Weak N [v1] H1 [.bool true] X:=fun nxt F T hx ha hb hF =>
   Sim.weak (Weak.tailG hXl hXid [1,2] (by decide) hF (by simp[AWg,AWb,q2Z,ha,hb,hXl])) (by simp[hXl]) (fin nxt hx)
 simp only[zAU,Tryz.f3,rgZ,zAY,qbZ,q9Z,qaZ]at fin2 ⊢;refine wS hΓ (by simp;exact wR) ?_ (by simp[hXl]);refine wS hΓ (by simp +decide [zOo,zWB,zQ6,zL6,hXl,hQ,v1,v2,hQI,hd,hr];exact wR) ?_ (by simp[hXl]);refine wS hΓ (by simp +decide [zOo,zG2,hXl,v3,v4,hra];exact wR) ?_ (by simp[hXl]);refine wS hΓ (by simp +decide [hXl,v3,v4,hy0,hy1,a1,a2,hz0,a3,a4,b1,b2,hz1,b3,b4,hmo,b5];first | exact wR | exact⟨by kernel_rfl,wR⟩) ?_ (by simp[hXl]);by_cases y3:y2=3
 · subst y3
   refine wS hΓ (by simp +decide [hXl,hy2,c1];exact wR) ?_ (by simp[hXl]);exact fin2 1000000000 _ _ (by decide) (by simp[hXg]) (by simp[hXg]) (by simp[AWs,AW,o0g])
 · have y3b:(y2==3)=false:=by simpa using y3
   obtain⟨nxt,hnx⟩:∃nxt:Nat,1+z0=nxt:=⟨(1+z0).toNat,by omega⟩
   rw[hnx];refine wS hΓ (by simp +decide [hXl,hy2,c1,y3,y3b];exact wR) ?_ (by simp[hXl]);exact fin2 nxt _ _ (by omega) (by simp[hXg]) (by simp[hXg]) (by simp[AWs,AW,o0g])
def zEJ:List (Bool×List ST):=[(false,[.one (.int .u16)]),(true,[.one (.int .i16),.one (.int .i16),.one (.int .i16)]),(false,[.row zVg])]
theorem zM4:∀xs H,zAa zEJ 0 xs H->∃H',Ct Pz 3 xs H (.bool true) H':=by
 intro xs H h0;obtain⟨xa,xsa,Ha,Hb,rfl,ka,rfl,h1⟩:=zFB h0;obtain⟨_,_,ea,⟨q,rfl,hq⟩,ka2⟩:=zBa ka;obtain⟨rfl,rfl⟩:=zCq ka2;cases ea;obtain⟨ys,xsb,Hc,Hd,rfl,kb,rfl,h2⟩:=zMh h1;obtain⟨y0,w0,rfl,⟨x0,rfl,hx0⟩,k0⟩:=zBa kb;obtain⟨y1,w1,rfl,⟨x1,rfl,hx1⟩,k1⟩:=zBa k0;obtain⟨y2,w2,rfl,⟨x2,rfl,hx2⟩,k2⟩:=zBa k1;obtain⟨rfl,rfl⟩:=zCq k2;obtain⟨xc,xsc,He,Hf,rfl,kc,rfl,h3⟩:=zFB h2;obtain⟨rfl,rfl⟩:=zLs h3;obtain⟨x3,w3,m3,y3,H3,H4,e3,hx3,hm3,hd3,rfl,k3⟩:=zGE kc;obtain⟨rfl,rfl⟩:=zCq k3;cases e3;obtain⟨cs,c1,c2,c3⟩:=zLZ _ _ _ _ hd3;subst c1;have bq:=bounds_u16 hq;have b0:=bounds_i16 hx0;have b1:=bounds_i16 hx1;have b2:=bounds_i16 hx2;unfold maxLen at hm3;obtain⟨H',h⟩:=zSr q (by omega) x0 x1 x2 (by omega) (by omega) (by omega) cs c2 (by omega);refine ⟨H',zRj ?_ h⟩;have e:([]++([]++(.cells false y3::(H3++[])++[])):zA)=.cells false y3::H3:=by simp
 rw[e];refine Weak.args fun rn hr=>?_;obtain⟨g1,g2⟩:=c3 rn fun i hi=>hr i (by simp at hi ⊢;omega);exact⟨⟨⟨rfl,rfl⟩,⟨⟨rfl,rfl⟩,⟨rfl,rfl⟩,⟨rfl,rfl⟩,trivial⟩,zMG hx3 (hr 0 (by simp)),trivial⟩,⟨id,g1⟩,g2⟩
end
end Go.Proofs.YtfhidaoiofeooaaGreatDoor
