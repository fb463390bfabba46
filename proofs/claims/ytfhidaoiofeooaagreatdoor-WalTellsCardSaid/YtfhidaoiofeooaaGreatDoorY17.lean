/- Parts of the proof of WalTells: lemmas, each with its own conditions. -/
import Derived.Lib.AtoiTie
import Derived.Test.YtfhidaoiofeooaaGreatDoorY16
set_option maxHeartbeats 64000000
open List renaming length_cons → q7Z, length_nil → q8Z, length_append → qdZ
open Int renaming tmod_eq_emod_of_nonneg → rrZ
namespace Go.Proofs.YtfhidaoiofeooaaGreatDoor
open _root_.Go.Proofs.Tryz renaming prog → Pz
set_option maxRecDepth 100000
section
open Go Go.Lib
attribute [-simp] zH zc zq zK zy
def dg(m:Nat):List UInt8:=decDigits m
theorem zGa{m:Nat}(h:m<10):dg m=[UInt8.ofNat (48+m)]:=decDigits_one h
theorem zQq{m:Nat}(h:¬m<10):dg m=dg (m / 10)++[UInt8.ofNat (48+m % 10)]:=by
 unfold dg;rw[decDigits,dif_neg h]
theorem zB4:∀(k m:Nat),m<10 ^ (k+1)->(dg m).length<=k+1
 | 0,m,h=>by rw[zGa (by omega)];simp
 | k+1,m,h=>by
   by_cases hm:m<10
   · rw[zGa hm];simp
   · rw[zQq hm,qdZ]
     have:=zB4 k (m / 10) (by rw[Nat.pow_succ]at h;omega);simp only[q7Z,q8Z];omega
def zQh(k:Nat):zJ:=Zt fun
 | [.int .i64 (.ofNat m)]=>if m<k/\m<=1000000000000 then some (.str (dg m)) else none
 | _=>none
theorem zK3:∀(k m:Nat),m<k->m<=1000000000000->Ct Pz 215 [.int .i64 m] [] (.str (dg m)) []
 | 0,_,h,_=>by omega
 | k+1,m,h,hm=>by
   have hΓ:GOk Pz (zZ [(215,zQh k)]):=zB (by
     refine zU (zD Tryz.func215 rfl (by decide)) fun args v hv=>?_;split at hv
     · split at hv <;> cases hv
       rename_i hc;exact⟨zK3 k _ hc.1 hc.2,rfl,rfl⟩
     · cases hv) zC
   obtain⟨c,hc⟩:∃c:Nat,m % 10=c:=⟨_,rfl⟩
   have hc9:c<=9:=by omega
   have e1:(m:Int).tmod 10=c:=by rw[rrZ (by omega)];omega
   have e2:(m:Int).tdiv 10=((m / 10:Nat):Int):=by rw[Int.tdiv_eq_ediv_of_nonneg (by omega)];omega
   have w1:IntKind.i64.wrap (c:Int)=c:=zI (by omega) (by omega);have w2:IntKind.i64.wrap (48+(c:Int))=48+c:=zI (by omega) (by omega);have w3:IntKind.u8.wrap (48+(c:Int))=48+c:=zCw (by omega) (by omega);have u1:(48+(c:Int)).toNat=48+c:=by omega
   by_cases hm10:m<10
   · have hcm:c=m:=by omega
     have d1:(m:Int)<10:=by omega
     have hd:=zGa hm10;subst hcm;refine zx hmix hΓ (n:=0) Tryz.func215 ?_ (by simp);unfold Tryz.f215;simp[e1,w2,w3,u1,d1,hd]
   · have d1:¬(m:Int)<10:=by omega
     have hd:=zQq hm10;rw[hc]at hd;have w4:IntKind.i64.wrap ((m / 10:Nat):Int)=((m / 10:Nat):Int):=zI (by omega) (by omega);obtain⟨q,hq⟩:∃q:Nat,m / 10=q:=⟨_,rfl⟩
     rw[hq]at e2 w4 hd;have q1:q<k:=by omega
     have q2:q<=1000000000000:=by omega
     have q3:zQh k [.int .i64 (q:Int)]=fun H=>some (.str (dg q),H,[]):=by
       funext H
       simp[zQh,Zt,q1,q2]
     have ql:(dg q).length<=15:=zB4 14 q (by omega);have ql2:(dg q).length+1<=9223372036854775807:=by omega
     refine zx hmix hΓ (n:=0) Tryz.func215 ?_ (by simp);unfold Tryz.f215;simp[e1,e2,w2,w3,w4,u1,d1,hd,q3,ql2]
def zME:List UInt8:=[109,97,110,105,102,101,115,116]
def zR0:List UInt8:=[109,97,110,105,102,101,115,116,46,116,109,112]
def walW:List UInt8:=[119,97,108,45]
def segW:List UInt8:=[115,101,103,45]
def mk(k n:Int):List UInt8 :=
 if k=1 then zME else if k=2 then zR0 else if n<1\/1000000000<n then [] else if k=3 then walW++dg n.toNat else if k=4 then segW++dg n.toNat else []
theorem zHz{k n:Int}(h1:k≠1)(h2:k≠2)(h3:k≠3)(h4:k≠4):mk k n=[]:=by
 unfold mk;simp[h1,h2,h3,h4]
def mkS:zJ:=Zt fun
 | [.int .i64 k,.int .i64 n]=>some (.str (mk k n))
 | _=>none
def zEN:List FuncId:=[203,206]
theorem zAw:GOk Pz (zAV Pz (zZ [(214,zNx)]) 0 zEN 2):=zp hmix (zB zKJ zC) 0 zEN 2
theorem zXg{m:Nat}(h:m<10 ^ 20):zTw 20 m=dg m:=zM1 20 m h (by decide)
theorem zWW(k n:Int):Ct Pz 127 [.int .i64 k,.int .i64 n] [] (.str (mk k n)) []:=by
 have key:∀j:Nat,1<=n->n<=1000000000->∃m:Nat,n=m/\zNx [.int .i64 n]=fun H=>some (.str (dg m),H,[]):=fun _ h1 h2=>by
   obtain⟨m,rfl⟩:∃m:Nat,n=m:=⟨n.toNat,by omega⟩
   refine ⟨m,rfl,?_⟩
   funext H
   have e:m<=9223372036854775807:=by omega
   simp[zNx,Zt,e,zXg (show m<10 ^ 20 by omega)]
 by_cases h0:k<0
 · have hm:mk k n=[]:=zHz (by omega) (by omega) (by omega) (by omega)
   rw[hm];exact zx hmix zAw (n:=0) Tryz.func127 (by unfold Tryz.f127;simp +decide [h0]) (by simp)
 by_cases h4:4<k
 · have hm:mk k n=[]:=zHz (by omega) (by omega) (by omega) (by omega)
   rw[hm];exact zx hmix zAw (n:=0) Tryz.func127 (by unfold Tryz.f127;simp +decide [h0,h4]) (by simp)
 have hk:k=0\/k=1\/k=2\/k=3\/k=4:=by omega
 rcases hk with rfl | rfl | rfl | rfl | rfl
 · have hm:mk 0 n=[]:=zHz (by omega) (by omega) (by omega) (by omega)
   rw[hm];exact zx hmix zAw (n:=0) Tryz.func127 (by unfold Tryz.f127;simp +decide [zEN,Tryz.f203,Tryz.f206]) (by simp)
 · simp only[show mk 1 n=zME from rfl]
   exact zx hmix zAw (n:=0) Tryz.func127 (by unfold Tryz.f127;simp +decide [zEN,Tryz.f203,Tryz.f206,zME]) (by simp)
 · simp only[show mk 2 n=zR0 from rfl]
   exact zx hmix zAw (n:=0) Tryz.func127 (by unfold Tryz.f127;simp +decide [zEN,Tryz.f203,Tryz.f206,zR0]) (by simp)
 · by_cases h1:n<1
   · have hm:mk 3 n=[]:=by unfold mk;rw[if_neg (by omega),if_neg (by omega),if_pos (.inl h1)]
     rw[hm];exact zx hmix zAw (n:=0) Tryz.func127 (by unfold Tryz.f127;simp +decide [zEN,Tryz.f203,Tryz.f206,h1]) (by simp)
   by_cases h2:1000000000<n
   · have hm:mk 3 n=[]:=by unfold mk;rw[if_neg (by omega),if_neg (by omega),if_pos (.inr h2)]
     rw[hm];exact zx hmix zAw (n:=0) Tryz.func127 (by unfold Tryz.f127;simp +decide [zEN,Tryz.f203,Tryz.f206,h1,h2]) (by simp)
   obtain⟨m,hm,hi⟩:=key 0 (by omega) (by omega);have hml:(dg m).length<=15:=zB4 14 m (by omega);have hml2:4+(dg m).length<=9223372036854775807:=by omega
   have hml3:(dg m).length+1+1+1+1<=9223372036854775807:=by omega
   have hmk:mk 3 n=walW++dg m:=by unfold mk;rw[if_neg (by omega),if_neg (by omega),if_neg (by omega),if_pos rfl];rw[hm];rfl
   rw[hmk];exact zx hmix zAw (n:=0) Tryz.func127 (by unfold Tryz.f127;simp +decide [zEN,Tryz.f203,Tryz.f206,h1,h2,hi,hml2,walW]) (by simp)
 · by_cases h1:n<1
   · have hm:mk 4 n=[]:=by unfold mk;rw[if_neg (by omega),if_neg (by omega),if_pos (.inl h1)]
     rw[hm];exact zx hmix zAw (n:=0) Tryz.func127 (by unfold Tryz.f127;simp +decide [zEN,Tryz.f203,Tryz.f206,h1]) (by simp)
   by_cases h2:1000000000<n
   · have hm:mk 4 n=[]:=by unfold mk;rw[if_neg (by omega),if_neg (by omega),if_pos (.inr h2)]
     rw[hm];exact zx hmix zAw (n:=0) Tryz.func127 (by unfold Tryz.f127;simp +decide [zEN,Tryz.f203,Tryz.f206,h1,h2]) (by simp)
   obtain⟨m,hm,hi⟩:=key 0 (by omega) (by omega);have hml:(dg m).length<=15:=zB4 14 m (by omega);have hml2:4+(dg m).length<=9223372036854775807:=by omega
   have hml3:(dg m).length+1+1+1+1<=9223372036854775807:=by omega
   have hmk:mk 4 n=segW++dg m:=by unfold mk;rw[if_neg (by omega),if_neg (by omega),if_neg (by omega),if_neg (by omega),if_pos rfl];rw[hm];rfl
   rw[hmk];exact zx hmix zAw (n:=0) Tryz.func127 (by unfold Tryz.f127;simp +decide [zEN,Tryz.f203,Tryz.f206,h1,h2,hi,hml2,segW]) (by simp)
theorem zRV:Sound Pz 127 mkS:=by
 refine zU (zD Tryz.func127 rfl (by decide)) fun args v h=>?_;split at h <;> cases h
 exact⟨zWW _ _,rfl,rfl⟩
theorem zQC(b:Nat):Sound Pz 215 (zQh b):=by
 refine zU (zD Tryz.func215 rfl (by decide)) fun args v hv=>?_;split at hv
 · split at hv <;> cases hv
   rename_i hc;exact⟨zK3 b _ hc.1 hc.2,rfl,rfl⟩
 · cases hv
theorem zCE:GOk Pz (zZ [(215,zQh 1000000000001)]):=zB (zQC _) zC
theorem zUN(k n:Int):Ct Pz 129 [.int .i64 k,.int .i64 n] [] (.str (mk k n)) []:=by
 have key:1<=n->n<=1000000000->∃m:Nat,n=m/\zQh 1000000000001 [.int .i64 n]=fun H=>some (.str (dg m),H,[]):=fun h1 h2=>by
   obtain⟨m,rfl⟩:∃m:Nat,n=m:=⟨n.toNat,by omega⟩
   refine ⟨m,rfl,?_⟩
   funext H
   have e1:m<1000000000001:=by omega
   have e2:m<=1000000000000:=by omega
   simp[zQh,Zt,e1,e2]
 by_cases k1:k=1
 · subst k1
   exact zx hmix zCE (n:=0) Tryz.func129 (by unfold Tryz.f129;simp +decide [mk,zME]) (by simp)
 by_cases k2:k=2
 · subst k2
   exact zx hmix zCE (n:=0) Tryz.func129 (by unfold Tryz.f129;simp +decide [mk,zR0]) (by simp)
 by_cases h1:n<1
 · have hm:mk k n=[]:=by unfold mk;rw[if_neg k1,if_neg k2,if_pos (.inl h1)]
   rw[hm];exact zx hmix zCE (n:=0) Tryz.func129 (by unfold Tryz.f129;simp +decide [k1,k2,h1]) (by simp)
 by_cases h2:1000000000<n
 · have hm:mk k n=[]:=by unfold mk;rw[if_neg k1,if_neg k2,if_pos (.inr h2)]
   rw[hm];exact zx hmix zCE (n:=0) Tryz.func129 (by unfold Tryz.f129;simp +decide [k1,k2,h1,h2]) (by simp)
 obtain⟨m,hm,hi⟩:=key (by omega) (by omega);have hml:(dg m).length<=15:=zB4 14 m (by omega);have hml2:4+(dg m).length<=9223372036854775807:=by omega
 have hml3:(dg m).length+1+1+1+1<=9223372036854775807:=by omega
 by_cases k3:k=3
 · have hmk:mk k n=walW++dg m:=by unfold mk;rw[if_neg k1,if_neg k2,if_neg (by omega),if_pos k3,hm];rfl
   rw[hmk];subst k3;exact zx hmix zCE (n:=0) Tryz.func129 (by unfold Tryz.f129;simp +decide [h1,h2,hi,hml2,walW]) (by simp)
 by_cases k4:k=4
 · have hmk:mk k n=segW++dg m:=by unfold mk;rw[if_neg k1,if_neg k2,if_neg (by omega),if_neg k3,if_pos k4,hm];rfl
   rw[hmk];subst k4;exact zx hmix zCE (n:=0) Tryz.func129 (by unfold Tryz.f129;simp +decide [h1,h2,hi,hml2,segW]) (by simp)
 rw[zHz k1 k2 k3 k4];exact zx hmix zCE (n:=0) Tryz.func129 (by unfold Tryz.f129;simp +decide [k1,k2,k3,k4,h1,h2]) (by simp)
theorem zOZ:Sound Pz 129 mkS:=by
 refine zU (zD Tryz.func129 rfl (by decide)) fun args v h=>?_;split at h <;> cases h
 exact⟨zUN _ _,rfl,rfl⟩
end
section
open Go Go.Lib
theorem zaD(m:Nat):dg m≠[]:=by
 by_cases hm:m<10
 · rw[zGa hm];simp
 · rw[zQq hm];simp
theorem zYu(m:Nat)(h:m<=1000000000):1<=(dg m).length/\(dg m).length<=10 :=
 ⟨List.length_pos_iff.2 (zaD m),zB4 9 m (by omega)⟩
end
section
open Go Go.Lib
theorem zJJ(k n:Int):(mk k n).length<=14:=by
 unfold mk;split
 · decide
 split
 · decide
 split
 · decide
 rename_i h;have hd:=(zYu n.toNat (by omega)).2;split
 · rw[qdZ,show walW.length=4 from rfl];omega
 split
 · rw[qdZ,show segW.length=4 from rfl];omega
 · decide
abbrev wn(n:Nat):List UInt8:=mk 3 n
structure WL where
 d:DS
 most:Int
 file:Nat
 next:Nat
 done:Int
 bad:Bool
def WL.fresh(w:WL):WL×Int :=
 if 1000000000<w.next then (w,17) else
 if (w.d.create (wn w.next)).2=0 then
   if (w.d.create (wn w.next)).1.syncDir.2=0 then (⟨(w.d.create (wn w.next)).1.syncDir.1,w.most,w.next,w.next+1,w.done,w.bad⟩,0)
   else (⟨(w.d.create (wn w.next)).1.syncDir.1,w.most,w.file,w.next,w.done,w.bad⟩,(w.d.create (wn w.next)).1.syncDir.2)
 else (⟨(w.d.create (wn w.next)).1,w.most,w.file,w.next,w.done,w.bad⟩,(w.d.create (wn w.next)).2)
def WL.size(w:WL):Int:=if w.file=0 then 0 else (w.d.size (wn w.file)).1
def WL.ready(w:WL):WL×Int :=
 if w.file=0 then w.fresh else
 if w.most<=w.size then
   if (w.d.sync (wn w.file)).2=0 then WL.fresh ⟨(w.d.sync (wn w.file)).1,w.most,w.file,w.next,w.done,w.bad⟩
   else (⟨(w.d.sync (wn w.file)).1,w.most,w.file,w.next,w.done,w.bad⟩,(w.d.sync (wn w.file)).2)
 else (w,0)
def WL.add(w:WL)(s:List UInt8):WL×Int :=
 if w.ready.2=0 then
   if (w.ready.1.d.append (wn w.ready.1.file) s).2=0 then (⟨(w.ready.1.d.append (wn w.ready.1.file) s).1,w.ready.1.most,w.ready.1.file,w.ready.1.next,w.ready.1.done+1,false⟩,0)
   else (⟨(w.ready.1.d.append (wn w.ready.1.file) s).1,w.ready.1.most,w.ready.1.file,w.ready.1.next,w.ready.1.done,true⟩,(w.ready.1.d.append (wn w.ready.1.file) s).2)
 else (⟨w.ready.1.d,w.ready.1.most,w.ready.1.file,w.ready.1.next,w.ready.1.done,true⟩,w.ready.2)
def WL.adds(w:WL):List (List UInt8)->WL×Int
 | []=>(w,0)
 | s::l=>if (w.add s).2=0 then (w.add s).1.adds l else w.add s
def WL.sync(w:WL):WL×Int :=
 if w.file=0 then (w,0) else (⟨(w.d.sync (wn w.file)).1,w.most,w.file,w.next,w.done,decide ((w.d.sync (wn w.file)).2≠0)⟩,(w.d.sync (wn w.file)).2)
theorem add_bad(w:WL)(s:List UInt8)(h:(w.add s).2≠0):(w.add s).1.bad=true:=by
 unfold WL.add at h ⊢;split
 · rename_i h1
   rw[if_pos h1]at h;split
   · rename_i h2;rw[if_pos h2]at h;exact absurd rfl h
   · rfl
 · rfl
end
end Go.Proofs.YtfhidaoiofeooaaGreatDoor
