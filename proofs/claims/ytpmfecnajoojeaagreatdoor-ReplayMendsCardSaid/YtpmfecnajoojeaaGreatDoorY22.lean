/- Parts of the proof of ReplayMends: lemmas, each with its own conditions. -/
import Derived.Test.YtpmfecnajoojeaaGreatDoorY21
import Derived.Test.YtpmfecnajoojeaaGreatDoorY20
import Derived.Test.YtpmfecnajoojeaaGreatDoorY10
set_option maxHeartbeats 64000000
open List renaming length_cons → q7Z, replicate → qbZ, length_append → qdZ, length_take → qjZ, mem_cons → qwZ, mem_append → qxZ, mem_singleton → r1Z, flatten_cons → rcZ, mem_map → reZ, map_append → roZ, replicate_succ → rvZ, map_cons → s1Z
open Nat renaming le_refl → qnZ
open Bool renaming and_eq_true → qrZ
namespace Go.Proofs.YtpmfecnajoojeaaGreatDoor
set_option maxRecDepth 100000
section
open Go
def Rp.one(s:List UInt8)(a:Int):Option (En×Int):=if (Fr.get s a).2.2=0/\(zDd (Fr.get s a).1).2=0 then some ((zDd (Fr.get s a).1).1,(Fr.get s a).2.1) else none
def Rp.rdF(s:List UInt8):Nat->Int->List En×Int
 | 0,a=>([],a)
 | k+1,a=>match Rp.one s a with
   | some (x,b)=>(x::(Rp.rdF s k b).1,(Rp.rdF s k b).2)
   | none=>([],a)
def Rp.rd(s:List UInt8)(a:Int):List En×Int:=Rp.rdF s ((s.length:Int)+1-a).toNat a
theorem Rp.one_way{s:List UInt8}{a:Int}{x:En}{b:Int}(h:Rp.one s a=some (x,b)):0<=a/\a<b/\b<=s.length/\(Fr.get s a).2.2=0/\(zDd (Fr.get s a).1)=(x,0)/\b=(Fr.get s a).2.1:=by
 unfold Rp.one at h;split at h
 · rename_i hc
   cases h;obtain⟨h1,h2,h3⟩:=Fr.get_way s a hc.1;exact⟨h1,h2,h3,hc.1,Prod.ext rfl hc.2,rfl⟩
 · cases h
theorem Rp.rdF_fuel(s:List UInt8):∀(k m:Nat) (a:Int),(s.length:Int)<a+k->(s.length:Int)<a+m->a<=s.length->Rp.rdF s k a=Rp.rdF s m a
 | 0,_,a,h,_,h3=>by omega
 | _+1,0,a,_,h,h3=>by omega
 | k+1,m+1,a,h1,h2,h3=>by
   unfold Rp.rdF
   cases h:Rp.one s a with
   | none=>rfl
   | some y =>
     obtain⟨x,b⟩:=y;obtain⟨_,w2,w3,_⟩:=Rp.one_way h;dsimp only
     rw[Rp.rdF_fuel s k m b (by push_cast at h1;omega) (by push_cast at h2;omega) w3]
theorem Rp.rd_some{s:List UInt8}{a:Int}{x:En}{b:Int}(h:Rp.one s a=some (x,b)):Rp.rd s a=(x::(Rp.rd s b).1,(Rp.rd s b).2):=by
 obtain⟨w1,w2,w3,_⟩:=Rp.one_way h
 obtain⟨k,hk⟩:∃k:Nat,((s.length:Int)+1-a).toNat=k+1:=⟨((s.length:Int)-a).toNat,by omega⟩
 have e:Rp.rdF s k b=Rp.rd s b:=Rp.rdF_fuel s _ _ _ (by omega) (by omega) w3
 unfold Rp.rd;rw[hk]
 conv=>lhs;unfold Rp.rdF
 rw[h];dsimp only;rw[e];rfl
theorem Rp.rd_none{s:List UInt8}{a:Int}(ha:a<=s.length)(h:Rp.one s a=none):Rp.rd s a=([],a):=by
 obtain⟨k,hk⟩:∃k:Nat,((s.length:Int)+1-a).toNat=k+1:=⟨((s.length:Int)-a).toNat,by omega⟩
 unfold Rp.rd;rw[hk]
 conv=>lhs;unfold Rp.rdF
 rw[h]
def Rp.bytes(l:List En):List UInt8:=(l.map fun x=>(Fr.put (zHB x).1).1).flatten
theorem Rp.bytes_le(l:List En):(Rp.bytes l).length<=313*l.length:=by
 induction l with
 | nil=>simp[Rp.bytes]
 | cons x l ih =>
   simp only[Rp.bytes,s1Z,rcZ,qdZ,q7Z]at ih ⊢;have:=Fr.put_le (zHB x).1;omega
theorem Rp.bytes_snoc(l:List En)(x:En):Rp.bytes (l++[x])=Rp.bytes l++(Fr.put (zHB x).1).1:=by simp[Rp.bytes]
def Rp.At(s:List UInt8)(p:List En×Int):Prop:=0<=p.2/\p.2<=s.length/\(p.1.length:Int)<=p.2/\Rp.rd s 0=(p.1++(Rp.rd s p.2).1,(Rp.rd s p.2).2)
theorem Rp.at0(s:List UInt8):Rp.At s ([],0):=⟨Int.le_refl _,by dsimp only;omega,by simp,by simp⟩
theorem Rp.at_next{s:List UInt8}{acc:List En}{a:Int}{x:En}{b:Int}(h:Rp.At s (acc,a))(h1:Rp.one s a=some (x,b)):Rp.At s (acc++[x],b):=by
 obtain⟨g1,g2,g3,g4⟩:=h;obtain⟨w1,w2,w3,_⟩:=Rp.one_way h1;dsimp only at g1 g2 g3 g4
 refine ⟨by dsimp only;omega,w3,by simp;omega,?_⟩
 dsimp only;rw[g4,Rp.rd_some h1];simp
theorem Rp.at_end{s:List UInt8}{acc:List En}{a:Int}(h:Rp.At s (acc,a))(h1:Rp.one s a=none):Rp.rd s 0=(acc,a):=by
 obtain⟨g1,g2,g3,g4⟩:=h;dsimp only at g1 g2 g3 g4;rw[g4,Rp.rd_none g2 h1];simp
theorem Rp.get_le(s:List UInt8)(a:Int):(Fr.get s a).1.length<=300:=by
 unfold Fr.get
 repeat' split
 all_goals first | (simp;done) | (simp only[qjZ];omega)
end
section
open Go Go.Lib
abbrev Lg:=Nat×List Dr×List UInt8
def zIV(n:Nat)(l:Lg):Nat:=if 240<l.1 then n+1 else n
def zPr(l:Lg):List UInt8:=Rp.bytes (zBS l.2.1 12)++l.2.2.take 20
def Za(n0:Nat)(ls:List Lg):Nat->List (List UInt8×List UInt8)×Nat
 | 0=>([],n0)
 | k+1=>match ls[k]? with
   | some l=>((Za n0 ls k).1++[(wn (zIV (Za n0 ls k).2 l),zPr l)],zIV (Za n0 ls k).2 l+1)
   | none=>Za n0 ls k
def zIL(n0:Nat)(ls:List Lg)(on ob:List UInt8):List (List UInt8×List UInt8) :=
 let out:=(Za n0 ls (min ls.length 8)).1
 if on.take 64=[]\/on.take 64∈out.map Prod.fst then out else out++[(on.take 64,ob.take 60)]
theorem zQB(n:Nat)(l:Lg):n<=zIV n l/\zIV n l<=n+1:=by unfold zIV;split <;> omega
theorem zUJ(l:Lg):(zPr l).length<=5000:=by
 have h1:=Rp.bytes_le (zBS l.2.1 12);have h2:=zJH l.2.1 12;unfold zPr;rw[qdZ,qjZ];have:(zBS l.2.1 12).length<=12:=h2;omega
theorem zGF(n0:Nat)(h0:1<=n0)(ls:List Lg):∀k,k<=1000->n0<=1000->n0<=(Za n0 ls k).2/\(Za n0 ls k).2<=n0+2*k/\(Za n0 ls k).1.length<=k /\
   (∀e∈(Za n0 ls k).1,(∃m,e.1=wn m/\n0<=m/\m<(Za n0 ls k).2)/\e.2.length<=5000)/\((Za n0 ls k).1.map Prod.fst).Nodup
 | 0,_,_=>⟨qnZ _,qnZ _,qnZ _,fun e he=>by simp[Za]at he,List.nodup_nil⟩
 | k+1,hk,hn=>by
   obtain⟨g1,g2,g3,g4,g5⟩:=zGF n0 h0 ls k (by omega) hn
   unfold Za;split;rotate_left
   · exact⟨g1,by omega,by omega,g4,g5⟩
   rename_i l hl;obtain⟨i1,i2⟩:=zQB (Za n0 ls k).2 l;obtain⟨m,hm⟩:∃m,zIV (Za n0 ls k).2 l=m:=⟨_,rfl⟩;rw[hm]at i1 i2 ⊢;dsimp only
   refine ⟨by omega,by omega,by rw[qdZ];simp;omega,fun e he=>?_,?_⟩
   · rcases qxZ.1 he with he | he
     · obtain⟨⟨m',e1,e2,e3⟩,e4⟩:=g4 e he
       exact⟨⟨m',e1,e2,by omega⟩,e4⟩
     · simp only[r1Z]at he
       subst he
       exact⟨⟨m,rfl,by omega,by omega⟩,zUJ l⟩
   · rw[roZ,List.nodup_append]
     refine ⟨g5,by simp,fun a ha b hb hab=>?_⟩
     simp only[s1Z,List.map_nil,r1Z]at hb;subst hb;obtain⟨e,he,rfl⟩:=reZ.1 ha;obtain⟨⟨m',e1,e2,e3⟩,_⟩:=g4 e he;rw[e1]at hab
     have:=zW8 (n:=m') (m:=m) (by omega) (by omega) (by omega) (by omega) hab
     omega
theorem zNF(n0:Nat)(h0:1<=n0)(h1:n0<=3)(ls:List Lg)(on ob:List UInt8):(∀e∈zIL n0 ls on ob,zJg e.1/\e.2.length<=5000)/\((zIL n0 ls on ob).map Prod.fst).Nodup/\(zIL n0 ls on ob).length<=9:=by
 obtain⟨g1,g2,g3,g4,g5⟩:=zGF n0 h0 ls (min ls.length 8) (by omega) (by omega)
 have hmay:∀e∈(Za n0 ls (min ls.length 8)).1,zJg e.1/\e.2.length<=5000:=fun e he=>by
   obtain⟨⟨m,e1,e2,e3⟩,e4⟩:=g4 e he;rw[e1]
   exact⟨zWc (by omega) (by omega),e4⟩
 unfold zIL;dsimp only;split
 · exact⟨hmay,g5,by omega⟩
 · rename_i hn
   refine ⟨fun e he=>?_,?_,by rw[qdZ];simp;omega⟩
   · rcases qxZ.1 he with he | he
     · exact hmay e he
     · simp only[r1Z]at he
       subst he
       refine ⟨⟨List.length_pos_iff.2 fun h=>hn (.inl h),by rw[qjZ];omega⟩,by dsimp only;rw[qjZ];omega⟩
   · rw[roZ,List.nodup_append]
     refine ⟨g5,by simp,fun a ha b hb hab=>?_⟩
     simp only[s1Z,List.map_nil,r1Z]at hb;subst hb;subst hab;exact hn (.inr ha)
def ZH:Nat->List Lg->List AV
 | _,[]=>[]
 | k,a::cs=>.int .u8 a.1::.sl k 0 a.2.1.length 3 false::.str a.2.2::ZH (k+a.2.1.length+1) cs
def Zz:Nat->List Lg->zA
 | _,[]=>[]
 | k,a::cs=>drK k a.2.1++Zz (k+a.2.1.length+1) cs
def zW5(a:Lg):Prop:=a.1<256/\zPw a.2.1/\(∀d∈a.2.1,0<=d.2.1/\d.2.1<4294967296)/\a.2.1.length<=9223372036854775807
theorem zEf:∀(k:Nat) (cs:List Lg),(ZH k cs).length=cs.length*3
 | _,[]=>rfl
 | k,a::cs=>by simp[ZH,zEf _ cs];omega
theorem zB5:∀(k N:Nat) (cs:List Lg),k+(Zz k cs).length<=N->zV N (ZH k cs)=true
 | _,_,[],_=>rfl
 | k,N,a::cs,h=>by
   simp only[Zz,qdZ,Z9]at h;simp only[ZH,zV,below,qrZ,decide_eq_true_eq,Bool.true_and]
   exact⟨by omega,zB5 _ N cs (by omega)⟩
theorem zIf:∀(k N:Nat) (cs:List Lg),k+(Zz k cs).length<=N->∀B∈Zz k cs,∃o l,B=ABlk.cells o l/\zV N l=true
 | _,_,[],_=>fun B hB=>by simp[Zz]at hB
 | k,N,a::cs,h=>fun B hB=>by
   simp only[Zz,qdZ,Z9]at h;unfold Zz at hB;rcases qxZ.1 hB with hB | hB
   · obtain⟨o,l,rfl,hl⟩:=zSr k a.2.1 B hB
     exact⟨o,l,rfl,Z7 (by omega) l hl⟩
   · exact zIf _ N cs (by omega) B hB
theorem zWN:∀(cs:List Lg) (k:Nat) (pre R:zA) (i:Nat) (hi:i<cs.length),pre.length=k ->
   ∃(k1:Nat) (T0 T:zA),((ZH k cs).drop (i*3)).take 3=[.int .u8 cs[i].1,.sl k1 0 cs[i].2.1.length 3 false,.str cs[i].2.2] /\
     pre++Zz k cs++R=T0++(drK k1 cs[i].2.1++T)/\T0.length=k1/\k1<(pre++Zz k cs).length
 | a::cs,k,pre,R,0,_,hp=>⟨k,pre,Zz (k+a.2.1.length+1) cs++R,by simp[ZH],by simp[Zz],hp,by simp[Zz,Z9];omega⟩
 | a::cs,k,pre,R,i+1,hi,hp=>by
   obtain⟨k1,T0,T,h1,h2,h3,h4⟩:=zWN cs (k+a.2.1.length+1) (pre++drK k a.2.1) R i (by simpa using hi) (by simp[Z9];omega)
   refine ⟨k1,T0,T,?_,?_,h3,?_⟩
   · rw[show (i+1)*3=i*3+3 by omega]
     simpa[ZH] using h1
   · show pre++Zz k (a::cs)++R=T0++(drK k1 (cs[i]'(by simpa using hi)).2.1++T)
     rw[<-h2];simp[Zz]
   · simpa[Zz] using h4
def zTr:List ST:=[.one (.int .u8),.row [.row [.one (.int .u8)],.one (.int .u32),.one .bool],.one .str]
theorem zNb:∀(n k:Nat) (ys:List AV) (H:zA),AbsT (qbZ n zTr).flatten k ys H ->
   ∃cs:List Lg,cs.length=n/\(∀a∈cs,zW5 a)/\(∀a∈cs,a.2.2.length<=9223372036854775807)/\∀rn:List Nat,(∀i,i<k+H.length->rn[i]? = some i)->AWs rn (ZH k cs) ys/\All2 (AWb rn) (Zz k cs) H
 | 0,k,ys,H,h=>by
   obtain⟨rfl,rfl⟩:=zCm h
   exact⟨[],rfl,by simp,by simp,fun _ _=>⟨by simp[ZH,AWs],trivial⟩⟩
 | n+1,k,ys,H,h=>by
   rw[rvZ,rcZ]at h;unfold zTr at h;obtain⟨x1,w1,rfl,⟨a,rfl,ha⟩,k1⟩:=zBN h;obtain⟨x3,w3,m3,y3,H3,H4,rfl,hx3,hm3,hd3,rfl,k3⟩:=zFd k1;obtain⟨x4,w4,rfl,hx4,k4⟩:=zBN k3;obtain⟨s,rfl,hs⟩:=hx4;obtain⟨ds,d1,d2,d3,d4,d5⟩:=zM5 hd3;subst d1;obtain⟨cs,a1,a2,a4,a3⟩:=zNb n _ w4 H4 k4;have ba:=bounds_u8 ha;unfold maxLen at hm3 hs
   rw[show k+1+H3.length=k+ds.length+1 by omega]at a3
   refine ⟨(a.toNat,ds,s)::cs,by simp[a1],fun c hc=>?_,fun c hc=>?_,fun rn hr=>?_⟩
   · rcases qwZ.1 hc with rfl | hc
     · exact⟨by dsimp only;omega,d2,d3,by dsimp only;omega⟩
     · exact a2 c hc
   · rcases qwZ.1 hc with rfl | hc
     · dsimp only;omega
     · exact a4 c hc
   · simp only[q7Z,qdZ,d4]at hr
     obtain⟨g1,g2⟩:=a3 rn fun i hi=>hr i (by omega)
     have g3:=d5 rn fun i hi=>hr i (by omega)
     refine ⟨⟨⟨rfl,by dsimp only;omega⟩,zK4 hx3 (hr k (by omega)),rfl,g1⟩,?_⟩
     unfold Zz;exact g3.app g2
end
end Go.Proofs.YtpmfecnajoojeaaGreatDoor
