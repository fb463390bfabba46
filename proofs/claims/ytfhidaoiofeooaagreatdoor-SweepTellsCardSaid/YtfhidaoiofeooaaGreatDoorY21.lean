/- Parts of the proof of SweepTells: lemmas, each with its own conditions. -/
import Derived.Test.YtfhidaoiofeooaaGreatDoorY16
set_option maxHeartbeats 64000000
open List renaming getElem?_eq_some_iff → q1Z, getD_eq_getElem?_getD → q2Z, getElem?_eq_getElem → q3Z, getElem?_append_left → q4Z, getElem?_append_right → q5Z, take_of_length_le → q6Z, length_cons → q7Z, length_take → qjZ, mem_cons → qwZ, mem_append → qxZ, getElem_mem → r3Z, mem_map → reZ, not_mem_nil → rtZ, getElem?_eq_none → s4Z, mem_filter → sbZ
open Nat renaming le_refl → qnZ
open Bool renaming false_eq_true → qsZ
namespace Go.Proofs.YtfhidaoiofeooaaGreatDoor
set_option maxRecDepth 100000
section
open Go Go.Lib Go.RowKit Go.Maps Go.Sort
def NM.wo(l:NM)(k:List UInt8):NM:=l.filter fun e=>!(e.1==k)
def NM.wi(l:NM)(k:List UInt8)(n:Int):NM:=l.takeWhile (fun e=>Op.bytesLess e.1 k)++(k,n)::l.filter fun e=>!(Op.bytesLess e.1 k || e.1==k)
structure Sm (W m:NM):Prop where
 srt:W.Pairwise fun a b=>a.1<b.1
 mem:∀k n,(k,n)∈W↔NM.get m k=some n
 nd:NM.nd m
theorem Sm.nil:Sm [] []:=⟨.nil,fun k n=>by simp[NM.get],List.nodup_nil⟩
theorem Sm.wo{W m:NM}(h:Sm W m)(k:List UInt8):Sm (NM.wo W k) (NM.del m k):=by
 refine ⟨h.srt.sublist List.filter_sublist,fun k' n=>?_,NM.nd_del h.nd k⟩;unfold NM.wo;rw[sbZ,h.mem,NM.get_del h.nd];by_cases e:k'=k
 · simp[e]
 · simp[e]
theorem zFu{k:List UInt8}{e:List UInt8×Int}:∀{W:NM},W.Pairwise (fun a b=>a.1<b.1)->(e∈W.takeWhile (fun e=>Op.bytesLess e.1 k)↔e∈W/\e.1<k)
 | [],_=>by simp
 | a::W,h=>by
   obtain⟨h1,h2⟩:=List.pairwise_cons.1 h;rw[List.takeWhile_cons,bytesLess_eq];by_cases hk:a.1<k
   · rw[decide_eq_true hk,if_pos rfl,qwZ,qwZ,zFu h2]
     constructor
     · rintro (rfl | ⟨h3,h4⟩)
       · exact⟨.inl rfl,hk⟩
       · exact⟨.inr h3,h4⟩
     · rintro⟨rfl | h3,h4⟩
       · exact .inl rfl
       · exact .inr ⟨h3,h4⟩
   · rw[decide_eq_false hk]
     simp only[qsZ,if_false,rtZ,false_iff,qwZ,not_and];rintro (rfl | h3) h4
     · exact hk h4
     · exact hk (List.lt_trans (h1 e h3) h4)
theorem mem_filtG{k:List UInt8}{e:List UInt8×Int}{W:NM}:e∈W.filter (fun e=>!(Op.bytesLess e.1 k || e.1==k))↔e∈W/\k<e.1:=by
 rw[sbZ];refine and_congr_right fun _=>?_;rw[bytesLess_eq];simp only[Bool.not_eq_true',Bool.or_eq_false_iff,decide_eq_false_iff_not,beq_eq_false_iff_ne];constructor
 · rintro⟨h1,h2⟩
   rcases Std.lt_trichotomy e.1 k with h3 | h3 | h3
   · exact absurd h3 h1
   · exact absurd h3 h2
   · exact h3
 · intro h1
   exact⟨fun h2=>absurd (List.lt_trans h1 h2) (List.lt_irrefl _),fun h2=>by rw[h2]at h1;exact List.lt_irrefl _ h1⟩
theorem Sm.wi{W m:NM}(h:Sm W m)(k:List UInt8)(n:Int):Sm (NM.wi W k n) (NM.put m k n):=by
 refine ⟨?_,fun k' n'=>?_,NM.nd_put h.nd k n⟩
 · unfold NM.wi
   rw[List.pairwise_append];refine ⟨h.srt.sublist (List.takeWhile_sublist _),List.pairwise_cons.2 ⟨fun e he=>(mem_filtG.1 he).2,h.srt.sublist List.filter_sublist⟩,fun a ha b hb=>?_⟩;have h1:=(zFu h.srt).1 ha;rcases qwZ.1 hb with rfl | hb
   · exact h1.2
   · exact List.lt_trans h1.2 (mem_filtG.1 hb).2
 · unfold NM.wi
   rw[qxZ,qwZ,zFu h.srt,mem_filtG,NM.get_put,h.mem];dsimp only;by_cases e:k'=k
   · subst e
     rw[if_pos rfl];simp only[List.lt_irrefl,and_false,or_false,false_or,Prod.mk.injEq,true_and,Option.some.injEq];exact eq_comm
   · rw[if_neg e]
     simp only[Prod.mk.injEq,e,false_and,false_or];constructor
     · rintro (⟨h1,_⟩ | ⟨h1,_⟩) <;> exact h1
     · intro h1
       rcases Std.lt_trichotomy k' k with h3 | h3 | h3
       · exact .inl ⟨h1,h3⟩
       · exact absurd h3 e
       · exact .inr ⟨h1,h3⟩
theorem Sm.get{W m:NM}(h:Sm W m)(k:List UInt8):NM.get W k=NM.get m k:=by
 cases hg:NM.get m k with
 | none =>
   cases hw:NM.get W k with
   | none=>rfl
   | some v=>rw[(h.mem k v).1 (NM.get_mem hw)]at hg;cases hg
 | some v =>
   obtain⟨u,hu⟩:=NM.get_some.2 (reZ.2 ⟨_,(h.mem k v).2 hg,rfl⟩:k∈NM.keys W);rw[hu,<-hg,(h.mem k u).1 (NM.get_mem hu)]
theorem Sm.names{W m:NM}(h:Sm W m):W.map (·.1)=ZI m.keys:=by
 have hs:(W.map (·.1)).Pairwise fun a b=>a<b:=List.pairwise_map.2 h.srt
 have hn:(W.map (·.1)).Nodup:=by
   rw[List.nodup_iff_pairwise_ne];exact hs.imp fun {a b} hab e=>by rw[e]at hab;exact List.lt_irrefl _ hab
 have hp:(W.map (·.1)).Perm m.keys:=by
   refine (List.perm_ext_iff_of_nodup hn h.nd).2 fun k=>?_;rw[reZ,<-NM.get_some];constructor
   · rintro⟨⟨a,n⟩,h1,rfl⟩;exact⟨n,(h.mem _ _).1 h1⟩
   · rintro⟨n,h1⟩;exact⟨(k,n),(h.mem _ _).2 h1,rfl⟩
 refine List.Perm.eq_of_pairwise (le:=fun a b=>leB a b=true) (fun a b _ _ h1 h2=>?_) (hs.imp fun {a b} hab=>?_) (Ze _) (hp.trans (zU _).symm)
 · simp only[leB,decide_eq_true_eq]at h1 h2
   exact List.le_antisymm h1 h2
 · simp only[leB,decide_eq_true_eq];exact Std.le_of_lt hab
theorem Sm.len{W m:NM}(h:Sm W m):W.length=m.length:=by
 have:=h.names;have h2:=congrArg List.length this;rw[(zU _).length_eq]at h2;simpa[NM.keys] using h2
structure RF where
 was:List NM
 last:Int
def RF.new:RF:=⟨[[]],0⟩
def RF.now(r:RF):NM:=r.was.getD (r.was.length-1) []
def RF.find(r:RF)(k:List UInt8):Int×Bool:=match NM.get r.now k with
 | some n=>(n,true)
 | none=>(0,false)
def RF.create(r:RF)(k:List UInt8):RF×Int×Int :=
 if zEO k then match NM.get r.now k with
   | some _=>(r,0,8)
   | none=>(⟨r.was++[NM.wi r.now k (r.last+1)],r.last+1⟩,r.last+1,0)
 else (r,0,2)
def RF.rename(r:RF)(a b:List UInt8):RF×Int :=
 if zEO b then match NM.get r.now a with
   | some n=>(⟨r.was++[NM.wi (NM.wo r.now a) b n],r.last⟩,0)
   | none=>(r,9)
 else (r,2)
def RF.remove(r:RF)(k:List UInt8):RF×Int:=match NM.get r.now k with
 | some _=>(⟨r.was++[NM.wo r.now k],r.last⟩,0)
 | none=>(r,9)
def RF.names(r:RF):List (List UInt8):=r.now.map (·.1)
def RF.clamp(r:RF)(n:Int):Nat:=(max 0 (min n ((r.was.length-1:Nat):Int))).toNat
def RF.survive(r:RF)(n:Int):RF:=⟨[r.was.getD (r.clamp n) []],r.last⟩
structure RF.rel (r:RF) (f:FD):Prop where
 len:r.was.length=f.acts.length+1
 sm:∀i W,r.was[i]? = some W->Sm W (Z6 f.d (f.acts.take i))
 last:r.last=f.last
theorem RF.rel_new:RF.new.rel FD.new:=⟨rfl,fun i W h=>by
 match i,h with
 | 0,h=>cases h;exact Sm.nil
 | i+1,h=>simp[RF.new]at h,rfl⟩
theorem RF.rel.now{r:RF}{f:FD}(h:r.rel f):Sm r.now f.now:=by
 have hl:=h.len;have h1:r.was[r.was.length-1]? = some r.now:=by
   unfold RF.now;rw[q2Z,q3Z (by omega)];rfl
 have:=h.sm _ _ h1
 rwa [hl,Nat.add_sub_cancel,List.take_length]at this
theorem RF.rel.get{r:RF}{f:FD}(h:r.rel f)(k:List UInt8):NM.get r.now k=f.now.get k:=h.now.get k
theorem RF.rel.names{r:RF}{f:FD}(h:r.rel f):r.names=f.names:=h.now.names
theorem RF.rel.act{r:RF}{f:FD}(h:r.rel f){W:NM}{x:DAct}{n:Int}(hW:Sm W (x.run f.now)):RF.rel ⟨r.was++[W],n⟩ ⟨f.d,f.acts++[x],n⟩:=by
 have hl:=h.len;refine ⟨by simp[hl],fun i V hi=>?_,rfl⟩;dsimp only at hi ⊢;rcases Nat.lt_trichotomy i r.was.length with h1 | h1 | h1
 · rw[q4Z h1]at hi
   rw[List.take_append_of_le_length (by omega)];exact h.sm i V hi
 · subst h1
   rw[q5Z (qnZ _),Nat.sub_self]at hi;cases hi;rw[q6Z (by simp;omega),zAr];exact hW
 · rw[s4Z (by simp;omega)]at hi;cases hi
theorem RF.rel.create{r:RF}{f:FD}(h:r.rel f)(k:List UInt8):(r.create k).1.rel (f.create k).1/\(r.create k).2=(f.create k).2:=by
 unfold RF.create FD.create;rw[h.get,h.last];split
 · cases hg:NM.get f.now k with
   | some n=>exact⟨h,rfl⟩
   | none=>exact⟨h.act (x:=.cre k (f.last+1)) (h.now.wi k _),rfl⟩
 · exact⟨h,rfl⟩
theorem RF.rel.remove{r:RF}{f:FD}(h:r.rel f)(k:List UInt8):(r.remove k).1.rel (f.remove k).1/\(r.remove k).2=(f.remove k).2:=by
 unfold RF.remove FD.remove;rw[h.get,h.last];cases hg:NM.get f.now k with
 | some n=>exact⟨h.act (x:=.rem k) (h.now.wo k),rfl⟩
 | none=>exact⟨h,rfl⟩
theorem RF.rel.clamp{r:RF}{f:FD}(h:r.rel f)(n:Int):r.clamp n=f.clamp n:=by
 unfold RF.clamp FD.clamp;rw[h.len,Nat.add_sub_cancel]
theorem RF.rel.survive{r:RF}{f:FD}(h:r.rel f)(n:Int):(r.survive n).rel (f.survive n):=by
 have hl:=h.len;have hc:f.clamp n<=f.acts.length:=by unfold FD.clamp;omega
 have h1:r.was[f.clamp n]? = some (r.was.getD (f.clamp n) []):=by
   rw[q2Z,q3Z (by omega)];rfl
 refine ⟨rfl,fun i W hi=>?_,h.last⟩;unfold RF.survive FD.survive at *;rw[h.clamp]at hi
 match i,hi with
 | 0,hi=>cases hi;exact h.sm _ _ h1
 | i+1,hi=>simp at hi
structure RF.ok (r:RF) (B:Nat):Prop where
 ne:0<r.was.length
 len:r.was.length<=B+1
 row:∀W∈r.was,W.length<=B
 lo:0<=r.last
 hi:r.last<=B
theorem RF.rel.ok{r:RF}{f:FD}{B:Nat}(h:r.rel f)(hf:f.ok B):r.ok B:=by
 have hl:=h.len;have h1:=hf.len;refine ⟨by omega,by omega,fun W hW=>?_,by rw[h.last];exact hf.lo,by rw[h.last];exact hf.hi⟩;obtain⟨i,hi⟩:=List.getElem?_of_mem hW;rw[(h.sm i W hi).len];have:=(zFh (f.acts.take i) hf.short fun x hx=>hf.fine x (List.mem_of_mem_take hx)).2;rw[qjZ]at this;omega
end
section
open Go Go.Lib
structure RS where
 dir:RF
 F:List PF
 room:Int
 steps:Int
 left:Int
 down:Bool
def RS.new(q:Int):RS:=⟨RF.new,[],q,0,0,false⟩
def RS.count(r:RS):RS :=
 if 0<r.left/\r.down=false then ⟨r.dir,r.F,r.room,r.steps+1,r.left-1,decide (r.left-1=0)⟩
 else ⟨r.dir,r.F,r.room,r.steps+1,r.left,r.down⟩
def RS.step(r:RS)(g:RS->RS×Int):RS×Int:=if r.count.down then (r.count,13) else g r.count
def RS.file(r:RS)(k:List UInt8):Option PF:=match NM.get r.dir.now k with
 | some n=>r.F[(n-1).toNat]?
 | none=>none
def RS.text(r:RS)(k:List UInt8):List UInt8:=match r.file k with
 | some f=>f.now
 | none=>[]
def RS.list(r:RS):List (List UInt8):=if r.down then [] else r.dir.names
def RS.files(r:RS):List (List UInt8×List UInt8):=r.list.map fun k=>(k,r.text k)
def RS.syncDir(r:RS):RS×Int:=r.step fun r=>(⟨r.dir.survive ((r.dir.was.length-1:Nat):Int),r.F,r.room,r.steps,r.left,r.down⟩,0)
def RS.remove(r:RS)(a:List UInt8):RS×Int:=r.step fun r=>(⟨(r.dir.remove a).1,r.F,r.room,r.steps,r.left,r.down⟩,(r.dir.remove a).2)
def RS.arm(r:RS)(n:Int):RS:=⟨r.dir,r.F,r.room,r.steps,max 0 n,r.down⟩
@[simp] theorem RS.count_dir(r:RS):r.count.dir=r.dir:=by unfold RS.count;split <;> rfl
@[simp] theorem RS.count_F(r:RS):r.count.F=r.F:=by unfold RS.count;split <;> rfl
@[simp] theorem RS.count_room(r:RS):r.count.room=r.room:=by unfold RS.count;split <;> rfl
@[simp] theorem RS.count_steps(r:RS):r.count.steps=r.steps+1:=by unfold RS.count;split <;> rfl
structure RD (r:RS) (d:DS) (A B:Nat):Prop where
 ok:d.ok A B
 dir:r.dir.rel d.fd
 file:∀n f,FS.get d.fs n=some f->r.F[(n-1).toNat]? = some f
 flen:(r.F.length:Int)=r.dir.last
 fine:∀f∈r.F,f.ok B
 room:r.room=d.quota
 steps:r.steps=d.steps
 left:r.left=d.armed
 down:r.down=d.down
theorem RD.new(q:Int)(h0:0<=q)(h1:q<=4611686018427387903):RD (RS.new q) (DS.new q) 0 0 :=
 ⟨DS.ok_new q h0 h1,RF.rel_new,fun n f h=>by simp[DS.new,FS.get]at h,rfl,fun f h=>by simp[RS.new]at h,rfl,rfl,rfl,rfl⟩
theorem RD.mono{r:RS}{d:DS}{A B A' B':Nat}(h:RD r d A B)(ha:A<=A')(hb:B<=B'):RD r d A' B' :=
 ⟨DS.ok_mono h.ok ha hb,h.dir,h.file,h.flen,fun f hf=>PF.ok_mono (h.fine f hf) hb,h.room,h.steps,h.left,h.down⟩
theorem RD.count{r:RS}{d:DS}{A B:Nat}(h:RD r d A B):RD r.count d.count (A+1) B:=by
 have e1:=h.left;have e2:=h.down;refine ⟨DS.ok_count h.ok,by simpa using h.dir,by simpa using h.file,by simpa using h.flen,by simpa using h.fine,by simpa using h.room,by simpa using h.steps,?_,?_⟩
 · unfold RS.count DS.count;rw[e1,e2];split <;> rfl
 · unfold RS.count DS.count;rw[e1,e2];split <;> rfl
theorem RD.num{r:RS}{d:DS}{A B:Nat}(h:RD r d A B){k:List UInt8}{n:Int}(hk:d.fd.now.get k=some n):∃f,FS.get d.fs n=some f/\1<=n/\r.F[(n-1).toNat]? = some f/\f.ok B:=by
 obtain⟨f,hf,hb⟩:=DS.has_file h.ok hk;exact⟨f,hf,(h.ok.rng n (FS.get_some.1 ⟨f,hf⟩)).1,h.file n f hf,hb⟩
theorem RD.text{r:RS}{d:DS}{A B:Nat}(h:RD r d A B)(k:List UInt8):r.text k=d.text k:=by
 unfold RS.text DS.text RS.file DS.file;rw[h.dir.get];cases hk:d.fd.now.get k with
 | none=>rfl
 | some n =>
   obtain⟨f,h1,_,h2,_⟩:=h.num hk;simp only[h1,h2]
theorem RD.list{r:RS}{d:DS}{A B:Nat}(h:RD r d A B):r.list=d.list:=by
 unfold RS.list DS.list;rw[h.down,h.dir.names]
theorem RD.files{r:RS}{d:DS}{A B:Nat}(h:RD r d A B):r.files=d.files:=by
 unfold RS.files DS.files;rw[h.list];exact List.map_congr_left fun k _=>by rw[h.text]
theorem RD.names{r:RS}{d:DS}{A B A':Nat}(h:RD r d A B){g:RF->RF×Int}{g':FD->FD×Int}
   (hok:(d.step fun d=>(⟨(g' d.fd).1,d.fs,d.quota,d.steps,d.armed,d.down⟩,(g' d.fd).2)).1.ok A' B) (hA:A+1<=A')
   (hg:∀r f,RF.rel r f->(g r).1.rel (g' f).1/\(g r).2=(g' f).2/\(g r).1.last=r.last) :
   RD (r.step fun r=>(⟨(g r.dir).1,r.F,r.room,r.steps,r.left,r.down⟩,(g r.dir).2)).1 (d.step fun d=>(⟨(g' d.fd).1,d.fs,d.quota,d.steps,d.armed,d.down⟩,(g' d.fd).2)).1 A' B /\
   (r.step fun r=>(⟨(g r.dir).1,r.F,r.room,r.steps,r.left,r.down⟩,(g r.dir).2)).2=(d.step fun d=>(⟨(g' d.fd).1,d.fs,d.quota,d.steps,d.armed,d.down⟩,(g' d.fd).2)).2:=by
 have key:r.count.down=d.count.down:=h.count.down;unfold RS.step DS.step at *;rw[key];split
 · exact⟨h.count.mono hA (qnZ _),rfl⟩
 · rename_i hd
   rw[if_neg hd]at hok;have h:=h.count;obtain⟨h1,h2,h3⟩:=hg _ _ h.dir;exact⟨⟨hok,h1,h.file,by dsimp only;rw[h3];exact h.flen,h.fine,h.room,h.steps,h.left,h.down⟩,h2⟩
theorem RD.syncDir{r:RS}{d:DS}{A B:Nat}(h:RD r d A B):RD r.syncDir.1 d.syncDir.1 (A+2) B/\r.syncDir.2=d.syncDir.2 :=
 h.names (g:=fun r=>(r.survive ((r.was.length-1:Nat):Int),0)) (g':=fun f=>(f.survive f.acts.length,0)) (DS.ok_syncDir h.ok) (by omega) fun r f hf=>⟨by dsimp only;rw[hf.len,Nat.add_sub_cancel];exact hf.survive _,rfl,rfl⟩
theorem RD.remove{r:RS}{d:DS}{A B:Nat}(h:RD r d A B)(a:List UInt8):RD (r.remove a).1 (d.remove a).1 (A+2) B/\(r.remove a).2=(d.remove a).2 :=
 h.names (g:=fun r=>r.remove a) (g':=fun f=>f.remove a) (DS.ok_remove h.ok a) (by omega) fun r f hf=>⟨(hf.remove a).1,(hf.remove a).2,by
   unfold RF.remove;split <;> rfl⟩
theorem RD.arm{r:RS}{d:DS}{A B:Nat}(h:RD r d A B)(n:Int)(hn:n<=4611686018427387903):RD (r.arm n) (d.arm n) A B :=
 ⟨DS.ok_arm h.ok n hn,h.dir,h.file,h.flen,h.fine,h.room,h.steps,rfl,h.down⟩
structure RS.ok (r:RS) (A B:Nat):Prop where
 dir:r.dir.ok A
 flen:(r.F.length:Int)=r.dir.last
 fine:∀f∈r.F,f.ok B
 has:∀W∈r.dir.was,∀k n,NM.get W k=some n->1<=n/\n<=r.F.length
 q0:0<=r.room
 q1:r.room<=4611686018427387903
 s0:0<=r.steps
 s1:r.steps<=A
 a0:0<=r.left
 a1:r.left<=4611686018427387903
theorem RS.ok.hasN{r:RS}{A B:Nat}(h:r.ok A B)(k:List UInt8)(n:Int)(hk:NM.get r.dir.now k=some n):1<=n/\n<=r.F.length:=by
 have h0:=h.dir.ne;refine h.has _ ?_ k n hk;unfold RF.now;rw[q2Z,q3Z (by omega)];exact r3Z _
theorem RD.rok{r:RS}{d:DS}{A B:Nat}(h:RD r d A B):r.ok A B:=by
 have hl:=h.flen;refine ⟨h.dir.ok h.ok.fd,hl,h.fine,fun W hW k n hk=>?_,by rw[h.room];exact h.ok.q0,by rw[h.room];exact h.ok.q1,by rw[h.steps];exact h.ok.s0,by rw[h.steps];exact h.ok.s1,by rw[h.left];exact h.ok.a0,by rw[h.left];exact h.ok.a1⟩;obtain⟨i,hi⟩:=List.getElem?_of_mem hW;have hil:i<r.dir.was.length:=(q1Z.1 hi).1;rw[(h.dir.sm i W hi).get]at hk;have hm:=h.ok.has i (by have:=h.dir.len;omega) k n hk;have hr:=h.ok.rng n hm;have hdl:=h.dir.last;omega
def RS.drops:List (List UInt8)->RS->RS×Nat×Int
 | [],d=>(d,0,0)
 | s::l,d=>if (d.remove s).2=0 then ((RS.drops l (d.remove s).1).1,(RS.drops l (d.remove s).1).2.1+1,(RS.drops l (d.remove s).1).2.2) else ((d.remove s).1,0,(d.remove s).2)
def RP(K:Nat)(x:RS×Int)(y:DS×Int)(A B:Nat):Prop:=RD x.1 y.1 A B/\x.2=y.2/\y.1.quota<=K
theorem zP4(d:DS)(g:DS->DS×Int)(hg:∀d,(g d).1.quota=d.quota):(d.step g).1.quota=d.quota:=by
 unfold DS.step;split
 · simp
 · rw[hg];simp
theorem RP.remove{K:Nat}{r:RS}{d:DS}{A B:Nat}(h:RD r d A B)(hq:d.quota<=K)(a:List UInt8):RP K (r.remove a) (d.remove a) (A+2) B:=⟨(h.remove a).1,(h.remove a).2,by unfold DS.remove;rw[zP4 _ _ fun _=>rfl];exact hq⟩
theorem RD.drops{K:Nat}:∀(l:List (List UInt8)) {r:RS} {d:DS} {A B:Nat},RD r d A B->d.quota<=K->RD (RS.drops l r).1 (DS.drops l d).1 (A+2*l.length) B/\(RS.drops l r).2=(DS.drops l d).2/\(DS.drops l d).1.quota<=K
 | [],r,d,A,B,h,hq=>⟨h,rfl,hq⟩
 | s::l,r,d,A,B,h,hq=>by
   obtain⟨h1,h2,h3⟩:=RP.remove h hq s;obtain⟨h4,h5,h6⟩:=RD.drops (K:=K) l h1 h3;unfold RS.drops DS.drops;rw[h2];simp only[q7Z];split
   · exact⟨h4.mono (by omega) (qnZ _),by dsimp only;rw[h5],h6⟩
   · exact⟨h1.mono (by omega) (qnZ _),rfl,h3⟩
end
end Go.Proofs.YtfhidaoiofeooaaGreatDoor
