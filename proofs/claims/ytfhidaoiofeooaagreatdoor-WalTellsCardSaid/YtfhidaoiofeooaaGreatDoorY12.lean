/- Parts of the proof of WalTells: lemmas, each with its own conditions. -/
import Derived.Test.YtfhidaoiofeooaaGreatDoorY11
set_option maxHeartbeats 64000000
open List renaming getElem?_eq_some_iff → q1Z, getD_eq_getElem?_getD → q2Z, getElem?_eq_getElem → q3Z, getElem?_append_left → q4Z, getElem?_append_right → q5Z, take_of_length_le → q6Z, mem_of_getElem? → qcZ, length_append → qdZ, mem_cons_self → qhZ, mem_cons_of_mem → qiZ, length_take → qjZ, mem_cons → qwZ, mem_append → qxZ, getElem_mem → r3Z, length_set → r8Z, mem_map → reZ, not_mem_nil → rtZ, getElem?_eq_none → s4Z, mem_filter → sbZ
open Nat renaming le_refl → qnZ
open Bool renaming false_eq_true → qsZ
open Option renaming getD_some → rgZ
namespace Go.Proofs.YtfhidaoiofeooaaGreatDoor
set_option maxRecDepth 100000
section
open Go Go.Lib Go.RowKit Go.Maps Go.Sort
def NM.wo(l:NM)(k:List UInt8):NM:=l.filter fun e=>!(e.1==k)
def NM.wi(l:NM)(k:List UInt8)(n:Int):NM:=l.takeWhile (fun e=>Op.bytesLess e.1 k)++(k,n)::l.filter fun e=>!(Op.bytesLess e.1 k || e.1==k)
structure Sm (W m:NM):Prop where
 srt:W.Pairwise fun a b=>a.1<b.1
 mem:∀k n,(k,n)∈W↔NM.get m k=some n
 nd:NM.nd m
theorem Sm.nil:Sm [] []:=⟨.nil,fun k n=>by simp[NM.get],List.nodup_nil⟩
theorem zGk{k:List UInt8}{e:List UInt8×Int}:∀{W:NM},W.Pairwise (fun a b=>a.1<b.1)->(e∈W.takeWhile (fun e=>Op.bytesLess e.1 k)↔e∈W/\e.1<k)
 | [],_=>by simp
 | a::W,h=>by
   obtain⟨h1,h2⟩:=List.pairwise_cons.1 h;rw[List.takeWhile_cons,bytesLess_eq];by_cases hk:a.1<k
   · rw[decide_eq_true hk,if_pos rfl,qwZ,qwZ,zGk h2]
     constructor
     · rintro (rfl | ⟨h3,h4⟩)
       · exact⟨.inl rfl,hk⟩
       · exact⟨.inr h3,h4⟩
     · rintro⟨rfl | h3,h4⟩
       · exact .inl rfl
       · exact .inr ⟨h3,h4⟩
   · rw[decide_eq_false hk]
     simp only[qsZ,if_false,rtZ,false_iff,qwZ,not_and];rintro (rfl | h3) h4
     · exact hk h4
     · exact hk (List.lt_trans (h1 e h3) h4)
theorem mem_filtG{k:List UInt8}{e:List UInt8×Int}{W:NM}:e∈W.filter (fun e=>!(Op.bytesLess e.1 k || e.1==k))↔e∈W/\k<e.1:=by
 rw[sbZ];refine and_congr_right fun _=>?_;rw[bytesLess_eq];simp only[Bool.not_eq_true',Bool.or_eq_false_iff,decide_eq_false_iff_not,beq_eq_false_iff_ne];constructor
 · rintro⟨h1,h2⟩
   rcases Std.lt_trichotomy e.1 k with h3 | h3 | h3
   · exact absurd h3 h1
   · exact absurd h3 h2
   · exact h3
 · intro h1
   exact⟨fun h2=>absurd (List.lt_trans h1 h2) (List.lt_irrefl _),fun h2=>by rw[h2]at h1;exact List.lt_irrefl _ h1⟩
theorem Sm.wi{W m:NM}(h:Sm W m)(k:List UInt8)(n:Int):Sm (NM.wi W k n) (NM.put m k n):=by
 refine ⟨?_,fun k' n'=>?_,NM.nd_put h.nd k n⟩
 · unfold NM.wi
   rw[List.pairwise_append];refine ⟨h.srt.sublist (List.takeWhile_sublist _),List.pairwise_cons.2 ⟨fun e he=>(mem_filtG.1 he).2,h.srt.sublist List.filter_sublist⟩,fun a ha b hb=>?_⟩;have h1:=(zGk h.srt).1 ha;rcases qwZ.1 hb with rfl | hb
   · exact h1.2
   · exact List.lt_trans h1.2 (mem_filtG.1 hb).2
 · unfold NM.wi
   rw[qxZ,qwZ,zGk h.srt,mem_filtG,NM.get_put,h.mem];dsimp only;by_cases e:k'=k
   · subst e
     rw[if_pos rfl];simp only[List.lt_irrefl,and_false,or_false,false_or,Prod.mk.injEq,true_and,Option.some.injEq];exact eq_comm
   · rw[if_neg e]
     simp only[Prod.mk.injEq,e,false_and,false_or];constructor
     · rintro (⟨h1,_⟩ | ⟨h1,_⟩) <;> exact h1
     · intro h1
       rcases Std.lt_trichotomy k' k with h3 | h3 | h3
       · exact .inl ⟨h1,h3⟩
       · exact absurd h3 e
       · exact .inr ⟨h1,h3⟩
theorem Sm.get{W m:NM}(h:Sm W m)(k:List UInt8):NM.get W k=NM.get m k:=by
 cases hg:NM.get m k with
 | none =>
   cases hw:NM.get W k with
   | none=>rfl
   | some v=>rw[(h.mem k v).1 (NM.get_mem hw)]at hg;cases hg
 | some v =>
   obtain⟨u,hu⟩:=NM.get_some.2 (reZ.2 ⟨_,(h.mem k v).2 hg,rfl⟩:k∈NM.keys W);rw[hu,<-hg,(h.mem k u).1 (NM.get_mem hu)]
theorem Sm.names{W m:NM}(h:Sm W m):W.map (·.1)=zDn m.keys:=by
 have hs:(W.map (·.1)).Pairwise fun a b=>a<b:=List.pairwise_map.2 h.srt
 have hn:(W.map (·.1)).Nodup:=by
   rw[List.nodup_iff_pairwise_ne];exact hs.imp fun {a b} hab e=>by rw[e]at hab;exact List.lt_irrefl _ hab
 have hp:(W.map (·.1)).Perm m.keys:=by
   refine (List.perm_ext_iff_of_nodup hn h.nd).2 fun k=>?_;rw[reZ,<-NM.get_some];constructor
   · rintro⟨⟨a,n⟩,h1,rfl⟩;exact⟨n,(h.mem _ _).1 h1⟩
   · rintro⟨n,h1⟩;exact⟨(k,n),(h.mem _ _).2 h1,rfl⟩
 refine List.Perm.eq_of_pairwise (le:=fun a b=>leB a b=true) (fun a b _ _ h1 h2=>?_) (hs.imp fun {a b} hab=>?_) (zDD _) (hp.trans (ZW _).symm)
 · simp only[leB,decide_eq_true_eq]at h1 h2
   exact List.le_antisymm h1 h2
 · simp only[leB,decide_eq_true_eq];exact Std.le_of_lt hab
theorem Sm.len{W m:NM}(h:Sm W m):W.length=m.length:=by
 have:=h.names;have h2:=congrArg List.length this;rw[(ZW _).length_eq]at h2;simpa[NM.keys] using h2
structure RF where
 was:List NM
 last:Int
def RF.new:RF:=⟨[[]],0⟩
def RF.now(r:RF):NM:=r.was.getD (r.was.length-1) []
def RF.find(r:RF)(k:List UInt8):Int×Bool:=match NM.get r.now k with
 | some n=>(n,true)
 | none=>(0,false)
def RF.create(r:RF)(k:List UInt8):RF×Int×Int :=
 if zNI k then match NM.get r.now k with
   | some _=>(r,0,8)
   | none=>(⟨r.was++[NM.wi r.now k (r.last+1)],r.last+1⟩,r.last+1,0)
 else (r,0,2)
def RF.rename(r:RF)(a b:List UInt8):RF×Int :=
 if zNI b then match NM.get r.now a with
   | some n=>(⟨r.was++[NM.wi (NM.wo r.now a) b n],r.last⟩,0)
   | none=>(r,9)
 else (r,2)
def RF.remove(r:RF)(k:List UInt8):RF×Int:=match NM.get r.now k with
 | some _=>(⟨r.was++[NM.wo r.now k],r.last⟩,0)
 | none=>(r,9)
def RF.names(r:RF):List (List UInt8):=r.now.map (·.1)
def RF.clamp(r:RF)(n:Int):Nat:=(max 0 (min n ((r.was.length-1:Nat):Int))).toNat
def RF.survive(r:RF)(n:Int):RF:=⟨[r.was.getD (r.clamp n) []],r.last⟩
structure RF.rel (r:RF) (f:FD):Prop where
 len:r.was.length=f.acts.length+1
 sm:∀i W,r.was[i]? = some W->Sm W (Z5 f.d (f.acts.take i))
 last:r.last=f.last
theorem RF.rel_new:RF.new.rel FD.new:=⟨rfl,fun i W h=>by
 match i,h with
 | 0,h=>cases h;exact Sm.nil
 | i+1,h=>simp[RF.new]at h,rfl⟩
theorem RF.rel.now{r:RF}{f:FD}(h:r.rel f):Sm r.now f.now:=by
 have hl:=h.len;have h1:r.was[r.was.length-1]? = some r.now:=by
   unfold RF.now;rw[q2Z,q3Z (by omega)];rfl
 have:=h.sm _ _ h1
 rwa [hl,Nat.add_sub_cancel,List.take_length]at this
theorem RF.rel.get{r:RF}{f:FD}(h:r.rel f)(k:List UInt8):NM.get r.now k=f.now.get k:=h.now.get k
theorem RF.rel.names{r:RF}{f:FD}(h:r.rel f):r.names=f.names:=h.now.names
theorem RF.rel.act{r:RF}{f:FD}(h:r.rel f){W:NM}{x:DAct}{n:Int}(hW:Sm W (x.run f.now)):RF.rel ⟨r.was++[W],n⟩ ⟨f.d,f.acts++[x],n⟩:=by
 have hl:=h.len;refine ⟨by simp[hl],fun i V hi=>?_,rfl⟩;dsimp only at hi ⊢;rcases Nat.lt_trichotomy i r.was.length with h1 | h1 | h1
 · rw[q4Z h1]at hi
   rw[List.take_append_of_le_length (by omega)];exact h.sm i V hi
 · subst h1
   rw[q5Z (qnZ _),Nat.sub_self]at hi;cases hi;rw[q6Z (by simp;omega),zBs];exact hW
 · rw[s4Z (by simp;omega)]at hi;cases hi
theorem RF.rel.create{r:RF}{f:FD}(h:r.rel f)(k:List UInt8):(r.create k).1.rel (f.create k).1/\(r.create k).2=(f.create k).2:=by
 unfold RF.create FD.create;rw[h.get,h.last];split
 · cases hg:NM.get f.now k with
   | some n=>exact⟨h,rfl⟩
   | none=>exact⟨h.act (x:=.cre k (f.last+1)) (h.now.wi k _),rfl⟩
 · exact⟨h,rfl⟩
theorem RF.rel.clamp{r:RF}{f:FD}(h:r.rel f)(n:Int):r.clamp n=f.clamp n:=by
 unfold RF.clamp FD.clamp;rw[h.len,Nat.add_sub_cancel]
theorem RF.rel.survive{r:RF}{f:FD}(h:r.rel f)(n:Int):(r.survive n).rel (f.survive n):=by
 have hl:=h.len;have hc:f.clamp n<=f.acts.length:=by unfold FD.clamp;omega
 have h1:r.was[f.clamp n]? = some (r.was.getD (f.clamp n) []):=by
   rw[q2Z,q3Z (by omega)];rfl
 refine ⟨rfl,fun i W hi=>?_,h.last⟩;unfold RF.survive FD.survive at *;rw[h.clamp]at hi
 match i,hi with
 | 0,hi=>cases hi;exact h.sm _ _ h1
 | i+1,hi=>simp at hi
structure RF.ok (r:RF) (B:Nat):Prop where
 ne:0<r.was.length
 len:r.was.length<=B+1
 row:∀W∈r.was,W.length<=B
 lo:0<=r.last
 hi:r.last<=B
theorem RF.rel.ok{r:RF}{f:FD}{B:Nat}(h:r.rel f)(hf:f.ok B):r.ok B:=by
 have hl:=h.len;have h1:=hf.len;refine ⟨by omega,by omega,fun W hW=>?_,by rw[h.last];exact hf.lo,by rw[h.last];exact hf.hi⟩;obtain⟨i,hi⟩:=List.getElem?_of_mem hW;rw[(h.sm i W hi).len];have:=(zFh (f.acts.take i) hf.short fun x hx=>hf.fine x (List.mem_of_mem_take hx)).2;rw[qjZ]at this;omega
end
section
open Go Go.Lib
structure RS where
 dir:RF
 F:List PF
 room:Int
 steps:Int
 left:Int
 down:Bool
def RS.new(q:Int):RS:=⟨RF.new,[],q,0,0,false⟩
def RS.count(r:RS):RS :=
 if 0<r.left/\r.down=false then ⟨r.dir,r.F,r.room,r.steps+1,r.left-1,decide (r.left-1=0)⟩
 else ⟨r.dir,r.F,r.room,r.steps+1,r.left,r.down⟩
def RS.step(r:RS)(g:RS->RS×Int):RS×Int:=if r.count.down then (r.count,13) else g r.count
def RS.file(r:RS)(k:List UInt8):Option PF:=match NM.get r.dir.now k with
 | some n=>r.F[(n-1).toNat]?
 | none=>none
def RS.text(r:RS)(k:List UInt8):List UInt8:=match r.file k with
 | some f=>f.now
 | none=>[]
def RS.list(r:RS):List (List UInt8):=if r.down then [] else r.dir.names
def RS.files(r:RS):List (List UInt8×List UInt8):=r.list.map fun k=>(k,r.text k)
def RS.used(r:RS):Nat:=(r.list.map fun k=>(r.text k).length).sum
def RS.create(r:RS)(k:List UInt8):RS×Int:=r.step fun r =>
 if (r.dir.create k).2.2=0 then (⟨(r.dir.create k).1,r.F++[⟨[],[]⟩],r.room,r.steps,r.left,r.down⟩,0)
 else (⟨(r.dir.create k).1,r.F,r.room,r.steps,r.left,r.down⟩,(r.dir.create k).2.2)
def RS.of(r:RS)(k:List UInt8)(g:RS->PF->PF×Int):RS×Int:=r.step fun r =>
 match NM.get r.dir.now k with
 | none=>(r,9)
 | some n=>match r.F[(n-1).toNat]? with
   | none=>(r,1)
   | some f=>(⟨r.dir,r.F.set (n-1).toNat (g r f).1,r.room,r.steps,r.left,r.down⟩,(g r f).2)
def RS.free(r:RS):Nat:=(max 0 (r.room-r.used)).toNat
def RS.append(r:RS)(k:List UInt8)(s:List UInt8):RS×Int:=r.of k fun r f=>if r.free<s.length then (f.add (s.take r.free),10) else (f.add s,0)
def RS.sync(r:RS)(k:List UInt8):RS×Int:=r.of k fun _ f=>(⟨f.now,[]⟩,0)
def RS.syncDir(r:RS):RS×Int:=r.step fun r=>(⟨r.dir.survive ((r.dir.was.length-1:Nat):Int),r.F,r.room,r.steps,r.left,r.down⟩,0)
def RS.arm(r:RS)(n:Int):RS:=⟨r.dir,r.F,r.room,r.steps,max 0 n,r.down⟩
def RS.size(r:RS)(k:List UInt8):Int×Int:=if r.down then (0,13) else match NM.get r.dir.now k with
 | none=>(0,9)
 | some m=>match r.F[(m-1).toNat]? with
   | none=>(0,0)
   | some f=>(f.now.length,0)
def zBH(dir:RF)(s:List Int×List PF)(k:List UInt8):List Int×List PF :=
 (s.1.tail.tail,match NM.get dir.now k with
   | some n=>s.2.set (n-1).toNat ⟨((s.2[(n-1).toNat]?).getD ⟨[],[]⟩).stays (s.1.headD 0) (s.1.tail.headD 0),[]⟩
   | none=>s.2)
def RS.restart(r:RS)(l:List Int):RS :=
 ⟨r.dir.survive (l.headD 0),((r.dir.survive (l.headD 0)).names.foldl (zBH (r.dir.survive (l.headD 0))) (l.tail,r.F)).2,r.room,r.steps,0,false⟩
@[simp] theorem RS.count_dir(r:RS):r.count.dir=r.dir:=by unfold RS.count;split <;> rfl
@[simp] theorem RS.count_F(r:RS):r.count.F=r.F:=by unfold RS.count;split <;> rfl
@[simp] theorem RS.count_room(r:RS):r.count.room=r.room:=by unfold RS.count;split <;> rfl
@[simp] theorem RS.count_steps(r:RS):r.count.steps=r.steps+1:=by unfold RS.count;split <;> rfl
structure RD (r:RS) (d:DS) (A B:Nat):Prop where
 ok:d.ok A B
 dir:r.dir.rel d.fd
 file:∀n f,FS.get d.fs n=some f->r.F[(n-1).toNat]? = some f
 flen:(r.F.length:Int)=r.dir.last
 fine:∀f∈r.F,f.ok B
 room:r.room=d.quota
 steps:r.steps=d.steps
 left:r.left=d.armed
 down:r.down=d.down
theorem RD.new(q:Int)(h0:0<=q)(h1:q<=4611686018427387903):RD (RS.new q) (DS.new q) 0 0 :=
 ⟨DS.ok_new q h0 h1,RF.rel_new,fun n f h=>by simp[DS.new,FS.get]at h,rfl,fun f h=>by simp[RS.new]at h,rfl,rfl,rfl,rfl⟩
theorem RD.mono{r:RS}{d:DS}{A B A' B':Nat}(h:RD r d A B)(ha:A<=A')(hb:B<=B'):RD r d A' B' :=
 ⟨DS.ok_mono h.ok ha hb,h.dir,h.file,h.flen,fun f hf=>PF.ok_mono (h.fine f hf) hb,h.room,h.steps,h.left,h.down⟩
theorem RD.count{r:RS}{d:DS}{A B:Nat}(h:RD r d A B):RD r.count d.count (A+1) B:=by
 have e1:=h.left;have e2:=h.down;refine ⟨DS.ok_count h.ok,by simpa using h.dir,by simpa using h.file,by simpa using h.flen,by simpa using h.fine,by simpa using h.room,by simpa using h.steps,?_,?_⟩
 · unfold RS.count DS.count;rw[e1,e2];split <;> rfl
 · unfold RS.count DS.count;rw[e1,e2];split <;> rfl
theorem RD.num{r:RS}{d:DS}{A B:Nat}(h:RD r d A B){k:List UInt8}{n:Int}(hk:d.fd.now.get k=some n):∃f,FS.get d.fs n=some f/\1<=n/\r.F[(n-1).toNat]? = some f/\f.ok B:=by
 obtain⟨f,hf,hb⟩:=DS.has_file h.ok hk;exact⟨f,hf,(h.ok.rng n (FS.get_some.1 ⟨f,hf⟩)).1,h.file n f hf,hb⟩
theorem RD.text{r:RS}{d:DS}{A B:Nat}(h:RD r d A B)(k:List UInt8):r.text k=d.text k:=by
 unfold RS.text DS.text RS.file DS.file;rw[h.dir.get];cases hk:d.fd.now.get k with
 | none=>rfl
 | some n =>
   obtain⟨f,h1,_,h2,_⟩:=h.num hk;simp only[h1,h2]
theorem RD.list{r:RS}{d:DS}{A B:Nat}(h:RD r d A B):r.list=d.list:=by
 unfold RS.list DS.list;rw[h.down,h.dir.names]
theorem RD.files{r:RS}{d:DS}{A B:Nat}(h:RD r d A B):r.files=d.files:=by
 unfold RS.files DS.files;rw[h.list];exact List.map_congr_left fun k _=>by rw[h.text]
theorem RD.used{r:RS}{d:DS}{A B:Nat}(h:RD r d A B):r.used=d.used:=by
 unfold RS.used DS.used;rw[h.list]
 congr 1
 exact List.map_congr_left fun k _=>by rw[h.text]
theorem RD.free{r:RS}{d:DS}{A B:Nat}(h:RD r d A B):r.free=d.room:=by
 unfold RS.free DS.room;rw[h.used,h.room]
theorem RD.create{r:RS}{d:DS}{A B:Nat}(h:RD r d A B)(k:List UInt8):RD (r.create k).1 (d.create k).1 (A+2) B/\(r.create k).2=(d.create k).2:=by
 have hok:=DS.ok_create h.ok k;have key:r.count.down=d.count.down:=h.count.down;unfold RS.create DS.create RS.step DS.step at *;rw[key];split
 · rename_i hd
   exact⟨h.count.mono (by omega) (qnZ _),rfl⟩
 · rename_i hd
   rw[if_neg hd]at hok;have h:=h.count;generalize r.count=r at h;generalize d.count=d at h hok;dsimp only at hok ⊢;obtain⟨h1,h2⟩:=h.dir.create k;have h3:(r.dir.create k).2.2=(d.fd.create k).2.2:=by rw[h2]
   have h4:(r.dir.create k).2.1=(d.fd.create k).2.1:=by rw[h2]
   have hc:(r.dir.create k).2.2=0->(r.dir.create k).1.last=r.dir.last+1/\(r.dir.create k).2.1=r.dir.last+1:=by
     unfold RF.create;split
     · split
       · intro h;cases h
       · intro _;exact⟨rfl,rfl⟩
     · intro h;cases h
   have hc':(r.dir.create k).2.2≠0->(r.dir.create k).1.last=r.dir.last:=by
     unfold RF.create;split
     · split
       · intro _;rfl
       · intro h;exact absurd rfl h
     · intro _;rfl
   rw[<-h3]at hok ⊢;by_cases he:(r.dir.create k).2.2=0
   · rw[if_pos he]at hok ⊢
     rw[if_pos he];obtain⟨c1,c2⟩:=hc he;have hl:=h.flen;have hn:=h.ok.num.1;have hdl:=h.dir.last;refine ⟨⟨hok,h1,fun n f hf=>?_,?_,fun f hf=>?_,h.room,h.steps,h.left,h.down⟩,rfl⟩
     · dsimp only at hf ⊢
       rw[FS.get_app]at hf;split at hf
       · cases hf
         rename_i hx;have:=h.file n _ hx;rw[q4Z (q1Z.1 this).1];exact this
       · split at hf
         · cases hf
           rename_i e;rw[<-e,<-h4,c2];rw[q5Z (by omega),show (r.dir.last+1-1).toNat-r.F.length=0 by omega];rfl
         · cases hf
     · dsimp only
       rw[c1,qdZ];simp;omega
     · rcases qxZ.1 hf with hf | hf
       · exact h.fine f hf
       · simp at hf;subst hf;exact PF.ok_new _ _ (by simp)
   · rw[if_neg he]at hok ⊢
     rw[if_neg he];exact⟨⟨hok,h1,h.file,by dsimp only;rw[hc' he];exact h.flen,h.fine,h.room,h.steps,h.left,h.down⟩,rfl⟩
theorem RD.of{r:RS}{d:DS}{A B C:Nat}(h:RD r d A B)(k:List UInt8){g:RS->PF->PF×Int}{g':DS->PF->PF×Int}(hBC:B<=C)(hok:(d.of k g').1.ok (A+1) C)
   (hg:RD r.count d.count (A+1) B->∀f,f.ok B->g r.count f=g' d.count f/\(g' d.count f).1.ok C):RD (r.of k g).1 (d.of k g').1 (A+1) C/\(r.of k g).2=(d.of k g').2:=by
 have key:r.count.down=d.count.down:=h.count.down;unfold RS.of DS.of RS.step DS.step at *;rw[key];split
 · exact⟨h.count.mono (by omega) hBC,rfl⟩
 · rename_i hd
   rw[if_neg hd]at hok;have h:=h.count;have hg:=hg h;generalize r.count=r at h hg;generalize d.count=d at h hok hg;dsimp only at hok ⊢;rw[h.dir.get];cases hk:d.fd.now.get k with
   | none=>exact⟨h.mono (qnZ _) hBC,rfl⟩
   | some n =>
     obtain⟨f,h1,h2,h3,h4⟩:=h.num hk;rw[hk]at hok;simp only[h1,h3]at hok ⊢;obtain⟨e,hc⟩:=hg f h4;rw[e];refine ⟨⟨hok,h.dir,fun m f' hf=>?_,by dsimp only;rw[r8Z];exact h.flen,fun f' hf=>?_,h.room,h.steps,h.left,h.down⟩,rfl⟩
     · dsimp only at hf ⊢
       rw[FS.get_upd]at hf;rw[List.getElem?_set];split at hf
       · rename_i e
         subst e;rw[h1]at hf;cases hf;rw[if_pos rfl,if_pos (q1Z.1 h3).1]
       · rename_i hne
         have hm:=(h.ok.rng m (FS.get_some.1 ⟨_,hf⟩)).1;rw[if_neg (by omega)];exact h.file m f' hf
     · rcases List.mem_or_eq_of_mem_set hf with hf | rfl
       · exact PF.ok_mono (h.fine f' hf) hBC
       · exact hc
theorem RD.append{r:RS}{d:DS}{A B:Nat}(h:RD r d A B)(k s:List UInt8)(K:Nat)(hK:1<=K)(hq:d.quota<=K):RD (r.append k s).1 (d.append k s).1 (A+1) (B+K)/\(r.append k s).2=(d.append k s).2:=by
 have hr:=d.count.room_le (by rw[DS.count_quota];exact h.ok.q0);rw[DS.count_quota]at hr;refine h.of k (by omega) (DS.ok_append h.ok k s K hK hq) fun hc f hf=>?_;rw[hc.free];refine ⟨rfl,?_⟩;split
 · exact PF.ok_add hf _ (by rw[qjZ];omega) hK
 · exact PF.ok_add hf _ (by omega) hK
theorem RD.sync{r:RS}{d:DS}{A B:Nat}(h:RD r d A B)(k:List UInt8):RD (r.sync k).1 (d.sync k).1 (A+1) B/\(r.sync k).2=(d.sync k).2 :=
 h.of k (qnZ _) (DS.ok_sync h.ok k) fun _ _ hf=>⟨rfl,PF.ok_new _ _ (PF.ok_now hf)⟩
theorem RD.names{r:RS}{d:DS}{A B A':Nat}(h:RD r d A B){g:RF->RF×Int}{g':FD->FD×Int}
   (hok:(d.step fun d=>(⟨(g' d.fd).1,d.fs,d.quota,d.steps,d.armed,d.down⟩,(g' d.fd).2)).1.ok A' B) (hA:A+1<=A')
   (hg:∀r f,RF.rel r f->(g r).1.rel (g' f).1/\(g r).2=(g' f).2/\(g r).1.last=r.last) :
   RD (r.step fun r=>(⟨(g r.dir).1,r.F,r.room,r.steps,r.left,r.down⟩,(g r.dir).2)).1 (d.step fun d=>(⟨(g' d.fd).1,d.fs,d.quota,d.steps,d.armed,d.down⟩,(g' d.fd).2)).1 A' B /\
   (r.step fun r=>(⟨(g r.dir).1,r.F,r.room,r.steps,r.left,r.down⟩,(g r.dir).2)).2=(d.step fun d=>(⟨(g' d.fd).1,d.fs,d.quota,d.steps,d.armed,d.down⟩,(g' d.fd).2)).2:=by
 have key:r.count.down=d.count.down:=h.count.down;unfold RS.step DS.step at *;rw[key];split
 · exact⟨h.count.mono hA (qnZ _),rfl⟩
 · rename_i hd
   rw[if_neg hd]at hok;have h:=h.count;obtain⟨h1,h2,h3⟩:=hg _ _ h.dir;exact⟨⟨hok,h1,h.file,by dsimp only;rw[h3];exact h.flen,h.fine,h.room,h.steps,h.left,h.down⟩,h2⟩
theorem RD.syncDir{r:RS}{d:DS}{A B:Nat}(h:RD r d A B):RD r.syncDir.1 d.syncDir.1 (A+2) B/\r.syncDir.2=d.syncDir.2 :=
 h.names (g:=fun r=>(r.survive ((r.was.length-1:Nat):Int),0)) (g':=fun f=>(f.survive f.acts.length,0)) (DS.ok_syncDir h.ok) (by omega) fun r f hf=>⟨by dsimp only;rw[hf.len,Nat.add_sub_cancel];exact hf.survive _,rfl,rfl⟩
theorem RD.arm{r:RS}{d:DS}{A B:Nat}(h:RD r d A B)(n:Int)(hn:n<=4611686018427387903):RD (r.arm n) (d.arm n) A B :=
 ⟨DS.ok_arm h.ok n hn,h.dir,h.file,h.flen,h.fine,h.room,h.steps,rfl,h.down⟩
theorem RD.size{r:RS}{d:DS}{A B:Nat}(h:RD r d A B)(k:List UInt8):r.size k=d.size k:=by
 unfold RS.size DS.size;rw[h.down,h.dir.get];split
 · rfl
 · cases hk:d.fd.now.get k with
   | none=>rfl
   | some m =>
     obtain⟨f,h1,_,h2,_⟩:=h.num hk;simp only[h1,h2]
structure StR (fs0:FS) (s:List Int×FS×List Int) (t:List Int×List PF) (B n:Nat):Prop where
 row:t.1=s.1
 file:∀n f,FS.get s.2.1 n=some f->t.2[(n-1).toNat]? = some f
 keys:FS.keys s.2.1=FS.keys fs0
 fine:∀f∈t.2,f.ok B
 len:t.2.length=n
theorem StR.one{fs0:FS}{s:List Int×FS×List Int}{t:List Int×List PF}{B m:Nat}(h:StR fs0 s t B m){dir:RF}{fd:FD}(hd:dir.rel fd){k:List UInt8}{n:Int}(hk:fd.now.get k=some n)(hn:n∈FS.keys fs0)
   (hpos:∀n∈FS.keys fs0,1<=n):StR fs0 (zAF fd s k) (zBH dir t k) B m:=by
 obtain⟨f,hf⟩:=FS.get_some.2 (by rw[h.keys];exact hn:n∈FS.keys s.2.1);have h1:=h.file n f hf;have hok:=h.fine f (qcZ h1);have hg:NM.get dir.now k=some n:=by rw[hd.get,hk]
 have hfi:=FD.find_get hk;refine ⟨?_,fun m f' hm=>?_,?_,fun f' hf'=>?_,?_⟩
 · simp only[zAF,zBH,h.row]
 · simp only[zAF,hfi]at hm
   simp only[zBH,hg,h1,rgZ,h.row];rw[FS.get_upd]at hm;rw[List.getElem?_set];split at hm
   · rename_i e
     subst e;rw[hf]at hm;cases hm;rw[if_pos rfl,if_pos (q1Z.1 h1).1]
   · have a1:=hpos m (by rw[<-h.keys];exact FS.get_some.1 ⟨_,hm⟩)
     have a2:=hpos n hn;rw[if_neg (by omega)];exact h.file m f' hm
 · simp only[zAF];rw[FS.keys_upd];exact h.keys
 · simp only[zBH,hg,h1,rgZ]at hf'
   rcases List.mem_or_eq_of_mem_set hf' with hf' | rfl
   · exact h.fine f' hf'
   · exact PF.ok_new _ _ (PF.ok_stays hok _ _)
 · simp only[zBH,hg,r8Z];exact h.len
theorem StR.all{fs0:FS}{B m:Nat}{dir:RF}{fd:FD}(hd:dir.rel fd)(hpos:∀n∈FS.keys fs0,1<=n):∀(ks:List (List UInt8)) {s:List Int×FS×List Int} {t:List Int×List PF},StR fs0 s t B m ->
   (∀k∈ks,∃n,fd.now.get k=some n/\n∈FS.keys fs0)->StR fs0 (ks.foldl (zAF fd) s) (ks.foldl (zBH dir) t) B m
 | [],_,_,h,_=>h
 | k::ks,_,_,h,hk=>by
   obtain⟨n,h1,h2⟩:=hk k (qhZ ..);exact StR.all hd hpos ks (h.one hd h1 h2 hpos) fun k' h'=>hk k' (qiZ _ h')
theorem RD.restart{r:RS}{d:DS}{A B:Nat}(h:RD r d A B)(l:List Int):RD (r.restart l) (d.restart l) A B:=by
 have hok:=DS.ok_restart h.ok l;obtain⟨fd,hfd⟩:∃fd,d.fd.survive (l.headD 0)=fd:=⟨_,rfl⟩
 obtain⟨rd,hrd⟩:∃rd,r.dir.survive (l.headD 0)=rd:=⟨_,rfl⟩
 have hr:rd.rel fd:=by rw[<-hfd,<-hrd];exact h.dir.survive _
 have h3:fd.each (zOT d.fs):=by rw[<-hfd];exact FD.each_survive h.ok.has _
 have hk:∀k∈fd.names,∃n,fd.now.get k=some n/\n∈FS.keys d.fs:=fun k hk=>by
   obtain⟨n,hn⟩:=FD.names_get hk;exact⟨n,hn,FD.each_now h3 k n hn⟩
 have hpos:∀n∈FS.keys d.fs,1<=n:=fun n hn=>(h.ok.rng n hn).1;have hs:=StR.all (B:=B) (m:=r.F.length) hr hpos fd.names (s:=(l.tail,d.fs,[])) (t:=(l.tail,r.F)) ⟨rfl,h.file,rfl,h.fine,rfl⟩ hk;have hm:=zCO fd fd.names (l.tail,d.fs,[]);unfold RS.restart;rw[hrd,hr.names];have hlast:rd.last=r.dir.last:=by rw[<-hrd];rfl
 refine ⟨hok,by unfold DS.restart;rw[hfd];exact hr,fun n f hf=>?_,by dsimp only;rw[hs.len,hlast];exact h.flen,hs.fine,h.room,h.steps,rfl,rfl⟩;unfold DS.restart at hf;rw[hfd]at hf;dsimp only at hf;have hn:n∈(zA0 fd l.tail d.fs fd.names).2.2:=by
   have:=FS.get_some.1 ⟨_,hf⟩
   rwa [zDX]at this
 rw[zG5 _ _ _ hn]at hf;have hn2:n∈FS.keys (zA0 fd l.tail d.fs fd.names).2.1:=by
   have:=hs.keys;unfold zA0 at hn ⊢;rw[this];rcases (hm n).1 hn with h1 | ⟨k,h1,h2⟩
   · cases h1
   · obtain⟨n',h4,h5⟩:=hk k h1
     rw[FD.find_get h4]at h2;dsimp only at h2;rw[<-h2];exact h5
 obtain⟨f',hf'⟩:=FS.get_some.2 hn2;rw[hf']at hf;cases hf;exact hs.file n _ hf'
structure RS.ok (r:RS) (A B:Nat):Prop where
 dir:r.dir.ok A
 flen:(r.F.length:Int)=r.dir.last
 fine:∀f∈r.F,f.ok B
 has:∀W∈r.dir.was,∀k n,NM.get W k=some n->1<=n/\n<=r.F.length
 q0:0<=r.room
 q1:r.room<=4611686018427387903
 s0:0<=r.steps
 s1:r.steps<=A
 a0:0<=r.left
 a1:r.left<=4611686018427387903
theorem RS.ok.hasN{r:RS}{A B:Nat}(h:r.ok A B)(k:List UInt8)(n:Int)(hk:NM.get r.dir.now k=some n):1<=n/\n<=r.F.length:=by
 have h0:=h.dir.ne;refine h.has _ ?_ k n hk;unfold RF.now;rw[q2Z,q3Z (by omega)];exact r3Z _
theorem RD.rok{r:RS}{d:DS}{A B:Nat}(h:RD r d A B):r.ok A B:=by
 have hl:=h.flen;refine ⟨h.dir.ok h.ok.fd,hl,h.fine,fun W hW k n hk=>?_,by rw[h.room];exact h.ok.q0,by rw[h.room];exact h.ok.q1,by rw[h.steps];exact h.ok.s0,by rw[h.steps];exact h.ok.s1,by rw[h.left];exact h.ok.a0,by rw[h.left];exact h.ok.a1⟩;obtain⟨i,hi⟩:=List.getElem?_of_mem hW;have hil:i<r.dir.was.length:=(q1Z.1 hi).1;rw[(h.dir.sm i W hi).get]at hk;have hm:=h.ok.has i (by have:=h.dir.len;omega) k n hk;have hr:=h.ok.rng n hm;have hdl:=h.dir.last;omega
end
end Go.Proofs.YtfhidaoiofeooaaGreatDoor
