/- Parts of the proof of WalTells: lemmas, each with its own conditions. -/
import Derived.Shelf.SlMaps.Clone
import Derived.Test.YtfhidaoiofeooaaGreatDoorIter
import Derived.Test.YtfhidaoiofeooaaGreatDoorY10
set_option maxHeartbeats 64000000
open List renaming getElem?_eq_some_iff → q1Z, getElem?_eq_getElem → q3Z, getElem?_append_left → q4Z, length_cons → q7Z, length_nil → q8Z, cons_append → q9Z, nil_append → qaZ, replicate → qbZ, mem_of_getElem? → qcZ, mem_cons_self → qhZ, mem_cons_of_mem → qiZ, length_take → qjZ, mem_cons → qwZ, mem_append → qxZ, getElem?_map → qzZ, mem_singleton → r1Z, getElem?_take → r4Z, length_map → r7Z, getElem?_cons_succ → r9Z, mem_map → reZ, map_append → roZ, map_cons → s1Z, getElem?_eq_none → s4Z, getElem?_append → s7Z, set_cons_zero → s9Z, set_cons_succ → saZ
open Nat renaming le_refl → qnZ, lt_or_ge → s2Z, zero_add → s8Z
open Array renaming getElem?_eq_some_iff → qtZ
open Option renaming map_some → rhZ
namespace Go.Proofs.YtfhidaoiofeooaaGreatDoor
open _root_.Go.Proofs.Tryz renaming prog → Pz
set_option maxRecDepth 100000
section
open Go.RowKit Go.Maps Go.Sort Go.Shelf
theorem zVL{j:Inj}{H:zA}{w w':World}(h:R j H w)(hb:RowKit.Below w.heap.size w w'){g T:Nat}{cur:Array Value}(hg:w.heap.size<=g)(hc:w'.heap[g]? = some (.cells cur T (0,0))){l:List AV}(hle0:l.length<=cur.size)
   (hl:VRs j l (cur.toList.take l.length)):Step H.length j H w (zBj j H.length ⟨g,0,cur.size⟩) (H++[.cells true l]) w':=by
 have hnone:j H.length=none:=h.dom _ (qnZ _);have hle:JLe j (zBj j H.length ⟨g,0,cur.size⟩):=zBr hnone;have hold:∀c,c<w.heap.size->w'.heap[c]? = w.heap[c]?:=fun c hc=>hb.block c hc;have hcase:∀c y q,(H++[ABlk.cells true l])[c]? = some y->zBj j H.length ⟨g,0,cur.size⟩ c=some q->(c=H.length/\y=.cells true l/\q=⟨g,0,cur.size⟩)\/(c≠H.length/\H[c]? = some y/\j c=some q):=by
   intro c y q hc hq;rw[s7Z]at hc;split at hc <;> rename_i hlt
   · exact .inr ⟨by omega,hc,by rw[ZI,if_neg (by omega)]at hq;exact hq⟩
   · have hc0:c=H.length:=by
       rcases s2Z (c-H.length) 1 with h1 | h1
       · omega
       · rw[s4Z (by simpa using h1)]at hc;cases hc
     subst hc0;simp at hc;rw[zg]at hq;cases hq;exact .inl ⟨rfl,hc.symm,rfl⟩
 refine Step.make h ⟨?_,?_,?_⟩ ?_ (by simp) ⟨hb.os,hb.tape,hb.output,hb.size,fun c hc _=>hold c hc⟩ ?_
 · intro b hb
   simp at hb;rw[ZI,if_neg (by omega)];exact h.dom b (by omega)
 · intro b y p hb hp
   rcases hcase b y p hb hp with⟨rfl,rfl,rfl⟩ | ⟨_,hb',hp'⟩
   · refine ⟨cur,T,(0,0),hc,rfl,by simpa using hle0,fun i x hx=>?_,fun _ i _ hh=>by simp at hh⟩
     obtain⟨v,hv,hr⟩:=hl.at hx;refine ⟨v,?_,hr.mono hle⟩;rw[r4Z]at hv;split at hv
     · simpa using hv
     · cases hv
   · exact (h.blk b y p hb' hp').mono hle fun hx=>hold _ (h.ltx hb' hx hp')
 · intro b b' y z p p' hb hy hb' hx hne hp hp'
   rcases hcase b y p hb hp with⟨rfl,rfl,rfl⟩ | ⟨e1,h1,h2⟩ <;> rcases hcase b' z p' hb' hp' with⟨rfl,rfl,rfl⟩ | ⟨e2,k1,k2⟩
   · exact absurd rfl hne
   · have:=h.ltx k1 hx k2;dsimp only;omega
   · have:=h.ltx h1 (Zn hy) h2;dsimp only;omega
   · exact h.inj b b' y z p p' h1 hy k1 hx hne h2 k2
 · intro b hb
   rw[ZI,if_neg (by omega)]
 · intro b y p hb hy hp
   rcases hcase b y p hb hp with⟨rfl,rfl,rfl⟩ | ⟨_,hb',hp'⟩
   · exact .inl ⟨hg,rfl⟩
   · exact .inr ⟨b,y,p,hb',hy,hp',rfl,id,fun _=>⟨rfl,rfl,rfl,rfl⟩⟩
def zSM{H:Type}:Value->Option (DataW H×List MemPlace):=fun _=>some (.nil,[])
theorem zWk:∀{es:List (AV×AV)} {ks:List (List UInt8)},ZY (es.map (·.1))=some ks->ks.length=es.length/\∀(i:Nat) x,es[i]? = some x->∃k,ks[i]? = some k/\x.1=.str k:=by
 intro es ks h;have e:=zB2 h;have hl:ks.length=es.length:=by
   have:=congrArg List.length e;simpa using this.symm
 refine ⟨hl,fun i x hx=>?_⟩;have hi:i<ks.length:=by rw[hl];exact (q1Z.1 hx).1
 refine ⟨ks[i],q3Z hi,?_⟩;have:=congrArg (fun l=>l[i]?) e;simp only[qzZ,hx,q3Z hi,rhZ,Option.some.injEq]at this;exact this
theorem zWw{P:Program}{K:TypeId}(hK:P.underlying K=some .string){j:Inj}{es:List (AV×AV)}{ents:Array MapEntry}{cl:Nat}(hs:MapKept.Stamped ents cl)(hm:MRel j es ents.toList){ks:List (List UInt8)}(hk:ZY (es.map (·.1))=some ks)
   (hb:ks.length<=1000000/\∀k∈ks,k.length<=1000000) {w:World} {b:Nat} (hw:w.heap[b]? = some (.map ents cl)) :
   ∃D:DataW Unit,w.ownsMap P K zSM b ents.size D/\(strKeys D).Perm ks/\Maps.size D=ks.length:=by
 obtain⟨hl,hat⟩:=zWk hk;have key:∀x∈ents.toList,∃k,k∈ks/\x.key=.string ⟨k.toArray⟩/\WideElems.rd P K (zSM (H:=Unit)) x=some (.string k,.nil):=by
   intro x hx;obtain⟨i,hi⟩:=List.getElem?_of_mem hx;have hil:i<es.length:=by rw[hm.1];exact (q1Z.1 hi).1
   obtain⟨k,h1,h2⟩:=hat i _ (q3Z hil);have h3:=(hm.2 i _ x (q3Z hil) hi).1;rw[h2]at h3;simp only[VR]at h3;have hkm:=qcZ h1;refine ⟨k,hkm,h3,?_⟩;have hkl:k.length<=maxLen:=by have:=hb.2 k hkm;unfold maxLen;omega
   have:keyOf P K x.key=some (.string k):=by
     rw[h3];unfold keyOf;rw[hK];dsimp only;unfold mapKey;rw[hK];simp[ByteArray.size,hkl]
   simp[WideElems.rd,this,zSM]
 have hperm:((ents.toList.map (WideElems.rg P K (zSM (H:=Unit)))).foldr DataW.insert []).Perm (ents.toList.map (WideElems.rg P K (zSM (H:=Unit)))):=WideShapes.sorted_perm _;have hkeys:(ents.toList.map (WideElems.rg P K (zSM (H:=Unit)))).map (fun p=>strOf p.1)=ks:=by
   refine List.ext_getElem? fun i=>?_;simp only[qzZ];cases hx:ents.toList[i]? with
   | none =>
     have:ks.length<=i:=by rw[hl,hm.1];exact List.getElem?_eq_none_iff.1 hx
     rw[s4Z this];rfl
   | some x =>
     obtain⟨k,h1,h2,h3⟩:=key x (qcZ hx);have hil:i<es.length:=by rw[hm.1];exact (q1Z.1 hx).1
     obtain⟨k',h4,h5⟩:=hat i _ (q3Z hil);have h6:=(hm.2 i _ x (q3Z hil) hx).1;rw[h5]at h6;simp only[VR]at h6;rw[h4];have e:k=k':=by
       rw[h2]at h6;have:=congrArg (fun v:Value=>match v with | .string s=>s.data.toList | _=>[]) h6;simpa using this
     simp only[rhZ,WideElems.rg_of h3,e];rfl
 refine ⟨_,⟨ents,cl,hw,⟨?_,hs,fun x hx=>?_⟩,qnZ _,rfl⟩,?_,?_⟩
 · have:=hm.1
   simp at this;unfold maxLen;omega
 · obtain⟨k,_,_,h3⟩:=key x hx
   exact⟨_,h3⟩
 · have:=hperm.map (fun p=>strOf p.1)
   rw[hkeys]at this;exact this
 · have:=hperm.length_eq
   show List.length _=_;rw[this];rw[<-hkeys];simp
def zLA:zJ:=fun args H=>match args with
 | [.map b]=>some (.func 253 [] [.ptr H.length 0],H++[.pin [.map b]],[])
 | _=>none
theorem zJ1:Sound Pz 172 zLA:=by
 refine ⟨zD Tryz.func172 rfl (by decide),fun args H v H' W h=>?_,fun args H v H' W h=>?_⟩ <;> (unfold zLA at h;split at h <;> cases h)
 · rename_i b
   intro j w cargs hR hargs;obtain⟨a,cs,e,h1,h2⟩:=hargs;simp only[VRs]at h2;subst h2;simp only[VR]at h1;obtain⟨p,hp,rfl⟩:=h1;have ec:cargs=#[.map (some p.blk)]:=by apply Array.ext';rw[e]
   subst ec;refine (callsIn_wide (n:=5)).1 ?_;refine (AnyZ.keys_in Tryz.keys172 Fence.wide 5 trivial rfl (some p.blk) w).mono ?_;rintro e w' ⟨rfl,rfl⟩;have st:=zGj hR (x:=.pin [.map b]) (.cells #[.map (some p.blk)] (Tryz.keys172_ren.t 23)) fun w' hw'=>⟨rfl,#[.map (some p.blk)],Tryz.keys172_ren.t 23,(0,0),by rw[hw'];simp,fun i x hx=>by
     have hi:i=0:=by
       have:=(q1Z.1 hx).1;simpa using this
     subst hi;cases hx;exact⟨.map (some p.blk),rfl,p,zBr (hR.dom _ (qnZ _)) b p hp,rfl⟩⟩
   refine ⟨_,_,rfl,?_,st⟩;simp only[VR];exact⟨#[],#[.pointer (some ⟨w.heap.size,0,none⟩)],rfl,rfl,_,[],rfl,⟨_,zg _ _ _,rfl⟩,rfl⟩
 · exact⟨by simp,fun b hb _=>by rw[q4Z hb]⟩
def zDL:zJ:=fun args H=>match args with
 | [.func f [] [.ptr b 0]] =>
   if f=253 then
     match H[b]? with
     | some (.pin [.map m]) =>
       match H[m]? with
       | some (.map es) =>
         match ZY (es.map (·.1)) with
         | some ks=>if ks.length<=1000000/\ks.all (fun k=>decide (k.length<=1000000)) then (if ks.length=0 then some (.nils,H,[]) else some (.slice H.length 0 ks.length 1 false,H++[.cells true ((zDn ks).map .str)],[])) else none
         | none=>none
       | _=>none
     | _=>none
   else none
 | _=>none
theorem zNp(j:Inj):∀l:List (List UInt8),VRs j (l.map .str) (l.map encStr)
 | []=>rfl
 | x::l=>⟨_,_,rfl,rfl,zNp j l⟩
theorem zFm:Sound Pz 171 zDL:=by
 have key:∀args H v H' W,zDL args H=some (v,H',W)->∃b m es ks,args=[.func 253 [] [.ptr b 0]]/\H[b]? = some (.pin [.map m])/\H[m]? = some (.map es)/\ZY (es.map (·.1))=some ks/\(ks.length<=1000000/\∀k∈ks,k.length<=1000000)/\W=[] /\
     ((ks.length=0/\v=.nils/\H'=H)\/(ks.length≠0/\v=.slice H.length 0 ks.length 1 false/\H'=H++[.cells true ((zDn ks).map .str)])):=by
   intro args H v H' W h;unfold zDL at h;split at h;rotate_left
   · cases h
   rename_i f b;split at h;rotate_left
   · cases h
   rename_i hf;subst hf;split at h;rotate_left
   · cases h
   rename_i m hb;split at h;rotate_left
   · cases h
   rename_i es hm;split at h;rotate_left
   · cases h
   rename_i ks hk;split at h;rotate_left
   · cases h
   rename_i hc;refine ⟨b,m,es,ks,rfl,hb,hm,hk,⟨hc.1,by simpa using hc.2⟩,?_⟩;split at h <;> cases h
   · exact⟨rfl,.inl ⟨‹_›,rfl,rfl⟩⟩
   · exact⟨rfl,.inr ⟨‹_›,rfl,rfl⟩⟩
 refine ⟨zD Tryz.func171 rfl (by decide),fun args H v H' W h=>?_,fun args H v H' W h=>?_⟩;rotate_left
 · obtain⟨_,_,_,_,_,_,_,_,_,_,h1⟩:=key _ _ _ _ _ h
   rcases h1 with⟨_,_,rfl⟩ | ⟨_,_,rfl⟩
   · exact⟨qnZ _,fun _ _ _=>rfl⟩
   · exact⟨by simp,fun b hb _=>by rw[q4Z hb]⟩
 obtain⟨b,m,es,ks,rfl,hb,hm,hk,hbd,_,hres⟩:=key _ _ _ _ _ h;intro j w cargs hR hargs;obtain⟨a,cs,e,h1,h2⟩:=hargs;simp only[VRs]at h2;subst h2;simp only[VR,VRs]at h1;obtain⟨cx,cy,rfl,h3,u,us,h4,⟨p,hp,rfl⟩,rfl⟩:=h1;have ex:cx=#[]:=by apply Array.ext';rw[h3]
 subst ex;obtain⟨p0,bcs,T,fz,hbw,hbc⟩:=hR.blk b _ p hb hp;have ey:cy=#[.pointer (some ⟨p.blk,0,none⟩)]:=by apply Array.ext';rw[h4,p0]
 subst ey;have ec:cargs=#[.func (.func 253) #[] #[.pointer (some ⟨p.blk,0,none⟩)]]:=by apply Array.ext';rw[e]
 subst ec;obtain⟨vm,hvm,hvr⟩:=hbc 0 _ rfl;simp only[VR]at hvr;obtain⟨pm,hpm,rfl⟩:=hvr;obtain⟨ents,cl,g1,gs,g2⟩:=hR.blk m _ pm hm hpm;have hK:Tryz.prog.underlying (Tryz.keys172_ren.t 26)=some .string:=Tryz.underlying9;obtain⟨D,hown,hperm,hsz⟩:=zWw hK gs g2 hk hbd g1;have hcell:w.cell? ⟨p.blk,0,none⟩=some (.map (some pm.blk)):=by simp[World.cell?,hbw,hvm]
 have hlt:p.blk<w.heap.size:=(qtZ.1 hbw).1;have hseq:SeqGives Fence.wide 2 Pz 253 #[.pointer (some ⟨p.blk,0,none⟩)] encStr (fun ss=>ss.Perm (strKeys D)) (Maps.size D) w :=
   AnyZ.keys_gives (ρ:=Tryz.keys172_ren) { Tryz.keys172 with } Fence.wide _ trivial rfl (by omega) p.blk pm.blk _ D w hlt hcell hown
 refine (callsIn_wide (n:=5)).1 ?_;refine (AnyZ.sorted_in Tryz.sorted171 Fence.wide 5 trivial trivial trivial trivial rfl (by omega) (Tryz.sorts171 _) (enters_of Tryz.func124 (by kernel_rfl) rfl) 253 #[.pointer (some ⟨p.blk,0,none⟩)] trivial (enters_of Tryz.func253 (by kernel_rfl) rfl) _ _ (by rw[hsz];unfold maxLen;omega) (by rw[hsz];omega) _ hseq).mono ?_;rintro e w' ⟨v',ss,rfl,hS,hrow,hnil,hbelow⟩;have hperm2:ss.Perm ks:=hS.trans hperm;have hlen:ss.length=ks.length:=hperm2.length_eq;rw[zUp hperm2]at hrow;rcases hres with⟨h0,rfl,rfl⟩ | ⟨h0,rfl,rfl⟩
 · have hss:ss=[]:=List.eq_nil_of_length_eq_zero (by omega)
   have hv:=hnil.2 hss;subst hv;exact⟨_,j,rfl,rfl,Step.below hR hbelow (qnZ _)⟩
 · obtain⟨hl,h5⟩:=hrow
   rcases h5 with⟨rfl,hz⟩ | ⟨g,cap,cur,rfl,hg,hgw,hc1,hc2,hc3,hc4⟩
   · omega
   · have hll:((zDn ks).map AV.str).length=ks.length:=by rw[r7Z,(ZW ks).length_eq]
     refine ⟨_,_,rfl,?_,zVL hR hbelow hg hgw (l:=(zDn ks).map .str) (by rw[hll];omega) ?_⟩
     · simp only[VR]
       exact⟨_,_,cap,zg _ _ _,by rw[hlen],by omega,by simp,hc2,.inr ⟨rfl,by dsimp only;omega⟩⟩
     · rw[hll,<-hlen]
       have:=zNp j (zDn ks);rw[<-hc4,Nat.mul_one]at this;exact this
def zF2:zJ:=fun args H=>match args with
 | [.map b]=>match H[b]? with
   | some (.map es)=>some (.map H.length,H++[.map es],[])
   | _=>none
 | _=>none
theorem zVD(b:Nat)(es:Array MapEntry)(clock:Nat)(w:World)(hb:w.heap[b]? = some (.map es clock)) :
   Calls Pz 170 #[.map (some b)] w fun e w'=>e=.returned (.map (some w.heap.size))/\w'=w.alloc (.map es clock):=by
 have hq:=fun w=>run_eql_map_nil_sl (P:=Pz) w _ _ _ (some b) Tryz.underlying225
 go_enter Tryz.func170,Tryz.ntmps170
 go_wp2
 rw[run_callFunc_extern Tryz.func251 (by kernel_rfl) (by kernel_rfl) (by kernel_rfl) (e:=Extern.MapsClone.clone) (by kernel_rfl),run_maps_clone_sl w _ hb];simp only[Result.andThen];rw[Oper.upon_value]
 go_wp2
 rw[run_typeAssert_map_sl _ _ _ _ _ _ Tryz.underlying225];simp only[Result.andThen];rw[Oper.upon_value]
 go_wp2
 go_ret
 exact⟨rfl,rfl⟩
theorem zFz:Sound Pz 170 zF2:=by
 refine ⟨zD Tryz.func170 rfl (by decide),fun args H v H' W h=>?_,fun args H v H' W h=>?_⟩ <;> (unfold zF2 at h;split at h;rotate_left;· cases h) <;> (split at h <;> cases h)
 · rename_i b _ es hb
   intro j w cargs hR hargs;obtain⟨a,cs,e,h1,h2⟩:=hargs;simp only[VRs]at h2;subst h2;simp only[VR]at h1;obtain⟨p,hp,rfl⟩:=h1;have ec:cargs=#[.map (some p.blk)]:=by apply Array.ext';rw[e]
   subst ec;obtain⟨ents,cl,g1,gs,g2⟩:=hR.blk b _ p hb hp;refine (zVD p.blk ents cl w g1).mono ?_;rintro e w' ⟨rfl,rfl⟩;have st:=zGj hR (x:=.map es) (.map ents cl) fun w' hw'=>⟨ents,cl,by rw[hw'];simp,gs,g2.mono (zBr (hR.dom _ (qnZ _)))⟩
   exact⟨_,_,rfl,⟨_,zg _ _ _,rfl⟩,st⟩
 · exact⟨by simp,fun b hb _=>by rw[q4Z hb]⟩
end
section
open Go Go.Lib
attribute [-simp] zH zc zq zK zy
theorem zZM:Ct Pz 116 [] [] (.ptr 0 0) [.obj true FD.new.blks]:=by
 refine zE Tryz.func116 rfl ?_;simp only[Tryz.ntmps116,q8Z,Nat.reduceSub,qbZ,qaZ];refine wS zC (by simp;exact wR) ?_;refine wS zC (by simp;exact wR) ?_;refine Sim.aft (Aft.closeFD FD.new 2 0 1 3 [] (fun i=>i) (x:=.nils) (o:=true) rfl rfl rfl rfl (fun h=>absurd h (by decide)) rfl (fun i hi=>absurd hi (by simp[FD.new,nbD])) (fun i k B h=>by simp at h) (by decide) (by simp) ?_);refine Aft.weak (Fn:=[.ptr 0 0]++qbZ 4 .top) (Hn:=[.obj true FD.new.blks]) (wW [2] (zM (b:=2) (by simp) _ _ rfl fun i c x h1 h2=>?_)) (by simp) (Aft.done (by simp) ?_)
 · match i,h1,h2 with
   | 0,h1,h2=>cases h1;cases h2;exact .inl ⟨rfl,rfl⟩
 refine wE zC (by simp;exact wT) ?_;exact⟨.inr rfl,_,by simp[Tryz.f116] <;> rfl,wW [0] (by simp[AWb])⟩
def FD.find(f:FD)(k:List UInt8):Int×Bool:=match f.now.get k with
 | some v=>(v,true)
 | none=>(0,false)
theorem zRb(f:FD){n0:Nat}{F:List AV}{K:List AV->zA->Prop}(hn:n0<=1)(h:Aft n0 F [.obj true f.blks] K)(hF:∀rn:List Nat,AWs rn F F) :
   Aft n0 F (.cells true [.map 1,.map 2,.sl 3 0 f.acts.length 2 false,.int .i64 f.last]::.map (zd f.d)::.map (zd f.now)::.cells true (Z3 (fun i=>1+3+i) 0 f.acts)::zo f.acts) K:=by
 refine Aft.closeFS f 0 1 rfl rfl rfl rfl (fun i B hB=>?_) (by decide) (by simp;omega) ?_
 · rw[show 1+3+i=i+1+1+1+1 by omega]
   simp only[r9Z];exact hB
 refine Aft.weak (Fn:=F) (Hn:=[.obj true f.blks]) ?_ (by simp;omega) h;by_cases h0:n0=0
 · subst h0
   exact Weak.mk' [0] (by decide) (by decide) (hF _) (zM (b:=0) (by simp) _ _ rfl fun i c x h1 h2=>by
     match i,h1,h2 with
     | 0,h1,h2=>cases h1;cases h2;exact .inl ⟨rfl,rfl⟩)
 · have:n0=1:=by omega
   subst this;exact Weak.mk' [0] (by decide) (by decide) (hF _) (zM (b:=0) (by simp) _ _ rfl fun i c x h1 h2=>by
     match i,h1,h2 with
     | 0,h1,h2=>cases h1;cases h2;exact .inl ⟨rfl,rfl⟩)
theorem zX8(f:FD)(k:List UInt8):Ct Pz 76 [.ptr 0 0,.str k] [.obj true f.blks] (.tuple [.int .i64 (f.find k).1,.bool (f.find k).2]) [.obj true f.blks]:=by
 refine zE Tryz.func76 rfl ?_;simp only[Tryz.ntmps76,q7Z,q8Z,Nat.reduceAdd,Nat.reduceSub,qbZ,q9Z,qaZ];refine Sim.aft (Aft.open (b:=0) rfl (by simp) (Aft.done (by simp[zY]) ?_));rw[zCT];simp only[q7Z,q8Z,Nat.reduceAdd,s9Z,q9Z,qaZ];obtain⟨R,eR⟩:∃R,Z3 (fun i=>4+i) 0 f.acts=R:=⟨_,rfl⟩
 obtain⟨X,eX⟩:∃X,zo f.acts=X:=⟨_,rfl⟩
 rw[eX];refine wS zC (by simp;exact wR) ?_;refine wS zC (by simp;exact wR) ?_;have hf:=zAP k f.now 0;obtain⟨v,is,hv⟩:∃v is,f.find k=(v,is):=⟨_,_,rfl⟩
 rw[hv];refine Sim.seq (Sim.mono (Q:=fun e F' H'=>e=.normal/\LessF ([.top,.top,.top,.top,.int .i64 0,.bool false,.int .i64 v,.bool is]++qbZ 13 .top) F'/\H'=.cells true [.map 1,.map 2,.sl 3 0 f.acts.length 2 false,.int .i64 f.last]::.map (zd f.d)::.map (zd f.now)::.cells true (Z3 (fun i=>1+3+i) 0 f.acts)::X) ?_ ?_)
 · unfold FD.find at hv
   cases hg:NM.get f.now k with
   | none =>
     rw[hg]at hf hv;cases hv;simp only[Option.map_none,s8Z]at hf;refine wE zC (by simp +decide [hf];exact wT) ?_;exact⟨rfl,by simp,rfl⟩
   | some u =>
     rw[hg]at hf hv;cases hv;simp only[rhZ,s8Z]at hf;refine wE zC (by simp +decide [hf];exact wT) ?_;exact⟨rfl,by simp,rfl⟩
 rintro e F' H' hlen ⟨rfl,hF,rfl⟩;dsimp only;refine Sim.less hF ?_;rw[<-eX];refine Sim.aft (zRb f (by decide) (Aft.done (by simp) ?_) (by simp));refine wE zC (by simp;exact wT) ?_;exact⟨.inr rfl,_,by simp[Tryz.f76] <;> rfl,wW [0] (by simp[AWb])⟩
theorem zQp(f:FD):Ct Pz 202 [.ptr 0 0] [.obj true f.blks] (.int .i64 f.acts.length) [.obj true f.blks]:=by
 refine zE Tryz.func202 rfl ?_;simp only[Tryz.ntmps202,q7Z,q8Z,Nat.reduceAdd,Nat.reduceSub,qbZ,q9Z,qaZ];refine Sim.aft (Aft.open (b:=0) rfl (by simp) (Aft.done (by simp[zY]) ?_));rw[zCT];simp only[q7Z,q8Z,Nat.reduceAdd,s9Z,q9Z,qaZ];obtain⟨X,eX⟩:∃X,zo f.acts=X:=⟨_,rfl⟩
 rw[eX];refine wS zC (by simp;exact wR) ?_;refine wS zC (by simp;exact wR) ?_;refine wS zC (by simp;exact wR) ?_;refine Sim.less (Fn:=[.top,.top,.int .i64 f.acts.length]++qbZ 7 .top) (by simp) ?_;rw[<-eX];refine Sim.aft (zRb f (by decide) (Aft.done (by simp) ?_) (by simp));refine wE zC (by simp;exact wT) ?_;exact⟨.inr rfl,_,by simp[Tryz.f202] <;> rfl,wW [0] (by simp[AWb])⟩
end
section
open Go Go.Lib
abbrev FS:=List (Int×PF)
def FS.keys(l:FS):List Int:=l.map (·.1)
def FS.get:FS->Int->Option PF
 | [],_=>none
 | e::l,n=>if e.1=n then some e.2 else FS.get l n
def FS.upd:FS->Int->(PF->PF)->FS
 | [],_,_=>[]
 | e::l,n,g=>if e.1=n then (n,g e.2)::l else e::FS.upd l n g
def FS.at(l:FS)(n:Int):Nat:=(FS.keys l).idxOf n
theorem FS.get_none{l:FS}{n:Int}:FS.get l n=none↔n∉FS.keys l:=by
 induction l with
 | nil=>simp[FS.get,FS.keys]
 | cons e l ih =>
   unfold FS.get;simp only[FS.keys,s1Z,qwZ,not_or]at ih ⊢;split
   · rename_i h;simp[h]
   · rename_i h;rw[ih];simp[Ne.symm h]
theorem FS.get_some{l:FS}{n:Int}:(∃f,FS.get l n=some f)↔n∈FS.keys l:=by
 cases h:FS.get l n with
 | none=>simp[FS.get_none.1 h]
 | some v =>
   have:n∈FS.keys l:=by
     apply Classical.byContradiction;intro hn;rw[FS.get_none.2 hn]at h;cases h
   simp[this]
theorem FS.get_mem:∀{l:FS} {n:Int} {f:PF},FS.get l n=some f->(n,f)∈l
 | e::l,n,f,h=>by
   unfold FS.get at h;split at h
   · rename_i hk
     cases h;subst hk;exact qhZ ..
   · exact qiZ _ (FS.get_mem h)
theorem FS.keys_upd(l:FS)(n:Int)(g:PF->PF):FS.keys (FS.upd l n g)=FS.keys l:=by
 induction l with
 | nil=>rfl
 | cons e l ih =>
   unfold FS.upd;split
   · rename_i h;simp[FS.keys,h]
   · simp only[FS.keys,s1Z]at ih ⊢;rw[ih]
theorem FS.get_upd(l:FS)(n m:Int)(g:PF->PF):FS.get (FS.upd l n g) m=if m=n then (FS.get l n).map g else FS.get l m:=by
 induction l with
 | nil=>simp[FS.upd,FS.get]
 | cons e l ih =>
   unfold FS.upd;split
   · rename_i h
     subst h;unfold FS.get;by_cases hk:m=e.1
     · simp[hk]
     · rw[if_neg hk,if_neg (Ne.symm hk),if_neg (Ne.symm hk)]
   · rename_i h
     unfold FS.get;rw[ih];by_cases hk:e.1=m
     · rw[if_pos hk,if_pos hk,if_neg (by rintro rfl;exact h hk)]
     · rw[if_neg hk,if_neg hk,if_neg h]
theorem FS.mem_upd{l:FS}{n:Int}{g:PF->PF}{e:Int×PF}(h:e∈FS.upd l n g):e∈l\/∃f,(n,f)∈l/\e=(n,g f):=by
 induction l with
 | nil=>cases h
 | cons x l ih =>
   unfold FS.upd at h;split at h
   · rename_i hk
     rcases qwZ.1 h with rfl | h
     · exact .inr ⟨x.2,by rw[<-hk];exact qhZ ..,rfl⟩
     · exact .inl (qiZ _ h)
   · rcases qwZ.1 h with rfl | h
     · exact .inl (qhZ ..)
     · rcases ih h with h | ⟨f,h1,h2⟩
       · exact .inl (qiZ _ h)
       · exact .inr ⟨f,qiZ _ h1,h2⟩
theorem FS.get_app(l:FS)(n m:Int)(f:PF):FS.get (l++[(n,f)]) m=match FS.get l m with | some x=>some x | none=>if n=m then some f else none:=by
 induction l with
 | nil=>rfl
 | cons e l ih =>
   rw[q9Z];unfold FS.get;split
   · rfl
   · exact ih
theorem FS.at_lt{l:FS}{n:Int}{f:PF}(h:FS.get l n=some f):FS.at l n<l.length:=by
 have:n∈FS.keys l:=FS.get_some.1 ⟨f,h⟩;have:=List.idxOf_lt_length_of_mem this;simpa[FS.at,FS.keys] using this
theorem FS.at_get:∀{l:FS} {n:Int} {f:PF},FS.get l n=some f->l[FS.at l n]? = some (n,f)
 | e::l,n,f,h=>by
   unfold FS.get at h;split at h
   · rename_i hk;subst hk;cases h;simp[FS.at,FS.keys]
   · rename_i hk
     have ih:=FS.at_get h;have h3:(e.1==n)=false:=by simpa using hk
     simp only[FS.at,FS.keys,s1Z]at ih ⊢;rw[List.idxOf_cons,h3];simpa using ih
theorem FS.upd_set:∀{l:FS} {n:Int} {f:PF} (g:PF->PF),FS.get l n=some f->FS.upd l n g=l.set (FS.at l n) (n,g f)
 | e::l,n,f,g,h=>by
   unfold FS.get at h;unfold FS.upd;split at h
   · rename_i hk;subst hk;cases h;simp[FS.at,FS.keys]
   · rename_i hk
     have ih:=FS.upd_set g h;have h3:(e.1==n)=false:=by simpa using hk
     simp only[FS.at,FS.keys,s1Z]at ih ⊢;rw[if_neg hk,List.idxOf_cons,h3];simp only[cond_false,saZ,ih]
structure DS where
 fd:FD
 fs:FS
 quota:Int
 steps:Int
 armed:Int
 down:Bool
def DS.new(q:Int):DS:=⟨FD.new,[],q,0,0,false⟩
def DS.count(d:DS):DS :=
 if 0<d.armed/\d.down=false then ⟨d.fd,d.fs,d.quota,d.steps+1,d.armed-1,decide (d.armed-1=0)⟩
 else ⟨d.fd,d.fs,d.quota,d.steps+1,d.armed,d.down⟩
def DS.step(d:DS)(g:DS->DS×Int):DS×Int:=if d.count.down then (d.count,13) else g d.count
def DS.file(d:DS)(k:List UInt8):Option PF:=match d.fd.now.get k with
 | some n=>FS.get d.fs n
 | none=>none
def DS.text(d:DS)(k:List UInt8):List UInt8:=match d.file k with
 | some f=>f.now
 | none=>[]
def DS.list(d:DS):List (List UInt8):=if d.down then [] else d.fd.names
def DS.files(d:DS):List (List UInt8×List UInt8):=d.list.map fun k=>(k,d.text k)
def DS.used(d:DS):Nat:=(d.list.map fun k=>(d.text k).length).sum
def DS.create(d:DS)(k:List UInt8):DS×Int:=d.step fun d =>
 if (d.fd.create k).2.2=0 then (⟨(d.fd.create k).1,d.fs++[((d.fd.create k).2.1,⟨[],[]⟩)],d.quota,d.steps,d.armed,d.down⟩,0)
 else (⟨(d.fd.create k).1,d.fs,d.quota,d.steps,d.armed,d.down⟩,(d.fd.create k).2.2)
def DS.of(d:DS)(k:List UInt8)(g:DS->PF->PF×Int):DS×Int:=d.step fun d =>
 match d.fd.now.get k with
 | none=>(d,9)
 | some n=>match FS.get d.fs n with
   | none=>(d,1)
   | some f=>(⟨d.fd,FS.upd d.fs n fun _=>(g d f).1,d.quota,d.steps,d.armed,d.down⟩,(g d f).2)
def DS.room(d:DS):Nat:=(max 0 (d.quota-d.used)).toNat
def DS.append(d:DS)(k:List UInt8)(s:List UInt8):DS×Int:=d.of k fun d f=>if d.room<s.length then (f.add (s.take d.room),10) else (f.add s,0)
def DS.sync(d:DS)(k:List UInt8):DS×Int:=d.of k fun _ f=>(⟨f.now,[]⟩,0)
def DS.syncDir(d:DS):DS×Int:=d.step fun d=>(⟨d.fd.survive d.fd.acts.length,d.fs,d.quota,d.steps,d.armed,d.down⟩,0)
def DS.arm(d:DS)(n:Int):DS:=⟨d.fd,d.fs,d.quota,d.steps,max 0 n,d.down⟩
def DS.size(d:DS)(k:List UInt8):Int×Int:=if d.down then (0,13) else match d.fd.now.get k with
 | none=>(0,9)
 | some m=>match FS.get d.fs m with
   | none=>(0,0)
   | some f=>(f.now.length,0)
def zAF(fd:FD)(s:List Int×FS×List Int)(k:List UInt8):List Int×FS×List Int :=
 (s.1.tail.tail,FS.upd s.2.1 (fd.find k).1 (fun f=>⟨f.stays (s.1.headD 0) (s.1.tail.headD 0),[]⟩),if (fd.find k).1∈s.2.2 then s.2.2 else s.2.2++[(fd.find k).1])
def zBF(fs:FS)(th:List Int):FS:=th.map fun n=>(n,(FS.get fs n).getD ⟨[],[]⟩)
def zA0(fd:FD)(l:List Int)(fs:FS)(ks:List (List UInt8)):List Int×FS×List Int:=ks.foldl (zAF fd) (l,fs,[])
def DS.restart(d:DS)(l:List Int):DS :=
 ⟨d.fd.survive (l.headD 0),zBF (zA0 (d.fd.survive (l.headD 0)) l.tail d.fs (d.fd.survive (l.headD 0)).names).2.1 (zA0 (d.fd.survive (l.headD 0)) l.tail d.fs (d.fd.survive (l.headD 0)).names).2.2,d.quota,d.steps,0,false⟩
def zOT(fs:FS)(l:NM)(_:Int):Prop:=∀k n,NM.get l k=some n->n∈FS.keys fs
structure DS.ok (d:DS) (A B:Nat):Prop where
 fd:d.fd.ok A
 num:d.fd.numOk
 has:d.fd.each (zOT d.fs)
 rng:∀n∈FS.keys d.fs,1<=n/\n<=d.fd.last
 nd:(FS.keys d.fs).Nodup
 fine:∀e∈d.fs,e.2.ok B
 len:d.fs.length<=A
 q0:0<=d.quota
 q1:d.quota<=4611686018427387903
 s0:0<=d.steps
 s1:d.steps<=A
 a0:0<=d.armed
 a1:d.armed<=4611686018427387903
theorem DS.ok_new(q:Int)(h0:0<=q)(h1:q<=4611686018427387903):(DS.new q).ok 0 0 :=
 ⟨FD.ok_new,FD.numOk_new,fun i _ k n h=>by simp[DS.new,FD.new,Z5,NM.get]at h,(fun n h=>by simp[DS.new,FS.keys]at h),List.nodup_nil,(fun e h=>by simp[DS.new]at h),qnZ _,h0,h1,Int.le_refl _,Int.le_refl _,Int.le_refl _,by simp[DS.new]⟩
theorem DS.ok_mono{d:DS}{A B A' B':Nat}(h:d.ok A B)(ha:A<=A')(hb:B<=B'):d.ok A' B' :=
 ⟨FD.ok_mono h.fd ha,h.num,h.has,h.rng,h.nd,fun e he=>PF.ok_mono (h.fine e he) hb,by have:=h.len;omega,h.q0,h.q1,h.s0,by have:=h.s1;omega,h.a0,h.a1⟩
theorem DS.ok_count{d:DS}{A B:Nat}(h:d.ok A B):d.count.ok (A+1) B:=by
 have h1:=h.s0;have h2:=h.s1;have h3:=h.a0;have h4:=h.a1;have h5:=h.len;unfold DS.count;split
 · exact⟨FD.ok_mono h.fd (by omega),h.num,h.has,h.rng,h.nd,h.fine,by dsimp only;omega,h.q0,h.q1,by dsimp only;omega,by dsimp only;omega,by dsimp only;omega,by dsimp only;omega⟩
 · exact⟨FD.ok_mono h.fd (by omega),h.num,h.has,h.rng,h.nd,h.fine,by dsimp only;omega,h.q0,h.q1,by dsimp only;omega,by dsimp only;omega,h3,h4⟩
theorem DS.has_file{d:DS}{A B:Nat}(h:d.ok A B){k:List UInt8}{n:Int}(hk:d.fd.now.get k=some n):∃f,FS.get d.fs n=some f/\f.ok B:=by
 obtain⟨f,hf⟩:=FS.get_some.2 (FD.each_now h.has k n hk);exact⟨f,hf,h.fine _ (FS.get_mem hf)⟩
@[simp] theorem DS.count_fd(d:DS):d.count.fd=d.fd:=by unfold DS.count;split <;> rfl
@[simp] theorem DS.count_fs(d:DS):d.count.fs=d.fs:=by unfold DS.count;split <;> rfl
@[simp] theorem DS.count_quota(d:DS):d.count.quota=d.quota:=by unfold DS.count;split <;> rfl
@[simp] theorem DS.count_steps(d:DS):d.count.steps=d.steps+1:=by unfold DS.count;split <;> rfl
theorem zPA{f:FD}{p q:NM->Int->Prop}(h:f.each p)(hpq:∀l n,p l n->q l n):f.each q:=fun i hi=>hpq _ _ (h i hi)
theorem zLO{fs gs:FS}(h:∀n∈FS.keys fs,n∈FS.keys gs):∀l n,zOT fs l n->zOT gs l n:=fun _ _ hp k n hk=>h n (hp k n hk)
theorem DS.ok_fd{d:DS}{A B:Nat}(h:d.ok A B){f:FD}(h1:f.ok (A+1))(h2:f.numOk)(h3:f.each (zOT d.fs))(h4:d.fd.last<=f.last):(⟨f,d.fs,d.quota,d.steps,d.armed,d.down⟩:DS).ok (A+1) B :=
 ⟨h1,h2,h3,fun n hn=>by have:=h.rng n hn;dsimp only;omega,h.nd,h.fine,by have:=h.len;dsimp only;omega,h.q0,h.q1,h.s0,by have:=h.s1;dsimp only;omega,h.a0,h.a1⟩
theorem DS.ok_fs{d:DS}{A B C:Nat}(h:d.ok A B)(n:Int)(g:PF->PF)(hg:∀f,(n,f)∈d.fs->(g f).ok C)(hBC:B<=C):(⟨d.fd,FS.upd d.fs n g,d.quota,d.steps,d.armed,d.down⟩:DS).ok A C:=by
 refine ⟨h.fd,h.num,zPA h.has (zLO fun m hm=>by dsimp only;rw[FS.keys_upd];exact hm),(fun m hm=>h.rng m (by dsimp only at hm;rw[FS.keys_upd]at hm;exact hm)),(by dsimp only;rw[FS.keys_upd];exact h.nd),fun e he=>?_,?_,h.q0,h.q1,h.s0,h.s1,h.a0,h.a1⟩
 · rcases FS.mem_upd he with he | ⟨f,h1,rfl⟩
   · exact PF.ok_mono (h.fine e he) hBC
   · exact hg f h1
 · have:=congrArg List.length (FS.keys_upd d.fs n g)
   simp only[FS.keys,r7Z]at this;have:=h.len;dsimp only;omega
theorem DS.ok_create{d:DS}{A B:Nat}(h:d.ok A B)(k:List UInt8):(d.create k).1.ok (A+2) B:=by
 have hc:=DS.ok_count h;unfold DS.create DS.step;split
 · exact DS.ok_mono hc (by omega) (qnZ _)
 · generalize d.count=d at hc
   have h1:=FD.ok_create hc.fd k;have h2:=FD.numOk_create hc.num k;dsimp only;unfold FD.create at h1 h2 ⊢;split
   · rename_i hm
     cases hg:d.fd.now.get k with
     | some n =>
       simp only;rw[if_neg (by decide)];exact DS.ok_mono hc (by omega) (qnZ _)
     | none =>
       simp only[hg,if_pos hm]at h1 h2 ⊢;rw[if_pos trivial];refine ⟨h1,h2,?_,?_,?_,fun e he=>?_,?_,hc.q0,hc.q1,hc.s0,?_,hc.a0,hc.a1⟩
       · have hk:∀n∈FS.keys d.fs,n∈FS.keys (d.fs++[(d.fd.last+1,(⟨[],[]⟩:PF))]):=fun n hn=>by simp only[FS.keys,roZ,qxZ]at hn ⊢;exact .inl hn
         refine FD.each_one (f:=d.fd) (zPA hc.has (zLO hk)) (fun l a b _ hl=>hl) _ rfl rfl (by dsimp only;omega) ?_;intro k' n hn;simp only[DAct.run]at hn;rw[NM.get_put]at hn;split at hn
         · cases hn;simp[FS.keys]
         · exact hk n (FD.each_now hc.has k' n hn)
       · intro n hn
         simp only[FS.keys,roZ,qxZ,s1Z,List.map_nil,r1Z]at hn;rcases hn with hn | hn
         · have:=hc.rng n hn;dsimp only;omega
         · have:=hc.num.1;dsimp only;omega
       · simp only[FS.keys,roZ,s1Z,List.map_nil]
         rw[List.nodup_append];refine ⟨hc.nd,by simp,fun a ha b hb=>?_⟩;simp at hb;have:=hc.rng a ha;omega
       · rcases qxZ.1 he with he | he
         · exact hc.fine e he
         · simp at he;subst he;exact PF.ok_new _ _ (by simp)
       · have:=hc.len;simp;omega
       · have:=hc.s1;dsimp only;omega
   · rw[if_neg (by dsimp only;omega)]
     exact DS.ok_mono hc (by omega) (qnZ _)
theorem DS.ok_of{d:DS}{A B C:Nat}(h:d.ok A B)(k:List UInt8)(g:DS->PF->PF×Int)(hg:∀f,f.ok B->(g d.count f).1.ok C)(hBC:B<=C):(d.of k g).1.ok (A+1) C:=by
 have hc:=DS.ok_count h;unfold DS.of DS.step;split
 · exact DS.ok_mono hc (qnZ _) hBC
 · generalize d.count=d at hc hg
   dsimp only;split
   · exact DS.ok_mono hc (qnZ _) hBC
   split
   · exact DS.ok_mono hc (qnZ _) hBC
   · rename_i n _ _ f hf
     exact DS.ok_fs hc n _ (fun f' _=>hg f (hc.fine _ (FS.get_mem hf))) hBC
theorem DS.room_le(d:DS)(h:0<=d.quota):(d.room:Int)<=d.quota:=by unfold DS.room;omega
theorem DS.ok_append{d:DS}{A B:Nat}(h:d.ok A B)(k s:List UInt8)(K:Nat)(hK:1<=K)(hq:d.quota<=K):(d.append k s).1.ok (A+1) (B+K):=by
 have hr:=d.count.room_le (by rw[DS.count_quota];exact h.q0);rw[DS.count_quota]at hr;refine DS.ok_of h k _ (fun f hf=>?_) (by omega);split
 · exact PF.ok_add hf _ (by rw[qjZ];omega) hK
 · exact PF.ok_add hf _ (by omega) hK
theorem DS.ok_sync{d:DS}{A B:Nat}(h:d.ok A B)(k:List UInt8):(d.sync k).1.ok (A+1) B :=
 DS.ok_of h k _ (fun _ hf=>PF.ok_new _ _ (PF.ok_now hf)) (qnZ _)
theorem DS.ok_syncDir{d:DS}{A B:Nat}(h:d.ok A B):d.syncDir.1.ok (A+2) B:=by
 have hc:=DS.ok_count h;unfold DS.syncDir DS.step;split
 · exact DS.ok_mono hc (by omega) (qnZ _)
 · exact DS.ok_fd hc (FD.ok_mono (FD.ok_survive hc.fd _) (by omega)) (FD.numOk_survive hc.num _) (FD.each_survive hc.has _) (Int.le_refl _)
theorem DS.ok_arm{d:DS}{A B:Nat}(h:d.ok A B)(n:Int)(hn:n<=4611686018427387903):(d.arm n).ok A B :=
 ⟨h.fd,h.num,h.has,h.rng,h.nd,h.fine,h.len,h.q0,h.q1,h.s0,h.s1,by simp only[DS.arm];omega,by simp only[DS.arm];omega⟩
structure StOk (fd:FD) (B:Nat) (s:List Int×FS×List Int) (fs:FS):Prop where
 keys:FS.keys s.2.1=FS.keys fs
 fine:∀e∈s.2.1,e.2.ok B
 nd:s.2.2.Nodup
 sub:∀n∈s.2.2,n∈FS.keys fs
theorem zVe{fd:FD}{B:Nat}{s:List Int×FS×List Int}{fs:FS}(h:StOk fd B s fs)(k:List UInt8)(hk:(fd.find k).1∈FS.keys fs):StOk fd B (zAF fd s k) fs:=by
 refine ⟨?_,fun e he=>?_,?_,fun n hn=>?_⟩
 · simp only[zAF];rw[FS.keys_upd];exact h.keys
 · simp only[zAF]at he
   rcases FS.mem_upd he with he | ⟨f,h1,rfl⟩
   · exact h.fine e he
   · exact PF.ok_new _ _ (PF.ok_stays (h.fine _ h1) _ _)
 · simp only[zAF]
   split
   · exact h.nd
   · rename_i hn
     rw[List.nodup_append];exact⟨h.nd,by simp,fun a ha b hb=>by simp at hb;subst hb;rintro rfl;exact hn ha⟩
 · simp only[zAF]at hn
   split at hn
   · exact h.sub n hn
   · rcases qxZ.1 hn with hn | hn
     · exact h.sub n hn
     · simp at hn;subst hn;exact hk
theorem zCO(fd:FD):∀(ks:List (List UInt8)) (s:List Int×FS×List Int) (n:Int),n∈(ks.foldl (zAF fd) s).2.2↔n∈s.2.2\/∃k∈ks,(fd.find k).1=n
 | [],s,n=>by simp
 | k::ks,s,n=>by
   rw[List.foldl_cons,zCO fd ks];have:n∈(zAF fd s k).2.2↔n∈s.2.2\/(fd.find k).1=n:=by
     simp only[zAF];split
     · rename_i h
       constructor
       · exact .inl
       · rintro (h1 | rfl)
         · exact h1
         · exact h
     · simp[eq_comm]
   rw[this];simp only[qwZ,exists_eq_or_imp,or_assoc]
theorem zDR{fd:FD}{B:Nat}{fs:FS}:∀(ks:List (List UInt8)) {s:List Int×FS×List Int},StOk fd B s fs->(∀k∈ks,(fd.find k).1∈FS.keys fs)->StOk fd B (ks.foldl (zAF fd) s) fs
 | [],_,h,_=>h
 | k::ks,_s,h,hk=>zDR ks (zVe h k (hk k (qhZ ..))) fun k' h'=>hk k' (qiZ _ h')
theorem FD.names_get{f:FD}{k:List UInt8}(h:k∈f.names):∃n,f.now.get k=some n:=NM.get_some.2 ((ZW _).subset h)
theorem FD.names_of{f:FD}{k:List UInt8}{n:Int}(h:f.now.get k=some n):k∈f.names:=(ZW _).symm.subset (NM.get_some.1 ⟨n,h⟩)
theorem FD.find_get{f:FD}{k:List UInt8}{n:Int}(h:f.now.get k=some n):f.find k=(n,true):=by unfold FD.find;rw[h]
theorem zDX(fs:FS)(th:List Int):FS.keys (zBF fs th)=th:=by simp[FS.keys,zBF,Function.comp_def]
theorem zG5(fs:FS):∀(th:List Int) (n:Int),n∈th->FS.get (zBF fs th) n=some ((FS.get fs n).getD ⟨[],[]⟩)
 | a::th,n,h=>by
   simp only[zBF,s1Z,FS.get];split
   · rename_i e;subst e;rfl
   · rename_i e
     rcases qwZ.1 h with h | h
     · exact absurd h.symm e
     · exact zG5 fs th n h
theorem zKc{l m:List Int}(h:l.Nodup)(hs:∀n∈l,n∈m):l.length<=m.length:=h.length_le_of_subset hs
theorem DS.ok_restart{d:DS}{A B:Nat}(h:d.ok A B)(l:List Int):(d.restart l).ok A B:=by
 obtain⟨fd,hfd⟩:∃fd,d.fd.survive (l.headD 0)=fd:=⟨_,rfl⟩
 obtain⟨r,hr⟩:∃r,zA0 fd l.tail d.fs fd.names=r:=⟨_,rfl⟩
 have h1:fd.ok A:=by rw[<-hfd];exact FD.ok_survive h.fd _
 have h2:fd.numOk:=by rw[<-hfd];exact FD.numOk_survive h.num _
 have h3:fd.each (zOT d.fs):=by rw[<-hfd];exact FD.each_survive h.has _
 have h4:fd.last=d.fd.last:=by rw[<-hfd];rfl
 have h5:fd.acts=[]:=by rw[<-hfd];rfl
 have hk:∀k∈fd.names,(fd.find k).1∈FS.keys d.fs:=fun k hk=>by
   obtain⟨n,hn⟩:=FD.names_get hk;rw[FD.find_get hn];exact FD.each_now h3 k n hn
 have hs:StOk fd B r d.fs:=by rw[<-hr];exact zDR _ ⟨rfl,h.fine,List.nodup_nil,fun n hn=>by cases hn⟩ hk
 have hm:=zCO fd fd.names (l.tail,d.fs,[]);unfold DS.restart;rw[hfd,hr];have hmm:∀n,n∈r.2.2↔∃k∈fd.names,(fd.find k).1=n:=fun n=>by rw[<-hr];unfold zA0;rw[hm];simp
 refine ⟨h1,h2,fun i hi=>?_,fun n hn=>?_,by dsimp only;rw[zDX];exact hs.nd,fun e he=>?_,?_,h.q0,h.q1,h.s0,h.s1,Int.le_refl _,by dsimp only;omega⟩
 · dsimp only at hi ⊢
   intro k n hn;have:Z5 fd.d (fd.acts.take i)=fd.now:=by unfold FD.now;rw[h5,List.take_nil]
   rw[this]at hn;rw[zDX,hmm];exact⟨k,FD.names_of hn,by rw[FD.find_get hn]⟩
 · dsimp only at hn ⊢
   rw[zDX]at hn;rw[h4];exact h.rng n (hs.sub n hn)
 · obtain⟨n,hn,rfl⟩:=reZ.1 he
   obtain⟨f,hf⟩:=FS.get_some.2 (by rw[hs.keys];exact hs.sub n hn:n∈FS.keys r.2.1);dsimp only;rw[hf];exact hs.fine _ (FS.get_mem hf)
 · have:=zKc hs.nd hs.sub
   have h6:=h.len;simp only[zBF,r7Z,FS.keys]at this ⊢;omega
end
end Go.Proofs.YtfhidaoiofeooaaGreatDoor
