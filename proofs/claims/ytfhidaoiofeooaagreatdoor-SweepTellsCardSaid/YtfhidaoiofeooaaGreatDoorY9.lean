/- Parts of the proof of SweepTells: lemmas, each with its own conditions. -/
import Derived.Sort.Walk0
import Derived.Sort.KeysCollected
import Derived.Shelf.SlMaps.Clone
import Derived.Test.YtfhidaoiofeooaaGreatDoorIter
import Derived.Test.YtfhidaoiofeooaaGreatDoorY8
set_option maxHeartbeats 64000000
open List renaming getElem?_eq_some_iff → q1Z, getElem?_eq_getElem → q3Z, getElem?_append_left → q4Z, nil_append → qaZ, mem_of_getElem? → qcZ, getElem?_set_ne → qfZ, mem_cons → qwZ, getElem?_map → qzZ, getElem?_take → r4Z, take_append_drop → r6Z, length_map → r7Z, length_set → r8Z, not_mem_nil → rtZ, getElem?_eq_none → s4Z, getElem?_append → s7Z
open Nat renaming le_refl → qnZ, lt_or_ge → s2Z, zero_add → s8Z
open Array renaming getElem?_eq_some_iff → qtZ
open Option renaming map_some → rhZ
namespace Go.Proofs.YtfhidaoiofeooaaGreatDoor
open _root_.Go.Proofs.Tryz renaming prog → Pz
set_option maxRecDepth 100000
section
open Go.RowKit Go.Maps Go.Sort
def zNs(x:List UInt8):List (List UInt8)->List (List UInt8)
 | []=>[x]
 | y::ys=>if Op.bytesLess y x then y::zNs x ys else x::y::ys
def ZI:List (List UInt8)->List (List UInt8)
 | []=>[]
 | x::xs=>zNs x (ZI xs)
theorem zF2(x:List UInt8):∀ys,(zNs x ys).Perm (x::ys)
 | []=>.refl _
 | y::ys=>by
   simp only[zNs];split
   · exact ((zF2 x ys).cons y).trans (.swap x y ys)
   · exact .refl _
theorem zU:∀xs,(ZI xs).Perm xs
 | []=>.refl _
 | x::xs=>(zF2 x _).trans ((zU xs).cons x)
theorem zGD(x:List UInt8):∀ys,ys.Pairwise (fun a b=>leB a b=true)->(zNs x ys).Pairwise (fun a b=>leB a b=true)
 | [],_=>by simp[zNs]
 | y::ys,h=>by
   obtain⟨h1,h2⟩:=List.pairwise_cons.1 h;simp only[zNs];split
   · rename_i hl
     rw[bytesLess_eq]at hl;have hl':y<x:=by simpa using hl
     refine List.pairwise_cons.2 ⟨fun z hz=>?_,zGD x ys h2⟩;rcases qwZ.1 ((zF2 x ys).mem_iff.1 hz) with rfl | hz
     · simp only[leB,decide_eq_true_eq];exact Std.le_of_lt hl'
     · exact h1 z hz
   · rename_i hl
     rw[bytesLess_eq]at hl;have hl':x<=y:=by simpa using hl
     refine List.pairwise_cons.2 ⟨fun z hz=>?_,h⟩;rcases qwZ.1 hz with rfl | hz
     · simpa[leB] using hl'
     · have:=h1 z hz
       simp only[leB,decide_eq_true_eq]at this ⊢;exact List.le_trans hl' this
theorem Ze:∀xs,(ZI xs).Pairwise (fun a b=>leB a b=true)
 | []=>.nil
 | x::xs=>zGD x _ (Ze xs)
theorem zFD{l l':List (List UInt8)}(h:l.Perm l'):l.mergeSort leB=ZI l':=by
 have tr:∀a b c:List UInt8,leB a b=true->leB b c=true->leB a c=true:=fun a b c h1 h2=>by simp only[leB,decide_eq_true_eq]at *;exact List.le_trans h1 h2
 have to:∀a b:List UInt8,(leB a b || leB b a)=true:=fun a b=>by simp only[leB,Bool.or_eq_true,decide_eq_true_eq];exact List.le_total a b
 refine List.Perm.eq_of_pairwise (le:=fun a b=>leB a b=true) (fun a b _ _ h1 h2=>?_) (List.pairwise_mergeSort tr to l) (Ze l') (((List.mergeSort_perm l leB).trans h).trans (zU l').symm);simp only[leB,decide_eq_true_eq]at h1 h2;exact List.le_antisymm h1 h2
end
section
open Go.RowKit Go.Maps Go.Sort Go.Shelf
theorem zRx{j:Inj}{H:zA}{w w':World}(h:R j H w)(hb:RowKit.Below w.heap.size w w'){g T:Nat}{cur:Array Value}(hg:w.heap.size<=g)(hc:w'.heap[g]? = some (.cells cur T (0,0))){l:List AV}(hle0:l.length<=cur.size)
   (hl:VRs j l (cur.toList.take l.length)):Step H.length j H w (zBO j H.length ⟨g,0,cur.size⟩) (H++[.cells true l]) w':=by
 have hnone:j H.length=none:=h.dom _ (qnZ _);have hle:JLe j (zBO j H.length ⟨g,0,cur.size⟩):=zBb hnone;have hold:∀c,c<w.heap.size->w'.heap[c]? = w.heap[c]?:=fun c hc=>hb.block c hc;have hcase:∀c y q,(H++[ABlk.cells true l])[c]? = some y->zBO j H.length ⟨g,0,cur.size⟩ c=some q->(c=H.length/\y=.cells true l/\q=⟨g,0,cur.size⟩)\/(c≠H.length/\H[c]? = some y/\j c=some q):=by
   intro c y q hc hq;rw[s7Z]at hc;split at hc <;> rename_i hlt
   · exact .inr ⟨by omega,hc,by rw[ZC,if_neg (by omega)]at hq;exact hq⟩
   · have hc0:c=H.length:=by
       rcases s2Z (c-H.length) 1 with h1 | h1
       · omega
       · rw[s4Z (by simpa using h1)]at hc;cases hc
     subst hc0;simp at hc;rw[zb]at hq;cases hq;exact .inl ⟨rfl,hc.symm,rfl⟩
 refine Step.make h ⟨?_,?_,?_⟩ ?_ (by simp) ⟨hb.os,hb.tape,hb.output,hb.size,fun c hc _=>hold c hc⟩ ?_
 · intro b hb
   simp at hb;rw[ZC,if_neg (by omega)];exact h.dom b (by omega)
 · intro b y p hb hp
   rcases hcase b y p hb hp with⟨rfl,rfl,rfl⟩ | ⟨_,hb',hp'⟩
   · refine ⟨cur,T,(0,0),hc,rfl,by simpa using hle0,fun i x hx=>?_,fun _ i _ hh=>by simp at hh⟩
     obtain⟨v,hv,hr⟩:=hl.at hx;refine ⟨v,?_,hr.mono hle⟩;rw[r4Z]at hv;split at hv
     · simpa using hv
     · cases hv
   · exact (h.blk b y p hb' hp').mono hle fun hx=>hold _ (h.ltx hb' hx hp')
 · intro b b' y z p p' hb hy hb' hx hne hp hp'
   rcases hcase b y p hb hp with⟨rfl,rfl,rfl⟩ | ⟨e1,h1,h2⟩ <;> rcases hcase b' z p' hb' hp' with⟨rfl,rfl,rfl⟩ | ⟨e2,k1,k2⟩
   · exact absurd rfl hne
   · have:=h.ltx k1 hx k2;dsimp only;omega
   · have:=h.ltx h1 (Zj hy) h2;dsimp only;omega
   · exact h.inj b b' y z p p' h1 hy k1 hx hne h2 k2
 · intro b hb
   rw[ZC,if_neg (by omega)]
 · intro b y p hb hy hp
   rcases hcase b y p hb hp with⟨rfl,rfl,rfl⟩ | ⟨_,hb',hp'⟩
   · exact .inl ⟨hg,rfl⟩
   · exact .inr ⟨b,y,p,hb',hy,hp',rfl,id,fun _=>⟨rfl,rfl,rfl,rfl⟩⟩
def zPt{H:Type}:Value->Option (DataW H×List MemPlace):=fun _=>some (.nil,[])
theorem zTD:∀{es:List (AV×AV)} {ks:List (List UInt8)},zp (es.map (·.1))=some ks->ks.length=es.length/\∀(i:Nat) x,es[i]? = some x->∃k,ks[i]? = some k/\x.1=.str k:=by
 intro es ks h;have e:=zAL h;have hl:ks.length=es.length:=by
   have:=congrArg List.length e;simpa using this.symm
 refine ⟨hl,fun i x hx=>?_⟩;have hi:i<ks.length:=by rw[hl];exact (q1Z.1 hx).1
 refine ⟨ks[i],q3Z hi,?_⟩;have:=congrArg (fun l=>l[i]?) e;simp only[qzZ,hx,q3Z hi,rhZ,Option.some.injEq]at this;exact this
theorem zUE{P:Program}{K:TypeId}(hK:P.underlying K=some .string){j:Inj}{es:List (AV×AV)}{ents:Array MapEntry}{cl:Nat}(hs:MapKept.Stamped ents cl)(hm:MRel j es ents.toList){ks:List (List UInt8)}(hk:zp (es.map (·.1))=some ks)
   (hb:ks.length<=1000000/\∀k∈ks,k.length<=1000000) {w:World} {b:Nat} (hw:w.heap[b]? = some (.map ents cl)) :
   ∃D:DataW Unit,w.ownsMap P K zPt b ents.size D/\(strKeys D).Perm ks/\Maps.size D=ks.length:=by
 obtain⟨hl,hat⟩:=zTD hk;have key:∀x∈ents.toList,∃k,k∈ks/\x.key=.string ⟨k.toArray⟩/\WideElems.rd P K (zPt (H:=Unit)) x=some (.string k,.nil):=by
   intro x hx;obtain⟨i,hi⟩:=List.getElem?_of_mem hx;have hil:i<es.length:=by rw[hm.1];exact (q1Z.1 hi).1
   obtain⟨k,h1,h2⟩:=hat i _ (q3Z hil);have h3:=(hm.2 i _ x (q3Z hil) hi).1;rw[h2]at h3;simp only[VR]at h3;have hkm:=qcZ h1;refine ⟨k,hkm,h3,?_⟩;have hkl:k.length<=maxLen:=by have:=hb.2 k hkm;unfold maxLen;omega
   have:keyOf P K x.key=some (.string k):=by
     rw[h3];unfold keyOf;rw[hK];dsimp only;unfold mapKey;rw[hK];simp[ByteArray.size,hkl]
   simp[WideElems.rd,this,zPt]
 have hperm:((ents.toList.map (WideElems.rg P K (zPt (H:=Unit)))).foldr DataW.insert []).Perm (ents.toList.map (WideElems.rg P K (zPt (H:=Unit)))):=WideShapes.sorted_perm _;have hkeys:(ents.toList.map (WideElems.rg P K (zPt (H:=Unit)))).map (fun p=>strOf p.1)=ks:=by
   refine List.ext_getElem? fun i=>?_;simp only[qzZ];cases hx:ents.toList[i]? with
   | none =>
     have:ks.length<=i:=by rw[hl,hm.1];exact List.getElem?_eq_none_iff.1 hx
     rw[s4Z this];rfl
   | some x =>
     obtain⟨k,h1,h2,h3⟩:=key x (qcZ hx);have hil:i<es.length:=by rw[hm.1];exact (q1Z.1 hx).1
     obtain⟨k',h4,h5⟩:=hat i _ (q3Z hil);have h6:=(hm.2 i _ x (q3Z hil) hx).1;rw[h5]at h6;simp only[VR]at h6;rw[h4];have e:k=k':=by
       rw[h2]at h6;have:=congrArg (fun v:Value=>match v with | .string s=>s.data.toList | _=>[]) h6;simpa using this
     simp only[rhZ,WideElems.rg_of h3,e];rfl
 refine ⟨_,⟨ents,cl,hw,⟨?_,hs,fun x hx=>?_⟩,qnZ _,rfl⟩,?_,?_⟩
 · have:=hm.1
   simp at this;unfold maxLen;omega
 · obtain⟨k,_,_,h3⟩:=key x hx
   exact⟨_,h3⟩
 · have:=hperm.map (fun p=>strOf p.1)
   rw[hkeys]at this;exact this
 · have:=hperm.length_eq
   show List.length _=_;rw[this];rw[<-hkeys];simp
def zJG:zS:=fun args H=>match args with
 | [.map b]=>some (.func 253 [] [.ptr H.length 0],H++[.pin [.map b]],[])
 | _=>none
theorem zH5:Sound Pz 172 zJG:=by
 refine ⟨zD Tryz.func172 rfl (by decide),fun args H v H' W h=>?_,fun args H v H' W h=>?_⟩ <;> (unfold zJG at h;split at h <;> cases h)
 · rename_i b
   intro j w cargs hR hargs;obtain⟨a,cs,e,h1,h2⟩:=hargs;simp only[VRs]at h2;subst h2;simp only[VR]at h1;obtain⟨p,hp,rfl⟩:=h1;have ec:cargs=#[.map (some p.blk)]:=by apply Array.ext';rw[e]
   subst ec;refine (callsIn_wide (n:=5)).1 ?_;refine (AnyZ.keys_in Tryz.keys172 Fence.wide 5 trivial rfl (some p.blk) w).mono ?_;rintro e w' ⟨rfl,rfl⟩;have st:=zFr hR (x:=.pin [.map b]) (.cells #[.map (some p.blk)] (Tryz.keys172_ren.t 23)) fun w' hw'=>⟨rfl,#[.map (some p.blk)],Tryz.keys172_ren.t 23,(0,0),by rw[hw'];simp,fun i x hx=>by
     have hi:i=0:=by
       have:=(q1Z.1 hx).1;simpa using this
     subst hi;cases hx;exact⟨.map (some p.blk),rfl,p,zBb (hR.dom _ (qnZ _)) b p hp,rfl⟩⟩
   refine ⟨_,_,rfl,?_,st⟩;simp only[VR];exact⟨#[],#[.pointer (some ⟨w.heap.size,0,none⟩)],rfl,rfl,_,[],rfl,⟨_,zb _ _ _,rfl⟩,rfl⟩
 · exact⟨by simp,fun b hb _=>by rw[q4Z hb]⟩
def zCj:zS:=fun args H=>match args with
 | [.func f [] [.ptr b 0]] =>
   if f=253 then
     match H[b]? with
     | some (.pin [.map m]) =>
       match H[m]? with
       | some (.map es) =>
         match zp (es.map (·.1)) with
         | some ks=>if ks.length<=1000000/\ks.all (fun k=>decide (k.length<=1000000)) then (if ks.length=0 then some (.nils,H,[]) else some (.slice H.length 0 ks.length 1 false,H++[.cells true ((ZI ks).map .str)],[])) else none
         | none=>none
       | _=>none
     | _=>none
   else none
 | _=>none
theorem zIP(j:Inj):∀l:List (List UInt8),VRs j (l.map .str) (l.map encStr)
 | []=>rfl
 | x::l=>⟨_,_,rfl,rfl,zIP j l⟩
theorem zFR:Sound Pz 171 zCj:=by
 have key:∀args H v H' W,zCj args H=some (v,H',W)->∃b m es ks,args=[.func 253 [] [.ptr b 0]]/\H[b]? = some (.pin [.map m])/\H[m]? = some (.map es)/\zp (es.map (·.1))=some ks/\(ks.length<=1000000/\∀k∈ks,k.length<=1000000)/\W=[] /\
     ((ks.length=0/\v=.nils/\H'=H)\/(ks.length≠0/\v=.slice H.length 0 ks.length 1 false/\H'=H++[.cells true ((ZI ks).map .str)])):=by
   intro args H v H' W h;unfold zCj at h;split at h;rotate_left
   · cases h
   rename_i f b;split at h;rotate_left
   · cases h
   rename_i hf;subst hf;split at h;rotate_left
   · cases h
   rename_i m hb;split at h;rotate_left
   · cases h
   rename_i es hm;split at h;rotate_left
   · cases h
   rename_i ks hk;split at h;rotate_left
   · cases h
   rename_i hc;refine ⟨b,m,es,ks,rfl,hb,hm,hk,⟨hc.1,by simpa using hc.2⟩,?_⟩;split at h <;> cases h
   · exact⟨rfl,.inl ⟨‹_›,rfl,rfl⟩⟩
   · exact⟨rfl,.inr ⟨‹_›,rfl,rfl⟩⟩
 refine ⟨zD Tryz.func171 rfl (by decide),fun args H v H' W h=>?_,fun args H v H' W h=>?_⟩;rotate_left
 · obtain⟨_,_,_,_,_,_,_,_,_,_,h1⟩:=key _ _ _ _ _ h
   rcases h1 with⟨_,_,rfl⟩ | ⟨_,_,rfl⟩
   · exact⟨qnZ _,fun _ _ _=>rfl⟩
   · exact⟨by simp,fun b hb _=>by rw[q4Z hb]⟩
 obtain⟨b,m,es,ks,rfl,hb,hm,hk,hbd,_,hres⟩:=key _ _ _ _ _ h;intro j w cargs hR hargs;obtain⟨a,cs,e,h1,h2⟩:=hargs;simp only[VRs]at h2;subst h2;simp only[VR,VRs]at h1;obtain⟨cx,cy,rfl,h3,u,us,h4,⟨p,hp,rfl⟩,rfl⟩:=h1;have ex:cx=#[]:=by apply Array.ext';rw[h3]
 subst ex;obtain⟨p0,bcs,T,fz,hbw,hbc⟩:=hR.blk b _ p hb hp;have ey:cy=#[.pointer (some ⟨p.blk,0,none⟩)]:=by apply Array.ext';rw[h4,p0]
 subst ey;have ec:cargs=#[.func (.func 253) #[] #[.pointer (some ⟨p.blk,0,none⟩)]]:=by apply Array.ext';rw[e]
 subst ec;obtain⟨vm,hvm,hvr⟩:=hbc 0 _ rfl;simp only[VR]at hvr;obtain⟨pm,hpm,rfl⟩:=hvr;obtain⟨ents,cl,g1,gs,g2⟩:=hR.blk m _ pm hm hpm;have hK:Tryz.prog.underlying (Tryz.keys172_ren.t 26)=some .string:=Tryz.underlying9;obtain⟨D,hown,hperm,hsz⟩:=zUE hK gs g2 hk hbd g1;have hcell:w.cell? ⟨p.blk,0,none⟩=some (.map (some pm.blk)):=by simp[World.cell?,hbw,hvm]
 have hlt:p.blk<w.heap.size:=(qtZ.1 hbw).1;have hseq:SeqGives Fence.wide 2 Pz 253 #[.pointer (some ⟨p.blk,0,none⟩)] encStr (fun ss=>ss.Perm (strKeys D)) (Maps.size D) w :=
   AnyZ.keys_gives (ρ:=Tryz.keys172_ren) { Tryz.keys172 with } Fence.wide _ trivial rfl (by omega) p.blk pm.blk _ D w hlt hcell hown
 refine (callsIn_wide (n:=5)).1 ?_;refine (AnyZ.sorted_in Tryz.sorted171 Fence.wide 5 trivial trivial trivial trivial rfl (by omega) (Tryz.sorts171 _) (enters_of Tryz.func124 (by kernel_rfl) rfl) 253 #[.pointer (some ⟨p.blk,0,none⟩)] trivial (enters_of Tryz.func253 (by kernel_rfl) rfl) _ _ (by rw[hsz];unfold maxLen;omega) (by rw[hsz];omega) _ hseq).mono ?_;rintro e w' ⟨v',ss,rfl,hS,hrow,hnil,hbelow⟩;have hperm2:ss.Perm ks:=hS.trans hperm;have hlen:ss.length=ks.length:=hperm2.length_eq;rw[zFD hperm2]at hrow;rcases hres with⟨h0,rfl,rfl⟩ | ⟨h0,rfl,rfl⟩
 · have hss:ss=[]:=List.eq_nil_of_length_eq_zero (by omega)
   have hv:=hnil.2 hss;subst hv;exact⟨_,j,rfl,rfl,Step.below hR hbelow (qnZ _)⟩
 · obtain⟨hl,h5⟩:=hrow
   rcases h5 with⟨rfl,hz⟩ | ⟨g,cap,cur,rfl,hg,hgw,hc1,hc2,hc3,hc4⟩
   · omega
   · have hll:((ZI ks).map AV.str).length=ks.length:=by rw[r7Z,(zU ks).length_eq]
     refine ⟨_,_,rfl,?_,zRx hR hbelow hg hgw (l:=(ZI ks).map .str) (by rw[hll];omega) ?_⟩
     · simp only[VR]
       exact⟨_,_,cap,zb _ _ _,by rw[hlen],by omega,by simp,hc2,.inr ⟨rfl,by dsimp only;omega⟩⟩
     · rw[hll,<-hlen]
       have:=zIP j (ZI ks);rw[<-hc4,Nat.mul_one]at this;exact this
def zEy:zS:=fun args H=>match args with
 | [.map b]=>match H[b]? with
   | some (.map es)=>some (.map H.length,H++[.map es],[])
   | _=>none
 | _=>none
theorem zRL(b:Nat)(es:Array MapEntry)(clock:Nat)(w:World)(hb:w.heap[b]? = some (.map es clock)) :
   Calls Pz 170 #[.map (some b)] w fun e w'=>e=.returned (.map (some w.heap.size))/\w'=w.alloc (.map es clock):=by
 have hq:=fun w=>run_eql_map_nil_sl (P:=Pz) w _ _ _ (some b) Tryz.underlying225
 go_enter Tryz.func170,Tryz.ntmps170
 go_wp2
 rw[run_callFunc_extern Tryz.func251 (by kernel_rfl) (by kernel_rfl) (by kernel_rfl) (e:=Extern.MapsClone.clone) (by kernel_rfl),run_maps_clone_sl w _ hb];simp only[Result.andThen];rw[Oper.upon_value]
 go_wp2
 rw[run_typeAssert_map_sl _ _ _ _ _ _ Tryz.underlying225];simp only[Result.andThen];rw[Oper.upon_value]
 go_wp2
 go_ret
 exact⟨rfl,rfl⟩
theorem zEz:Sound Pz 170 zEy:=by
 refine ⟨zD Tryz.func170 rfl (by decide),fun args H v H' W h=>?_,fun args H v H' W h=>?_⟩ <;> (unfold zEy at h;split at h;rotate_left;· cases h) <;> (split at h <;> cases h)
 · rename_i b _ es hb
   intro j w cargs hR hargs;obtain⟨a,cs,e,h1,h2⟩:=hargs;simp only[VRs]at h2;subst h2;simp only[VR]at h1;obtain⟨p,hp,rfl⟩:=h1;have ec:cargs=#[.map (some p.blk)]:=by apply Array.ext';rw[e]
   subst ec;obtain⟨ents,cl,g1,gs,g2⟩:=hR.blk b _ p hb hp;refine (zRL p.blk ents cl w g1).mono ?_;rintro e w' ⟨rfl,rfl⟩;have st:=zFr hR (x:=.map es) (.map ents cl) fun w' hw'=>⟨ents,cl,by rw[hw'];simp,gs,g2.mono (zBb (hR.dom _ (qnZ _)))⟩
   exact⟨_,_,rfl,⟨_,zb _ _ _,rfl⟩,st⟩
 · exact⟨by simp,fun b hb _=>by rw[q4Z hb]⟩
end
section
open Go Go.Lib Go.Sort
attribute [-simp] zG zT zc zJ zn
def zGb(ss:List (List UInt8)):List (List UInt8):=ss.mergeSort fun x y=>decide (x<=y)
theorem zOe{j:Inj}{H:zA}{w:World}(hR:R j H w){b:Nat}{ss:List (List UInt8)}{r:List AV}(hb:H[b]? = some (.cells true (ss.map AV.str++r))){p:JB}(hp:j b=some p) :
   Holds encStr w p.blk p.base ss.toArray:=by
 obtain⟨cs,T,fz,h1,h2,h3,h4,h5⟩:=hR.blk b _ p hb hp;intro i hi;have hi':i<ss.length:=by simpa using hi
 have hx:(ss.map AV.str++r)[i]? = some (.str ss[i]):=by rw[q4Z (by simpa using hi')];simp[hi']
 obtain⟨v,hv,hvr⟩:=h4 i _ hx;simp only[VR]at hvr;subst hvr;have h5':=h5 rfl (p.base+i) (by simp at h3;omega);constructor
 · simp[World.cell?,h1,hv,hi',encStr]
 · obtain⟨lo,hi2⟩:=fz
   simp only[World.frozen?,h1];simp only[Bool.and_eq_false_iff,decide_eq_false_iff_not];by_cases hlo:lo<=p.base+i
   · exact .inr fun h=>h5' ⟨hlo,h⟩
   · exact .inl hlo
theorem zOJ{j:Inj}{H:zA}{w:World}(hR:R j H w){b:Nat}{ss ys:List (List UInt8)}{r:List AV}(hb:H[b]? = some (.cells true (ss.map AV.str++r))){p:JB}(hp:j b=some p)(hl:ys.length=ss.length)(n:Nat)(os:Array Obj) :
   Step H.length j H w j (H.set b (.cells true (ys.map AV.str++r))) (grow ((w.drewN n).setCells p.blk p.base (ys.map encStr)) os):=by
 have s0:=Step.below hR (zMT w n) (qnZ H.length);have s1:=zEb s0.rel hb hp 0 (ys.map AV.str) (ys.map encStr) (zIP j ys) (by simp[hl]);rw[List.take_zero,qaZ,s8Z,List.drop_append_of_le_length (by simp[hl]),List.drop_of_length_le (by simp[hl]),qaZ,Nat.add_zero]at s1;have s2:=Step.below s1.rel (zNo _ os) (qnZ _);rw[r8Z]at s2;exact (s0.trans s1 (qnZ _)).trans s2 (qnZ _)
theorem zQ3{H:zA}{b:Nat}{ss:List (List UInt8)}{r:List AV}{c:Bool}(hb:H[b]? = some (.cells true (ss.map AV.str++r)))(hz:ss.length<=1000000000) :
   Ct Pz 124 [.sl b 0 ss.length 1 c] H (.tuple []) (H.set b (.cells true ((zGb ss).map AV.str++r))):=by
 intro j w cargs hR hargs;obtain⟨v,cs,e,h1,h2⟩:=hargs;simp only[VRs]at h2;subst h2;have same:ss=[]->H.set b (.cells true ((zGb ss).map AV.str++r))=H:=by
   rintro rfl;obtain⟨g1,g2⟩:=q1Z.1 hb;rw[show zGb []=[] by simp[zGb],<-g2,List.set_getElem_self]
 have hnone:∀q cap,ss=[]->cargs=#[.slice q 0 cap]->Calls Pz 124 cargs w fun e w'=>∃cv j2,e=.returned cv/\VR j2 (.tuple []) cv/\Step H.length j H w j2 (H.set b (.cells true ((zGb ss).map AV.str++r))) w':=by
   rintro q cap h0 rfl;rw[same h0];refine (Tryz.slices_Sort_string_none q cap w).mono ?_;rintro e w' ⟨rfl,rfl⟩;exact⟨_,j,rfl,⟨#[],rfl,rfl⟩,Step.refl hR (qnZ _)⟩
 rcases zDC h1 with⟨h0,rfl⟩ | h3
 · exact hnone _ _ (List.eq_nil_of_length_eq_zero h0) (by apply Array.ext';rw[e])
 · simp only[VR]at h3
   obtain⟨p,a,cap,hp,rfl,hcap,-,-,ha⟩:=h3;have ec:cargs=#[.slice (some a) ss.length cap]:=by apply Array.ext';rw[e]
   by_cases h0:ss=[]
   · subst h0
     exact hnone _ _ rfl ec
   · have hlen:0<ss.length:=List.length_pos_iff.2 h0
     obtain⟨rfl,-⟩:a=⟨p.blk,p.base+0,none⟩/\p.base+0+cap*1<=p.size:=by
       rcases ha with h | h
       · omega
       · exact h
     rw[Nat.add_zero]at ec;subst ec;have hlt:=hR.lt hb hp;have hh:=zOe hR hb hp;refine (Tryz.slices_Sort_string p.blk p.base cap ss w hh hlt (by omega)).mono ?_;rintro e w' ⟨rfl,n,os,rfl⟩;have hsl:(zGb ss).length=ss.length:=by simp[zGb]
     have hw:putRow encStr (Sort.ahead w n) p.blk p.base (zGb ss).toArray=(w.drewN n).setCells p.blk p.base ((zGb ss).map encStr):=putRow_eq_setCells encStr w p.blk p.base ss.toArray (zGb ss) n hh (by simp[hsl]);refine ⟨_,j,rfl,⟨#[],rfl,rfl⟩,?_⟩;show Step H.length j H w j _ (grow (putRow encStr (Sort.ahead w n) p.blk p.base (zGb ss).toArray) os);rw[hw];exact zOJ hR hb hp hsl n os
theorem zTB(ss:List (List UInt8)):zGb ss=ZI ss:=zFD (List.Perm.refl ss)
def zDM:zS:=fun args H=>match args with
 | [.slice b 0 n 1 _]=>match H[b]? with
   | some (.cells true l)=>match zp (l.take n) with
     | some ss=>if n=ss.length/\ss.length<=1000000000 then some (.tuple [],H.set b (.cells true ((ZI ss).map AV.str++l.drop n)),[b]) else none
     | none=>none
   | _=>none
 | _=>none
theorem zDZ:Sound Pz 124 zDM:=by
 refine ⟨zD Tryz.func124 rfl (by decide),fun args H v H' W hs=>?_,fun args H v H' W hs=>?_⟩ <;> (unfold zDM at hs;split at hs <;> try cases hs) <;> (split at hs <;> try cases hs) <;> (rename_i b n c _ l hb;split at hs <;> try cases hs) <;> (rename_i ss hz;split at hs <;> cases hs;rename_i hc)
 · have e0:l=ss.map AV.str++l.drop n:=by
     have:=zAL hz;rw[<-this,r6Z]
   have hb':H[b]? = some (.cells true (ss.map AV.str++l.drop n)):=by rw[<-e0];exact hb
   have h:=zQ3 (c:=c) hb' hc.2;rw[zTB]at h;rw[hc.1]at h ⊢;intro j w cargs hR hargs;obtain⟨v,cs,e,h1,h2⟩:=hargs;exact h j w cargs hR ⟨v,cs,e,zE4 h1,h2⟩
 · refine ⟨by simp,fun d hd hn=>?_⟩
   simp only[qwZ,rtZ,or_false]at hn;rw[qfZ (Ne.symm hn)]
end
end Go.Proofs.YtfhidaoiofeooaaGreatDoor
