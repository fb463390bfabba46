/- Parts of the proof of DiskTells: lemmas, each with its own conditions. -/
import Derived.Maps.RangeRun
import Derived.Test.YtfhidaoiofeooaaGreatY20
set_option maxHeartbeats 64000000
open List renaming getElem?_eq_some_iff → q1Z, getD_eq_getElem?_getD → q2Z, getElem?_eq_getElem → q3Z, getElem?_append_left → q4Z, cons_append → q9Z, replicate → qbZ, mem_of_getElem? → qcZ, mem_cons_self → qhZ, mem_cons_of_mem → qiZ, mem_cons → qwZ, getElem?_map → qzZ, take_append_drop → r6Z, length_map → r7Z, mem_map → reZ, getElem?_eq_none → s4Z, all_eq_true → s5Z, mem_filter → sbZ
open Option renaming map_eq_some_iff → qlZ, map_some → rhZ
open Nat renaming le_refl → qnZ
open Array renaming getElem?_eq_some_iff → qtZ, toList_append → rxZ
namespace Go.Proofs.YtfhidaoiofeooaaGreat
open _root_.Go.Proofs.Tryz renaming prog → Pz
set_option maxRecDepth 100000
section
open Go.RowKit Go.Maps Go.Sort Go.Shelf
def zDW(x:Int):List Int->List (List Int)
 | []=>[[x]]
 | y::l=>(x::y::l)::(zDW x l).map (y::·)
def zDN:List Int->List (List Int)
 | []=>[[]]
 | x::l=>(zDN l).flatMap (zDW x)
theorem zIN(x:Int):∀a b:List Int,a++x::b∈zDW x (a++b)
 | [],[]=>by simp[zDW]
 | [],y::b=>by simp[zDW]
 | y::a,b=>by
   simp only[q9Z,zDW,qwZ,reZ];exact .inr ⟨_,zIN x a b,rfl⟩
theorem zIp:∀(ks σ:List Int),σ.Perm ks->σ∈zDN ks
 | [],σ,h=>by simp[zDN,h.eq_nil]
 | x::l,σ,h=>by
   obtain⟨a,b,rfl⟩:=List.append_of_mem (h.symm.subset (qhZ ..));have h2:(a++b).Perm l:=(List.perm_middle.symm.trans h).cons_inv;exact List.mem_flatMap.2 ⟨_,zIp l _ h2,zIN x a b⟩
def zAo:List AV->Option (List Int)
 | []=>some []
 | .int .i64 n::l=>(zAo l).map (n::·)
 | _=>none
theorem zNZ:∀{l:List AV} {ks:List Int},zAo l=some ks->l=ks.map (.int .i64)
 | [],ks,h=>by cases h;rfl
 | x::l,ks,h=>by
   unfold zAo at h;split at h
   · cases h;simp_all
   · rename_i n l' e
     cases e;obtain⟨ks',h1,rfl⟩:=qlZ.1 h
     rw[zNZ h1];rfl
   · cases h
theorem zU8{es:List (AV×AV)}{ks:List Int}(h:zAo (es.map (·.1))=some ks):ks.length=es.length/\∀(i:Nat) x,es[i]? = some x->∃k,ks[i]? = some k/\x.1=.int .i64 k:=by
 have e:=zNZ h
 have hl:ks.length=es.length:=by
   have:=congrArg List.length e;simpa using this.symm
 refine ⟨hl,fun i x hx=>?_⟩
 have hi:i<ks.length:=by rw[hl];exact (q1Z.1 hx).1
 refine ⟨ks[i],q3Z hi,?_⟩
 have:=congrArg (fun l=>l[i]?) e
 simp only[qzZ,hx,q3Z hi,rhZ,Option.some.injEq]at this;exact this
theorem zTJ{P:Program}{K:TypeId}(hK:P.underlying K=some (.int .i64)){j:Inj}{es:List (AV×AV)}{ents:Array MapEntry}{cl:Nat}(hs:MapKept.Stamped ents cl)(hm:MRel j es ents.toList){ks:List Int}(hk:zAo (es.map (·.1))=some ks)
   (hb:ks.length<=1000000/\∀k∈ks,(Lit.int .i64 k).wf=true) {w:World} {b:Nat} (hw:w.heap[b]? = some (.map ents cl)) :
   ∃D:DataW Unit,w.ownsMap P K zHc b ents.size D/\(intKeys D).Perm ks/\Maps.size D=ks.length:=by
 obtain⟨hl,hat⟩:=zU8 hk
 have key:∀x∈ents.toList,∃k,k∈ks/\x.key=.int .i64 k/\WideElems.rd P K (zHc (H:=Unit)) x=some (.int .i64 k,.nil):=by
   intro x hx;obtain⟨i,hi⟩:=List.getElem?_of_mem hx
   have hil:i<es.length:=by rw[hm.1];exact (q1Z.1 hi).1
   obtain⟨k,h1,h2⟩:=hat i _ (q3Z hil);have h3:=(hm.2 i _ x (q3Z hil) hi).1;rw[h2]at h3;simp only[VR]at h3;have hkm:=qcZ h1;refine ⟨k,hkm,h3,?_⟩;have hkl:=hb.2 k hkm
   have:keyOf P K x.key=some (.int .i64 k):=by
     rw[h3];simp[keyOf,hK,mapKey,hkl]
   simp[WideElems.rd,this,zHc]
 have hperm:((ents.toList.map (WideElems.rg P K (zHc (H:=Unit)))).foldr DataW.insert []).Perm (ents.toList.map (WideElems.rg P K (zHc (H:=Unit)))):=WideShapes.sorted_perm _
 have hkeys:(ents.toList.map (WideElems.rg P K (zHc (H:=Unit)))).map (fun p=>Go.intOf p.1)=ks:=by
   refine List.ext_getElem? fun i=>?_
   simp only[qzZ]
   cases hx:ents.toList[i]? with
   | none =>
     have:ks.length<=i:=by rw[hl,hm.1];exact List.getElem?_eq_none_iff.1 hx
     rw[s4Z this];rfl
   | some x =>
     obtain⟨k,h1,h2,h3⟩:=key x (qcZ hx)
     have hil:i<es.length:=by rw[hm.1];exact (q1Z.1 hx).1
     obtain⟨k',h4,h5⟩:=hat i _ (q3Z hil);have h6:=(hm.2 i _ x (q3Z hil) hx).1;rw[h5]at h6;simp only[VR]at h6;rw[h4]
     have e:k=k':=by
       rw[h2]at h6;simpa using h6
     simp only[rhZ,WideElems.rg_of h3,e];rfl
 refine ⟨_,⟨ents,cl,hw,⟨?_,hs,fun x hx=>?_⟩,qnZ _,rfl⟩,?_,?_⟩
 · have:=hm.1
   simp at this;unfold maxLen;omega
 · obtain⟨k,_,_,h3⟩:=key x hx
   exact⟨_,h3⟩
 · have:=hperm.map (fun p=>Go.intOf p.1)
   rw[hkeys]at this;exact this
 · have:=hperm.length_eq
   show List.length _=_;rw[this];rw[<-hkeys];simp
def zJN:zU:=fun args H=>match args with
 | [.map b]=>some (.func 86 [] [.ptr H.length 0],H++[.pin [.map b]],[])
 | _=>none
theorem zHN:Sound Pz 25 zJN:=by
 refine ⟨zE Tryz.func25 rfl (by decide),fun args H v H' W h=>?_,fun args H v H' W h=>?_⟩ <;> (unfold zJN at h;split at h <;> cases h)
 · rename_i b
   intro j w cargs hR hargs;obtain⟨a,cs,e,h1,h2⟩:=hargs;simp only[VRs]at h2;subst h2;simp only[VR]at h1;obtain⟨p,hp,rfl⟩:=h1
   have ec:cargs=#[.map (some p.blk)]:=by apply Array.ext';rw[e]
   subst ec;refine (callsIn_wide (n:=5)).1 ?_;refine (AnyZI.keys_in Tryz.keys25 Fence.wide 5 trivial rfl (some p.blk) w).mono ?_;rintro e w' ⟨rfl,rfl⟩
   have st:=zC6 hR (x:=.pin [.map b]) (.cells #[.map (some p.blk)] (Tryz.keys25_ren.t 23)) fun w' hw'=>⟨rfl,#[.map (some p.blk)],Tryz.keys25_ren.t 23,(0,0),by rw[hw'];simp,fun i x hx=>by
     have hi:i=0:=by
       have:=(q1Z.1 hx).1;simpa using this
     subst hi;cases hx
     exact⟨.map (some p.blk),rfl,p,zBF (hR.dom _ (qnZ _)) b p hp,rfl⟩⟩
   refine ⟨_,_,rfl,?_,st⟩;simp only[VR];exact⟨#[],#[.pointer (some ⟨w.heap.size,0,none⟩)],rfl,rfl,_,[],rfl,⟨_,zf _ _ _,rfl⟩,rfl⟩
 · exact⟨by simp,fun b hb _=>by rw[q4Z hb]⟩
theorem zQH(j:Inj):∀l:List Int,VRs j (l.map (.int .i64)) (l.map encZ)
 | []=>rfl
 | x::l=>⟨_,_,rfl,rfl,zQH j l⟩
def zIw(H:zA)(σ:List Int):AV×zA :=
 if σ.length=0 then (.nils,H) else (.slice H.length 0 σ.length 1 false,H++[.cells true (σ.map (.int .i64))])
theorem zPx{j:Inj}{H:zA}{w:World}{cargs:Array Value}{b m:Nat}{es:List (AV×AV)}{ks:List Int}(hb:H[b]? = some (.pin [.map m]))(hm:H[m]? = some (.map es))(hk:zAo (es.map (·.1))=some ks)
   (hbd:ks.length<=1000000/\∀k∈ks,(Lit.int .i64 k).wf=true) (hR:R j H w) (hargs:VRs j [.func 86 [] [.ptr b 0]] cargs.toList) :
   Calls Pz 24 cargs w fun e w'=>∃x∈(zDN ks).map (zIw H),∃cv j',e=.returned cv/\VR j' x.1 cv/\Step H.length j H w j' x.2 w':=by
 obtain⟨a,cs,e,h1,h2⟩:=hargs;simp only[VRs]at h2;subst h2;simp only[VR,VRs]at h1;obtain⟨cx,cy,rfl,h3,u,us,h4,⟨p,hp,rfl⟩,rfl⟩:=h1
 have ex:cx=#[]:=by apply Array.ext';rw[h3]
 subst ex;obtain⟨p0,bcs,T,fz,hbw,hbc⟩:=hR.blk b _ p hb hp
 have ey:cy=#[.pointer (some ⟨p.blk,0,none⟩)]:=by apply Array.ext';rw[h4,p0]
 subst ey
 have ec:cargs=#[.func (.func 86) #[] #[.pointer (some ⟨p.blk,0,none⟩)]]:=by apply Array.ext';rw[e]
 subst ec;obtain⟨vm,hvm,hvr⟩:=hbc 0 _ rfl;simp only[VR]at hvr;obtain⟨pm,hpm,rfl⟩:=hvr;obtain⟨ents,cl,g1,gs,g2⟩:=hR.blk m _ pm hm hpm;have hK:Tryz.prog.underlying (Tryz.keys25_ren.t 26)=some (.int .i64):=Tryz.underlying3;obtain⟨D,hown,hperm,hsz⟩:=zTJ hK gs g2 hk hbd g1
 have hcell:w.cell? ⟨p.blk,0,none⟩=some (.map (some pm.blk)):=by simp[World.cell?,hbw,hvm]
 have hlt:p.blk<w.heap.size:=(qtZ.1 hbw).1
 have hseq:SeqGives Fence.wide (5-1-1) Pz 86 #[.pointer (some ⟨p.blk,0,none⟩)] encZ (fun ss=>ss.Perm (intKeys D)) (Maps.size D) w :=
   AnyZI.keys_gives (ρ:=Tryz.keys25_ren) { Tryz.keys25 with } Fence.wide _ trivial rfl (by omega) p.blk pm.blk _ D w hlt hcell hown
 refine (callsIn_wide (n:=5)).1 ?_
 refine (AnyZI.collect_in Tryz.collect24 Fence.wide 5 trivial trivial rfl (by omega) 86 #[.pointer (some ⟨p.blk,0,none⟩)] trivial (enters_of Tryz.func86 (by kernel_rfl) rfl) _ _ (by rw[hsz];unfold maxLen;omega) (by rw[hsz];omega) w hseq).mono ?_
 rintro e w' ⟨v',ss,rfl,hS,hrow,hnil,hbelow⟩;have hperm2:ss.Perm ks:=hS.trans hperm;have hlen:ss.length=ks.length:=hperm2.length_eq;refine ⟨zIw H ss,reZ.2 ⟨ss,zIp _ _ hperm2,rfl⟩,?_⟩;unfold zIw;by_cases h0:ss.length=0
 · rw[if_pos h0]
   have hss:ss=[]:=List.eq_nil_of_length_eq_zero h0;have hv:=hnil.2 hss;subst hv;exact⟨_,j,rfl,rfl,Step.below hR hbelow (qnZ _)⟩
 · rw[if_neg h0]
   obtain⟨hl,h5⟩:=hrow;rcases h5 with⟨rfl,hz⟩ | ⟨g,cap,cur,rfl,hg,hgw,hc1,hc2,hc3,hc4⟩
   · omega
   · refine ⟨_,_,rfl,?_,zNr hR hbelow hg hgw (l:=ss.map (.int .i64)) (by rw[r7Z];omega) ?_⟩
     · simp only[VR]
       exact⟨_,_,cap,zf _ _ _,rfl,by omega,by simp,hc2,.inr ⟨rfl,by dsimp only;omega⟩⟩
     · have:=zQH j ss
       rw[<-hc4,Nat.mul_one]at this;rw[r7Z];exact this
theorem zSQ(b:Nat)(es:Array MapEntry)(clock:Nat)(w:World)(hb:w.heap[b]? = some (.map es clock)) :
   Calls Pz 23 #[.map (some b)] w fun e w'=>e=.returned (.map (some w.heap.size))/\w'=w.alloc (.map es clock):=by
 have hq:=fun w=>run_eql_map_nil_sl (P:=Pz) w _ _ _ (some b) Tryz.underlying46
 go_enter Tryz.func23,Tryz.ntmps23
 go_wp2
 rw[run_callFunc_extern Tryz.func84 (by kernel_rfl) (by kernel_rfl) (by kernel_rfl) (e:=Extern.MapsClone.clone) (by kernel_rfl),run_maps_clone_sl w _ hb]
 simp only[Result.andThen];rw[Oper.upon_value]
 go_wp2
 rw[run_typeAssert_map_sl _ _ _ _ _ _ Tryz.underlying46];simp only[Result.andThen];rw[Oper.upon_value]
 go_wp2
 go_ret
 exact⟨rfl,rfl⟩
theorem zFF:Sound Pz 23 zAC:=by
 refine ⟨zE Tryz.func23 rfl (by decide),fun args H v H' W h=>?_,fun args H v H' W h=>?_⟩ <;> (unfold zAC at h;split at h;rotate_left;· cases h) <;> (split at h <;> cases h)
 · rename_i b _ es hb
   intro j w cargs hR hargs;obtain⟨a,cs,e,h1,h2⟩:=hargs;simp only[VRs]at h2;subst h2;simp only[VR]at h1;obtain⟨p,hp,rfl⟩:=h1
   have ec:cargs=#[.map (some p.blk)]:=by apply Array.ext';rw[e]
   subst ec;obtain⟨ents,cl,g1,gs,g2⟩:=hR.blk b _ p hb hp;refine (zSQ p.blk ents cl w g1).mono ?_;rintro e w' ⟨rfl,rfl⟩
   have st:=zC6 hR (x:=.map es) (.map ents cl) fun w' hw'=>⟨ents,cl,by rw[hw'];simp,gs,g2.mono (zBF (hR.dom _ (qnZ _)))⟩
   exact⟨_,_,rfl,⟨_,zf _ _ _,rfl⟩,st⟩
 · exact⟨by simp,fun b hb _=>by rw[q4Z hb]⟩
theorem zEe{P:Program}{Γ:Gam}(hΓ:GOk P Γ){ops:Array Oper}(r:Option Nat)(m:Nat){Q:Exit->Act->World->Prop}(rest:List Oper):∀(l:List Oper) (F F':List AV) (H H':zA) (j:Inj) (w:World) (a:Act),
   ZL P Γ ops l F H=some (F',H')->R j H w->VRs j F a.tmps.toList->∀ds,a.defers=ds ->
   (∀j' w' a',VRs j' F' a'.tmps.toList->a'.defers=ds->Step H.length j H w j' H' w'->wpListIn (FW r) m P ops Q rest a' w')->wpListIn (FW r) m P ops Q (l++rest) a w
 | [],F,F',H,H',j,w,a,h,hR,hF,ds,hd,hq=>by
   cases h;exact hq j w a hF hd (Step.refl hR (qnZ _))
 | o::l,F,F',H,H',j,w,a,h,hR,hF,ds,hd,hq=>by
   unfold ZL at h;show wpListIn (FW r) m P ops Q (o::(l++rest)) a w;unfold wpListIn;split at h
   · cases h
   · rename_i hw
     rw[Za hw hF]
     refine ⟨fun _ _=>trivial,?_⟩
     exact zEe hΓ r m rest l _ F' H H' j w _ h hR (zCX hF o.dst ⟨#[],rfl,rfl⟩) ds (by rw[ZU];exact hd) hq
   · rename_i hw
     rw[Za hw hF];simp only[if_true];split at h
     · cases h
     · rename_i v H1 ho
       refine zIJ hΓ ho hF hR r m fun cv j' w' hv hst=>?_
       have hle:=hst.jle hR (qnZ _)
       refine zEe hΓ r m rest l _ F' H1 H' j' w' _ h hst.rel (zCX (VRs.mono hle _ _ hF) o.dst hv) ds (by rw[ZU];exact hd) fun j2 w2 a2 h1 h2 h3=>?_
       exact hq j2 w2 a2 h1 h2 (hst.trans h3 hst.len)
theorem zI4{P:Program}{o:Oper}{a:Act}{j:Inj}{F:List AV}{H:zA}{w:World}{g:Operand}{args:Array Operand}{ts:Array TypeId}{f:FuncId}{first cap:List AV}{S:List (AV×zA)}
   (ho:o.op=.call ⟨.value g,args,ts⟩) (hg:ev F g=.func f first cap) (he:∀cargs w,(callFunc f cargs).run P w=.ok (.enter f cargs) w)
   (hct:∀cargs,VRs j (first++args.toList.map (ev F)++cap) cargs.toList->Calls P f cargs w fun e w'=>∃x∈S,∃cv j',e=.returned cv/\VR j' x.1 cv/\Step H.length j H w j' x.2 w')
   (hF:VRs j F a.tmps.toList) (r:Option Nat) (n:Nat) {K:Act->World->Prop} {Q:Exit->Act->World->Prop}
   (hk:∀x∈S,∀cv j' w',VR j' x.1 cv->Step H.length j H w j' x.2 w'->K (a.put o.dst cv) w'):o.wpIn (FW r) n P a w K Q:=by
 have hgv:=zW hF g;rw[hg]at hgv;simp only[VR]at hgv;obtain⟨cx,cy,hv,h1,h2⟩:=hgv;have hargs:=zDJ hF args
 refine ⟨fun _ _=>trivial,?_⟩
 rw[Oper.semAt_eq _ _ _ (by rw[ho];simp)]
 have e:(execOp a.eval o).run P w=.ok (.enter f (cx++args.map a.eval++cy)) w:=by
   unfold execOp;rw[ho];dsimp only
   have e1:Sem.run P (resolve a.eval ⟨.value g,args,ts⟩ o.type) w=.ok { target:=.fn (.func f) cy,args:=cx++args.map a.eval } w:=by
     unfold resolve;dsimp only;rw[hv];rfl
   rw[rb e1];exact he _ w
 rw[e]
 refine ⟨(fun hh=>by simp[FW,Fence.wide]at hh),zDp ?_⟩
 refine (hct (cx++args.map a.eval++cy) (by
   rw[rxZ,rxZ]
   exact (h1.append hargs).append h2)).mono ?_
 rintro e w' ⟨x,hx,cv,j',rfl,h3,h4⟩;exact hk x hx cv j' w' h3 h4
abbrev NDS:=FuncId->List AV->zA->Option (List (AV×zA))
structure NDOk (P:Program) (S:NDS):Prop where
 enter:∀f args H l,S f args H=some l->∀cargs w,(callFunc f cargs).run P w=.ok (.enter f cargs) w
 ct:∀f args H l,S f args H=some l->∀j w cargs,R j H w->VRs j args cargs.toList->Calls P f cargs w fun e w'=>∃x∈l,∃cv j',e=.returned cv/\VR j' x.1 cv/\Step H.length j H w j' x.2 w'
def zIu(P:Program)(Γ:Gam)(S:NDS)(ops:Array Oper)(c:Nat)(F:List AV)(H:zA):Option (List (List AV×zA)) :=
 match ZL P Γ ops (ops.toList.take c) F H with
 | none=>none
 | some (F1,H1) =>
   match ops.toList.drop c with
   | []=>none
   | o::rest =>
     match zAI ops o F1,o.op with
     | some true,.call ⟨.value g,args,_⟩ =>
       match ev F1 g with
       | .func f first cap =>
         match S f (first++args.toList.map (ev F1)++cap) H1 with
         | none=>none
         | some l=>l.mapM fun x=>ZL P Γ ops rest (ZW F1 o.dst x.1) x.2
       | _=>none
     | _,_=>none
theorem zN2{α β:Type}{f:α->Option β}:∀{l:List α} {ys:List β},l.mapM f=some ys->∀x∈l,∃y∈ys,f x=some y
 | [],_,_,x,hx=>by cases hx
 | a::l,ys,h,x,hx=>by
   rw[List.mapM_cons]at h
   cases ha:f a with
   | none=>rw[ha]at h;cases h
   | some b =>
     rw[ha]at h
     cases hl:l.mapM f with
     | none=>rw[hl]at h;cases h
     | some bs =>
       rw[hl]at h;cases h;rcases qwZ.1 hx with rfl | hx
       · exact⟨b,qhZ ..,ha⟩
       · obtain⟨y,h1,h2⟩:=zN2 hl x hx
         exact⟨y,qiZ _ h1,h2⟩
theorem zLg{P:Program}{Γ:Gam}(hΓ:GOk P Γ){S:NDS}(hS:NDOk P S){r:Option Nat}{id:Nat}{ops:Array Oper}{c:Nat}{F:List AV}{H:zA}{l:List (List AV×zA)}(h:zIu P Γ S ops c F H=some l) :
   Sim P r H.length (.region id ops false) F H fun x F1 H1=>x=.normal/\(F1,H1)∈l:=by
 intro B j w a m hB hR hF hd;unfold zIu at h;split at h
 · cases h
 rename_i F1 H1 h1;split at h
 · cases h
 rename_i o rest hdrop;split at h;rotate_left
 · cases h
 rename_i g args ts hw ho;split at h;rotate_left
 · cases h
 rename_i f first cap hg;split at h
 · cases h
 rename_i xs hxs;refine wpIn_region_list ?_
 rw[show ops.toList=ops.toList.take c++(o::rest) by rw[<-hdrop,r6Z]]
 refine zEe hΓ r m (o::rest) _ F F1 H H1 j w a h1 hR hF _ rfl fun j1 w1 a1 g1 g2 s1=>?_
 unfold wpListIn;rw[Za hw g1];simp only[if_true]
 refine zI4 (S:=xs) ho hg (hS.enter _ _ _ _ hxs) (fun cargs hc=>hS.ct _ _ _ _ hxs j1 w1 cargs s1.rel hc) g1 r m fun x hx cv j2 w2 hv s2=>?_
 obtain⟨⟨F3,H3⟩,hy,h3⟩:=zN2 h x hx;have hle:=s2.jle s1.rel (qnZ _)
 refine zEy hΓ r m rest _ F3 x.2 H3 j2 w2 _ h3 s2.rel (zCX (VRs.mono hle _ _ g1) o.dst hv) a.defers (by rw[ZU];exact g2) fun j3 w3 a3 k1 k2 s3=>?_
 have s12:=s1.trans s2 s1.len;have s123:=s12.trans s3 s12.len
 exact⟨.normal,F3,H3,j3,rfl,⟨rfl,hy⟩,k1,by rw[k2];exact hd.step hR s123,s123⟩
def zWh(v:AV)(H:zA):List Nat:=(zI2 H H 20000 (zTs v v) []).map (·.1)
def zVt(n:Nat)(rs:List Nat):Nat->zA->zA
 | _,[]=>[]
 | i,x::H=>(if Nat.blt i n || rs.contains i then x else .dead)::zVt n rs (i+1) H
def zSZ(n:Nat)(v:AV)(H:zA):zA:=zVt n (zWh v H) 0 H
def rnD(n:Nat)(v:AV)(Hc:zA)(vx:AV)(Hx:zA):List Nat :=
 (List.range Hc.length).map fun i=>if Nat.blt i n then i else match (zI2 Hc Hx 20000 (zTs v vx) []).find? (fun x=>x.1==i) with | some x=>x.2 | none=>Hx.length+i
def zQX(P:Program)(rs:List ResultVar)(r:zLW):Option (AV×zA):=match r with
 | some (.ret,F',H')=>(zBv P rs F' H').map (·,H')
 | some (.normal,F',H')=>(zBv P rs F' H').map (·,H')
 | _=>none
def zLl(n:Nat)(v:AV)(Hc:zA)(x:Option (AV×zA)):Bool:=match x with
 | some (vx,Hx)=>zOB n (rnD n v Hc vx Hx) [vx] Hx [v] Hc
 | none=>false
def zWZ(P:Program)(Γ:Gam)(n:Nat)(mid rest:Code)(F:List AV)(H:zA):zLW:=match zq P Γ n true mid F H with
 | some (.normal,F',H')=>zq P Γ n true rest F' H'
 | _=>none
def zTH(P:Program)(Γ:Gam)(S:NDS)(n:Nat)(fn:Func)(K c:Nat)(args:List AV)(H:zA):Option (AV×zA) :=
 match fn.body with
 | none=>none
 | some code =>
   match zDK P Γ n true K code (args++qbZ (fn.ntmps-args.length) zd) H with
   | none=>none
   | some (F1,H1) =>
     if Nat.ble H.length H1.length then
       match zBx K code with
       | .seq (.seq (.region _ ops false) mid) rest =>
         match zIu P Γ S ops c F1 H1 with
         | some (y::more) =>
           match zQX P fn.results.toList (zWZ P Γ n mid rest y.1 y.2) with
           | some (v,H2)=>if (y::more).all (fun y=>zLl H.length v (zSZ H.length v H2) (zQX P fn.results.toList (zWZ P Γ n mid rest y.1 y.2))) then some (v,zSZ H.length v H2) else none
           | none=>none
         | _=>none
       | _=>none
     else none
theorem zRD{P:Program}(hm:P.follows .mixedOrders=true){Γ:Gam}(hΓ:GOk P Γ){n n0:Nat}{rest:Code}{F:List AV}{H:zA}{rs:List ResultVar}{v:AV}{Hc:zA}(hn:n0<=H.length)(h:zLl n0 v Hc (zQX P rs (zq P Γ n true rest F H))=true) :
   Sim P none n0 rest F H fun x F1 H1=>(x=.normal\/x=.ret)/\∃v1,zBv P rs F1 H1=some v1/\Weak n0 [v1] H1 [v] Hc:=by
 have key:∀x F' H' v',zq P Γ n true rest F H=some (x,F',H')->(x=.normal\/x=.ret)->zBv P rs F' H'=some v'->Weak n0 [v'] H' [v] Hc->Sim P none n0 rest F H fun x F1 H1=>(x=.normal\/x=.ret)/\∃v1,zBv P rs F1 H1=some v1/\Weak n0 [v1] H1 [v] Hc:=by
   intro x F' H' v' h1 h2 h3 h4
   refine ((ZR hm hΓ none n true (fun _=>rfl) rest F F' H H' x h1).len hn).mono ?_
   rintro x1 F1 H1 _ ⟨rfl,rfl,rfl⟩;exact⟨h2,_,h3,h4⟩
 unfold zLl at h;split at h;rotate_left
 · cases h
 rename_i vx Hx he;have hw:=zNm h;unfold zQX at he;split at he
 · rename_i F' H' hr
   obtain⟨v',h1,e⟩:=qlZ.1 he;cases e;exact key _ _ _ _ hr (.inr rfl) h1 hw
 · rename_i F' H' hr
   obtain⟨v',h1,e⟩:=qlZ.1 he;cases e;exact key _ _ _ _ hr (.inl rfl) h1 hw
 · cases he
theorem zUJ{P:Program}(hm:P.follows .mixedOrders=true){Γ:Gam}(hΓ:GOk P Γ){S:NDS}(hS:NDOk P S){n:Nat}{f:FuncId}{fn:Func}(hf:P.funcs[f]? = some fn){K c:Nat}{args:List AV}{H H':zA}{v:AV}(h:zTH P Γ S n fn K c args H=some (v,H')):Ct P f args H v H':=by
 unfold zTH at h;split at h
 · cases h
 rename_i code hc;split at h
 · cases h
 rename_i F1 H1 h1;split at h;rotate_left
 · cases h
 rename_i hle;rw[Nat.ble_eq]at hle;split at h;rotate_left
 · cases h
 rename_i id ops mid rest hr;split at h;rotate_left
 · cases h
 rename_i y more hnd;split at h;rotate_left
 · cases h
 rename_i v2 H2 he
 split at h <;> cases h
 rename_i hall;rw[s5Z]at hall;refine zG hf hc ?_
 refine zFZ hm hΓ K code _ F1 H H1 h1 (qnZ _) fun _=>?_
 rw[hr];refine Sim.seq (Sim.seq ?_);refine ((zLg hΓ hS hnd).len hle).mono ?_;rintro x F3 H3 hl ⟨rfl,hmem⟩;have h5:=hall _ hmem;unfold zWZ at h5;split at h5
 · rename_i F4 H4 h4
   refine ((ZR hm hΓ none n true (fun _=>rfl) mid F3 F4 H3 H4 .normal h4).len hl).mono ?_
   rintro x5 F5 H5 hl5 ⟨rfl,rfl,rfl⟩;exact zRD hm hΓ hl5 h5
 · cases h5
theorem zXA{H H':zA}(hl:H.length<=H'.length)(b:Nat)(hb:b<H.length)(hn:b∉ZV false 0 H H'):H'[b]? = H[b]?:=by
 rw[zEH]at hn
 have h1:ZM (H.getD b .dead) (H'.getD b .dead)=true:=by
   cases hx:ZM (H.getD b .dead) (H'.getD b .dead) with
   | true=>rfl
   | false=>exact absurd (sbZ.2 ⟨List.mem_range.2 hb,by rw[hx];rfl⟩) hn
 have e:=zGG h1
 rw[q2Z,q2Z,q3Z hb,q3Z (show b<H'.length by omega)]at e
 rw[q3Z hb,q3Z (show b<H'.length by omega)]
 simpa using e.symm
def zV8(P:Program)(Γ:Gam)(S:NDS)(n:Nat)(fn:Func)(K c:Nat)(args:List AV)(H:zA):Option (AV×zA×List Nat) :=
 match zTH P Γ S n fn K c args H with
 | some (v,H')=>if Nat.ble H.length H'.length then some (v,H',ZV false 0 H H') else none
 | none=>match zEN P Γ n fn args H with
   | some (v,H')=>if Nat.ble H.length H'.length then some (v,H',ZV false 0 H H') else none
   | none=>none
def ndS(P:Program)(Γ:Gam)(S:NDS)(n:Nat)(fn:Func)(K c:Nat):zU:=fun args H =>
 zOq args fun args=>fcH H fun H=>zV8 P Γ S n fn K c args H
theorem zTc {P : Program} (hm : P.follows .mixedOrders = true) {Γ : Gam} (hΓ : GOk P Γ) {S : NDS} (hS : NDOk P S) {n : Nat} {f : FuncId} {fn : Func} (hf : P.funcs[f]? = some fn) (hb : fn.body.isSome = true) (hn : (fn.name == "runtime.NumGoroutine") = false) (K c : Nat) : Sound P f (ndS P Γ S n fn K c) := by
 have e:∀args H,ndS P Γ S n fn K c args H=zV8 P Γ S n fn K c args H:=fun args H=>by unfold ndS;rw[zFy,zEM]
 have key:∀args H v H' W,ndS P Γ S n fn K c args H=some (v,H',W)->Ct P f args H v H'/\H.length<=H'.length/\W=ZV false 0 H H':=by
   intro args H v H' W h;rw[e]at h;unfold zV8 at h;split at h
   · rename_i v1 H1 h1
     split at h <;> cases h
     rename_i hl;rw[Nat.ble_eq]at hl;exact⟨zUJ hm hΓ hS hf h1,hl,rfl⟩
   · split at h
     · rename_i v1 H1 h1
       split at h <;> cases h
       rename_i hl;rw[Nat.ble_eq]at hl;exact⟨zFL hm hΓ hf h1,hl,rfl⟩
     · cases h
 refine ⟨zE hf hb hn,fun args H v H' W h=>(key _ _ _ _ _ h).1,fun args H v H' W h=>?_⟩
 obtain⟨_,h2,rfl⟩:=key _ _ _ _ _ h;exact⟨h2,zXA h2⟩
def zKN:NDS:=fun f args H =>
 if f=24 then
   match args with
   | [.func g [] [.ptr b 0]] =>
     if g=86 then
       match H[b]? with
       | some (.pin [.map m]) =>
         match H[m]? with
         | some (.map es) =>
           match zAo (es.map (·.1)) with
           | some ks=>if ks.length<=1000000/\ks.all (fun k=>(Lit.int .i64 k).wf) then some ((zDN ks).map (zIw H)) else none
           | none=>none
         | _=>none
       | _=>none
     else none
   | _=>none
 else none
theorem zNj:NDOk Pz zKN:=by
 have key:∀f args H l,zKN f args H=some l->∃b m es ks,f=24/\args=[.func 86 [] [.ptr b 0]]/\H[b]? = some (.pin [.map m])/\H[m]? = some (.map es)/\zAo (es.map (·.1))=some ks/\(ks.length<=1000000/\∀k∈ks,(Lit.int .i64 k).wf=true)/\l=(zDN ks).map (zIw H):=by
   intro f args H l h;unfold zKN at h;split at h;rotate_left
   · cases h
   rename_i hf;split at h;rotate_left
   · cases h
   rename_i g b;split at h;rotate_left
   · cases h
   rename_i hg;subst hg;split at h;rotate_left
   · cases h
   rename_i m hb;split at h;rotate_left
   · cases h
   rename_i es hm;split at h;rotate_left
   · cases h
   rename_i ks hk
   split at h <;> cases h
   rename_i hc
   exact⟨b,m,es,ks,hf,rfl,hb,hm,hk,⟨hc.1,by simpa using hc.2⟩,rfl⟩
 refine ⟨fun f args H l h=>?_,fun f args H l h j w cargs hR hargs=>?_⟩
 · obtain⟨_,_,_,_,rfl,_⟩:=key _ _ _ _ h
   exact zE Tryz.func24 rfl (by decide)
 · obtain⟨b,m,es,ks,rfl,rfl,hb,hm,hk,hbd,rfl⟩:=key _ _ _ _ h
   exact zPx hb hm hk hbd hR hargs
def zTx:Gam:=zo [(25,zJN),(23,zAC),(82,zAC)]
theorem zSK:GOk Pz zTx:=zB zHN (zB zFF (zB zB8 zC))
def zMU:List FuncId:=[22,26,83,87]
noncomputable def zTI:zU:=ndS Pz (zBf Pz zTx 100 zMU 5) zKN 100 Tryz.f8 4 3
theorem zMs:Sound Pz 8 zTI :=
 zTc hmix (zJD hmix zSK 100 zMU 5) zNj Tryz.func8 rfl (by decide) 4 3
end
section
open Go Go.Lib Go.MapKept
open Go.ChangeMaps (setBlock)
end
section
open Go Go.Lib
attribute [-simp] zN zr ZI zT ZL
end
end Go.Proofs.YtfhidaoiofeooaaGreat
