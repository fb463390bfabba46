/- Parts of the proof of ReplayMends: lemmas, each with its own conditions. -/
import Derived.Test.YtpmfecnajoojeaaGreatDoorY35
import Derived.Test.YtpmfecnajoojeaaGreatDoorY25
set_option maxHeartbeats 64000000
open List renaming getElem?_eq_some_iff → q1Z, getD_eq_getElem?_getD → q2Z, getElem?_eq_getElem → q3Z, getElem?_append_left → q4Z, take_of_length_le → q6Z, length_cons → q7Z, length_nil → q8Z, cons_append → q9Z, nil_append → qaZ, replicate → qbZ, mem_of_getElem? → qcZ, mem_cons_self → qhZ, length_take → qjZ, mem_cons → qwZ, getElem?_map → qzZ, append_nil → r2Z, getElem_mem → r3Z, take_append_drop → r6Z, length_map → r7Z, getElem?_cons_succ → r9Z, nodup_cons → rdZ, mem_map → reZ, map_append → roZ, map_cons → s1Z, getElem?_eq_none → s4Z, all_eq_true → s5Z, set_cons_zero → s9Z
open Option renaming map_eq_some_iff → qlZ, map_some → rhZ
open Nat renaming le_refl → qnZ, zero_add → s8Z
open Array renaming getElem?_eq_some_iff → qtZ, toList_append → rxZ
namespace Go.Proofs.YtpmfecnajoojeaaGreatDoor
open _root_.Go.Proofs.Tryz renaming prog → Pz
set_option maxRecDepth 100000
section
open Go.RowKit Go.Maps Go.Sort Go.Shelf
def zC3(x:Int):List Int->List (List Int)
 | []=>[[x]]
 | y::l=>(x::y::l)::(zC3 x l).map (y::·)
def zC9:List Int->List (List Int)
 | []=>[[]]
 | x::l=>(zC9 l).flatMap (zC3 x)
theorem zIs(x:Int):∀a b:List Int,a++x::b∈zC3 x (a++b)
 | [],[]=>by simp[zC3]
 | [],y::b=>by simp[zC3]
 | y::a,b=>by
   simp only[q9Z,zC3,qwZ,reZ];exact .inr ⟨_,zIs x a b,rfl⟩
theorem zHe:∀(ks σ:List Int),σ.Perm ks->σ∈zC9 ks
 | [],σ,h=>by simp[zC9,h.eq_nil]
 | x::l,σ,h=>by
   obtain⟨a,b,rfl⟩:=List.append_of_mem (h.symm.subset (qhZ ..));have h2:(a++b).Perm l:=(List.perm_middle.symm.trans h).cons_inv;exact List.mem_flatMap.2 ⟨_,zHe l _ h2,zIs x a b⟩
def zAX:List AV->Option (List Int)
 | []=>some []
 | .int .i64 n::l=>(zAX l).map (n::·)
 | _=>none
theorem zNS:∀{l:List AV} {ks:List Int},zAX l=some ks->l=ks.map (.int .i64)
 | [],ks,h=>by cases h;rfl
 | x::l,ks,h=>by
   unfold zAX at h;split at h
   · cases h;simp_all
   · rename_i n l' e
     cases e;obtain⟨ks',h1,rfl⟩:=qlZ.1 h
     rw[zNS h1];rfl
   · cases h
theorem zUy{es:List (AV×AV)}{ks:List Int}(h:zAX (es.map (·.1))=some ks):ks.length=es.length/\∀(i:Nat) x,es[i]? = some x->∃k,ks[i]? = some k/\x.1=.int .i64 k:=by
 have e:=zNS h
 have hl:ks.length=es.length:=by
   have:=congrArg List.length e;simpa using this.symm
 refine ⟨hl,fun i x hx=>?_⟩
 have hi:i<ks.length:=by rw[hl];exact (q1Z.1 hx).1
 refine ⟨ks[i],q3Z hi,?_⟩
 have:=congrArg (fun l=>l[i]?) e
 simp only[qzZ,hx,q3Z hi,rhZ,Option.some.injEq]at this;exact this
theorem zSX{P:Program}{K:TypeId}(hK:P.underlying K=some (.int .i64)){j:Inj}{es:List (AV×AV)}{ents:Array MapEntry}{cl:Nat}(hs:MapKept.Stamped ents cl)(hm:MRel j es ents.toList){ks:List Int}(hk:zAX (es.map (·.1))=some ks)
   (hb:ks.length<=1000000/\∀k∈ks,(Lit.int .i64 k).wf=true) {w:World} {b:Nat} (hw:w.heap[b]? = some (.map ents cl)) :
   ∃D:DataW Unit,w.ownsMap P K zHC b ents.size D/\(intKeys D).Perm ks/\Maps.size D=ks.length:=by
 obtain⟨hl,hat⟩:=zUy hk
 have key:∀x∈ents.toList,∃k,k∈ks/\x.key=.int .i64 k/\WideElems.rd P K (zHC (H:=Unit)) x=some (.int .i64 k,.nil):=by
   intro x hx;obtain⟨i,hi⟩:=List.getElem?_of_mem hx
   have hil:i<es.length:=by rw[hm.1];exact (q1Z.1 hi).1
   obtain⟨k,h1,h2⟩:=hat i _ (q3Z hil);have h3:=(hm.2 i _ x (q3Z hil) hi).1;rw[h2]at h3;simp only[VR]at h3;have hkm:=qcZ h1;refine ⟨k,hkm,h3,?_⟩;have hkl:=hb.2 k hkm
   have:keyOf P K x.key=some (.int .i64 k):=by
     rw[h3];simp[keyOf,hK,mapKey,hkl]
   simp[WideElems.rd,this,zHC]
 have hperm:((ents.toList.map (WideElems.rg P K (zHC (H:=Unit)))).foldr DataW.insert []).Perm (ents.toList.map (WideElems.rg P K (zHC (H:=Unit)))):=WideShapes.sorted_perm _
 have hkeys:(ents.toList.map (WideElems.rg P K (zHC (H:=Unit)))).map (fun p=>Go.intOf p.1)=ks:=by
   refine List.ext_getElem? fun i=>?_
   simp only[qzZ]
   cases hx:ents.toList[i]? with
   | none =>
     have:ks.length<=i:=by rw[hl,hm.1];exact List.getElem?_eq_none_iff.1 hx
     rw[s4Z this];rfl
   | some x =>
     obtain⟨k,h1,h2,h3⟩:=key x (qcZ hx)
     have hil:i<es.length:=by rw[hm.1];exact (q1Z.1 hx).1
     obtain⟨k',h4,h5⟩:=hat i _ (q3Z hil);have h6:=(hm.2 i _ x (q3Z hil) hx).1;rw[h5]at h6;simp only[VR]at h6;rw[h4]
     have e:k=k':=by
       rw[h2]at h6;simpa using h6
     simp only[rhZ,WideElems.rg_of h3,e];rfl
 refine ⟨_,⟨ents,cl,hw,⟨?_,hs,fun x hx=>?_⟩,qnZ _,rfl⟩,?_,?_⟩
 · have:=hm.1
   simp at this;unfold maxLen;omega
 · obtain⟨k,_,_,h3⟩:=key x hx
   exact⟨_,h3⟩
 · have:=hperm.map (fun p=>Go.intOf p.1)
   rw[hkeys]at this;exact this
 · have:=hperm.length_eq
   show List.length _=_;rw[this];rw[<-hkeys];simp
def zLz:zc:=fun args H=>match args with
 | [.map b]=>some (.func 179 [] [.ptr H.length 0],H++[.pin [.map b]],[])
 | _=>none
theorem zNV:Sound Pz 110 zLz:=by
 refine ⟨zH Tryz.func110 rfl (by decide),fun args H v H' W h=>?_,fun args H v H' W h=>?_⟩ <;> (unfold zLz at h;split at h <;> cases h)
 · rename_i b
   intro j w cargs hR hargs;obtain⟨a,cs,e,h1,h2⟩:=hargs;simp only[VRs]at h2;subst h2;simp only[VR]at h1;obtain⟨p,hp,rfl⟩:=h1
   have ec:cargs=#[.map (some p.blk)]:=by apply Array.ext';rw[e]
   subst ec;refine (callsIn_wide (n:=5)).1 ?_;refine (AnyZI.keys_in Tryz.keys110 Fence.wide 5 trivial rfl (some p.blk) w).mono ?_;rintro e w' ⟨rfl,rfl⟩
   have st:=zCn hR (x:=.pin [.map b]) (.cells #[.map (some p.blk)] (Tryz.keys110_ren.t 23)) fun w' hw'=>⟨rfl,#[.map (some p.blk)],Tryz.keys110_ren.t 23,(0,0),by rw[hw'];simp,fun i x hx=>by
     have hi:i=0:=by
       have:=(q1Z.1 hx).1;simpa using this
     subst hi;cases hx
     exact⟨.map (some p.blk),rfl,p,zAo (hR.dom _ (qnZ _)) b p hp,rfl⟩⟩
   refine ⟨_,_,rfl,?_,st⟩;simp only[VR];exact⟨#[],#[.pointer (some ⟨w.heap.size,0,none⟩)],rfl,rfl,_,[],rfl,⟨_,ze _ _ _,rfl⟩,rfl⟩
 · exact⟨by simp,fun b hb _=>by rw[q4Z hb]⟩
theorem zQk(j:Inj):∀l:List Int,VRs j (l.map (.int .i64)) (l.map encZ)
 | []=>rfl
 | x::l=>⟨_,_,rfl,rfl,zQk j l⟩
def zIG(H:zA)(σ:List Int):AV×zA :=
 if σ.length=0 then (.nils,H) else (.slice H.length 0 σ.length 1 false,H++[.cells true (σ.map (.int .i64))])
theorem zPV{j:Inj}{H:zA}{w:World}{cargs:Array Value}{b m:Nat}{es:List (AV×AV)}{ks:List Int}(hb:H[b]? = some (.pin [.map m]))(hm:H[m]? = some (.map es))(hk:zAX (es.map (·.1))=some ks)
   (hbd:ks.length<=1000000/\∀k∈ks,(Lit.int .i64 k).wf=true) (hR:R j H w) (hargs:VRs j [.func 179 [] [.ptr b 0]] cargs.toList) :
   Calls Pz 109 cargs w fun e w'=>∃x∈(zC9 ks).map (zIG H),∃cv j',e=.returned cv/\VR j' x.1 cv/\Step H.length j H w j' x.2 w':=by
 obtain⟨a,cs,e,h1,h2⟩:=hargs;simp only[VRs]at h2;subst h2;simp only[VR,VRs]at h1;obtain⟨cx,cy,rfl,h3,u,us,h4,⟨p,hp,rfl⟩,rfl⟩:=h1
 have ex:cx=#[]:=by apply Array.ext';rw[h3]
 subst ex;obtain⟨p0,bcs,T,fz,hbw,hbc⟩:=hR.blk b _ p hb hp
 have ey:cy=#[.pointer (some ⟨p.blk,0,none⟩)]:=by apply Array.ext';rw[h4,p0]
 subst ey
 have ec:cargs=#[.func (.func 179) #[] #[.pointer (some ⟨p.blk,0,none⟩)]]:=by apply Array.ext';rw[e]
 subst ec;obtain⟨vm,hvm,hvr⟩:=hbc 0 _ rfl;simp only[VR]at hvr;obtain⟨pm,hpm,rfl⟩:=hvr;obtain⟨ents,cl,g1,gs,g2⟩:=hR.blk m _ pm hm hpm;have hK:Tryz.prog.underlying (Tryz.keys110_ren.t 26)=some (.int .i64):=Tryz.underlying3;obtain⟨D,hown,hperm,hsz⟩:=zSX hK gs g2 hk hbd g1
 have hcell:w.cell? ⟨p.blk,0,none⟩=some (.map (some pm.blk)):=by simp[World.cell?,hbw,hvm]
 have hlt:p.blk<w.heap.size:=(qtZ.1 hbw).1
 have hseq:SeqGives Fence.wide (5-1-1) Pz 179 #[.pointer (some ⟨p.blk,0,none⟩)] encZ (fun ss=>ss.Perm (intKeys D)) (Maps.size D) w :=
   AnyZI.keys_gives (ρ:=Tryz.keys110_ren) { Tryz.keys110 with } Fence.wide _ trivial rfl (by omega) p.blk pm.blk _ D w hlt hcell hown
 refine (callsIn_wide (n:=5)).1 ?_
 refine (AnyZI.collect_in Tryz.collect109 Fence.wide 5 trivial trivial rfl (by omega) 179 #[.pointer (some ⟨p.blk,0,none⟩)] trivial (enters_of Tryz.func179 (by kernel_rfl) rfl) _ _ (by rw[hsz];unfold maxLen;omega) (by rw[hsz];omega) w hseq).mono ?_
 rintro e w' ⟨v',ss,rfl,hS,hrow,hnil,hbelow⟩;have hperm2:ss.Perm ks:=hS.trans hperm;have hlen:ss.length=ks.length:=hperm2.length_eq;refine ⟨zIG H ss,reZ.2 ⟨ss,zHe _ _ hperm2,rfl⟩,?_⟩;unfold zIG;by_cases h0:ss.length=0
 · rw[if_pos h0]
   have hss:ss=[]:=List.eq_nil_of_length_eq_zero h0;have hv:=hnil.2 hss;subst hv;exact⟨_,j,rfl,rfl,Step.below hR hbelow (qnZ _)⟩
 · rw[if_neg h0]
   obtain⟨hl,h5⟩:=hrow;rcases h5 with⟨rfl,hz⟩ | ⟨g,cap,cur,rfl,hg,hgw,hc1,hc2,hc3,hc4⟩
   · omega
   · refine ⟨_,_,rfl,?_,zME hR hbelow hg hgw (l:=ss.map (.int .i64)) (by rw[r7Z];omega) ?_⟩
     · simp only[VR]
       exact⟨_,_,cap,ze _ _ _,rfl,by omega,by simp,hc2,.inr ⟨rfl,by dsimp only;omega⟩⟩
     · have:=zQk j ss
       rw[<-hc4,Nat.mul_one]at this;rw[r7Z];exact this
theorem zSA(b:Nat)(es:Array MapEntry)(clock:Nat)(w:World)(hb:w.heap[b]? = some (.map es clock)) :
   Calls Pz 108 #[.map (some b)] w fun e w'=>e=.returned (.map (some w.heap.size))/\w'=w.alloc (.map es clock):=by
 have hq:=fun w=>run_eql_map_nil_sl (P:=Pz) w _ _ _ (some b) Tryz.underlying115
 go_enter Tryz.func108,Tryz.ntmps108
 go_wp2
 rw[run_callFunc_extern Tryz.func177 (by kernel_rfl) (by kernel_rfl) (by kernel_rfl) (e:=Extern.MapsClone.clone) (by kernel_rfl),run_maps_clone_sl w _ hb]
 simp only[Result.andThen];rw[Oper.upon_value]
 go_wp2
 rw[run_typeAssert_map_sl _ _ _ _ _ _ Tryz.underlying115];simp only[Result.andThen];rw[Oper.upon_value]
 go_wp2
 go_ret
 exact⟨rfl,rfl⟩
theorem zJh:Sound Pz 108 zAO:=by
 refine ⟨zH Tryz.func108 rfl (by decide),fun args H v H' W h=>?_,fun args H v H' W h=>?_⟩ <;> (unfold zAO at h;split at h;rotate_left;· cases h) <;> (split at h <;> cases h)
 · rename_i b _ es hb
   intro j w cargs hR hargs;obtain⟨a,cs,e,h1,h2⟩:=hargs;simp only[VRs]at h2;subst h2;simp only[VR]at h1;obtain⟨p,hp,rfl⟩:=h1
   have ec:cargs=#[.map (some p.blk)]:=by apply Array.ext';rw[e]
   subst ec;obtain⟨ents,cl,g1,gs,g2⟩:=hR.blk b _ p hb hp;refine (zSA p.blk ents cl w g1).mono ?_;rintro e w' ⟨rfl,rfl⟩
   have st:=zCn hR (x:=.map es) (.map ents cl) fun w' hw'=>⟨ents,cl,by rw[hw'];simp,gs,g2.mono (zAo (hR.dom _ (qnZ _)))⟩
   exact⟨_,_,rfl,⟨_,ze _ _ _,rfl⟩,st⟩
 · exact⟨by simp,fun b hb _=>by rw[q4Z hb]⟩
theorem zGG{P:Program}{Γ:Gam}(hΓ:GOk P Γ){ops:Array Oper}(r:Option Nat)(m:Nat){Q:Exit->Act->World->Prop}(rest:List Oper):∀(l:List Oper) (F F':List AV) (H H':zA) (j:Inj) (w:World) (a:Act),
   zl P Γ ops l F H=some (F',H')->R j H w->VRs j F a.tmps.toList->∀ds,a.defers=ds ->
   (∀j' w' a',VRs j' F' a'.tmps.toList->a'.defers=ds->Step H.length j H w j' H' w'->wpListIn (FW r) m P ops Q rest a' w')->wpListIn (FW r) m P ops Q (l++rest) a w
 | [],F,F',H,H',j,w,a,h,hR,hF,ds,hd,hq=>by
   cases h;exact hq j w a hF hd (Step.refl hR (qnZ _))
 | o::l,F,F',H,H',j,w,a,h,hR,hF,ds,hd,hq=>by
   unfold zl at h;show wpListIn (FW r) m P ops Q (o::(l++rest)) a w;unfold wpListIn;split at h
   · cases h
   · rename_i hw
     rw[Zg hw hF]
     refine ⟨fun _ _=>trivial,?_⟩
     exact zGG hΓ r m rest l _ F' H H' j w _ h hR (zBZ hF o.dst ⟨#[],rfl,rfl⟩) ds (by rw[ZY];exact hd) hq
   · rename_i hw
     rw[Zg hw hF];simp only[if_true];split at h
     · cases h
     · rename_i v H1 ho
       refine zH2 hΓ ho hF hR r m fun cv j' w' hv hst=>?_
       have hle:=hst.jle hR (qnZ _)
       refine zGG hΓ r m rest l _ F' H1 H' j' w' _ h hst.rel (zBZ (VRs.mono hle _ _ hF) o.dst hv) ds (by rw[ZY];exact hd) fun j2 w2 a2 h1 h2 h3=>?_
       exact hq j2 w2 a2 h1 h2 (hst.trans h3 hst.len)
theorem zOV{P:Program}{o:Oper}{a:Act}{j:Inj}{F:List AV}{H:zA}{w:World}{g:Operand}{args:Array Operand}{ts:Array TypeId}{f:FuncId}{first cap:List AV}{S:List (AV×zA)}
   (ho:o.op=.call ⟨.value g,args,ts⟩) (hg:ev F g=.func f first cap) (he:∀cargs w,(callFunc f cargs).run P w=.ok (.enter f cargs) w)
   (hct:∀cargs,VRs j (first++args.toList.map (ev F)++cap) cargs.toList->Calls P f cargs w fun e w'=>∃x∈S,∃cv j',e=.returned cv/\VR j' x.1 cv/\Step H.length j H w j' x.2 w')
   (hF:VRs j F a.tmps.toList) (r:Option Nat) (n:Nat) {K:Act->World->Prop} {Q:Exit->Act->World->Prop}
   (hk:∀x∈S,∀cv j' w',VR j' x.1 cv->Step H.length j H w j' x.2 w'->K (a.put o.dst cv) w'):o.wpIn (FW r) n P a w K Q:=by
 have hgv:=zQ hF g;rw[hg]at hgv;simp only[VR]at hgv;obtain⟨cx,cy,hv,h1,h2⟩:=hgv;have hargs:=zC5 hF args
 refine ⟨fun _ _=>trivial,?_⟩
 rw[Oper.semAt_eq _ _ _ (by rw[ho];simp)]
 have e:(execOp a.eval o).run P w=.ok (.enter f (cx++args.map a.eval++cy)) w:=by
   unfold execOp;rw[ho];dsimp only
   have e1:Sem.run P (resolve a.eval ⟨.value g,args,ts⟩ o.type) w=.ok { target:=.fn (.func f) cy,args:=cx++args.map a.eval } w:=by
     unfold resolve;dsimp only;rw[hv];rfl
   rw[rb e1];exact he _ w
 rw[e]
 refine ⟨(fun hh=>by simp[FW,Fence.wide]at hh),zCz ?_⟩
 refine (hct (cx++args.map a.eval++cy) (by
   rw[rxZ,rxZ]
   exact (h1.append hargs).append h2)).mono ?_
 rintro e w' ⟨x,hx,cv,j',rfl,h3,h4⟩;exact hk x hx cv j' w' h3 h4
abbrev NDS:=FuncId->List AV->zA->Option (List (AV×zA))
structure NDOk (P:Program) (S:NDS):Prop where
 enter:∀f args H l,S f args H=some l->∀cargs w,(callFunc f cargs).run P w=.ok (.enter f cargs) w
 ct:∀f args H l,S f args H=some l->∀j w cargs,R j H w->VRs j args cargs.toList->Calls P f cargs w fun e w'=>∃x∈l,∃cv j',e=.returned cv/\VR j' x.1 cv/\Step H.length j H w j' x.2 w'
def zMe:NDS:=fun f args H =>
 if f=109 then
   match args with
   | [.func g [] [.ptr b 0]] =>
     if g=179 then
       match H[b]? with
       | some (.pin [.map m]) =>
         match H[m]? with
         | some (.map es) =>
           match zAX (es.map (·.1)) with
           | some ks=>if ks.length<=1000000/\ks.all (fun k=>(Lit.int .i64 k).wf) then some ((zC9 ks).map (zIG H)) else none
           | none=>none
         | _=>none
       | _=>none
     else none
   | _=>none
 else none
theorem zTd:NDOk Pz zMe:=by
 have key:∀f args H l,zMe f args H=some l->∃b m es ks,f=109/\args=[.func 179 [] [.ptr b 0]]/\H[b]? = some (.pin [.map m])/\H[m]? = some (.map es)/\zAX (es.map (·.1))=some ks/\(ks.length<=1000000/\∀k∈ks,(Lit.int .i64 k).wf=true)/\l=(zC9 ks).map (zIG H):=by
   intro f args H l h;unfold zMe at h;split at h;rotate_left
   · cases h
   rename_i hf;split at h;rotate_left
   · cases h
   rename_i g b;split at h;rotate_left
   · cases h
   rename_i hg;subst hg;split at h;rotate_left
   · cases h
   rename_i m hb;split at h;rotate_left
   · cases h
   rename_i es hm;split at h;rotate_left
   · cases h
   rename_i ks hk
   split at h <;> cases h
   rename_i hc
   exact⟨b,m,es,ks,hf,rfl,hb,hm,hk,⟨hc.1,by simpa using hc.2⟩,rfl⟩
 refine ⟨fun f args H l h=>?_,fun f args H l h j w cargs hR hargs=>?_⟩
 · obtain⟨_,_,_,_,rfl,_⟩:=key _ _ _ _ h
   exact zH Tryz.func109 rfl (by decide)
 · obtain⟨b,m,es,ks,rfl,rfl,hb,hm,hk,hbd,rfl⟩:=key _ _ _ _ h
   exact zPV hb hm hk hbd hR hargs
end
section
open Go Go.Lib
attribute [-simp] zJ zY zn zL zl
noncomputable def zHM:zc:=fun args H=>match args with
 | [.ptr b 0]=>match H[b]? with
   | some (.obj true sub)=>match zDX sub with
     | some f=>if f.acts.length<=1000000000 then some (.ptr H.length 0,H++[.obj true f.blks],[]) else none
     | none=>none
   | _=>none
 | _=>none
theorem zKm:Sound Pz 111 zHM:=by
 refine ⟨zH Tryz.func111 rfl (by decide),fun args H v H' W hs=>?_,fun args H v H' W hs=>?_⟩ <;> (unfold zHM at hs;split at hs <;> try cases hs) <;> (split at hs <;> try cases hs) <;> (rename_i b _ sub hb;split at hs <;> try cases hs) <;> (rename_i f hf;split at hs <;> cases hs;rename_i hk)
 · have e:=zBt hf
   subst e;have hbl:b<H.length:=(q1Z.1 hb).1
   have:=ZE (H:=H) (args:=[.ptr b 0]) (zST f hk) [b] (by simp) ⟨⟨rfl,rfl⟩,trivial⟩ ⟨by rw[q2Z,hb];exact⟨rfl,rfl⟩,hbl,trivial⟩ rfl
   obtain⟨h1,h2⟩:=q1Z.1 hb
   have hset:H.set b (.obj true f.blks)=H:=by rw[<-h2,List.set_getElem_self]
   simpa[zf,ABlk.own,reB,reA,Z5,hset] using this
 · exact⟨by simp,fun c hc _=>by rw[q4Z hc]⟩
noncomputable def zHJ:zc:=fun args H=>match args with
 | [.ptr b 0]=>match H[b]? with
   | some (.obj true sub)=>match zFe sub with
     | some f=>if f.acts.length<=1000000 then some (.ptr H.length 0,H++[.obj true f.blks],[]) else none
     | none=>none
   | _=>none
 | _=>none
theorem zK1:Sound Pz 107 zHJ:=by
 refine ⟨zH Tryz.func107 rfl (by decide),fun args H v H' W hs=>?_,fun args H v H' W hs=>?_⟩ <;> (unfold zHJ at hs;split at hs <;> try cases hs) <;> (split at hs <;> try cases hs) <;> (rename_i b _ sub hb;split at hs <;> try cases hs) <;> (rename_i f hf;split at hs <;> cases hs;rename_i hk)
 · have e:=zBF hf
   subst e;have hbl:b<H.length:=(q1Z.1 hb).1
   have:=ZE (H:=H) (args:=[.ptr b 0]) (zSH f hk) [b] (by simp) ⟨⟨rfl,rfl⟩,trivial⟩ ⟨by rw[q2Z,hb];exact⟨rfl,rfl⟩,hbl,trivial⟩ rfl
   obtain⟨h1,h2⟩:=q1Z.1 hb
   have hset:H.set b (.obj true f.blks)=H:=by rw[<-h2,List.set_getElem_self]
   simpa[zf,ABlk.own,reB,reA,Z5,hset] using this
 · exact⟨by simp,fun c hc _=>by rw[q4Z hc]⟩
theorem Sim.nd{P:Program}{Γ:Gam}(hΓ:GOk P Γ){S:NDS}(hS:NDOk P S){r:Option Nat}{n0 id:Nat}{ops:Array Oper}(c:Nat){F F1:List AV}{H H1:zA}{Q:AX->List AV->zA->Prop}{l1 rest:List Oper}{o:Oper}{g:Operand}{args:Array Operand}{ts:Array TypeId}{f:FuncId}{first cap:List AV}{xs:List (AV×zA)}
   (hn:n0<=H.length) (ht:ops.toList.take c=l1) (hdrop:ops.toList.drop c=o::rest) (h1:zFV P Γ ops l1 F H=some (F1,H1)) (hw:zAW ops o F1=some true) (ho:o.op=.call ⟨.value g,args,ts⟩) (hg:ev F1 g=.func f first cap)
   (hxs:S f (first++args.toList.map (ev F1)++cap) H1=some xs) (hq:∀x∈xs,∃F2 H2,zFV P Γ ops rest (Zi F1 o.dst x.1) x.2=some (F2,H2)/\Q .normal F2 H2):Sim P r n0 (.region id ops false) F H Q:=by
 intro B j w a m hB hR hF hd;refine wpIn_region_list ?_
 rw[show ops.toList=l1++(o::rest) by rw[<-hdrop,<-ht,r6Z]]
 rw[zCd]at h1
 refine zGG hΓ r m (o::rest) _ F F1 H H1 j w a h1 hR hF _ rfl fun j1 w1 a1 g1 g2 s1=>?_
 unfold wpListIn;rw[Zg hw g1];simp only[if_true]
 refine zOV (S:=xs) ho hg (hS.enter _ _ _ _ hxs) (fun cargs hc=>hS.ct _ _ _ _ hxs j1 w1 cargs s1.rel hc) g1 r m fun x hx cv j2 w2 hv s2=>?_
 obtain⟨F3,H3,h3,hQ⟩:=hq x hx;rw[zCd]at h3;have hle:=s2.jle s1.rel (qnZ _)
 refine zF3 hΓ r m rest _ F3 x.2 H3 j2 w2 _ h3 s2.rel (zBZ (VRs.mono hle _ _ g1) o.dst hv) a.defers (by rw[ZY];exact g2) fun j3 w3 a3 k1 k2 s3=>?_
 have s12:=s1.trans s2 s1.len;have s123:=s12.trans s3 s12.len
 exact⟨.normal,F3,H3,j3,rfl,hQ,k1,by rw[k2];exact hd.step hR s123,⟨s123.rel,fun b hb=>s123.ext b (by omega),by have:=s123.len;omega,s123.keeps,s123.fresh,s123.tch⟩⟩
theorem zG1(x:Int):∀(l s:List Int),s∈zC3 x l->s.Perm (x::l)
 | [],s,h=>by simp[zC3]at h;rw[h]
 | y::l,s,h=>by
   simp only[zC3,qwZ,reZ]at h;rcases h with rfl | ⟨s',h1,rfl⟩
   · exact List.Perm.refl _
   · exact ((zG1 x l s' h1).cons y).trans (List.Perm.swap x y l)
theorem zGd:∀(ks s:List Int),s∈zC9 ks->s.Perm ks
 | [],s,h=>by simp[zC9]at h;rw[h]
 | x::l,s,h=>by
   obtain⟨t,h1,h2⟩:=List.mem_flatMap.1 h;exact (zG1 x t s h2).trans ((zGd l t h1).cons x)
noncomputable def zVA:Gam:=zv [(107,zHJ),(108,zAO),(110,zLz),(111,zHM)]
theorem zUO:GOk Pz zVA:=zC zK1 (zC zJh (zC zNV (zC zKm zD)))
theorem zG0(N:Nat)(g:Nat->Nat):∀(k:Nat) (l:FS),(∀i,k<=i->i<k+l.length->g i<N)->((zO g k l).all fun e=>below N e.1&&below N e.2)=true
 | _,[],_=>rfl
 | k,e::l,h=>by
   have h0:=h k (qnZ _) (by simp)
   have ih:=zG0 N g (k+1) l fun i h1 h2=>h i (by omega) (by simp;omega)
   simp[zO,below,h0,ih]
theorem zGz(g:Nat->Nat):∀(k:Nat) (l:FS),zAX ((zO g k l).map (·.1))=some (FS.keys l)
 | _,[]=>rfl
 | k,e::l=>by
   have ih:=zGz g (k+1) l;simp only[zO,s1Z,zAX,FS.keys]at ih ⊢
   rw[ih];rfl
theorem zGN(g:Nat->Nat):∀(k:Nat) (l:FS) (j:Nat),(zO g k l)[j]? = (l[j]?).map fun e=>(.int .i64 e.1,.ptr (g (k+j)) 0)
 | _,[],j=>by simp[zO]
 | k,e::l,0=>rfl
 | k,e::l,j+1=>by
   simp only[zO,r9Z]
   rw[zGN g (k+1) l j,show k+1+j=k+(j+1) by omega]
def cpB(fs:FS)(σ:List Int)(i:Nat):zA:=(σ.take i).map fun n=>.obj true ((FS.get fs n).getD ⟨[],[]⟩).blks
def cpG(fs:FS)(σ:List Int)(n i k:Nat):Nat:=if σ.idxOf ((FS.keys fs).getD k 0)<i then n+8+σ.idxOf ((FS.keys fs).getD k 0) else k+3
theorem zVQ{fs:FS}(hnd:(FS.keys fs).Nodup){σ:List Int}(hσ:σ.Nodup)(n:Nat){i:Nat}{v:Int}{f:PF}(hi:σ[i]? = some v)(hf:FS.get fs v=some f) :
   cpG fs σ n i (FS.at fs v)=FS.at fs v+3/\(zO (cpG fs σ n i) 0 fs).set (FS.at fs v) (.int .i64 v,.ptr (n+8+i) 0)=zO (cpG fs σ n (i+1)) 0 fs/\cpB fs σ (i+1)=cpB fs σ i++[.obj true f.blks]:=by
 have hil:i<σ.length:=(q1Z.1 hi).1
 have hidx:σ.idxOf v=i:=by
   have:=(q1Z.1 hi).2;rw[<-this];exact List.Nodup.idxOf_getElem hσ i hil
 have hat:=FS.at_get hf;have hq:=FS.at_lt hf
 have hk:(FS.keys fs).getD (FS.at fs v) 0=v:=by simp[FS.keys,q2Z,hat]
 refine ⟨?_,?_,?_⟩
 · unfold cpG;rw[hk,hidx,if_neg (by omega)]
 · refine List.ext_getElem? fun j=>?_
   rw[List.getElem?_set,zGN,zGN,s8Z];by_cases hj:FS.at fs v=j
   · subst hj
     rw[if_pos rfl,if_pos (by simpa using hq),hat]
     simp only[rhZ];unfold cpG
     rw[hk,hidx,if_pos (by omega)]
   · rw[if_neg hj]
     cases hfj:fs[j]? with
     | none=>rfl
     | some e =>
       simp only[rhZ]
       have hkj:(FS.keys fs).getD j 0=e.1:=by simp[FS.keys,q2Z,hfj]
       have hne:e.1≠v:=by
         intro he
         have h1:(FS.keys fs)[j]? = some v:=by simp[FS.keys,hfj,he]
         have h2:(FS.keys fs)[FS.at fs v]? = some v:=by simp[FS.keys,hat]
         have hjl:=(q1Z.1 h1).1;have hql:=(q1Z.1 h2).1;have e1:=(q1Z.1 h1).2;have e2:=(q1Z.1 h2).2;exact hj ((List.getElem_inj hnd).1 (e2.trans e1.symm))
       have hni:σ.idxOf e.1≠i:=by
         intro he
         have hl:σ.idxOf e.1<σ.length:=by rw[he];exact hil
         have:=List.getElem_idxOf hl;have e2:=(q1Z.1 hi).2;simp only[he]at this;exact hne (this.symm.trans e2)
       have:cpG fs σ n i j=cpG fs σ n (i+1) j:=by
         unfold cpG;rw[hkj];by_cases h:σ.idxOf e.1<i
         · rw[if_pos h,if_pos (by omega)]
         · rw[if_neg h,if_neg (by omega)]
       rw[this]
 · unfold cpB
   rw[List.take_add_one,hi,roZ,Option.toList_some];simp[hf]
theorem zS2(d:DS){A B:Nat}(hok:d.ok A B)(hA:A<=1000000)(hB:B<=1000000000):Ct Pz 37 [.ptr 0 0] [.obj true d.blks] (.ptr 1 0) [.obj true d.blks,.obj true d.blks]:=by
 have hΓ:=zUO
 have hal:d.fd.acts.length<=1000000:=by have:=hok.fd.len;omega
 obtain⟨n,hn⟩:∃n,d.fs.length=n:=⟨_,rfl⟩
 have hn6:n<=1000000:=by have:=hok.len;omega
 have hX:=behind d.fs;rw[hn]at hX;have hXl:=hX.len;have hXg:=hX.get;have hXg0:=hX.get0;have hXs:=hX.set;have hXs0:=hX.set0
 have hopen:ZD [.obj true d.blks] 0 d.blks=d.heap []:=by
   have hg:∀i,zAG 0 1 i=i:=fun i=>by unfold zAG;split <;> omega
   unfold ZD;rw[DS.heap_eq,r2Z];simp only[DS.blks,q7Z,q8Z,List.getD_cons_zero,s9Z,List.drop_succ_cons,List.drop_zero,q9Z,qaZ,s8Z,s1Z]
   rw[zDw hg,zDw hg,zDw hg,List.map_congr_left (fun B _=>zDw hg B)]
   simp
 refine zK Tryz.func37 rfl ?_;simp only[Tryz.ntmps37,q7Z,q8Z,Nat.reduceAdd,Nat.reduceSub,qbZ,q9Z,qaZ]
 refine Sim.aft (Aft.open (b:=0) rfl (by simp) (Aft.done (by rw[hopen];simp[DS.heap]) ?_))
 rw[hopen]
 have hMb:∀N,n+3<=N->((zO (fun i=>i+3) 0 d.fs).all fun e=>below N e.1&&below N e.2)=true:=fun N h=>zG0 N _ 0 d.fs fun i _ hi=>by omega
 have hXb:∀N,(zM d.fs).all (zAQ N)=true:=fun N=>by
   rw[s5Z];intro B hB;obtain⟨e,_,rfl⟩:=reZ.1 hB;rfl
 have hXd:∀T:zA,(zM d.fs++T).drop n=T:=fun T=>List.drop_left' hXl
 have hXd2:∀(T:zA) j,(zM d.fs++T).drop (n+j)=T.drop j:=fun T j=>by rw[<-hXl,List.drop_length_add_append]
 have hq1:(n+1 != n)=true:=by simp
 have hq2:(n+2 != n)=true:=by simp
 unfold DS.heap DS.cell0;obtain⟨X,eX⟩:∃X,zM d.fs=X:=⟨_,rfl⟩;rw[eX]at hXl hXg hXg0 hXs hXs0 hXb hXd hXd2 ⊢
 refine Sim.step hmix hΓ (n:=0) (by simp;exact⟨rfl,rfl⟩) (by simp) ?_
 refine Sim.step hmix hΓ (n:=0) (by simp;exact⟨rfl,rfl⟩) (by simp) ?_
 refine Sim.step hmix hΓ (n:=0) (by simp[hXl,hXs0];exact⟨rfl,rfl⟩) (by simp) ?_
 refine Sim.seq (Sim.draw hmix (by simp) ?_)
 refine SimR.many hΓ 14 (by simp[zI];rfl) (by omega) (by kernel_rfl) (by simp +decide [zVA,zHJ,zAO,scA,zAQ,zDL,ABlk.own,zV,below,hMb,hXb,hXd2,hq1,hal,hXl,hXs0];exact⟨zI2 (by kernel_rfl) (by simp[zGO] <;> omega) (by simp <;> omega),rfl,rfl⟩) ?_
 refine SimR.done rfl ?_;dsimp only
 obtain⟨H1,hH1⟩:∃H1:zA,.cells true [.ptr 1 0,.map 2,.int .i64 d.quota,.int .i64 d.steps,.int .i64 d.armed,.bool d.down]::.obj true d.fd.blks::.map (zO (fun i=>i+3) 0 d.fs)::(X++[.cells true [.ptr (n+1+1+1+1) 0,.map (n+2+1+1+1),.int .i64 d.quota,.int .i64 d.steps,.int .i64 d.armed,.bool d.down],.obj true d.fd.blks,.map (zO (fun i=>i+3) 0 d.fs),.pin [.map (n+2+1+1+1)]])=H1:=⟨_,rfl⟩
 have hkl:(FS.keys d.fs).length<=1000000:=by have:=hok.len;simp[FS.keys];omega
 have hlast:=hok.fd.hi
 have hwf:(FS.keys d.fs).all (fun k=>(Lit.int .i64 k).wf)=true:=by
   rw[s5Z];intro k hk;have:=hok.rng k hk;have e1:IntKind.i64.min = -9223372036854775808:=rfl;simp[Lit.wf,e1];omega
 have hcol:zMe 109 [.func 179 [] [.ptr (n+3+1+1+1) 0]] H1=some ((zC9 (FS.keys d.fs)).map (zIG H1)):=by
   have e1:H1[n+3+1+1+1]? = some (.pin [.map (n+2+1+1+1)]):=by
     rw[<-hH1];simp only[r9Z];exact hXg _ 3
   have e2:H1[n+2+1+1+1]? = some (.map (zO (fun i=>i+3) 0 d.fs)):=by
     rw[<-hH1];simp only[r9Z];exact hXg _ 2
   unfold zMe;simp only[if_true,e1,e2,zGz];rw[if_pos ⟨hkl,hwf⟩]
 refine Sim.seq (Sim.mono (Q:=fun e F' H'=>e=.normal/\∃σ:List Int,σ.Perm (FS.keys d.fs)/\LessF ([.ptr 0 0,.top,.top,.ptr (n+3) 0]++qbZ 37 .top) F'/\∃T,H'=.cells true [.ptr 1 0,.map 2,.int .i64 d.quota,.int .i64 d.steps,.int .i64 d.armed,.bool d.down]::.obj true d.fd.blks::.map (zO (fun i=>i+3) 0 d.fs)::(X++([.cells true [.ptr (n+4) 0,.map (n+5),.int .i64 d.quota,.int .i64 d.steps,.int .i64 d.armed,.bool d.down],.obj true d.fd.blks,.map (zO (cpG d.fs σ n σ.length) 0 d.fs)]++T))/\(0<σ.length->∃A B,T=A::B::cpB d.fs σ σ.length)) (Sim.seq (Sim.nd hΓ zTd 3 (by simp) rfl rfl (by simp +decide [zVA,zLz,hXl];exact⟨rfl,rfl⟩) (by simp) rfl (by simp;exact⟨rfl,rfl,rfl⟩) (by simp[hH1,hcol];rfl) fun x hx=>?_)) ?_)
 · obtain⟨σ,hσ,rfl⟩:=reZ.1 hx
   have hp:=zGd _ _ hσ
   have hsl:σ.length=n:=by rw[hp.length_eq,<-hn];simp[FS.keys]
   unfold zIG;by_cases h0:σ.length=0
   · rw[if_pos h0]
     refine ⟨_,_,by simp;exact⟨rfl,rfl⟩,?_⟩
     dsimp only
     refine Sim.exec hmix hΓ (n:=2) (by simp;exact⟨rfl,rfl,rfl⟩) (by rw[<-hH1];simp) ?_
     have hfs:d.fs=[]:=List.eq_nil_of_length_eq_zero (by omega)
     have hn0:n=0:=by omega
     subst hn0
     refine ⟨rfl,σ,hp,by simp,[.pin [.map 5]],?_,fun h=>by omega⟩
     rw[<-hH1,hfs];rfl
   · rw[if_neg h0]
     refine ⟨_,_,by simp;exact⟨rfl,rfl⟩,?_⟩
     have hσn:σ.Nodup:=hp.nodup_iff.2 hok.nd
     have hH1l:H1.length=n+7:=by rw[<-hH1];simp[hXl]
     obtain⟨HH,hHH⟩:∃HH:Nat->zA,HH=fun i=>.cells true [.ptr 1 0,.map 2,.int .i64 d.quota,.int .i64 d.steps,.int .i64 d.armed,.bool d.down]::.obj true d.fd.blks::.map (zO (fun i=>i+3) 0 d.fs)::(X++(.cells true [.ptr (n+4) 0,.map (n+5),.int .i64 d.quota,.int .i64 d.steps,.int .i64 d.armed,.bool d.down]::.obj true d.fd.blks::.map (zO (cpG d.fs σ n i) 0 d.fs)::.pin [.map (n+5)]::.cells true (σ.map (.int .i64))::cpB d.fs σ i)):=⟨_,rfl⟩
     have hHH0:H1++[.cells true (σ.map (.int .i64))]=HH 0:=by
       rw[hHH,<-hH1]
       have:zO (cpG d.fs σ n 0) 0 d.fs=zO (fun i=>i+3) 0 d.fs:=zBM 0 d.fs fun i _ _=>by unfold cpG;rw[if_neg (by omega)]
       simp[this,cpB]
     rw[hHH0,hH1l]
     refine Sim.block (Sim.loopS (fun i:Nat=>i<=n) (fun i=>[.ptr 0 0,.top,.top,.ptr (n+3) 0]++qbZ 22 .top++[.slice (n+7) 0 n 1 false,.int .i64 n,.int .i64 i]++qbZ 12 .top) HH (fun i=>n-i) 0 (by rw[hHH];simp) (by simp) ⟨by simp[hsl],rfl⟩ fun i hi=>?_)
     by_cases hlt:i<n
     · have hltI:(i:Int)<n:=by omega
       have hil:i<σ.length:=by omega
       obtain⟨v,hv⟩:∃v,σ[i]=v:=⟨_,rfl⟩
       have hv':σ[i]? = some v:=by rw[q3Z hil,hv]
       have hg:∀h,(σ.map (AV.int .i64))[i]'h=.int .i64 v:=fun h=>by simp[hv]
       have hvk:v∈FS.keys d.fs:=hp.subset (qcZ hv');obtain⟨f,hf⟩:=FS.get_some.2 hvk
       have hfa:f.acts.length<=1000000000:=by have:=(hok.fine _ (FS.get_mem hf)).acts;dsimp only at this;omega
       obtain⟨c1,c2,c3⟩:=zVQ hok.nd hσn n hv' hf;have hlook:=zAB (cpG d.fs σ n i) v 0 d.fs 0;rw[hf]at hlook;simp only[rhZ,s8Z]at hlook;rw[c1]at hlook;have hfb:=Zj (FS.at_get hf);have hql:=FS.at_lt hf;rw[eX]at hfb;dsimp only at hfb;rw[hn]at hql;generalize FS.at d.fs v=q at c2 hlook hfb hql
       have hXq:∀T,(X++T)[q]? = some (.obj true f.blks):=fun T=>by rw[q4Z (by omega)];exact hfb
       have hcl:(cpB d.fs σ i).length=i:=by unfold cpB;rw[r7Z,qjZ];omega
       have y1:IntKind.i64.wrap ((i:Int)+1)=i+1:=zX (by omega) (by omega)
       have h1:=congrFun hHH i;have h2:=congrFun hHH (i+1)
       try dsimp only at h1 h2
       rw[c3,<-c2]at h2;generalize cpB d.fs σ i=C at h1 h2 hcl;generalize zO (cpG d.fs σ n i) 0 d.fs=M at h1 h2 hlook;rw[h1]
       have hmap:∀p,p=n+8+i->zAN Pz (.cells true [.ptr 1 0,.map 2,.int .i64 d.quota,.int .i64 d.steps,.int .i64 d.armed,.bool d.down]::.obj true d.fd.blks::.map (zO (fun i=>i+3) 0 d.fs)::(X++(.cells true [.ptr (n+4) 0,.map (n+5),.int .i64 d.quota,.int .i64 d.steps,.int .i64 d.armed,.bool d.down]::.obj true d.fd.blks::.map M::.pin [.map (n+5)]::.cells true (σ.map (.int .i64))::(C++[.obj true f.blks])))) 115 (.map (n+5)) (.int .i64 v) (.ptr p 0)=some (HH (i+1)):=by
         rintro p rfl;rw[h2];simp[hlook,hXg,hXs]
       refine Sim.step hmix hΓ (n:=0) (by simp[hltI];exact⟨rfl,rfl⟩) (by simp) ?_
       refine Sim.step hmix hΓ (n:=0) (by simp;exact⟨rfl,rfl⟩) (by simp) ?_
       refine Sim.seq (Sim.block ?_)
       refine Sim.step hmix hΓ (n:=0) (by simp[hlt,hXl,hsl,hg];exact⟨rfl,rfl⟩) (by simp) ?_
       refine Sim.draw hmix (by simp) ?_
       refine SimR.many hΓ 8 (by simp[zI];rfl) (by omega) (by kernel_rfl) (by simp +decide [zVA,zHM,hlook,hXq,hXl,hcl,hfa];first | exact⟨rfl,rfl⟩ | exact⟨by kernel_rfl,rfl,rfl⟩) ?_
       have e8:X.length+(C.length+1+1+1+1+1)+1+1+1=n+8+i:=by omega
       have e8':n+3+(i+1+1+1+1+1)=n+8+i:=by omega
       refine SimR.one hΓ _ rfl (by kernel_rfl) (by simp +decide [-zAN];rw[hmap];rfl;omega) ?_
       refine SimR.done rfl ?_;dsimp only
       refine Sim.exec hmix hΓ (n:=0) (by simp[y1];exact⟨rfl,rfl,rfl⟩) (by rw[h2];simp) ?_
       dsimp only
       exact⟨i+1,by omega,⟨by simp,rfl⟩,by omega⟩
     · have hin:i=n:=by omega
       subst hin;have h1:=congrFun hHH i
       refine Sim.exec hmix hΓ (n:=0) (by simp;exact⟨rfl,rfl,rfl⟩) (by rw[h1];simp) ?_
       dsimp only;rw[if_pos rfl]
       refine ⟨by trivial,σ,hp,by simp,.pin [.map (i+5)]::.cells true (σ.map (.int .i64))::cpB d.fs σ i,?_,fun _=>⟨_,_,by rw[hsl]⟩⟩
       rw[h1,hsl];rfl
 rintro e F' H' hlen ⟨rfl,σ,hp,hF,T,rfl,hT⟩;dsimp only;refine Sim.less hF ?_;clear hF hlen;simp only[q9Z,qaZ,qbZ]
 refine Sim.after (Sim.exec hmix hΓ (n:=0) (by simp;exact⟨rfl,rfl,rfl⟩) (by simp) ?_)
 have hsl:σ.length=n:=by rw[hp.length_eq,<-hn];simp[FS.keys]
 have hσn:σ.Nodup:=hp.nodup_iff.2 hok.nd
 obtain⟨H,hH⟩:∃H:zA,.cells true [.ptr 1 0,.map 2,.int .i64 d.quota,.int .i64 d.steps,.int .i64 d.armed,.bool d.down]::.obj true d.fd.blks::.map (zO (fun i=>i+3) 0 d.fs)::(X++([.cells true [.ptr (n+4) 0,.map (n+5),.int .i64 d.quota,.int .i64 d.steps,.int .i64 d.armed,.bool d.down],.obj true d.fd.blks,.map (zO (cpG d.fs σ n σ.length) 0 d.fs)]++T))=H:=⟨_,rfl⟩
 have gk:∀k,k<n->cpG d.fs σ n σ.length k=n+8+σ.idxOf ((FS.keys d.fs).getD k 0)/\σ.idxOf ((FS.keys d.fs).getD k 0)<n:=fun k hk=>by
   have hkl:k<(FS.keys d.fs).length:=by simp[FS.keys,hn,hk]
   have hm:(FS.keys d.fs).getD k 0∈σ:=hp.symm.subset (by rw[q2Z,q3Z hkl];exact r3Z hkl)
   have hi:=List.idxOf_lt_length_of_mem hm;unfold cpG;rw[if_pos hi]
   exact⟨rfl,by omega⟩
 have gat:∀j,H[n+3+j]? = ([.cells true [.ptr (n+4) 0,.map (n+5),.int .i64 d.quota,.int .i64 d.steps,.int .i64 d.armed,.bool d.down],.obj true d.fd.blks,.map (zO (cpG d.fs σ n σ.length) 0 d.fs)]++T)[j]?:=fun j=>by
   rw[<-hH,show n+3+j=n+j+1+1+1 by omega]
   simp only[r9Z];exact hXg _ j
 have hHl:n+6<=H.length:=by rw[<-hH];simp[hXl] <;> omega
 have hcopy:DAt H d (n+3) (n+4) (n+5) (cpG d.fs σ n σ.length):=by
   refine ⟨gat 0,gat 1,gat 2,fun i e he=>?_,?_⟩
   · have hi:i<n:=by rw[<-hn];exact (q1Z.1 he).1
     obtain⟨h1,h2⟩:=gk i hi
     obtain⟨Ab,Bb,hTe⟩:=hT (by omega)
     have hki:(FS.keys d.fs).getD i 0=e.1:=by simp[FS.keys,q2Z,he]
     rw[hki]at h1 h2
     have hfe:FS.get d.fs e.1=some e.2:=by
       obtain⟨f,hf⟩:=FS.get_some.2 (by simp only[FS.keys];exact List.mem_map_of_mem (qcZ he):e.1∈FS.keys d.fs)
       have h3:=FS.at_get hf
       have hjl:FS.at d.fs e.1=i:=by
         have hnd:=hok.nd
         have q1:(FS.keys d.fs)[FS.at d.fs e.1]? = some e.1:=by simp[FS.keys,h3]
         have q2:(FS.keys d.fs)[i]? = some e.1:=by simp[FS.keys,he]
         exact (List.getElem_inj hnd).1 ((q1Z.1 q1).2.trans (q1Z.1 q2).2.symm)
       rw[hjl,he]at h3;have h4:=congrArg Prod.snd (Option.some.inj h3);rw[hf,h4]
     rw[h1,show n+8+σ.idxOf e.1=n+3+(σ.idxOf e.1+5) by omega,gat,hTe]
     simp only[q9Z,qaZ,r9Z];unfold cpB
     rw[qzZ,q6Z (qnZ _),q3Z (by omega)]
     have:=List.getElem_idxOf (show σ.idxOf e.1<σ.length by omega)
     rw[rhZ,this,hfe];rfl
   · rw[hn]
     refine rdZ.2 ⟨fun h=>?_,rdZ.2 ⟨fun h=>?_,rdZ.2 ⟨fun h=>?_,?_⟩⟩⟩
     · rcases qwZ.1 h with h | h
       · omega
       rcases qwZ.1 h with h | h
       · omega
       · obtain⟨c,hc,h⟩:=reZ.1 h
         have:=gk c (List.mem_range.1 hc);omega
     · rcases qwZ.1 h with h | h
       · omega
       · obtain⟨c,hc,h⟩:=reZ.1 h
         have:=gk c (List.mem_range.1 hc);omega
     · obtain⟨c,hc,h⟩:=reZ.1 h
       have:=gk c (List.mem_range.1 hc);omega
     · rw[List.nodup_iff_pairwise_ne,List.pairwise_map,List.pairwise_iff_getElem]
       intro i j hi hj hij;simp only[List.length_range]at hi hj;simp only[List.getElem_range];obtain⟨a1,a2⟩:=gk i hi;obtain⟨b1,b2⟩:=gk j hj;rw[a1,b1];intro e
       have hil:i<(FS.keys d.fs).length:=by simp[FS.keys,hn,hi]
       have hjl:j<(FS.keys d.fs).length:=by simp[FS.keys,hn,hj]
       have e1:(FS.keys d.fs).getD i 0=(FS.keys d.fs)[i]:=by rw[q2Z,q3Z hil];rfl
       have e2:(FS.keys d.fs).getD j 0=(FS.keys d.fs)[j]:=by rw[q2Z,q3Z hjl];rfl
       rw[e1,e2]at e;rw[e1]at a2;rw[e2]at b2
       have g1:=List.getElem_idxOf (show σ.idxOf (FS.keys d.fs)[i]<σ.length by omega)
       have g2:=List.getElem_idxOf (show σ.idxOf (FS.keys d.fs)[j]<σ.length by omega)
       have g3:σ.idxOf (FS.keys d.fs)[i]=σ.idxOf (FS.keys d.fs)[j]:=by omega
       have:(FS.keys d.fs)[i]=(FS.keys d.fs)[j]:=by rw[<-g1,<-g2];simp only[g3]
       exact absurd ((List.getElem_inj hok.nd).1 this) (by omega)
 have h0at:DAt H d 0 1 2 (·+3):=by
   have:=zVl d ([.cells true [.ptr (n+4) 0,.map (n+5),.int .i64 d.quota,.int .i64 d.steps,.int .i64 d.armed,.bool d.down],.obj true d.fd.blks,.map (zO (cpG d.fs σ n σ.length) 0 d.fs)]++T) (·+3) fun _ _=>rfl
   rw[<-hH,<-eX];exact this
 simp only[q9Z,qaZ]at hH;rw[hH]
 refine Aft.closeAt hcopy (by omega) ?_
 have hcl:∀c,c<n+3->(zy H (n+3) ((n+4)::(n+5)::(List.range d.fs.length).map (cpG d.fs σ n σ.length)) true d.blks)[c]? = H[c]?:=fun c hc=>by
   refine Zw (by omega) fun h=>?_
   rcases qwZ.1 h with h | h
   · omega
   rcases qwZ.1 h with h | h
   · omega
   · obtain⟨k,hk,h⟩:=reZ.1 h
     have:=gk k (by rw[<-hn];exact List.mem_range.1 hk);omega
 have h0at2:DAt (zy H (n+3) ((n+4)::(n+5)::(List.range d.fs.length).map (cpG d.fs σ n σ.length)) true d.blks) d 0 1 2 (·+3) :=
   ⟨by rw[hcl _ (by omega)];exact h0at.c0,by rw[hcl _ (by omega)];exact h0at.fold,by rw[hcl _ (by omega)];exact h0at.map,fun i e he=>by
     have hi:i<n:=by rw[<-hn];exact (q1Z.1 he).1
     rw[hcl _ (by omega)];exact h0at.file i e he,h0at.nd⟩
 refine Aft.closeAt h0at2 (by simp;omega) (Aft.done (by simp;omega) ?_)
 refine ⟨.inr rfl,_,by simp[Tryz.f37] <;> rfl,Weak.mk' [0,n+3] (by simp) (by rfl) (by simp[AWs,AW]) (zT (b:=0) (by simp;omega) _ _ rfl fun i c x h1 h2=>?_)⟩
 match i,h1,h2 with
 | 0,h1,h2=>cases h1;cases h2;exact .inl ⟨rfl,rfl⟩
 | 1,h1,h2 =>
   cases h1;cases h2
   refine .inr ⟨⟨by omega,fun h=>?_⟩,?_⟩
   · rcases qwZ.1 h with h | h
     · omega
     rcases qwZ.1 h with h | h
     · omega
     · obtain⟨k,hk,h⟩:=reZ.1 h
       have:=List.mem_range.1 hk;omega
   · rw[zCA (by omega)]
     exact⟨rfl,rfl⟩
noncomputable def zHZ:zc:=open Classical in fun args H=>match args with
 | [.ptr b 0]=>match H[b]? with
   | some (.obj true sub)=>match dsD sub with
     | some d=>if d.ok 900000 1000000000 then some (.ptr H.length 0,H++[.obj true d.blks],[]) else none
     | none=>none
   | _=>none
 | _=>none
theorem zLX:Sound Pz 37 zHZ:=by
 refine ⟨zH Tryz.func37 rfl (by decide),fun args H v H' W hs=>?_,fun args H v H' W hs=>?_⟩ <;> (unfold zHZ at hs;split at hs <;> try cases hs) <;> (split at hs <;> try cases hs) <;> (rename_i b _ sub hb;split at hs <;> try cases hs) <;> (rename_i d hd;split at hs <;> cases hs;rename_i hk)
 · have e:=zAb hd
   subst e;have hbl:b<H.length:=(q1Z.1 hb).1
   have:=ZE (H:=H) (args:=[.ptr b 0]) (zS2 d hk (by decide) (by decide)) [b] (by simp) ⟨⟨rfl,rfl⟩,trivial⟩ ⟨by rw[q2Z,hb];exact⟨rfl,rfl⟩,hbl,trivial⟩ rfl
   obtain⟨h1,h2⟩:=q1Z.1 hb
   have hset:H.set b (.obj true d.blks)=H:=by rw[<-h2,List.set_getElem_self]
   simpa[zf,ABlk.own,reB,reA,Z5,hset] using this
 · exact⟨by simp,fun c hc _=>by rw[q4Z hc]⟩
end
end Go.Proofs.YtpmfecnajoojeaaGreatDoor
