/- Parts of the proof of WalTurns: lemmas, each with its own conditions. -/
import Derived.Test.YthafeihjlamhhaaGreatDoorY12
set_option maxHeartbeats 64000000
open List renaming getElem?_eq_some_iff → q1Z, getElem?_eq_getElem → q3Z, getElem?_append_left → q4Z, cons_append → q9Z, mem_of_getElem? → qcZ, mem_cons_self → qhZ, mem_cons → qwZ, getElem?_map → qzZ, length_map → r7Z, mem_map → reZ, getElem?_eq_none → s4Z
open Option renaming map_eq_some_iff → qlZ, map_some → rhZ
open Nat renaming le_refl → qnZ
open Array renaming getElem?_eq_some_iff → qtZ, toList_append → rxZ
namespace Go.Proofs.YthafeihjlamhhaaGreatDoor
open _root_.Go.Proofs.Tryz renaming prog → Pz
set_option maxRecDepth 100000
section
open Go.RowKit Go.Maps Go.Sort Go.Shelf
def insAll(x:Int):List Int→List (List Int)
 | []=>[[x]]
 | y::l=>(x::y::l)::(insAll x l).map (y::·)
def permsL:List Int→List (List Int)
 | []=>[[]]
 | x::l=>(permsL l).flatMap (insAll x)
theorem insAll_mem(x:Int):∀a b:List Int,a++x::b∈insAll x (a++b)
 | [],[]=>by simp[insAll]
 | [],y::b=>by simp[insAll]
 | y::a,b=>by
   simp only[q9Z,insAll,qwZ,reZ];exact .inr ⟨_,insAll_mem x a b,rfl⟩
theorem permsL_mem:∀(ks σ:List Int),σ.Perm ks→σ∈permsL ks
 | [],σ,h=>by simp[permsL,h.eq_nil]
 | x::l,σ,h=>by
   obtain⟨a,b,rfl⟩:=List.append_of_mem (h.symm.subset (qhZ ..));have h2:(a++b).Perm l:=(List.perm_middle.symm.trans h).cons_inv;exact List.mem_flatMap.2 ⟨_,permsL_mem l _ h2,insAll_mem x a b⟩
def intsA_Dc:List AV→Option (List Int)
 | []=>some []
 | .int .i64 n::l=>(intsA_Dc l).map (n::·)
 | _=>none
theorem intsA_eq:∀{l:List AV} {ks:List Int},intsA_Dc l=some ks→l=ks.map (.int .i64)
 | [],ks,h=>by cases h;rfl
 | x::l,ks,h=>by
   unfold intsA_Dc at h;split at h
   · cases h;simp_all
   · rename_i n l' e
     cases e;obtain⟨ks',h1,rfl⟩:=qlZ.1 h
     rw[intsA_eq h1];rfl
   · cases h
theorem ints_at{es:List (AV×AV)}{ks:List Int}(h:intsA_Dc (es.map (·.1))=some ks):ks.length=es.length∧∀(i:Nat) x,es[i]?=some x→∃k,ks[i]?=some k∧x.1=.int .i64 k:=by
 have e:=intsA_eq h
 have hl:ks.length=es.length:=by
   have:=congrArg List.length e;simpa using this.symm
 refine ⟨hl,fun i x hx=>?_⟩
 have hi:i<ks.length:=by rw[hl];exact (q1Z.1 hx).1
 refine ⟨ks[i],q3Z hi,?_⟩
 have:=congrArg (fun l=>l[i]?) e
 simp only[qzZ,hx,q3Z hi,rhZ,Option.some.injEq]at this;exact this
theorem map_fitI{P:Program}{K:TypeId}(hK:P.underlying K=some (.int .i64)){j:Inj}{es:List (AV×AV)}{ents:Array MapEntry}{cl:Nat}(hs:MapKept.Stamped ents cl)(hm:MRel j es ents.toList){ks:List Int}(hk:intsA_Dc (es.map (·.1))=some ks)
   (hb:ks.length≤1000000∧∀k∈ks,(Lit.int .i64 k).wf=true) {w:World} {b:Nat} (hw:w.heap[b]?=some (.map ents cl)) :
   ∃D:DataW Unit,w.ownsMap P K anyR b ents.size D∧(intKeys D).Perm ks∧Maps.size D=ks.length:=by
 obtain⟨hl,hat⟩:=ints_at hk
 have key:∀x∈ents.toList,∃k,k∈ks∧x.key=.int .i64 k∧WideElems.rd P K (anyR (H:=Unit)) x=some (.int .i64 k,.nil):=by
   intro x hx;obtain⟨i,hi⟩:=List.getElem?_of_mem hx
   have hil:i<es.length:=by rw[hm.1];exact (q1Z.1 hi).1
   obtain⟨k,h1,h2⟩:=hat i _ (q3Z hil);have h3:=(hm.2 i _ x (q3Z hil) hi).1;rw[h2]at h3;simp only[VR]at h3;have hkm:=qcZ h1;refine ⟨k,hkm,h3,?_⟩;have hkl:=hb.2 k hkm
   have:keyOf P K x.key=some (.int .i64 k):=by
     rw[h3];simp[keyOf,hK,mapKey,hkl]
   simp[WideElems.rd,this,anyR]
 have hperm:((ents.toList.map (WideElems.rg P K (anyR (H:=Unit)))).foldr DataW.insert []).Perm (ents.toList.map (WideElems.rg P K (anyR (H:=Unit)))):=WideShapes.sorted_perm _
 have hkeys:(ents.toList.map (WideElems.rg P K (anyR (H:=Unit)))).map (fun p=>Go.intOf p.1)=ks:=by
   refine List.ext_getElem? fun i=>?_
   simp only[qzZ]
   cases hx:ents.toList[i]? with
   | none =>
     have:ks.length≤i:=by rw[hl,hm.1];exact List.getElem?_eq_none_iff.1 hx
     rw[s4Z this];rfl
   | some x =>
     obtain⟨k,h1,h2,h3⟩:=key x (qcZ hx)
     have hil:i<es.length:=by rw[hm.1];exact (q1Z.1 hx).1
     obtain⟨k',h4,h5⟩:=hat i _ (q3Z hil);have h6:=(hm.2 i _ x (q3Z hil) hx).1;rw[h5]at h6;simp only[VR]at h6;rw[h4]
     have e:k=k':=by
       rw[h2]at h6;simpa using h6
     simp only[rhZ,WideElems.rg_of h3,e];rfl
 refine ⟨_,⟨ents,cl,hw,⟨?_,hs,fun x hx=>?_⟩,qnZ _,rfl⟩,?_,?_⟩
 · have:=hm.1
   simp at this;unfold maxLen;omega
 · obtain⟨k,_,_,h3⟩:=key x hx
   exact⟨_,h3⟩
 · have:=hperm.map (fun p=>Go.intOf p.1)
   rw[hkeys]at this;exact this
 · have:=hperm.length_eq
   show List.length _=_;rw[this];rw[←hkeys];simp
def keysIS:Summ:=fun args H=>match args with
 | [.map b]=>some (.func 196 [] [.ptr H.length 0],H++[.pin [.map b]],[])
 | _=>none
theorem keysI_sound:Sound Pz 132 keysIS:=by
 refine ⟨enter_of Tryz.func132 rfl (by decide),fun args H v H' W h=>?_,fun args H v H' W h=>?_⟩ <;> (unfold keysIS at h;split at h <;> cases h)
 · rename_i b
   intro j w cargs hR hargs;obtain⟨a,cs,e,h1,h2⟩:=hargs;simp only[VRs]at h2;subst h2;simp only[VR]at h1;obtain⟨p,hp,rfl⟩:=h1
   have ec:cargs=#[.map (some p.blk)]:=by apply Array.ext';rw[e]
   subst ec;refine (callsIn_wide (n:=5)).1 ?_;refine (AnyZI.keys_in Tryz.keys132 Fence.wide 5 trivial rfl (some p.blk) w).mono ?_;rintro e w' ⟨rfl,rfl⟩
   have st:=step_newO hR (x:=.pin [.map b]) (.cells #[.map (some p.blk)] (Tryz.keys132_ren.t 23)) fun w' hw'=>⟨rfl,#[.map (some p.blk)],Tryz.keys132_ren.t 23,(0,0),by rw[hw'];simp,fun i x hx=>by
     have hi:i=0:=by
       have:=(q1Z.1 hx).1;simpa using this
     subst hi;cases hx
     exact⟨.map (some p.blk),rfl,p,jput_le (hR.dom _ (qnZ _)) b p hp,rfl⟩⟩
   refine ⟨_,_,rfl,?_,st⟩;simp only[VR];exact⟨#[],#[.pointer (some ⟨w.heap.size,0,none⟩)],rfl,rfl,_,[],rfl,⟨_,jput_same _ _ _,rfl⟩,rfl⟩
 · exact⟨by simp,fun b hb _=>by rw[q4Z hb]⟩
theorem ints_vr(j:Inj):∀l:List Int,VRs j (l.map (.int .i64)) (l.map encZ)
 | []=>rfl
 | x::l=>⟨_,_,rfl,rfl,ints_vr j l⟩
def collA(H:AHeap)(σ:List Int):AV×AHeap :=
 if σ.length=0 then (.nils,H) else (.slice H.length 0 σ.length 1 false,H++[.cells true (σ.map (.int .i64))])
theorem collect_nd{j:Inj}{H:AHeap}{w:World}{cargs:Array Value}{b m:Nat}{es:List (AV×AV)}{ks:List Int}(hb:H[b]?=some (.pin [.map m]))(hm:H[m]?=some (.map es))(hk:intsA_Dc (es.map (·.1))=some ks)
   (hbd:ks.length≤1000000∧∀k∈ks,(Lit.int .i64 k).wf=true) (hR:R j H w) (hargs:VRs j [.func 196 [] [.ptr b 0]] cargs.toList) :
   Calls Pz 131 cargs w fun e w'=>∃x∈(permsL ks).map (collA H),∃cv j',e=.returned cv∧VR j' x.1 cv∧Step H.length j H w j' x.2 w':=by
 obtain⟨a,cs,e,h1,h2⟩:=hargs;simp only[VRs]at h2;subst h2;simp only[VR,VRs]at h1;obtain⟨cx,cy,rfl,h3,u,us,h4,⟨p,hp,rfl⟩,rfl⟩:=h1
 have ex:cx=#[]:=by apply Array.ext';rw[h3]
 subst ex;obtain⟨p0,bcs,T,fz,hbw,hbc⟩:=hR.blk b _ p hb hp
 have ey:cy=#[.pointer (some ⟨p.blk,0,none⟩)]:=by apply Array.ext';rw[h4,p0]
 subst ey
 have ec:cargs=#[.func (.func 196) #[] #[.pointer (some ⟨p.blk,0,none⟩)]]:=by apply Array.ext';rw[e]
 subst ec;obtain⟨vm,hvm,hvr⟩:=hbc 0 _ rfl;simp only[VR]at hvr;obtain⟨pm,hpm,rfl⟩:=hvr;obtain⟨ents,cl,g1,gs,g2⟩:=hR.blk m _ pm hm hpm;have hK:Tryz.prog.underlying (Tryz.keys132_ren.t 26)=some (.int .i64):=Tryz.underlying3;obtain⟨D,hown,hperm,hsz⟩:=map_fitI hK gs g2 hk hbd g1
 have hcell:w.cell? ⟨p.blk,0,none⟩=some (.map (some pm.blk)):=by simp[World.cell?,hbw,hvm]
 have hlt:p.blk<w.heap.size:=(qtZ.1 hbw).1
 have hseq:SeqGives Fence.wide (5-1-1) Pz 196 #[.pointer (some ⟨p.blk,0,none⟩)] encZ (fun ss=>ss.Perm (intKeys D)) (Maps.size D) w :=
   AnyZI.keys_gives (ρ:=Tryz.keys132_ren) { Tryz.keys132 with } Fence.wide _ trivial rfl (by omega) p.blk pm.blk _ D w hlt hcell hown
 refine (callsIn_wide (n:=5)).1 ?_
 refine (AnyZI.collect_in Tryz.collect131 Fence.wide 5 trivial trivial rfl (by omega) 196 #[.pointer (some ⟨p.blk,0,none⟩)] trivial (enters_of Tryz.func196 (by kernel_rfl) rfl) _ _ (by rw[hsz];unfold maxLen;omega) (by rw[hsz];omega) w hseq).mono ?_
 rintro e w' ⟨v',ss,rfl,hS,hrow,hnil,hbelow⟩;have hperm2:ss.Perm ks:=hS.trans hperm;have hlen:ss.length=ks.length:=hperm2.length_eq;refine ⟨collA H ss,reZ.2 ⟨ss,permsL_mem _ _ hperm2,rfl⟩,?_⟩;unfold collA;by_cases h0:ss.length=0
 · rw[if_pos h0]
   have hss:ss=[]:=List.eq_nil_of_length_eq_zero h0;have hv:=hnil.2 hss;subst hv;exact⟨_,j,rfl,rfl,Step.below hR hbelow (qnZ _)⟩
 · rw[if_neg h0]
   obtain⟨hl,h5⟩:=hrow;rcases h5 with⟨rfl,hz⟩ | ⟨g,cap,cur,rfl,hg,hgw,hc1,hc2,hc3,hc4⟩
   · omega
   · refine ⟨_,_,rfl,?_,step_row hR hbelow hg hgw (l:=ss.map (.int .i64)) (by rw[r7Z];omega) ?_⟩
     · simp only[VR]
       exact⟨_,_,cap,jput_same _ _ _,rfl,by omega,by simp,hc2,.inr ⟨rfl,by dsimp only;omega⟩⟩
     · have:=ints_vr j ss
       rw[←hc4,Nat.mul_one]at this;rw[r7Z];exact this
theorem mcloneI_w(b:Nat)(es:Array MapEntry)(clock:Nat)(w:World)(hb:w.heap[b]?=some (.map es clock)) :
   Calls Pz 130 #[.map (some b)] w fun e w'=>e=.returned (.map (some w.heap.size))∧w'=w.alloc (.map es clock):=by
 have hq:=fun w=>run_eql_map_nil_sl (P:=Pz) w _ _ _ (some b) Tryz.underlying157
 go_enter Tryz.func130,Tryz.ntmps130
 go_wp2
 rw[run_callFunc_extern Tryz.func194 (by kernel_rfl) (by kernel_rfl) (by kernel_rfl) (e:=Extern.MapsClone.clone) (by kernel_rfl),run_maps_clone_sl w _ hb]
 simp only[Result.andThen];rw[Oper.upon_value]
 go_wp2
 rw[run_typeAssert_map_sl _ _ _ _ _ _ Tryz.underlying157];simp only[Result.andThen];rw[Oper.upon_value]
 go_wp2
 go_ret
 exact⟨rfl,rfl⟩
theorem mcloneI_sound:Sound Pz 130 mcloneS:=by
 refine ⟨enter_of Tryz.func130 rfl (by decide),fun args H v H' W h=>?_,fun args H v H' W h=>?_⟩ <;> (unfold mcloneS at h;split at h;rotate_left;· cases h) <;> (split at h <;> cases h)
 · rename_i b _ es hb
   intro j w cargs hR hargs;obtain⟨a,cs,e,h1,h2⟩:=hargs;simp only[VRs]at h2;subst h2;simp only[VR]at h1;obtain⟨p,hp,rfl⟩:=h1
   have ec:cargs=#[.map (some p.blk)]:=by apply Array.ext';rw[e]
   subst ec;obtain⟨ents,cl,g1,gs,g2⟩:=hR.blk b _ p hb hp;refine (mcloneI_w p.blk ents cl w g1).mono ?_;rintro e w' ⟨rfl,rfl⟩
   have st:=step_newO hR (x:=.map es) (.map ents cl) fun w' hw'=>⟨ents,cl,by rw[hw'];simp,gs,g2.mono (jput_le (hR.dom _ (qnZ _)))⟩
   exact⟨_,_,rfl,⟨_,jput_same _ _ _,rfl⟩,st⟩
 · exact⟨by simp,fun b hb _=>by rw[q4Z hb]⟩
theorem aops_k_Dc{P:Program}{Γ:Gam}(hΓ:GOk P Γ){ops:Array Oper}(r:Option Nat)(m:Nat){Q:Exit→Act→World→Prop}(rest:List Oper):∀(l:List Oper) (F F':List AV) (H H':AHeap) (j:Inj) (w:World) (a:Act),
   aops P Γ ops l F H=some (F',H')→R j H w→VRs j F a.tmps.toList→∀ds,a.defers=ds →
   (∀j' w' a',VRs j' F' a'.tmps.toList→a'.defers=ds→Step H.length j H w j' H' w'→wpListIn (FW r) m P ops Q rest a' w')→wpListIn (FW r) m P ops Q (l++rest) a w
 | [],F,F',H,H',j,w,a,h,hR,hF,ds,hd,hq=>by
   cases h;exact hq j w a hF hd (Step.refl hR (qnZ _))
 | o::l,F,F',H,H',j,w,a,h,hR,hF,ds,hd,hq=>by
   unfold aops at h;show wpListIn (FW r) m P ops Q (o::(l++rest)) a w;unfold wpListIn;split at h
   · cases h
   · rename_i hw
     rw[wantA_ok hw hF]
     refine ⟨fun _ _=>trivial,?_⟩
     exact aops_k_Dc hΓ r m rest l _ F' H H' j w _ h hR (putA_ok hF o.dst ⟨#[],rfl,rfl⟩) ds (by rw[put_defers];exact hd) hq
   · rename_i hw
     rw[wantA_ok hw hF];simp only[if_true];split at h
     · cases h
     · rename_i v H1 ho
       refine opA_ok hΓ ho hF hR r m fun cv j' w' hv hst=>?_
       have hle:=hst.jle hR (qnZ _)
       refine aops_k_Dc hΓ r m rest l _ F' H1 H' j' w' _ h hst.rel (putA_ok (VRs.mono hle _ _ hF) o.dst hv) ds (by rw[put_defers];exact hd) fun j2 w2 a2 h1 h2 h3=>?_
       exact hq j2 w2 a2 h1 h2 (hst.trans h3 hst.len)
theorem call_nd_Dc{P:Program}{o:Oper}{a:Act}{j:Inj}{F:List AV}{H:AHeap}{w:World}{g:Operand}{args:Array Operand}{ts:Array TypeId}{f:FuncId}{first cap:List AV}{S:List (AV×AHeap)}
   (ho:o.op=.call ⟨.value g,args,ts⟩) (hg:ev F g=.func f first cap) (he:∀cargs w,(callFunc f cargs).run P w=.ok (.enter f cargs) w)
   (hct:∀cargs,VRs j (first++args.toList.map (ev F)++cap) cargs.toList→Calls P f cargs w fun e w'=>∃x∈S,∃cv j',e=.returned cv∧VR j' x.1 cv∧Step H.length j H w j' x.2 w')
   (hF:VRs j F a.tmps.toList) (r:Option Nat) (n:Nat) {K:Act→World→Prop} {Q:Exit→Act→World→Prop}
   (hk:∀x∈S,∀cv j' w',VR j' x.1 cv→Step H.length j H w j' x.2 w'→K (a.put o.dst cv) w'):o.wpIn (FW r) n P a w K Q:=by
 have hgv:=ev_ok hF g;rw[hg]at hgv;simp only[VR]at hgv;obtain⟨cx,cy,hv,h1,h2⟩:=hgv;have hargs:=evs_ok hF args
 refine ⟨fun _ _=>trivial,?_⟩
 rw[Oper.semAt_eq _ _ _ (by rw[ho];simp)]
 have e:(execOp a.eval o).run P w=.ok (.enter f (cx++args.map a.eval++cy)) w:=by
   unfold execOp;rw[ho];dsimp only
   have e1:Sem.run P (resolve a.eval ⟨.value g,args,ts⟩ o.type) w=.ok { target:=.fn (.func f) cy,args:=cx++args.map a.eval } w:=by
     unfold resolve;dsimp only;rw[hv];rfl
   rw[rb e1];exact he _ w
 rw[e]
 refine ⟨(fun hh=>by simp[FW,Fence.wide]at hh),callsIn_FW ?_⟩
 refine (hct (cx++args.map a.eval++cy) (by
   rw[rxZ,rxZ]
   exact (h1.append hargs).append h2)).mono ?_
 rintro e w' ⟨x,hx,cv,j',rfl,h3,h4⟩;exact hk x hx cv j' w' h3 h4
abbrev NDS:=FuncId→List AV→AHeap→Option (List (AV×AHeap))
structure NDOk (P:Program) (S:NDS):Prop where
 enter:∀f args H l,S f args H=some l→∀cargs w,(callFunc f cargs).run P w=.ok (.enter f cargs) w
 ct:∀f args H l,S f args H=some l→∀j w cargs,R j H w→VRs j args cargs.toList→Calls P f cargs w fun e w'=>∃x∈l,∃cv j',e=.returned cv∧VR j' x.1 cv∧Step H.length j H w j' x.2 w'
def collN:NDS:=fun f args H =>
 if f=131 then
   match args with
   | [.func g [] [.ptr b 0]] =>
     if g=196 then
       match H[b]? with
       | some (.pin [.map m]) =>
         match H[m]? with
         | some (.map es) =>
           match intsA_Dc (es.map (·.1)) with
           | some ks=>if ks.length≤1000000∧ks.all (fun k=>(Lit.int .i64 k).wf) then some ((permsL ks).map (collA H)) else none
           | none=>none
         | _=>none
       | _=>none
     else none
   | _=>none
 else none
theorem collN_ok:NDOk Pz collN:=by
 have key:∀f args H l,collN f args H=some l→∃b m es ks,f=131∧args=[.func 196 [] [.ptr b 0]]∧H[b]?=some (.pin [.map m])∧H[m]?=some (.map es)∧intsA_Dc (es.map (·.1))=some ks∧(ks.length≤1000000∧∀k∈ks,(Lit.int .i64 k).wf=true)∧l=(permsL ks).map (collA H):=by
   intro f args H l h;unfold collN at h;split at h;rotate_left
   · cases h
   rename_i hf;split at h;rotate_left
   · cases h
   rename_i g b;split at h;rotate_left
   · cases h
   rename_i hg;subst hg;split at h;rotate_left
   · cases h
   rename_i m hb;split at h;rotate_left
   · cases h
   rename_i es hm;split at h;rotate_left
   · cases h
   rename_i ks hk
   split at h <;> cases h
   rename_i hc
   exact⟨b,m,es,ks,hf,rfl,hb,hm,hk,⟨hc.1,by simpa using hc.2⟩,rfl⟩
 refine ⟨fun f args H l h=>?_,fun f args H l h j w cargs hR hargs=>?_⟩
 · obtain⟨_,_,_,_,rfl,_⟩:=key _ _ _ _ h
   exact enter_of Tryz.func131 rfl (by decide)
 · obtain⟨b,m,es,ks,rfl,rfl,hb,hm,hk,hbd,rfl⟩:=key _ _ _ _ h
   exact collect_nd hb hm hk hbd hR hargs
end
end Go.Proofs.YthafeihjlamhhaaGreatDoor
