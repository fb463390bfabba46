/- Parts of the proof of SweepTells: lemmas, each with its own conditions. -/
import Derived.Test.YtfhidaoiofeooaaGreatDoorY10
import Derived.Test.YtfhidaoiofeooaaGreatDoorY16
set_option maxHeartbeats 64000000
open List renaming take_of_length_le → q6Z, length_cons → q7Z, length_nil → q8Z, cons_append → q9Z, nil_append → qaZ, replicate → qbZ, mem_append → qxZ, mem_singleton → r1Z, length_map → r7Z, mem_map → reZ
open Nat renaming le_refl → qnZ
namespace Go.Proofs.YtfhidaoiofeooaaGreatDoor
open _root_.Go.Proofs.Tryz renaming prog → Pz
set_option maxRecDepth 100000
section
open Go Go.Lib
def zAf(H:zA):AV->Option (List (List UInt8))
 | .nils=>some []
 | .slice b off len 1 _=>match H[b]? with
   | some (.cells _ l)=>if off+len<=l.length then zp ((l.drop off).take len) else none
   | _=>none
 | .sl b off len 1 _=>match H[b]? with
   | some (.cells _ l)=>if off+len<=l.length then zp ((l.drop off).take len) else none
   | _=>none
 | _=>none
theorem zBf{H:zA}{x:AV}{a:List (List UInt8)}(h:zAf H x=some a):∃b off,(∀(i:Nat) (wd:List (Nat×Nat)),wd[i]? = some (b,off)->zAR wd (.sl i 0 a.length 1 false) x) /\
   (match H[b]? with | some (.cells _ l)=>off+(a.map AV.str).length<=l.length/\a.map AV.str=(l.drop off).take (a.map AV.str).length | none=>True | _=>False):=by
 have key:∀(b off len:Nat) (o:Bool) (l:List AV),H[b]? = some (.cells o l)->off+len<=l.length->zp ((l.drop off).take len)=some a->len=a.length/\off+(a.map AV.str).length<=l.length/\a.map AV.str=(l.drop off).take (a.map AV.str).length:=by
   intro b off len o l hb hle hs;have e:=zAL hs;have hlen:len=a.length:=by
     have:=congrArg List.length e;simp at this;omega
   subst hlen;exact⟨rfl,by simpa using hle,by rw[r7Z];exact e.symm⟩
 unfold zAf at h;split at h
 · cases h
   exact⟨H.length,0,fun i wd _=>by simp[zAR],by simp⟩
 · rename_i b off len c
   split at h;rotate_left
   · cases h
   rename_i o l hb;split at h;rotate_left
   · cases h
   rename_i hle;obtain⟨rfl,h1,h2⟩:=key b off len o l hb hle h;exact⟨b,off,fun i wd hw=>by simp[zAR,hw],by rw[hb];exact⟨h1,h2⟩⟩
 · rename_i b off len c
   split at h;rotate_left
   · cases h
   rename_i o l hb;split at h;rotate_left
   · cases h
   rename_i hle;obtain⟨rfl,h1,h2⟩:=key b off len o l hb hle h;exact⟨b,off,fun i wd hw=>by simp[zAR,hw],by rw[hb];exact⟨h1,h2⟩⟩
 · cases h
end
section
open Go Go.Lib
attribute [-simp] zG zT zc zJ zn
mutual
theorem zQa(k:Nat):∀x:AV,free x=true->shA k x=x
 | .top,_ | .bool _,_ | .int _ _,_ | .str _,_ | .nilp,_ | .nils,_ | .nilm,_ | .nilf,_=>rfl
 | .ptr ..,h | .slice ..,h | .sl ..,h | .map _,h | .yld _,h=>by simp[free]at h
 | .func f xs ys,h=>by simp at h;simp[zv k xs h.1,zv k ys h.2]
 | .agg l,h=>by simp at h;simp[zv k l h]
 | .tuple l,h=>by simp at h;simp[zv k l h]
theorem zv(k:Nat):∀xs:List AV,zL xs=true->zAK k xs=xs
 | [],_=>rfl
 | x::xs,h=>by simp at h;simp[zQa k x h.1,zv k xs h.2]
end
end
section
open Go Go.Lib
attribute [-simp] zG zT zc zJ zn
theorem zQC(s:List (List UInt8))(hs:s.length<=1000000000)(h0:s≠[]) :
   Ct Pz 122 [.sl 0 0 s.length 1 false] [.cells false (s.map AV.str)] (.slice 1 0 s.length 1 false) [.cells false (s.map AV.str),.cells true (s.map AV.str)]:=by
 have b1:s.length*16<=140737488355328:=by omega
 have b2:s.length<=9223372036854775807:=by omega
 have h1:s.length≠0:=by simpa using h0
 have ht:(s.map AV.str).take s.length=s.map AV.str:=q6Z (by simp);have hA:∀rn:List Nat,AWs rn (s.map AV.str) (s.map AV.str):=fun rn=>AWs.refl _ _ (zH _ _ fun _=>rfl);refine zRP (pre:=[]) ?_ fun h2=>absurd h2 h1;refine zKE hmix zB (n:=0) Tryz.func122 ?_;unfold Tryz.f122;exact⟨_,_,(by simp[h0,h1,b1,b2,ht];exact wR),Weak.mk' [0,2] (by decide) rfl (by simp) (by simp[AWg,AWb,hA])⟩
def zEs:zS:=zi fun args H=>match args with
 | [x]=>match zAf H x with
   | some a=>if a.length≠0/\a.length<=1000000000 then some (.slice 0 0 a.length 1 false,[.cells true (a.map AV.str)]) else none
   | none=>none
 | _=>none
theorem zEw:Sound Pz 122 zEs:=by
 refine ZQ (zD Tryz.func122 rfl (by decide)) fun args H v N h=>?_;split at h <;> try cases h
 rename_i x;split at h <;> try cases h
 rename_i a hx;split at h <;> cases h
 rename_i hc;obtain⟨b1,o1,w1,g1⟩:=zBf hx;refine zB4 (H0:=[.cells false (a.map AV.str)]) (args0:=[.sl 0 0 a.length 1 false]) ?_ rfl [(b1,o1)] ⟨w1 0 _ rfl,trivial⟩ ⟨g1,zH _ _ fun _=>rfl,trivial⟩;have:=zQC a hc.2 (by rintro rfl;exact hc.1 rfl);simpa[shA,shB,zv 1 _ (zH a AV.str fun _=>rfl)] using this
def zKO:zS:=fun args H=>match args with
 | [.nils]=>some (.tuple [],H,[])
 | _=>none
theorem zKn:Sound Pz 124 zKO:=by
 refine ⟨zD Tryz.func124 rfl (by decide),fun args H v H' W hs=>?_,fun args H v H' W hs=>?_⟩ <;> (unfold zKO at hs;split at hs <;> cases hs)
 · intro j w cargs hR hargs
   obtain⟨v,cs,e,h1,h2⟩:=hargs;simp only[VRs]at h2;subst h2;simp only[VR]at h1;subst h1;obtain rfl:cargs=#[.slice none 0 0]:=by apply Array.ext';rw[e]
   refine (Tryz.slices_Sort_string_none none 0 w).mono ?_;rintro e w' ⟨rfl,rfl⟩;exact⟨_,j,rfl,⟨#[],rfl,rfl⟩,Step.refl hR (qnZ _)⟩
 · exact⟨qnZ _,fun _ _ _=>rfl⟩
theorem zCf(m:Mf)(l:List (List UInt8)):Zm m l=ZI (zY m l):=rfl
theorem zQl{l:List (List UInt8)}(h:l.Nodup):zOU l:=fun k hk e=>by
 exact List.pairwise_iff_getElem.1 h k (k+1) (by omega) hk (by omega) e.symm
def zBF(m:Mf)(l:List (List UInt8)):List AV:=(Zm m l).map AV.str++qbZ (l.length-(Zm m l).length) (.str [])
theorem zDQ(m:Mf)(l:List (List UInt8)):zL (zBF m l)=true:=frees_iff.2 fun v hv=>by
 rcases qxZ.1 hv with h | h
 · obtain⟨_,_,rfl⟩:=reZ.1 h;rfl
 · rw[List.eq_of_mem_replicate h];rfl
noncomputable def dlX(m:Mf)(l:List (List UInt8)):zS:=zEK [.slice 3 0 l.length 1 false,.func 123 [] [.ptr 2 0]] (dlH m false (l.map .str) (l.map .str)) (.slice 3 0 (zY m l).length 1 false)
 (dlH m false (l.map .str) ((zY m l).map .str++qbZ (l.length-(zY m l).length) (.str []))) [3]
theorem zPV(m:Mf)(l:List (List UInt8))(hm:m.segs.length<=1000000000000)(hl:l.length<=1000000000000)(hs:∀s∈l,s.length<=1000000) :
   GOk Pz (zh [(122,zEs),(121,dlX m l),(124,zDM),(125,zIO)]) :=
 zC zEw (zC (zC4 (zD Tryz.func121 rfl (by decide)) (zHv m false (l.map .str) (zH _ _ fun _=>rfl) l hm hl hs) (by simp[dlH]) fun b hb hn=>by
   simp only[r1Z]at hn
   match b,hb,hn with
   | 0,_,_=>rfl
   | 1,_,_=>rfl
   | 2,_,_=>rfl
   | 3,_,hn=>exact absurd rfl hn
   | b+4,hb,_=>simp only[dlH,q7Z,q8Z]at hb;omega) (zC zDZ (zC zLW zB)))
def zD8:List FuncId:=[122,121,210,125]
theorem zFk:GOk Pz (zAF Pz (zh [(124,zKO)]) 4 zD8 3):=zq hmix (zC zKn zB) 4 zD8 3
theorem zFi:GOk Pz (zAF Pz (zh [(124,zDM)]) 4 zD8 3):=zq hmix (zC zDZ zB) 4 zD8 3
theorem zOv(m:Mf)(l:List (List UInt8))(hm:m.segs.length<=1000000000000)(hl:l.length<=1000000)(hs:∀s∈l,s.length<=1000000)(hnd:l.Nodup) :
   Ct Pz 38 [mfA 0 m,.sl 1 0 l.length 1 false] [.cells false (zN m.segs),.cells false (l.map AV.str)] (.sl 2 0 (Zm m l).length 1 false) [.cells false (zN m.segs),.cells false (l.map AV.str),.cells true (zBF m l)]:=by
 have hA3:∀rn:List Nat,AWs rn (zN m.segs) (zN m.segs):=fun rn=>AWs.refl _ _ (by simp);by_cases h0:l=[]
 · subst h0
   have he:Zm m []=[]:=rfl;have hr:zBF m []=[]:=rfl;rw[he,hr];obtain⟨v,f,nx,sg⟩:=m;simp only[mfA];dsimp only at hA3 ⊢;refine zRP (pre:=[.agg [.int .i64 v,.int .i64 f,.int .i64 nx,.sl 0 0 sg.length 3 false]]) ?_ fun _=>?_
   · refine zE Tryz.func38 rfl ?_
     simp only[Tryz.ntmps38,q7Z,q8Z,Nat.reduceAdd,Nat.reduceSub,qbZ,q9Z,qaZ];refine Sim.step hmix zFi (n:=4) (by simp;exact wR) (by simp) ?_;refine Sim.step hmix zFi (n:=4) (by simp +decide [zD8,Tryz.f122,Tryz.f121,Tryz.f210];exact wR) (by simp) ?_;refine Sim.step hmix zFi (n:=4) (by simp +decide [zD8,zDM,zp,ZI];exact wR) (by simp) ?_;refine Sim.exec hmix zFi (n:=4) (by simp +decide [zD8,Tryz.f125];exact wT) (by simp) ?_;exact⟨.inr rfl,_,by simp[Tryz.f38] <;> rfl,wW [0,1,3] (by simp[AWg,AWb,hA3])⟩
   · refine zE Tryz.func38 rfl ?_
     simp only[Tryz.ntmps38,q7Z,q8Z,Nat.reduceAdd,Nat.reduceSub,qbZ,q9Z,qaZ];refine Sim.step hmix zFk (n:=4) (by simp;exact wR) (by simp) ?_;refine Sim.step hmix zFk (n:=4) (by simp +decide [zD8,Tryz.f122,Tryz.f121,Tryz.f210];exact wR) (by simp) ?_;refine Sim.step hmix zFk (n:=4) (by simp +decide [zD8,zKO];exact wR) (by simp) ?_;refine Sim.exec hmix zFk (n:=4) (by simp +decide [zD8,Tryz.f125];exact wT) (by simp) ?_;exact⟨.inr rfl,_,by simp[Tryz.f38] <;> rfl,wW [0,1,100] (by simp[AWg,AWb,hA3])⟩
 · have hne:l.length≠0:=by simpa using h0
   have hΓ:=zPV m l hm (by omega) hs;have hl9:l.length<=1000000000:=by omega
   have ht:(l.map AV.str).take l.length=l.map AV.str:=q6Z (by simp);have hst:zp (l.map AV.str)=some l:=Zw l;have hS:dlX m l=dlX m l:=rfl
   conv at hS=>rhs;unfold dlX dlH
   unfold zBF;rw[zCf];obtain⟨K,hK⟩:∃K,zY m l=K:=⟨_,rfl⟩
   have hKn:(ZI K).Nodup:=by rw[<-hK,<-zCf];exact zTt m hnd
   have hKl:K.length<=l.length:=by rw[<-hK];exact zHw m l
   have hsl:(ZI K).length=K.length:=(zU K).length_eq;rw[hK]at hS ⊢;rw[hsl];obtain⟨k,hk⟩:∃k,K.length=k:=⟨_,rfl⟩
   rw[hk]at hS hKl hsl ⊢;obtain⟨R,hR⟩:∃R,qbZ (l.length-k) (AV.str [])=R:=⟨_,rfl⟩
   have hRf:zL R=true:=by rw[<-hR];exact frees_iff.2 fun v hv=>by rw[List.eq_of_mem_replicate hv];rfl
   rw[hR]at hS ⊢;obtain⟨B,hB⟩:∃B,K.map AV.str++R=B:=⟨_,rfl⟩
   have hBt:zp (B.take k)=some K:=by rw[<-hB,List.take_append_of_le_length (by simp[hk]),q6Z (by simp[hk]),Zw]
   have hBd:B.drop k=R:=by rw[<-hB,List.drop_append_of_le_length (by simp[hk]),List.drop_of_length_le (by simp[hk]),qaZ]
   rw[hB]at hS;obtain⟨C,hC⟩:∃C,(ZI K).map AV.str++R=C:=⟨_,rfl⟩
   have hCt:zp (C.take k)=some (ZI K):=by rw[<-hC,List.take_append_of_le_length (by simp[hsl]),q6Z (by simp[hsl]),Zw]
   have hCd:C.drop k=R:=by rw[<-hC,List.drop_append_of_le_length (by simp[hsl]),List.drop_of_length_le (by simp[hsl]),qaZ]
   rw[hC];have hCf:zL C=true:=by rw[<-hC];exact frees_iff.2 fun v hv=>by
                                     rcases qxZ.1 hv with h | h
                                     · obtain⟨_,_,rfl⟩:=reZ.1 h;rfl
                                     · exact frees_iff.1 hRf v h
   have hA4:∀rn:List Nat,AWs rn C C:=fun rn=>AWs.refl _ _ hCf;have hA1:∀rn:List Nat,AWs rn (l.map AV.str) (l.map AV.str):=fun rn=>AWs.refl _ _ (zH _ _ fun _=>rfl);have hk9:k<=1000000000:=by omega
   have hk12:k<=1000000000000:=by omega
   have hnt:=zQl hKn;have hsh:zAK 3 (l.map AV.str)=l.map AV.str:=zv 3 _ (zH l AV.str fun _=>rfl);obtain⟨v,f,nx,sg⟩:=m;simp only[mfA];dsimp only at hA3 hS ⊢;refine zE Tryz.func38 rfl ?_;simp only[Tryz.ntmps38,q7Z,q8Z,Nat.reduceAdd,Nat.reduceSub,qbZ,q9Z,qaZ];refine wS hΓ (by simp;exact wR) ?_;refine wS hΓ (by simp +decide [zEs,zi,zAf,ht,hst,hne,h0,hl9,shA,shB,hsh,hS,zEK];exact wR) ?_;refine wS hΓ (by simp +decide [zDM,hBt,hBd,hk,hk9,hC];exact wR) ?_;refine wE hΓ (by simp +decide [zIO,hCt,hCd,hsl,hk12,hnt,hRf];exact wT) ?_;exact⟨.inr rfl,_,by simp[Tryz.f38] <;> rfl,wW [0,1,3] (by simp[AWg,AWb,hA1,hA3,hA4])⟩
def zHy(l:List (List UInt8)):Prop:=l.Nodup/\l.length<=1000000/\∀s∈l,s.length<=1000000
open Classical in
noncomputable def zHm:zS:=zi fun args H=>match args with
 | [x,y]=>match zEP H x,zAf H y with
   | some m,some l=>if zHy l/\m.segs.length<=1000000000000 then some (.sl 0 0 (Zm m l).length 1 false,[.cells true (zBF m l)]) else none
   | _,_=>none
 | _=>none
theorem zHq:Sound Pz 38 zHm:=by
 refine ZQ (zD Tryz.func38 rfl (by decide)) fun args H v N h=>?_;split at h <;> try cases h
 rename_i x y;split at h <;> try cases h
 rename_i m l hx hy;split at h <;> cases h
 rename_i hc;obtain⟨⟨c1,c2,c3⟩,c4⟩:=hc;obtain⟨b1,o1,w1,g1⟩:=zFx hx;obtain⟨b2,o2,w2,g2⟩:=zBf hy;refine zB4 (H0:=[.cells false (zN m.segs),.cells false (l.map AV.str)]) (args0:=[mfA 0 m,.sl 1 0 l.length 1 false]) ?_ rfl [(b1,o1),(b2,o2)] ⟨w1 0 _ rfl,w2 1 _ rfl,trivial⟩ ⟨g1,by simp,g2,zH _ _ fun _=>rfl,trivial⟩;have:=zOv m l c4 c2 c3 c1;simpa[shA,shB,zv 2 _ (zDQ m l)] using this
end
section
open Go Go.Lib
theorem zM7{d:DS}(hd:d.down=false)(hc:Core d.fd d.fs){K:List (List UInt8)}(hK:K.Nodup)(h:∀k,(∃n,d.fd.now.get k=some n)↔k∈K):d.list.Perm K :=
 (List.perm_ext_iff_of_nodup (zTk hd hc) hK).2 fun k=>by rw[zQx hd,h]
theorem zK9{l l':List (List UInt8)}(h:l.Perm l'):ZI l=ZI l':=(zFD (List.Perm.refl l)).symm.trans (zFD h)
def zEa(d:DS)(m:Mf):Bool:=m.segs.all (fun g=>decide (mk 4 g.1∈d.list))&&decide ((Zm m d.list).length=0)
end
end Go.Proofs.YtfhidaoiofeooaaGreatDoor
