/- Parts of the proof of WalKeeps: lemmas, each with its own conditions. -/
import Derived.Test.YtpmfecnajoojeaaGreatDoorY7
set_option maxHeartbeats 64000000
open List renaming getElem?_eq_some_iff → q1Z, getD_eq_getElem?_getD → q2Z, getElem?_append_left → q4Z, mem_of_getElem? → qcZ, mem_map → reZ, getElem?_range → rfZ
open Bool renaming and_eq_true → qrZ
namespace Go.Proofs.YtpmfecnajoojeaaGreatDoor
set_option maxRecDepth 100000
section
open Go
mutual
theorem AW.pre{rn:List Nat}{n:Nat}(hr:∀i,i<n→rn[i]? = some i):∀(x:AV),below n x=true→AW rn x x
 | .top,_=>by simp[AW]
 | .bool _,_=>by simp[AW]
 | .int _ _,_=>by simp[AW]
 | .str _,_=>by simp[AW]
 | .ptr b o,h=>by
   simp only[below,decide_eq_true_eq]at h;simp[AW,hr b h]
 | .nilp,_=>by simp[AW]
 | .slice b o l sz c,h=>by
   simp only[below,decide_eq_true_eq]at h;simp[AW,hr b h]
 | .sl b o l sz c,h=>by
   simp only[below,decide_eq_true_eq]at h;simp[AW,hr b h]
 | .nils,_=>by simp[AW]
 | .map b,h=>by
   simp only[below,decide_eq_true_eq]at h;simp[AW,hr b h]
 | .nilm,_=>by simp[AW]
 | .func f xs ys,h=>by
   simp only[below,qrZ]at h;simp only[AW,true_and];exact⟨AWs.pre hr xs h.1,AWs.pre hr ys h.2⟩
 | .yld b,h=>by
   simp only[below,decide_eq_true_eq]at h;simp[AW,hr b h]
 | .nilf,_=>by simp[AW]
 | .agg l,h=>by
   simp only[below]at h;simp only[AW];exact AWs.pre hr l h
 | .tuple l,h=>by
   simp only[below]at h;simp only[AW];exact AWs.pre hr l h
theorem AWs.pre{rn:List Nat}{n:Nat}(hr:∀i,i<n→rn[i]? = some i):∀(l:List AV),belows n l=true→AWs rn l l
 | [],_=>by simp[AWs]
 | x::xs,h=>by
   simp only[belows,qrZ]at h;simp only[AWs];exact⟨AW.pre hr x h.1,AWs.pre hr xs h.2⟩
end
theorem AWg.append{rn:List Nat}{H:AHeap}:∀{xs ys:AHeap} {bs cs:List Nat},AWg rn H xs bs→AWg rn H ys cs→AWg rn H (xs++ys) (bs++cs)
 | [],_,[],_,_,h=>h
 | _::_,_,_::_,_,h,h'=>⟨h.1,AWg.append h.2 h'⟩
 | [],_,_::_,_,h,_=>h.elim
 | _::_,_,[],_,h,_=>h.elim
theorem AWg.of{rn:List Nat}{H:AHeap}:∀(xs:AHeap) (bs:List Nat),xs.length=bs.length→(∀(i:Nat) x b,xs[i]? = some x→bs[i]? = some b→b<H.length→AWb rn x (H.getD b .dead))→AWg rn H xs bs
 | [],[],_,_=>trivial
 | [],_::_,h,_=>by simp at h
 | _::_,[],h,_=>by simp at h
 | x::xs,b::bs,h,hall=>by
   simp only[AWg]
   refine ⟨?_,AWg.of xs bs (by simpa using h) fun i y c hy hc=>hall (i+1) y c (by simpa using hy) (by simpa using hc)⟩
   split
   · exact hall 0 x b rfl rfl ‹_›
   · trivial
theorem Weak.tail{A T Tn:AHeap}{F Fn:List AV}{N:Nat}(hN:A.length=N)(hA:∀x∈A,∃o l,x=ABlk.cells o l∧belows N l=true)(ts:List Nat)(hts:ts.Nodup)
   (hF:AWs (List.range N++ts.map (N+·)) Fn F) (hT:AWg (List.range N++ts.map (N+·)) (A++T) Tn (ts.map (N+·))):Weak N F (A++T) Fn (A++Tn):=by
 have hr:∀i,i<N→(List.range N++ts.map (N+·))[i]? = some i:=fun i hi=>by
   rw[q4Z (by simpa using hi),rfZ hi]
 refine Weak.mk' (List.range N++ts.map (N+·)) ?_ ?_ hF (AWg.append ?_ hT)
 · rw[List.nodup_append]
   refine ⟨List.nodup_range,?_,fun a ha b hb=>?_⟩
   · rw[List.nodup_iff_pairwise_ne,List.pairwise_map]
     exact (List.nodup_iff_pairwise_ne.1 hts).imp fun h e=>h (by omega)
   · obtain⟨c,_,rfl⟩:=reZ.1 hb
     have:=List.mem_range.1 ha;omega
 · rw[List.take_left' (by simp)]
 · refine AWg.of _ _ (by simp[hN]) fun i x b hx hb hlt=>?_
   have hi:i<N:=by rw[←hN];exact (q1Z.1 hx).1
   have hbi:b=i:=by rw[rfZ hi]at hb;cases hb;rfl
   subst hbi
   rw[q2Z,q4Z (by omega),hx]
   obtain⟨o,l,rfl,hl⟩:=hA x (qcZ hx);exact⟨id,AWs.pre hr l hl⟩
end
end Go.Proofs.YtpmfecnajoojeaaGreatDoor
