/- Parts of the proof of SweepTells: lemmas, each with its own conditions. -/
import Derived.Test.YtfhidaoiofeooaaGreatDoorY8
set_option maxHeartbeats 64000000
open List renaming getElem?_eq_some_iff → q1Z, length_map → r7Z
namespace Go.Proofs.YtfhidaoiofeooaaGreatDoor
set_option maxRecDepth 100000
section
open Go
attribute [-simp] zG zT zc zJ zn
def zLP(H:zA):AV->Option (List Nat)
 | .nils=>some []
 | .slice b off len 1 _=>match H[b]? with
   | some (.cells _ l)=>match zCF .u8 ((l.drop off).take len) with
     | some ls=>if off+len<=l.length/\ls.all (· < 256)=true/\len<=9223372036854775807 then some ls else none
     | none=>none
   | _=>none
 | .sl b off len 1 _=>match H[b]? with
   | some (.cells _ l)=>match zCF .u8 ((l.drop off).take len) with
     | some ls=>if off+len<=l.length/\ls.all (· < 256)=true/\len<=9223372036854775807 then some ls else none
     | none=>none
   | _=>none
 | _=>none
theorem zJP{H:zA}{x:AV}{ls:List Nat}(h:zLP H x=some ls):(∀c∈ls,c<256)/\ls.length<=9223372036854775807/\∃b off,(∀(i:Nat) (wd:List (Nat×Nat)),wd[i]? = some (b,off)->zAR wd (.sl i 0 ls.length 1 false) x) /\
   (match H[b]? with | some (.cells _ l)=>off+(ls.map aB).length<=l.length/\ls.map aB=(l.drop off).take (ls.map aB).length | none=>True | _=>False):=by
 have key:∀(b off len:Nat) (o:Bool) (l:List AV) (ms:List Nat),H[b]? = some (.cells o l)->zCF .u8 ((l.drop off).take len)=some ms->off+len<=l.length->len=ms.length/\off+(ms.map aB).length<=l.length/\ms.map aB=(l.drop off).take (ms.map aB).length:=by
   intro b off len o l ms hb hs hle;have e:=zJQ hs;have hlen:len=ms.length:=by
     have:=congrArg List.length e;simp at this;omega
   subst hlen;exact⟨rfl,by simpa using hle,by rw[r7Z];exact e.symm⟩
 unfold zLP at h;split at h
 · cases h
   exact⟨by simp,by simp,H.length,0,fun i wd _=>by simp[zAR],by simp⟩
 · rename_i b off len c
   split at h;rotate_left
   · cases h
   rename_i o l hb;split at h;rotate_left
   · cases h
   rename_i ms hms;split at h <;> cases h
   rename_i hc;obtain⟨rfl,h1,h2⟩:=key b off len o l _ hb hms hc.1;exact⟨by simpa using hc.2.1,hc.2.2,b,off,fun i wd hw=>by simp[zAR,hw],by rw[hb];exact⟨h1,h2⟩⟩
 · rename_i b off len c
   split at h;rotate_left
   · cases h
   rename_i o l hb;split at h;rotate_left
   · cases h
   rename_i ms hms;split at h <;> cases h
   rename_i hc;obtain⟨rfl,h1,h2⟩:=key b off len o l _ hb hms hc.1;exact⟨by simpa using hc.2.1,hc.2.2,b,off,fun i wd hw=>by simp[zAR,hw],by rw[hb];exact⟨h1,h2⟩⟩
 · cases h
theorem zM4(ls:List Nat)(k c:Nat)(h:ls[k]? = some c):∀h',(ls.map aB)[k]'h'=.int .u8 c:=fun h'=>by
 have:=(q1Z.1 h).2;rw[List.getElem_map,this];rfl
end
end Go.Proofs.YtfhidaoiofeooaaGreatDoor
