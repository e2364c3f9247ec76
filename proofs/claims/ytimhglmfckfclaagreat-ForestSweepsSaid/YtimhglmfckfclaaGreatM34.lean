/- Several texts in one: what each proves its own first comment says. -/
import Derived.Test.YtimhglmfckfclaaGreatQq
import Derived.Test.YtimhglmfckfclaaGreatM33
import Derived.RangeFuncBox
import Derived.RangeFuncLeaves
import Derived.Shelf.Abstract
import Derived.WalkKit
import Derived.OwnWalkIn
import Derived.TacticsInMore
import Derived.LoopNIn
import Derived.LoopIn
import Derived.Test.YtimhglmfckfclaaGreatM3
import Derived.Test.YtimhglmfckfclaaGreatProg
import Derived.RangeFuncNested
import Derived.RangeFuncBound
import Derived.RangeFuncCalls
import Derived.Shelf.RegionOpen
import Derived.Maps.AppendAt
import Derived.Test.YtimhglmfckfclaaGreatM1
import Derived.Test.YtimhglmfckfclaaGreatM20
import Derived.Sort.LoopGhostIn
import Derived.Maps.OwnIn
import Derived.Test.YtimhglmfckfclaaGreatM9
set_option linter.unusedVariables false
set_option linter.unusedSimpArgs false
namespace Go.Proofs.YtimhglmfckfclaaGreat
open Go.RowKit Go.Maps Go.Shelf
namespace Fr
open Vw (Sess)
open Ex (Ent wo ExpAt)
section
variable {lo:Nat} {P:Pa} {st st1 st2:FS} {nw c d:Nat} {Fe:Nat→Prop} {w w' w'':World}
theorem fplan (h:ForAt lo P st nw Fe w) (hw:nw+8≤4611686018427387904) (kind us ub:Int) (r:Req) (h1:r.user.size≤9223372036854775807) (h2:r.label.size≤9223372036854775807) (out:Sess) (no:Int) (hc:planF st kind us ub r=some (st2,out,no)) :
  Calls Tryz.prog 8 (planArgs P kind us ub r) w fun e w' => e = .returned (.tuple #[.agg out.cells.toArray,erV no])∧FoTo lo P st2 8 nw Fe w w':=by
 unfold planF at hc
 by_cases hk:kind<0∨2<kind
 ·rw [if_pos hk] at hc
  cases hc
  refine (plan_arg kind us ub hk r w).mono ?_
  rintro e w' ⟨rfl,hb⟩
  exact ⟨rfl,FoTo.of_below h hb⟩
 ·rw [if_neg hk] at hc
  have hk0:0≤kind:=by omega
  have hk2:kind≤2:=by omega
  have hgr:∀ W,Below w.heap.size w W→Calls Tryz.prog 29 (planArgs P kind us ub r) W fun e w' => e = .returned (.tuple #[.agg (grantF st kind us ub r).1.cells.toArray,erV (grantF st kind us ub r).2])∧Below W.heap.size W w':=fun W hb => fgranted (h.below hb) kind us ub ⟨hk0,hk2⟩ r h1 h2
  by_cases hg:(grantF st kind us ub r).2≠0
  ·rw [if_pos hg] at hc
   cases hc
   refine (plan_err kind us ub hk0 hk2 r _ hg _ hgr).mono ?_
   rintro e w' ⟨rfl,hb⟩
   exact ⟨rfl,FoTo.of_below h hb⟩
  ·rw [if_neg hg] at hc
   have hg0:(grantF st kind us ub r).2=0:=Decidable.byContradiction hg
   rw [hg0] at hgr
   obtain ⟨s1,hs1,hs2⟩:=Option.map_eq_some_iff.1 hc
   have e1:(st2,out,no)=(match s1.free with | i :: _ => (s1,{ (grantF st kind us ub r).1 with slot:=i },0) | [] => (s1,s0,19)):=hs2.symm
   have e2:st2=s1∧(out,no)=(match s1.free with | i :: _ => ({ (grantF st kind us ub r).1 with slot:=i },0) | [] => (s0,19)):=by
    cases hfr:s1.free with
    | nil => rw [hfr] at e1;exact ⟨(Prod.mk.inj e1).1,(Prod.mk.inj e1).2⟩
    | cons i t => rw [hfr] at e1;exact ⟨(Prod.mk.inj e1).1,(Prod.mk.inj e1).2⟩
   obtain ⟨rfl,e3⟩:=e2
   refine plan_go h hw kind us ub hk0 hk2 r _ st2 out no _ rfl hgr ?_ e3
   cases hfe:st.free.isEmpty with
   | true =>
    rw [hfe,if_pos rfl] at hs1
    obtain ⟨⟨a,o⟩,ha,hb⟩:=Option.map_eq_some_iff.1 hs1
    cases hb
    rw [if_pos rfl]
    exact ⟨o,ha⟩
   | false =>
    rw [hfe,if_neg (by decide)] at hs1
    rw [if_neg (by decide)]
    exact (Option.some.inj hs1).symm
set_option maxRecDepth 100000 in
set_option maxHeartbeats 4000000 in
theorem fsweep (h:ForAt lo P st nw Fe w) (n no:Int) (hw:nw+8 * 65536≤4611686018427387904) (hc:sweepF st n=some (st2,no)) :
  Calls Tryz.prog 16 #[.pointer (some ⟨P.f,0,none⟩),.int .i64 n] w fun e w' => e = .returned (erV no)∧FoTo lo P st2 (8 * 65536) nw Fe w w':=by
 unfold sweepF at hc
 by_cases hn:n<0∨65536<n
 ·rw [if_pos hn] at hc
  cases hc
  have HE:Hid (FoTo lo P st (8 * 65536) nw Fe w w):=h.mono
  clear h hw
  by_cases h0:n<0
  ·clear hn
   go_enter Tryz.func16,Tryz.ntmps16
   go_wp2
   go_ret
   exact ⟨rfl,HE.out⟩
  ·have h1:0≤n:=by omega
   have h2:65536<n:=by omega
   clear hn h0
   go_enter Tryz.func16,Tryz.ntmps16
   go_wp2
   go_ret
   exact ⟨rfl,HE.out⟩
 ·rw [if_neg hn] at hc
  have h0:0≤n:=by omega
  have h1:n≤65536:=by omega
  obtain ⟨s2,hs,hs2⟩:=Option.map_eq_some_iff.1 hc
  have e1:s2=st2:=(Prod.mk.inj hs2).1
  have e2:no=0:=(Prod.mk.inj hs2).2.symm
  subst e1 e2
  obtain ⟨N,rfl⟩:=Int.eq_ofNat_of_zero_le h0
  rw [Int.toNat_natCast] at hs
  have HH:=Lib.hid h;have HS:=Lib.hid hs;have HW:=Lib.hid hw
  have HN:Hid (N≤65536):=by show _≤_;omega
  clear h hc hs hs2 hn hw
  go_enter Tryz.func16,Tryz.ntmps16
  go_wp2
  go_loopw [15] (fun x wr => ∃ (k:Nat) (s:FS),k≤N∧x = .int .i64 (k:Int)∧unitsN (N-k) s=some s2∧FoTo lo P s (8 * k) nw Fe w wr) (fun x _ => N-(intOf x).toNat)
  case atStart => exact ⟨0,st,Nat.zero_le _,rfl,HS.out,HH.out.mono⟩
  case round =>
   obtain ⟨k,s,hk,rfl,hu,hf⟩:=hrel
   have b0:(0:Int)≤(k:Int):=by omega
   have b2:(k:Int)≤65536:=by have:=HN.out;omega
   by_cases hlt:k<N
   ·have b1:(k:Int)<(N:Int):=by omega
    obtain ⟨m,hm⟩:∃ m,N-k=m+1:=⟨N-k-1,by omega⟩
    rw [hm] at hu
    obtain ⟨⟨s1,o⟩,hu1,hu2⟩:=Option.bind_eq_some_iff.1 hu
    obtain ⟨n5,F5,q1,q2,h5,q3,q4⟩:=hf
    have c4:=h5.ptrs.2.2.1
    have HU:=Lib.hid (funit h5 (by have:=HW.out;have:=HN.out;omega) o hu1)
    have HQ:=Lib.hid (And.intro q1 (And.intro q2 (And.intro q3 q4)))
    have HLT:=Lib.hid hlt;have HM:=Lib.hid hm;have HU2:=Lib.hid hu2
    clear hu hu1 hu2 q1 q2 h5 q3 q4 hlt hm hk
    go_wp2_with fail
    refine HU.out.mono ?_
    rintro e w6 ⟨rfl,h6⟩
    have hf6:FoTo lo P s1 (8 * k+8) nw Fe w w6:=FoTo.after HQ.out.1 HQ.out.2.1 HQ.out.2.2.1 HQ.out.2.2.2 h6
    have HF6:=Lib.hid hf6
    clear h6 hf6 c4
    cases o with
    | none =>
     have HE:Hid (FoTo lo P s2 (8 * 65536) nw Fe w w6):=by
      have e:s1=s2:=by
       have:=HU2.out
       simp only at this
       exact Option.some.inj this
      rw [← e]
      exact HF6.out.cast (by have:=HLT.out;have:=HN.out;omega)
     simp only [Option.isSome_none,Option.getD_none]
     go_wp2
     go_ret
     exact ⟨rfl,HE.out⟩
    | some x =>
     have HR:Hid (∃ (k':Nat) (s':FS),k'=k+1∧unitsN (N-k') s'=some s2∧FoTo lo P s' (8 * k') nw Fe w w6):=⟨k+1,s1,rfl,by
      have:=HU2.out
      simp only at this
      rw [show N-(k+1)=m by have:=HM.out;omega];exact this,HF6.out.cast (by omega)⟩
     simp only [Option.isSome_some,Option.getD_some]
     go_wp2
     go_roundw
     case rel => obtain ⟨k',s',rfl,t1,t2⟩:=HR.out;exact ⟨k+1,s',HLT.out,by go_num,t1,t2⟩
     case measure => have:=HLT.out;simp [intOf];omega
   ·have b1:(N:Int)≤(k:Int):=by omega
    have HE:Hid (FoTo lo P s2 (8 * 65536) nw Fe w wr):=by
     have e:N-k=0:=by omega
     rw [e] at hu
     have e2:s=s2:=Option.some.inj hu
     rw [← e2]
     exact hf.cast (by have:=HN.out;omega)
    clear hu hf hlt hk
    go_wp2
    go_ret
    exact ⟨rfl,HE.out⟩
end
end Fr
end Go.Proofs.YtimhglmfckfclaaGreat
namespace Go.Proofs.YtimhglmfckfclaaGreat
open Go.RowKit Go.Shelf
namespace Hp
attribute [local go_sem] Oper.semAt_some
end Hp
end Go.Proofs.YtimhglmfckfclaaGreat
namespace Go.Proofs.YtimhglmfckfclaaGreat
open Go.RowKit Go.Shelf
namespace Hp
attribute [local go_sem] Oper.semAt_some
end Hp
end Go.Proofs.YtimhglmfckfclaaGreat
namespace Go.Proofs.YtimhglmfckfclaaGreat
open Go.RowKit Go.Maps Go.Shelf
namespace Ex
open Hp (It ahd without HeapAt)
attribute [local go_sem] Oper.semAt_some
end Ex
end Go.Proofs.YtimhglmfckfclaaGreat
namespace Go.Proofs.YtimhglmfckfclaaGreat
open Go.RowKit Go.Maps Go.Shelf
namespace Fr
open Vw (Sess)
open Ex (Ent wo ExpAt)
attribute [local go_sem] Oper.semAt_some
section
variable {lo:Nat} {P:Pa} {st st1 st2:FS} {nw c d:Nat} {Fe:Nat→Prop} {w w' w'':World}
theorem Fo.new {F':Nat→Prop} {W5:World} (h:∀ k,F' k→Fe k∨W5.heap.size≤k) {b:Nat} (hb:¬ Fo P Fe b) (hl:b<W5.heap.size):¬ Fo P F' b:=fun hf => by
 rcases hf with hf | hf | hf | hf | hf
 ·exact hb (.inl hf)
 ·exact hb (.inr (.inl hf))
 ·exact hb (.inr (.inr (.inl hf)))
 ·exact hb (.inr (.inr (.inr (.inl hf))))
 ·rcases h b hf with h1 | h1
  ·exact hb (.inr (.inr (.inr (.inr h1))))
  ·omega
end
end Fr
end Go.Proofs.YtimhglmfckfclaaGreat
namespace Go.Proofs.YtimhglmfckfclaaGreat
namespace Fr
open Vw (Sess)
structure Kn where
 slot:Int
 birth:Int
 up:Int
 til:Int
 ended:Bool
def kn0:Kn:=⟨0,0,0,0,false⟩
def kat (l:List Kn) (i:Int):Kn:=l.getD i.toNat kn0
def liveN (l:List Kn) (now:Int):Nat→Int→Bool
 | 0,_ => false
 | n+1,i => if (kat l i).ended=true∨(kat l i).til≤now then false else if (kat l i).up<0 then true else liveN l now n (kat l i).up
def liveK (l:List Kn) (i now:Int):Bool:=liveN l now (l.length+1) i
def countK (l:List Kn) (now:Int):Nat:=((List.range l.length).filter fun i:Nat => liveK l i now).length
def UpK (l:List Kn):Prop:=∀ i:Nat,i<l.length→(kat l i).up<i∧(kat l i).birth=i+1
theorem kat_lt {l:List Kn} {i:Nat} (h:i<l.length):kat l i=l[i]:=by
 unfold kat
 rw [Int.toNat_natCast,List.getD_eq_getElem?_getD,List.getElem?_eq_getElem h];rfl
theorem liveN_more {l:List Kn} (hu:UpK l) (now:Int):∀ (n m i:Nat),i<n→i<m→i<l.length→liveN l now n i=liveN l now m i
 | 0,_,_,h,_,_ => by omega
 | _,0,_,_,h,_ => by omega
 | n+1,m+1,i,h1,h2,h3 => by
  unfold liveN
  by_cases hc:(kat l i).ended=true∨(kat l i).til≤now
  ·rw [if_pos hc,if_pos hc]
  ·rw [if_neg hc,if_neg hc]
   by_cases hp:(kat l i).up<0
   ·rw [if_pos hp,if_pos hp]
   ·rw [if_neg hp,if_neg hp]
    have h4:=(hu i h3).1
    have e:(kat l i).up=((kat l i).up.toNat:Int):=by omega
    rw [e]
    exact liveN_more hu now n m _ (by omega) (by omega) (by omega)
theorem liveK_eq {l:List Kn} (hu:UpK l) {i:Nat} (h:i<l.length) (now:Int) :
  liveK l i now=if (kat l i).ended=true∨(kat l i).til≤now then false else if (kat l i).up<0 then true else liveK l (kat l i).up now:=by
 have h1:liveK l i now=liveN l now (l.length+1) i:=rfl
 rw [h1]
 unfold liveN
 by_cases hc:(kat l i).ended=true∨(kat l i).til≤now
 ·rw [if_pos hc,if_pos hc]
 ·rw [if_neg hc,if_neg hc]
  by_cases hp:(kat l i).up<0
  ·rw [if_pos hp,if_pos hp]
  ·rw [if_neg hp,if_neg hp]
   have h4:=(hu i h).1
   have e:(kat l i).up=((kat l i).up.toNat:Int):=by omega
   rw [e]
   exact liveN_more hu now _ _ _ (by omega) (by omega) (by omega)
structure LinkK (s:Sess) (k:Kn):Prop where
 birth:s.birth=k.birth
 slot:s.slot=k.slot
 til:s.dl=k.til
 top:k.up<0→s.ub=0
 up:0≤k.up→s.ub=k.up+1
structure SeenK (st:FS) (A:List Sess) (l:List Kn):Prop where
 is:Is st A
 bir:st.births=l.length
 ups:UpK l
 from_:∀ s ∈ A,∃ i:Nat,i<l.length∧liveK l i st.clock=true∧LinkK s (kat l i)
 to_:∀ i:Nat,i<l.length→liveK l i st.clock=true→∃ s ∈ A,LinkK s (kat l i)
theorem SeenK.idx {st:FS} {A:List Sess} {l:List Kn} (h:SeenK st A l) {s:Sess} (hs:s ∈ A) {i:Nat} (hi:i<l.length) (hb:s.birth=i+1):LinkK s (kat l i)∧liveK l i st.clock=true:=by
 obtain ⟨j,j1,j2,j3⟩:=h.from_ s hs
 have:=(h.ups j j1).2
 have:=j3.birth
 have e:j=i:=by omega
 subst e
 exact ⟨j3,j2⟩
theorem SeenK.lvs {st:FS} {A:List Sess} {l:List Kn} (h:SeenK st A l) {i:Nat} (hi:i<l.length) :
  lives st.S (kat l i).slot (kat l i).birth=liveK l i st.clock:=by
 have hb:=(h.ups i hi).2
 cases hc:liveK l i st.clock with
 | true =>
  obtain ⟨s,hs,k⟩:=h.to_ i hi hc
  exact (h.is.1.lives_iff _ _).2 ⟨s,hs,k.slot,k.birth⟩
 | false =>
  cases hl:lives st.S (kat l i).slot (kat l i).birth with
  | false => rfl
  | true =>
   obtain ⟨s,hs,h1,h2⟩:=(h.is.1.lives_iff _ _).1 hl
   have:=(h.idx hs hi (h2.trans hb)).2
   rw [hc] at this;cases this
theorem SeenK.session {st:FS} {A:List Sess} {l:List Kn} (h:SeenK st A l) {i:Nat} (hi:i<l.length) (hl:liveK l i st.clock=true) :
  (sl st.S (kat l i).slot).s.birth=(kat l i).birth∧(sl st.S (kat l i).slot).s.dl=(kat l i).til:=by
 obtain ⟨s,hs,k⟩:=h.to_ i hi hl
 have:=(h.is.1.may hs).2.2.2.1
 rw [k.slot] at this
 rw [this]
 exact ⟨k.birth,k.til⟩
theorem SeenK.count {st:FS} {A:List Sess} {l:List Kn} (h:SeenK st A l):countK l st.clock=A.length:=by
 have hp:A.Pairwise fun x y => x.birth<y.birth:=by
  obtain ⟨R,G,K,pl,_,hp,_⟩:=h.is.1;exact hp
 have n1:(A.map (·.birth)).Nodup:=by
  rw [List.nodup_iff_pairwise_ne,List.pairwise_map]
  exact hp.imp (fun h e => by omega)
 have n2:(((List.range l.length).filter fun i:Nat => liveK l i st.clock).map fun i:Nat => (i:Int)+1).Nodup:=by
  rw [List.nodup_iff_pairwise_ne,List.pairwise_map]
  refine List.Pairwise.imp (fun h e => h (by omega)) (List.nodup_iff_pairwise_ne.1 (List.nodup_range.sublist List.filter_sublist))
 have l1:=nodup_le n1 (m:=((List.range l.length).filter fun i:Nat => liveK l i st.clock).map fun i:Nat => (i:Int)+1) (fun x hx => by
  obtain ⟨s,hs,rfl⟩:=List.mem_map.1 hx
  obtain ⟨i,i1,i2,i3⟩:=h.from_ s hs
  exact List.mem_map.2 ⟨i,List.mem_filter.2 ⟨List.mem_range.2 i1,i2⟩,by rw [i3.birth,(h.ups i i1).2]⟩)
 have l2:=nodup_le n2 (m:=A.map (·.birth)) (fun x hx => by
  obtain ⟨i,hi,rfl⟩:=List.mem_map.1 hx
  obtain ⟨i1,i2⟩:=List.mem_filter.1 hi
  obtain ⟨s,hs,k⟩:=h.to_ i (List.mem_range.1 i1) i2
  exact List.mem_map.2 ⟨s,hs,by rw [k.birth,(h.ups i (List.mem_range.1 i1)).2]⟩)
 unfold countK
 simp only [List.length_map] at l1 l2
 omega
theorem kat_app {l:List Kn} {k:Kn} {i:Nat} (h:i<l.length):kat (l ++ [k]) i=kat l i:=by
 rw [kat_lt h,kat_lt (by simp;omega),List.getElem_append_left h]
theorem kat_last {l:List Kn} {k:Kn}:kat (l ++ [k]) l.length=k:=by
 rw [kat_lt (by simp)];simp
theorem UpK.app {l:List Kn} {k:Kn} (h:UpK l) (h1:k.up<l.length) (h2:k.birth=l.length+1):UpK (l ++ [k]):=by
 intro i hi
 rw [List.length_append,List.length_singleton] at hi
 by_cases h3:i<l.length
 ·rw [kat_app h3];exact h i h3
 ·have e:i=l.length:=by omega
  subst e
  rw [kat_last];exact ⟨h1,h2⟩
theorem liveK_app {l:List Kn} {k:Kn} (h:UpK l) (h1:k.up<l.length) (h2:k.birth=l.length+1) (now:Int):∀ (n i:Nat),i≤n→i<l.length→liveK (l ++ [k]) i now=liveK l i now:=by
 intro n
 induction n with
 | zero =>
  intro i hn hi
  rw [liveK_eq h hi,liveK_eq (h.app h1 h2) (by simp;omega),kat_app hi]
  have:=(h i hi).1
  split
  ·rfl
  ·rw [if_pos (by omega),if_pos (by omega)]
 | succ n ih =>
  intro i hn hi
  rw [liveK_eq h hi,liveK_eq (h.app h1 h2) (by simp;omega),kat_app hi]
  have h4:=(h i hi).1
  split
  ·rfl
  ·by_cases hp:(kat l i).up<0
   ·rw [if_pos hp,if_pos hp]
   ·rw [if_neg hp,if_neg hp]
    have e:(kat l i).up=((kat l i).up.toNat:Int):=by omega
    rw [e]
    exact ih _ (by omega) (by omega)
theorem SeenK.born {st st':FS} {A:List Sess} {l:List Kn} (h:SeenK st A l) {s:Sess} {k:Kn} (hi:Is st' (A ++ [s])) (hc:st'.clock=st.clock) (hb:st'.births=st.births+1) (hl:LinkK s k) (hk:k.birth=l.length+1)
  (he:k.ended=false) (ht:st.clock<k.til) (hu:k.up<0∨∃ j:Nat,k.up=j∧j<l.length∧liveK l j st.clock=true):SeenK st' (A ++ [s]) (l ++ [k]):=by
 have hup:k.up<l.length:=by
  rcases hu with hu | ⟨j,h1,h2,_⟩ <;> omega
 have hU:=h.ups.app hup hk
 have hnew:liveK (l ++ [k]) l.length st.clock=true:=by
  rw [liveK_eq hU (by simp),kat_last,if_neg (by rw [he];simp;omega)]
  rcases hu with hu | ⟨j,h1,h2,h3⟩
  ·rw [if_pos hu]
  ·rw [if_neg (by omega),h1,liveK_app h.ups hup hk st.clock j j (Nat.le_refl _) h2];exact h3
 refine ⟨hi,by rw [hb,h.bir];simp,hU,fun x hx => ?_,fun i hi2 hl2 => ?_⟩
 ·rw [hc]
  rcases List.mem_append.1 hx with hx | hx
  ·obtain ⟨i,i1,i2,i3⟩:=h.from_ x hx
   exact ⟨i,by simp;omega,by rw [liveK_app h.ups hup hk st.clock i i (Nat.le_refl _) i1];exact i2,by rw [kat_app i1];exact i3⟩
  ·rw [List.mem_singleton] at hx
   subst hx
   exact ⟨l.length,by simp,hnew,by rw [kat_last];exact hl⟩
 ·rw [hc] at hl2
  rw [List.length_append,List.length_singleton] at hi2
  by_cases h3:i<l.length
  ·rw [liveK_app h.ups hup hk st.clock i i (Nat.le_refl _) h3] at hl2
   obtain ⟨x,hx,kx⟩:=h.to_ i h3 hl2
   exact ⟨x,by simp [hx],by rw [kat_app h3];exact kx⟩
  ·have e:i=l.length:=by omega
   subst e
   exact ⟨s,by simp,by rw [kat_last];exact hl⟩
def endK (l:List Kn) (i:Nat):List Kn:=l.set i { kat l i with ended:=true }
theorem endK_len (l:List Kn) (i:Nat):(endK l i).length=l.length:=by unfold endK;simp
theorem kat_end {l:List Kn} {i:Nat} (j:Nat) (h:j<l.length):kat (endK l i) j=if j=i then { kat l i with ended:=true } else kat l j:=by
 rw [kat_lt (by rw [endK_len];exact h)]
 unfold endK
 rw [List.getElem_set]
 by_cases e:j=i
 ·subst e;rw [if_pos rfl,if_pos rfl]
 ·rw [if_neg (fun e2 => e e2.symm),if_neg e,kat_lt h]
theorem UpK.ended {l:List Kn} (h:UpK l) (i:Nat):UpK (endK l i):=by
 intro j hj
 rw [endK_len] at hj
 rw [kat_end j hj]
 by_cases e:j=i
 ·subst e;rw [if_pos rfl];exact h j hj
 ·rw [if_neg e];exact h j hj
theorem SeenK.below {st:FS} {A:List Sess} {l:List Kn} (h:SeenK st A l) {i:Nat} (hi:i<l.length):∀ (n j:Nat),j≤n→j<l.length→∀ s ∈ A,s.birth=j+1 →
  (liveK (endK l i) j st.clock=true↔¬ Anc A (i+1:Int) s):=by
 intro n
 induction n with
 | zero =>
  intro j hn hj s hs hb
  obtain ⟨hk,hl⟩:=h.idx hs hj hb
  rw [liveK_eq (h.ups.ended i) (by rw [endK_len];exact hj),kat_end j hj]
  rw [liveK_eq h.ups hj] at hl
  by_cases e:j=i
  ·subst e
   rw [if_pos rfl,if_pos (.inl rfl)]
   exact ⟨fun h => (by cases h),fun h => absurd (Anc.self hs hb) h⟩
  ·rw [if_neg e]
   have h0:=(h.ups j hj).1
   split at hl
   ·cases hl
   ·rename_i hc
    rw [if_neg hc,if_pos (by omega)]
    refine ⟨fun _ ha => ?_,fun _ => rfl⟩
    cases ha with
    | self h1 h2 => omega
    | step h1 h2 h3 h4 =>
     rename_i p
     have:=(mayS_iff.1 (h.is.1.may h2).1).2.1
     have:=hk.top (by omega)
     omega
 | succ n ih =>
  intro j hn hj s hs hb
  obtain ⟨hk,hl⟩:=h.idx hs hj hb
  rw [liveK_eq (h.ups.ended i) (by rw [endK_len];exact hj),kat_end j hj]
  rw [liveK_eq h.ups hj] at hl
  by_cases e:j=i
  ·subst e
   rw [if_pos rfl,if_pos (.inl rfl)]
   exact ⟨fun h => (by cases h),fun h => absurd (Anc.self hs hb) h⟩
  ·rw [if_neg e]
   have h0:=(h.ups j hj).1
   by_cases hc:(kat l j).ended=true∨(kat l j).til≤st.clock
   ·rw [if_pos hc] at hl;cases hl
   rw [if_neg hc] at hl ⊢
   by_cases hp:(kat l j).up<0
   ·rw [if_pos hp]
    refine ⟨fun _ ha => ?_,fun _ => rfl⟩
    cases ha with
    | self h1 h2 => omega
    | step h1 h2 h3 h4 =>
     have:=(mayS_iff.1 (h.is.1.may h2).1).2.1
     have:=hk.top hp
     omega
   ·rw [if_neg hp] at hl ⊢
    have e2:(kat l j).up=((kat l j).up.toNat:Int):=by omega
    have h5:(kat l j).up.toNat<l.length:=by omega
    rw [e2] at hl ⊢
    obtain ⟨p,hpA,kp⟩:=h.to_ _ h5 hl
    have hpb:p.birth=((kat l j).up.toNat:Int)+1:=by rw [kp.birth];exact (h.ups _ h5).2
    rw [ih _ (by omega) h5 p hpA hpb]
    have hub:s.ub=p.birth:=by rw [hk.up (by omega),hpb];omega
    constructor
    ·intro hn2 ha
     cases ha with
     | self h1 h2 => omega
     | step h1 h2 h3 h4 =>
      rename_i q
      have:q=p:=h.is.1.birth_inj h2 hpA (h3.symm.trans hub)
      subst this
      exact hn2 h4
    ·intro hn2 ha
     exact hn2 (Anc.step hs hpA hub ha)
theorem liveK_end {l:List Kn} (hU:UpK l) (i:Nat) (now:Int):∀ (n j:Nat),j≤n→j<l.length→liveK (endK l i) j now=true→liveK l j now=true:=by
 intro n
 induction n with
 | zero =>
  intro j hn hj hl
  rw [liveK_eq (hU.ended i) (by rw [endK_len];exact hj),kat_end j hj] at hl
  rw [liveK_eq hU hj]
  have h0:=(hU j hj).1
  by_cases e:j=i
  ·rw [if_pos e,if_pos (.inl rfl)] at hl;cases hl
  ·rw [if_neg e] at hl
   split at hl
   ·cases hl
   ·rename_i hc
    rw [if_neg hc,if_pos (by omega)]
 | succ n ih =>
  intro j hn hj hl
  rw [liveK_eq (hU.ended i) (by rw [endK_len];exact hj),kat_end j hj] at hl
  rw [liveK_eq hU hj]
  have h0:=(hU j hj).1
  by_cases e:j=i
  ·rw [if_pos e,if_pos (.inl rfl)] at hl;cases hl
  ·rw [if_neg e] at hl
   by_cases hc:(kat l j).ended=true∨(kat l j).til≤now
   ·rw [if_pos hc] at hl;cases hl
   rw [if_neg hc] at hl ⊢
   by_cases hp:(kat l j).up<0
   ·rw [if_pos hp]
   ·rw [if_neg hp] at hl ⊢
    have e2:(kat l j).up=((kat l j).up.toNat:Int):=by omega
    rw [e2] at hl ⊢
    exact ih _ (by omega) (by omega) hl
theorem SeenK.revoke {st st':FS} {A:List Sess} {l:List Kn} (h:SeenK st A l) {i:Nat} (hi:i<l.length) (h1:Is st' (cutA A (kat l i).birth)) (hc:st'.clock=st.clock) (hb:st'.births=st.births):SeenK st' (cutA A (kat l i).birth) (endK l i):=by
 rw [(h.ups i hi).2] at h1 ⊢
 refine ⟨h1,by rw [hb,h.bir,endK_len],h.ups.ended i,fun s hs => ?_,fun j hj hl => ?_⟩
 ·rw [hc]
  obtain ⟨hs1,hs2⟩:=mem_cutA.1 hs
  obtain ⟨j,j1,j2,j3⟩:=h.from_ s hs1
  have hb1:s.birth=j+1:=by rw [j3.birth];exact (h.ups j j1).2
  have hl:=(h.below hi j j (Nat.le_refl _) j1 s hs1 hb1).2 hs2
  refine ⟨j,by rw [endK_len];exact j1,hl,?_⟩
  rw [kat_end j j1]
  by_cases e:j=i
  ·subst e;rw [if_pos rfl];exact ⟨j3.birth,j3.slot,j3.til,j3.top,j3.up⟩
  ·rw [if_neg e];exact j3
 ·rw [hc] at hl
  rw [endK_len] at hj
  obtain ⟨s,hs,k⟩:=h.to_ j hj (liveK_end h.ups i _ j j (Nat.le_refl _) hj hl)
  have hb1:s.birth=j+1:=by rw [k.birth];exact (h.ups j hj).2
  refine ⟨s,mem_cutA.2 ⟨hs,(h.below hi j j (Nat.le_refl _) hj s hs hb1).1 hl⟩,?_⟩
  rw [kat_end j hj]
  by_cases e:j=i
  ·subst e;rw [if_pos rfl];exact ⟨k.birth,k.slot,k.til,k.top,k.up⟩
  ·rw [if_neg e];exact k
theorem SeenK.same {st st':FS} {A:List Sess} {l:List Kn} (h:SeenK st A l) (h1:Is st' A) (hc:st'.clock=st.clock) (hb:st'.births=st.births):SeenK st' A l :=
 ⟨h1,by rw [hb];exact h.bir,h.ups,by rw [hc];exact h.from_,by rw [hc];exact h.to_⟩
theorem seen_new:SeenK newF [] []:=⟨is_new,rfl,fun i hi => absurd hi (by simp),fun s hs => (by cases hs),fun i hi => absurd hi (by simp)⟩
theorem IsN.full_iff {st:FS} {A:List Sess} (h:IsN st A):full st=true↔32≤A.length:=by
 obtain ⟨c1,c2,c3⟩:=h.count
 unfold full
 rw [Bool.and_eq_true,List.isEmpty_iff]
 constructor
 ·rintro ⟨h1,h2⟩
  have:=c2 (by simpa using h2)
  rw [h1] at this;simp at this;omega
 ·intro h1
  refine ⟨List.length_eq_zero_iff.1 (by omega),?_⟩
  by_cases hg:st.garb = -1
  ·rw [hg];rfl
  ·have:=c3 hg;omega
end Fr
end Go.Proofs.YtimhglmfckfclaaGreat
namespace Go.Proofs.YtimhglmfckfclaaGreat
namespace Fr
open Vw (Sess)
def annB:ByteArray:=⟨#[97,110,110]⟩
def tvB:ByteArray:=⟨#[116,118]⟩
def askR (level life:Int):Req:=⟨annB,tvB,7,level,life⟩
structure Sw (st:FS) (A:List Sess) (l:List Kn):Prop where
 seen:SeenK st A l
 clk:st.clock=0
 room:st.free.length+A.length=32
 cnt:A.length=l.length
 all:∀ s ∈ A,s.scopes=7∧s.dl=100
 liv:∀ i:Nat,i<l.length→liveK l i 0=true
 one:l≠[]→∃ s ∈ A,s.birth=1∧s.depth=0
theorem Sw.at_ {st:FS} {A:List Sess} {l:List Kn} (h:Sw st A l) {i:Nat} (hi:i<l.length):∃ p ∈ A,LinkK p (kat l i):=h.seen.to_ i hi (by rw [h.clk];exact h.liv i hi)
theorem Sw.one_ {st:FS} {A:List Sess} {l:List Kn} (h:Sw st A l) (hl:0<l.length):∃ p ∈ A,LinkK p (kat l 0)∧p.depth=0:=by
 obtain ⟨s,hs,h1,h2⟩:=h.one (by intro e;rw [e] at hl;simp at hl)
 exact ⟨s,hs,(h.seen.idx hs hl (by rw [h1];rfl)).1,h2⟩
theorem child_ask {st:FS} {A:List Sess} {l:List Kn} (h:Sw st A l) {p:Sess} (hp:p ∈ A) (hn:l.length<32) :
  grantF st 1 p.slot p.birth (askR 1 100)=if 6≤p.depth then (s0,17) else (⟨0,st.births+1,p.slot,p.birth,1,p.user,tvB,7,p.level,0,100,p.depth+1⟩,0):=by
 have hl:lives st.S p.slot p.birth=true:=(h.seen.is.1.lives_iff _ _).2 ⟨p,hp,rfl,rfl⟩
 have hm:=h.seen.is.1.may hp
 have hd:0≤p.depth:=by
  obtain ⟨R,G,K,pl,hw,_,hmm⟩:=h.seen.is.1
  obtain ⟨i,i1,i2,hi⟩:=(hmm p).1 hp
  have:0≤(sl st.S i).s.depth:=(hw.co.depth i1 i2.nf.1).1
  rw [hi] at this
  exact this
 have hfu:full st=false:=by
  cases hf:full st with
  | false => rfl
  | true => have:=h.seen.is.1.full_iff.1 hf;have:=h.cnt;omega
 have hb:=h.seen.bir
 obtain ⟨h7,h100⟩:=h.all p hp
 unfold grantF
 rw [if_neg (by decide),hl,if_neg (by decide),if_pos rfl,hm.2.2.2.1,h.clk,hfu]
 unfold childS
 rw [h7,h100,if_neg (by decide),if_neg (by decide)]
 by_cases h6:6≤p.depth
 ·rw [if_pos h6,if_pos (.inr h6)]
 ·rw [if_neg h6,if_neg (by omega)]
  rw [if_neg (by rw [show (askR 1 100).scopes=7 from rfl,within_self];decide),if_neg (by omega),if_neg (by decide)]
  rfl
theorem Sw.deep {st:FS} {A:List Sess} {l:List Kn} (h:Sw st A l) {p:Sess} (hp:p ∈ A) (hn:l.length<32) (hd:6≤p.depth):planF st 1 p.slot p.birth (askR 1 100)=some (st,s0,17):=by
 unfold planF
 rw [if_neg (by decide),child_ask h hp hn,if_pos hd,if_pos (by decide)]
theorem Sw.grow {st:FS} {A:List Sess} {l:List Kn} {us ub kind:Int} {s:Sess} {up:Int} (h:Sw st A l) (hn:l.length<32) (hp:planF st kind us ub (askR 1 100)=some (st,s,0)) (hs7:s.scopes=7) (hs1:s.dl=100)
  (hk:kind=0∧up = -1∧l=[]∧s.depth=0∨kind=1∧∃ p ∈ A,p.slot=us∧p.birth=ub∧∃ j:Nat,up=j∧j<l.length∧LinkK p (kat l j)) :
  ∃ st2,bornF st s=some (st2,0)∧Sw st2 (A ++ [s]) (l ++ [⟨s.slot,s.birth,up,s.dl,false⟩])∧s.birth=l.length+1:=by
 rcases h.seen.is.plan kind us ub (askR 1 100) with ⟨no,h1,h2,_⟩ | ⟨st',s',h1,h2,h3,h4,h5,h6,h7,h8,h9,h10,h11,h12,h13⟩
 ·rw [hp] at h2;cases h2;exact absurd rfl h1
 rw [hp] at h1
 cases h1
 rcases h.seen.is.born s with ⟨no,k1,k2,k3⟩ | ⟨st2,k1,k2,k3,k4,k5,k6,k7⟩
 ·exact absurd ⟨h9,h10,h11,h12,h8⟩ k3
 have hup:up<0∨∃ j:Nat,up=j∧j<l.length∧liveK l j st.clock=true:=by
  rcases hk with ⟨_,e,_⟩ | ⟨_,p,_,_,_,j,e,hj,_⟩
  ·exact .inl (by omega)
  ·exact .inr ⟨j,e,hj,by rw [h.clk];exact h.liv j hj⟩
 have hub:(up<0→s.ub=0)∧(0≤up→s.ub=up+1):=by
  rcases hk with ⟨e0,e,_⟩ | ⟨e0,p,hpA,e1,e2,j,e,hj,hl⟩
  ·refine ⟨fun _ => ?_,fun _ => by omega⟩
   rcases h13 with ⟨_,_,h14⟩ | ⟨h14,_⟩
   ·exact h14
   ·exact absurd e0 h14
  ·refine ⟨fun _ => by omega,fun _ => ?_⟩
   rcases h13 with ⟨h14,_⟩ | ⟨_,q,_,_,hq,_,h14,_⟩
   ·omega
   ·rw [h14,← e2,hl.birth,(h.seen.ups j hj).2,e]
 have hbl:s.birth=l.length+1:=by rw [h11,h.seen.bir]
 have hS:=h.seen.born (k:=⟨s.slot,s.birth,up,s.dl,false⟩) k3 k4 k5 ⟨rfl,rfl,rfl,hub.1,hub.2⟩ hbl rfl (by show st.clock<s.dl;rw [h.clk,hs1];decide) hup
 have hupl:up<(l.length:Int):=by rcases hup with hup | ⟨j,e,hj,_⟩ <;> omega
 refine ⟨st2,k1,⟨hS,k4.trans h.clk,?_,by simp [h.cnt],?_,?_,?_⟩,hbl⟩
 ·rw [k6,List.length_erase_of_mem h8,List.length_append,List.length_singleton]
  have:=h.room
  have:0<st.free.length:=List.length_pos_iff.2 (fun e => by rw [e] at h8;cases h8)
  omega
 ·intro x hx
  rcases List.mem_append.1 hx with hx | hx
  ·exact h.all x hx
  ·rw [List.mem_singleton] at hx;subst hx;exact ⟨hs7,hs1⟩
 ·intro i hi
  rw [List.length_append,List.length_singleton] at hi
  have hap:=liveK_app (k:=⟨s.slot,s.birth,up,s.dl,false⟩) h.seen.ups hupl hbl 0
  by_cases h3:i<l.length
  ·rw [hap i i (Nat.le_refl _) h3];exact h.liv i h3
  ·have e:i=l.length:=by omega
   subst e
   rw [liveK_eq hS.ups (by simp),kat_last,if_neg (by simp [hs1])]
   rcases hup with hup | ⟨j,e1,e2,_⟩
   ·rw [if_pos hup]
   ·rw [if_neg (by simp;omega)]
    show liveK _ up 0=true
    have h9:=hap j j (Nat.le_refl _) e2
    rw [← e1] at h9
    rw [h9,e1];exact h.liv j e2
 ·intro _
  rcases hk with ⟨_,_,e,hd⟩ | ⟨_,_,_,_,_,j,_,hj,_⟩
  ·exact ⟨s,by simp,by rw [hbl,e];rfl,hd⟩
  ·obtain ⟨x,hx,h1⟩:=h.one (by intro e;rw [e] at hj;simp at hj)
   exact ⟨x,by simp [hx],h1⟩
theorem sw_new:Sw newF [] []:=⟨seen_new,rfl,by decide,rfl,fun s hs => (by cases hs),fun i hi => absurd hi (by simp),fun h => absurd rfl h⟩
def top1:Sess:=⟨0,1,0,0,0,annB,ByteArray.empty,7,1,0,100,0⟩
theorem plan_top:planF newF 0 0 0 (askR 1 100)=some (newF,top1,0):=by
 have h1:grantF newF 0 0 0 (askR 1 100)=(⟨0,1,0,0,0,annB,ByteArray.empty,7,1,0,100,0⟩,0):=by
  unfold grantF
  rw [if_pos rfl]
  unfold loginS
  rw [if_neg (by decide),if_neg (by decide),if_neg (by decide),if_neg (by decide),if_neg (by decide)]
  rfl
 unfold planF
 rw [if_neg (by decide),h1,if_neg (by decide)]
 rfl
theorem Sw.first:∃ st2,bornF newF top1=some (st2,0)∧Sw st2 [top1] [⟨0,1,-1,100,false⟩]:=by
 obtain ⟨st2,h1,h2,_⟩:=sw_new.grow (up:=-1) (by decide) plan_top rfl rfl (.inl ⟨rfl,rfl,rfl,rfl⟩)
 exact ⟨st2,h1,h2⟩
theorem Sw.child {st:FS} {A:List Sess} {l:List Kn} (h:Sw st A l) {p:Sess} (hp:p ∈ A) (hn:l.length<32) (hd:p.depth<6) {j:Nat} (hj:j<l.length) (hk:LinkK p (kat l j)) :
  ∃ s st2,planF st 1 (kat l j).slot (kat l j).birth (askR 1 100)=some (st,s,0)∧bornF st s=some (st2,0)∧Sw st2 (A ++ [s]) (l ++ [⟨s.slot,s.birth,j,s.dl,false⟩])∧s.dl=100∧s.birth=l.length+1:=by
 have hg:=child_ask h hp hn
 rw [if_neg (by omega)] at hg
 have hfree:st.free≠[]:=fun e => by have:=h.room;rw [e] at this;have:=h.cnt;simp at *;omega
 obtain ⟨i,t,hf⟩:∃ i t,st.free=i :: t:=by cases hq:st.free with
  | nil => exact absurd hq hfree
  | cons a r => exact ⟨a,r,rfl⟩
 have hpl:planF st 1 p.slot p.birth (askR 1 100)=some (st,⟨i,st.births+1,p.slot,p.birth,1,p.user,tvB,7,p.level,0,100,p.depth+1⟩,0):=by
  unfold planF
  rw [if_neg (by decide),hg,if_neg (fun h => h rfl),hf]
  simp only [List.isEmpty_cons,Bool.false_eq_true,if_false,Option.map_some]
  rw [hf]
 obtain ⟨st2,h1,h2,h3⟩:=h.grow (up:=j) hn hpl rfl rfl (.inr ⟨rfl,p,hp,rfl,rfl,j,rfl,hj,hk⟩)
 exact ⟨_,st2,by rw [← hk.slot,← hk.birth];exact hpl,h1,h2,rfl,h3⟩
theorem Sw.cut {st:FS} {A:List Sess} {l:List Kn} (h:Sw st A l) {k:Nat} (hk:k<l.length) :
  ∃ st2 A2,revokeF st (kat l k).slot (kat l k).birth=some (st2,0)∧SeenK st2 A2 (endK l k)∧st2.clock=0∧st2.free=st.free∧A2.length=countK (endK l k) 0∧st.free.length+l.length=32∧A2.length≤l.length:=by
 obtain ⟨p,hp,kp⟩:=h.at_ hk
 rcases h.seen.is.revoke (kat l k).slot (kat l k).birth with ⟨h1,_⟩ | ⟨st2,s,h1,h2,h3,h4,h5,h6,h7,h8⟩
 ·have:=(h.seen.is.1.lives_iff (kat l k).slot (kat l k).birth).2 ⟨p,hp,kp.slot,kp.birth⟩
  rw [h1] at this;cases this
 ·have hS:=h.seen.revoke hk h5 h6 h7
  have hc:=hS.count
  rw [h6,h.clk] at hc
  refine ⟨st2,_,h4,hS,h6.trans h.clk,h8,hc.symm,by have:=h.room;have:=h.cnt;omega,?_⟩
  rw [← h.cnt]
  exact List.length_filter_le _ _
theorem sweep_one {st:FS} {A:List Sess} {l:List Kn} (h:SeenK st A l) (n:Int) (hn:0≤n∧n≤65536) :
  ∃ st2,sweepF st n=some (st2,0)∧SeenK st2 A l∧st2.clock=st.clock∧st2.free.length=st.free.length+min n.toNat (32-st.free.length-A.length)∧(32-st.free.length-A.length<n.toNat→st2.garb = -1):=by
 rcases h.is.sweep n with ⟨h1,_⟩ | ⟨st2,h1,h2,h3,h4,h5,h6,h7⟩
 ·omega
 ·exact ⟨st2,h2,h.same h3 h4 h5,h4,h6,h7⟩
theorem sweep_wide (st:FS):sweepF st 65537=some (st,20):=by unfold sweepF;rw [if_pos (by decide)]
end Fr
end Go.Proofs.YtimhglmfckfclaaGreat
