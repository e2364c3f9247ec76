/- Parts of the proof. -/
import Derived.Test.YtimhglmfckfclaaGreatM35
set_option linter.unusedVariables false
set_option linter.unusedSimpArgs false
set_option maxRecDepth 100000
set_option maxHeartbeats 16000000
namespace Go.Proofs.YtimhglmfckfclaaGreat
section
namespace Fr
open Vw (Sess)
structure Kn where
 slot:Int
 birth:Int
 up:Int
 til:Int
 ended:Bool
def kn0:Kn:=⟨0,0,0,0,false⟩
def kat (l:List Kn) (i:Int):Kn:=l.getD i.toNat kn0
def liveN (l:List Kn) (now:Int):Nat->Int->Bool
 | 0,_ => false
 | n+1,i => if (kat l i).ended=true\/(kat l i).til<=now then false else if (kat l i).up<0 then true else liveN l now n (kat l i).up
def liveK (l:List Kn) (i now:Int):Bool:=liveN l now (l.length+1) i
def countK (l:List Kn) (now:Int):Nat:=((List.range l.length).filter fun i:Nat => liveK l i now).length
def UpK (l:List Kn):Prop:=∀ i:Nat,i<l.length->(kat l i).up<i/\(kat l i).birth=i+1
theorem kat_lt {l:List Kn} {i:Nat} (h:i<l.length):kat l i=l[i]:=by
 unfold kat
 rw [Int.toNat_natCast,List.getD_eq_getElem?_getD,List.getElem?_eq_getElem h];rfl
theorem liveN_more {l:List Kn} (hu:UpK l) (now:Int):∀ (n m i:Nat),i<n->i<m->i<l.length->liveN l now n i=liveN l now m i
 | 0,_,_,h,_,_ => by omega
 | _,0,_,_,h,_ => by omega
 | n+1,m+1,i,h1,h2,h3 => by
  unfold liveN
  by_cases hc:(kat l i).ended=true\/(kat l i).til<=now
  ·rw [if_pos hc,if_pos hc]
  ·rw [if_neg hc,if_neg hc]
   by_cases hp:(kat l i).up<0
   ·rw [if_pos hp,if_pos hp]
   ·rw [if_neg hp,if_neg hp]
    have h4:=(hu i h3).1
    have e:(kat l i).up=((kat l i).up.toNat:Int):=by omega
    rw [e]
    exact liveN_more hu now n m _ (by omega) (by omega) (by omega)
theorem liveK_eq {l:List Kn} (hu:UpK l) {i:Nat} (h:i<l.length) (now:Int) :
  liveK l i now=if (kat l i).ended=true\/(kat l i).til<=now then false else if (kat l i).up<0 then true else liveK l (kat l i).up now:=by
 have h1:liveK l i now=liveN l now (l.length+1) i:=rfl
 rw [h1]
 unfold liveN
 by_cases hc:(kat l i).ended=true\/(kat l i).til<=now
 ·rw [if_pos hc,if_pos hc]
 ·rw [if_neg hc,if_neg hc]
  by_cases hp:(kat l i).up<0
  ·rw [if_pos hp,if_pos hp]
  ·rw [if_neg hp,if_neg hp]
   have h4:=(hu i h).1
   have e:(kat l i).up=((kat l i).up.toNat:Int):=by omega
   rw [e]
   exact liveN_more hu now _ _ _ (by omega) (by omega) (by omega)
structure LinkK (s:Sess) (k:Kn):Prop where
 birth:s.birth=k.birth
 slot:s.slot=k.slot
 til:s.dl=k.til
 top:k.up<0->s.ub=0
 up:0<=k.up->s.ub=k.up+1
structure SeenK (st:FS) (A:List Sess) (l:List Kn):Prop where
 is:Is st A
 bir:st.births=l.length
 ups:UpK l
 from_:∀ s ∈ A,∃ i:Nat,i<l.length/\liveK l i st.clock=true/\LinkK s (kat l i)
 to_:∀ i:Nat,i<l.length->liveK l i st.clock=true->∃ s ∈ A,LinkK s (kat l i)
theorem SeenK.idx {st:FS} {A:List Sess} {l:List Kn} (h:SeenK st A l) {s:Sess} (hs:s ∈ A) {i:Nat} (hi:i<l.length) (hb:s.birth=i+1):LinkK s (kat l i)/\liveK l i st.clock=true:=by
 obtain ⟨j,j1,j2,j3⟩:=h.from_ s hs
 have:=(h.ups j j1).2
 have:=j3.birth
 have e:j=i:=by omega
 subst e
 exact ⟨j3,j2⟩
theorem SeenK.lvs {st:FS} {A:List Sess} {l:List Kn} (h:SeenK st A l) {i:Nat} (hi:i<l.length) :
  lives st.S (kat l i).slot (kat l i).birth=liveK l i st.clock:=by
 have hb:=(h.ups i hi).2
 cases hc:liveK l i st.clock with
 | true =>
  obtain ⟨s,hs,k⟩:=h.to_ i hi hc
  exact (h.is.1.lives_iff _ _).2 ⟨s,hs,k.slot,k.birth⟩
 | false =>
  cases hl:lives st.S (kat l i).slot (kat l i).birth with
  | false => rfl
  | true =>
   obtain ⟨s,hs,h1,h2⟩:=(h.is.1.lives_iff _ _).1 hl
   have:=(h.idx hs hi (h2.trans hb)).2
   rw [hc] at this;cases this
theorem SeenK.session {st:FS} {A:List Sess} {l:List Kn} (h:SeenK st A l) {i:Nat} (hi:i<l.length) (hl:liveK l i st.clock=true) :
  (sl st.S (kat l i).slot).s.birth=(kat l i).birth/\(sl st.S (kat l i).slot).s.dl=(kat l i).til:=by
 obtain ⟨s,hs,k⟩:=h.to_ i hi hl
 have:=(h.is.1.may hs).2.2.2.1
 rw [k.slot] at this
 rw [this]
 exact ⟨k.birth,k.til⟩
theorem SeenK.count {st:FS} {A:List Sess} {l:List Kn} (h:SeenK st A l):countK l st.clock=A.length:=by
 have hp:A.Pairwise fun x y => x.birth<y.birth:=by
  obtain ⟨R,G,K,pl,_,hp,_⟩:=h.is.1;exact hp
 have n1:(A.map (·.birth)).Nodup:=by
  rw [List.nodup_iff_pairwise_ne,List.pairwise_map]
  exact hp.imp (fun h e => by omega)
 have n2:(((List.range l.length).filter fun i:Nat => liveK l i st.clock).map fun i:Nat => (i:Int)+1).Nodup:=by
  rw [List.nodup_iff_pairwise_ne,List.pairwise_map]
  refine List.Pairwise.imp (fun h e => h (by omega)) (List.nodup_iff_pairwise_ne.1 (List.nodup_range.sublist List.filter_sublist))
 have l1:=nodup_le n1 (m:=((List.range l.length).filter fun i:Nat => liveK l i st.clock).map fun i:Nat => (i:Int)+1) (fun x hx => by
  obtain ⟨s,hs,rfl⟩:=List.mem_map.1 hx
  obtain ⟨i,i1,i2,i3⟩:=h.from_ s hs
  exact List.mem_map.2 ⟨i,List.mem_filter.2 ⟨List.mem_range.2 i1,i2⟩,by rw [i3.birth,(h.ups i i1).2]⟩)
 have l2:=nodup_le n2 (m:=A.map (·.birth)) (fun x hx => by
  obtain ⟨i,hi,rfl⟩:=List.mem_map.1 hx
  obtain ⟨i1,i2⟩:=List.mem_filter.1 hi
  obtain ⟨s,hs,k⟩:=h.to_ i (List.mem_range.1 i1) i2
  exact List.mem_map.2 ⟨s,hs,by rw [k.birth,(h.ups i (List.mem_range.1 i1)).2]⟩)
 unfold countK
 simp only [List.length_map] at l1 l2
 omega
theorem kat_app {l:List Kn} {k:Kn} {i:Nat} (h:i<l.length):kat (l ++ [k]) i=kat l i:=by
 rw [kat_lt h,kat_lt (by simp;omega),List.getElem_append_left h]
theorem kat_last {l:List Kn} {k:Kn}:kat (l ++ [k]) l.length=k:=by
 rw [kat_lt (by simp)];simp
theorem UpK.app {l:List Kn} {k:Kn} (h:UpK l) (h1:k.up<l.length) (h2:k.birth=l.length+1):UpK (l ++ [k]):=by
 intro i hi
 rw [List.length_append,List.length_singleton] at hi
 by_cases h3:i<l.length
 ·rw [kat_app h3];exact h i h3
 ·have e:i=l.length:=by omega
  subst e
  rw [kat_last];exact ⟨h1,h2⟩
theorem liveK_app {l:List Kn} {k:Kn} (h:UpK l) (h1:k.up<l.length) (h2:k.birth=l.length+1) (now:Int):∀ (n i:Nat),i<=n->i<l.length->liveK (l ++ [k]) i now=liveK l i now:=by
 intro n
 induction n with
 | zero =>
  intro i hn hi
  rw [liveK_eq h hi,liveK_eq (h.app h1 h2) (by simp;omega),kat_app hi]
  have:=(h i hi).1
  split
  ·rfl
  ·rw [if_pos (by omega),if_pos (by omega)]
 | succ n ih =>
  intro i hn hi
  rw [liveK_eq h hi,liveK_eq (h.app h1 h2) (by simp;omega),kat_app hi]
  have h4:=(h i hi).1
  split
  ·rfl
  ·by_cases hp:(kat l i).up<0
   ·rw [if_pos hp,if_pos hp]
   ·rw [if_neg hp,if_neg hp]
    have e:(kat l i).up=((kat l i).up.toNat:Int):=by omega
    rw [e]
    exact ih _ (by omega) (by omega)
theorem SeenK.born {st st':FS} {A:List Sess} {l:List Kn} (h:SeenK st A l) {s:Sess} {k:Kn} (hi:Is st' (A ++ [s])) (hc:st'.clock=st.clock) (hb:st'.births=st.births+1) (hl:LinkK s k) (hk:k.birth=l.length+1)
  (he:k.ended=false) (ht:st.clock<k.til) (hu:k.up<0\/∃ j:Nat,k.up=j/\j<l.length/\liveK l j st.clock=true):SeenK st' (A ++ [s]) (l ++ [k]):=by
 have hup:k.up<l.length:=by
  rcases hu with hu | ⟨j,h1,h2,_⟩ <;> omega
 have hU:=h.ups.app hup hk
 have hnew:liveK (l ++ [k]) l.length st.clock=true:=by
  rw [liveK_eq hU (by simp),kat_last,if_neg (by rw [he];simp;omega)]
  rcases hu with hu | ⟨j,h1,h2,h3⟩
  ·rw [if_pos hu]
  ·rw [if_neg (by omega),h1,liveK_app h.ups hup hk st.clock j j (Nat.le_refl _) h2];exact h3
 refine ⟨hi,by rw [hb,h.bir];simp,hU,fun x hx => ?_,fun i hi2 hl2 => ?_⟩
 ·rw [hc]
  rcases List.mem_append.1 hx with hx | hx
  ·obtain ⟨i,i1,i2,i3⟩:=h.from_ x hx
   exact ⟨i,by simp;omega,by rw [liveK_app h.ups hup hk st.clock i i (Nat.le_refl _) i1];exact i2,by rw [kat_app i1];exact i3⟩
  ·rw [List.mem_singleton] at hx
   subst hx
   exact ⟨l.length,by simp,hnew,by rw [kat_last];exact hl⟩
 ·rw [hc] at hl2
  rw [List.length_append,List.length_singleton] at hi2
  by_cases h3:i<l.length
  ·rw [liveK_app h.ups hup hk st.clock i i (Nat.le_refl _) h3] at hl2
   obtain ⟨x,hx,kx⟩:=h.to_ i h3 hl2
   exact ⟨x,by simp [hx],by rw [kat_app h3];exact kx⟩
  ·have e:i=l.length:=by omega
   subst e
   exact ⟨s,by simp,by rw [kat_last];exact hl⟩
def endK (l:List Kn) (i:Nat):List Kn:=l.set i { kat l i with ended:=true }
theorem endK_len (l:List Kn) (i:Nat):(endK l i).length=l.length:=by unfold endK;simp
theorem kat_end {l:List Kn} {i:Nat} (j:Nat) (h:j<l.length):kat (endK l i) j=if j=i then { kat l i with ended:=true } else kat l j:=by
 rw [kat_lt (by rw [endK_len];exact h)]
 unfold endK
 rw [List.getElem_set]
 by_cases e:j=i
 ·subst e;rw [if_pos rfl,if_pos rfl]
 ·rw [if_neg (fun e2 => e e2.symm),if_neg e,kat_lt h]
theorem UpK.ended {l:List Kn} (h:UpK l) (i:Nat):UpK (endK l i):=by
 intro j hj
 rw [endK_len] at hj
 rw [kat_end j hj]
 by_cases e:j=i
 ·subst e;rw [if_pos rfl];exact h j hj
 ·rw [if_neg e];exact h j hj
theorem SeenK.below {st:FS} {A:List Sess} {l:List Kn} (h:SeenK st A l) {i:Nat} (hi:i<l.length):∀ (n j:Nat),j<=n->j<l.length->∀ s ∈ A,s.birth=j+1 ->
  (liveK (endK l i) j st.clock=true↔¬ Anc A (i+1:Int) s):=by
 intro n
 induction n with
 | zero =>
  intro j hn hj s hs hb
  obtain ⟨hk,hl⟩:=h.idx hs hj hb
  rw [liveK_eq (h.ups.ended i) (by rw [endK_len];exact hj),kat_end j hj]
  rw [liveK_eq h.ups hj] at hl
  by_cases e:j=i
  ·subst e
   rw [if_pos rfl,if_pos (.inl rfl)]
   exact ⟨fun h => (by cases h),fun h => absurd (Anc.self hs hb) h⟩
  ·rw [if_neg e]
   have h0:=(h.ups j hj).1
   split at hl
   ·cases hl
   ·rename_i hc
    rw [if_neg hc,if_pos (by omega)]
    refine ⟨fun _ ha => ?_,fun _ => rfl⟩
    cases ha with
    | self h1 h2 => omega
    | step h1 h2 h3 h4 =>
     rename_i p
     have:=(mayS_iff.1 (h.is.1.may h2).1).2.1
     have:=hk.top (by omega)
     omega
 | succ n ih =>
  intro j hn hj s hs hb
  obtain ⟨hk,hl⟩:=h.idx hs hj hb
  rw [liveK_eq (h.ups.ended i) (by rw [endK_len];exact hj),kat_end j hj]
  rw [liveK_eq h.ups hj] at hl
  by_cases e:j=i
  ·subst e
   rw [if_pos rfl,if_pos (.inl rfl)]
   exact ⟨fun h => (by cases h),fun h => absurd (Anc.self hs hb) h⟩
  ·rw [if_neg e]
   have h0:=(h.ups j hj).1
   by_cases hc:(kat l j).ended=true\/(kat l j).til<=st.clock
   ·rw [if_pos hc] at hl;cases hl
   rw [if_neg hc] at hl ⊢
   by_cases hp:(kat l j).up<0
   ·rw [if_pos hp]
    refine ⟨fun _ ha => ?_,fun _ => rfl⟩
    cases ha with
    | self h1 h2 => omega
    | step h1 h2 h3 h4 =>
     have:=(mayS_iff.1 (h.is.1.may h2).1).2.1
     have:=hk.top hp
     omega
   ·rw [if_neg hp] at hl ⊢
    have e2:(kat l j).up=((kat l j).up.toNat:Int):=by omega
    have h5:(kat l j).up.toNat<l.length:=by omega
    rw [e2] at hl ⊢
    obtain ⟨p,hpA,kp⟩:=h.to_ _ h5 hl
    have hpb:p.birth=((kat l j).up.toNat:Int)+1:=by rw [kp.birth];exact (h.ups _ h5).2
    rw [ih _ (by omega) h5 p hpA hpb]
    have hub:s.ub=p.birth:=by rw [hk.up (by omega),hpb];omega
    constructor
    ·intro hn2 ha
     cases ha with
     | self h1 h2 => omega
     | step h1 h2 h3 h4 =>
      rename_i q
      have:q=p:=h.is.1.birth_inj h2 hpA (h3.symm.trans hub)
      subst this
      exact hn2 h4
    ·intro hn2 ha
     exact hn2 (Anc.step hs hpA hub ha)
theorem liveK_end {l:List Kn} (hU:UpK l) (i:Nat) (now:Int):∀ (n j:Nat),j<=n->j<l.length->liveK (endK l i) j now=true->liveK l j now=true:=by
 intro n
 induction n with
 | zero =>
  intro j hn hj hl
  rw [liveK_eq (hU.ended i) (by rw [endK_len];exact hj),kat_end j hj] at hl
  rw [liveK_eq hU hj]
  have h0:=(hU j hj).1
  by_cases e:j=i
  ·rw [if_pos e,if_pos (.inl rfl)] at hl;cases hl
  ·rw [if_neg e] at hl
   split at hl
   ·cases hl
   ·rename_i hc
    rw [if_neg hc,if_pos (by omega)]
 | succ n ih =>
  intro j hn hj hl
  rw [liveK_eq (hU.ended i) (by rw [endK_len];exact hj),kat_end j hj] at hl
  rw [liveK_eq hU hj]
  have h0:=(hU j hj).1
  by_cases e:j=i
  ·rw [if_pos e,if_pos (.inl rfl)] at hl;cases hl
  ·rw [if_neg e] at hl
   by_cases hc:(kat l j).ended=true\/(kat l j).til<=now
   ·rw [if_pos hc] at hl;cases hl
   rw [if_neg hc] at hl ⊢
   by_cases hp:(kat l j).up<0
   ·rw [if_pos hp]
   ·rw [if_neg hp] at hl ⊢
    have e2:(kat l j).up=((kat l j).up.toNat:Int):=by omega
    rw [e2] at hl ⊢
    exact ih _ (by omega) (by omega) hl
theorem SeenK.revoke {st st':FS} {A:List Sess} {l:List Kn} (h:SeenK st A l) {i:Nat} (hi:i<l.length) (h1:Is st' (cutA A (kat l i).birth)) (hc:st'.clock=st.clock) (hb:st'.births=st.births):SeenK st' (cutA A (kat l i).birth) (endK l i):=by
 rw [(h.ups i hi).2] at h1 ⊢
 refine ⟨h1,by rw [hb,h.bir,endK_len],h.ups.ended i,fun s hs => ?_,fun j hj hl => ?_⟩
 ·rw [hc]
  obtain ⟨hs1,hs2⟩:=mem_cutA.1 hs
  obtain ⟨j,j1,j2,j3⟩:=h.from_ s hs1
  have hb1:s.birth=j+1:=by rw [j3.birth];exact (h.ups j j1).2
  have hl:=(h.below hi j j (Nat.le_refl _) j1 s hs1 hb1).2 hs2
  refine ⟨j,by rw [endK_len];exact j1,hl,?_⟩
  rw [kat_end j j1]
  by_cases e:j=i
  ·subst e;rw [if_pos rfl];exact ⟨j3.birth,j3.slot,j3.til,j3.top,j3.up⟩
  ·rw [if_neg e];exact j3
 ·rw [hc] at hl
  rw [endK_len] at hj
  obtain ⟨s,hs,k⟩:=h.to_ j hj (liveK_end h.ups i _ j j (Nat.le_refl _) hj hl)
  have hb1:s.birth=j+1:=by rw [k.birth];exact (h.ups j hj).2
  refine ⟨s,mem_cutA.2 ⟨hs,(h.below hi j j (Nat.le_refl _) hj s hs hb1).1 hl⟩,?_⟩
  rw [kat_end j hj]
  by_cases e:j=i
  ·subst e;rw [if_pos rfl];exact ⟨k.birth,k.slot,k.til,k.top,k.up⟩
  ·rw [if_neg e];exact k
theorem SeenK.later {st:FS} {A:List Sess} {l:List Kn} (h:SeenK st A l) {t:Int} (ht:st.clock<=t):∀ (n j:Nat),j<=n->j<l.length ->
  (liveK l j t=true↔liveK l j st.clock=true/\t<(kat l j).til):=by
 intro n
 induction n with
 | zero =>
  intro j hn hj
  have h0:=(h.ups j hj).1
  rw [liveK_eq h.ups hj,liveK_eq h.ups hj,if_pos (show (kat l j).up<0 by omega),if_pos (show (kat l j).up<0 by omega)]
  by_cases he:(kat l j).ended=true
  ·rw [if_pos (.inl he),if_pos (.inl he)];simp
  ·by_cases h1:(kat l j).til<=t
   ·rw [if_pos (.inr h1)]
    exact ⟨fun h => (by cases h),fun h => by omega⟩
   ·rw [if_neg (by intro hh;rcases hh with hh | hh;exact he hh;exact h1 hh),if_neg (by intro hh;rcases hh with hh | hh;exact he hh;omega)]
    exact ⟨fun _ => ⟨rfl,by omega⟩,fun _ => rfl⟩
 | succ n ih =>
  intro j hn hj
  have h0:=(h.ups j hj).1
  rw [liveK_eq h.ups hj]
  by_cases he:(kat l j).ended=true
  ·rw [if_pos (.inl he),liveK_eq h.ups hj,if_pos (.inl he)];simp
  by_cases h1:(kat l j).til<=t
  ·rw [if_pos (.inr h1)]
   exact ⟨fun h => (by cases h),fun h => by omega⟩
  rw [if_neg (by intro hh;rcases hh with hh | hh;exact he hh;exact h1 hh)]
  by_cases hp:(kat l j).up<0
  ·rw [if_pos hp,liveK_eq h.ups hj,if_neg (by intro hh;rcases hh with hh | hh;exact he hh;omega),if_pos hp]
   exact ⟨fun _ => ⟨rfl,by omega⟩,fun _ => rfl⟩
  ·rw [if_neg hp]
   have e2:(kat l j).up=((kat l j).up.toNat:Int):=by omega
   have h5:(kat l j).up.toNat<l.length:=by omega
   have hj2:liveK l j st.clock=liveK l (kat l j).up st.clock:=by
    rw [liveK_eq h.ups hj,if_neg (by intro hh;rcases hh with hh | hh;exact he hh;omega),if_neg hp]
   rw [hj2,e2,ih _ (by omega) h5]
   constructor
   ·rintro ⟨h6,h7⟩;exact ⟨h6,by omega⟩
   ·rintro ⟨h6,h7⟩
    refine ⟨h6,?_⟩
    obtain ⟨p,hpA,kp⟩:=h.to_ _ h5 h6
    obtain ⟨s,hs,ks⟩:=h.to_ j hj (by rw [hj2,e2];exact h6)
    have hpb:p.birth=((kat l j).up.toNat:Int)+1:=by rw [kp.birth];exact (h.ups _ h5).2
    have hub:s.ub=p.birth:=by rw [ks.up (by omega),hpb];omega
    have h8:=h.is.1.anc_dl hpA (Anc.step hs hpA hub (Anc.self hpA rfl))
    have:=kp.til;have:=ks.til
    omega
theorem SeenK.tick {st st':FS} {A B:List Sess} {l:List Kn} {n:Int} (h:SeenK st A l) (hn:0<=n) (h1:Is st' B) (hB:∀ s,s ∈ B↔s ∈ A/\st.clock+n<s.dl) (hc:st'.clock=st.clock+n) (hb:st'.births=st.births):SeenK st' B l:=by
 refine ⟨h1,by rw [hb,h.bir],h.ups,fun s hs => ?_,fun j hj hl => ?_⟩
 ·rw [hc]
  obtain ⟨hs1,hs2⟩:=(hB s).1 hs
  obtain ⟨j,j1,j2,j3⟩:=h.from_ s hs1
  exact ⟨j,j1,(h.later (by omega) j j (Nat.le_refl _) j1).2 ⟨j2,by rw [<- j3.til];exact hs2⟩,j3⟩
 ·rw [hc] at hl
  obtain ⟨k1,k2⟩:=(h.later (by omega) j j (Nat.le_refl _) hj).1 hl
  obtain ⟨s,hs,k⟩:=h.to_ j hj k1
  exact ⟨s,(hB s).2 ⟨hs,by rw [k.til];exact k2⟩,k⟩
theorem SeenK.same {st st':FS} {A:List Sess} {l:List Kn} (h:SeenK st A l) (h1:Is st' A) (hc:st'.clock=st.clock) (hb:st'.births=st.births):SeenK st' A l :=
 ⟨h1,by rw [hb];exact h.bir,h.ups,by rw [hc];exact h.from_,by rw [hc];exact h.to_⟩
theorem seen_new:SeenK newF [] []:=⟨is_new,rfl,fun i hi => absurd hi (by simp),fun s hs => (by cases hs),fun i hi => absurd hi (by simp)⟩
theorem IsN.full_iff {st:FS} {A:List Sess} (h:IsN st A):full st=true↔32<=A.length:=by
 obtain ⟨c1,c2,c3⟩:=h.count
 unfold full
 rw [Bool.and_eq_true,List.isEmpty_iff]
 constructor
 ·rintro ⟨h1,h2⟩
  have:=c2 (by simpa using h2)
  rw [h1] at this;simp at this;omega
 ·intro h1
  refine ⟨List.length_eq_zero_iff.1 (by omega),?_⟩
  by_cases hg:st.garb = -1
  ·rw [hg];rfl
  ·have:=c3 hg;omega
end Fr
end
section
namespace Fr
open Vw (Sess)
def annB:ByteArray:=⟨#[97,110,110]⟩
def tvB:ByteArray:=⟨#[116,118]⟩
def askR (level life:Int):Req:=⟨annB,tvB,7,level,life⟩
structure Sw (st:FS) (A:List Sess) (l:List Kn):Prop where
 seen:SeenK st A l
 clk:st.clock=0
 room:st.free.length+A.length=32
 cnt:A.length=l.length
 all:∀ s ∈ A,s.scopes=7/\s.dl=100
 liv:∀ i:Nat,i<l.length->liveK l i 0=true
 one:l≠[]->∃ s ∈ A,s.birth=1/\s.depth=0
theorem Sw.grow {st:FS} {A:List Sess} {l:List Kn} {us ub kind:Int} {s:Sess} {up:Int} (h:Sw st A l) (hn:l.length<32) (hp:planF st kind us ub (askR 1 100)=some (st,s,0)) (hs7:s.scopes=7) (hs1:s.dl=100)
  (hk:kind=0/\up = -1/\l=[]/\s.depth=0\/kind=1/\∃ p ∈ A,p.slot=us/\p.birth=ub/\∃ j:Nat,up=j/\j<l.length/\LinkK p (kat l j)) :
  ∃ st2,bornF st s=some (st2,0)/\Sw st2 (A ++ [s]) (l ++ [⟨s.slot,s.birth,up,s.dl,false⟩])/\s.birth=l.length+1:=by
 rcases h.seen.is.plan kind us ub (askR 1 100) with ⟨no,h1,h2,_⟩ | ⟨st',s',h1,h2,h3,h4,h5,h6,h7,h8,h9,h10,h11,h12,h13⟩
 ·rw [hp] at h2;cases h2;exact absurd rfl h1
 rw [hp] at h1
 cases h1
 rcases h.seen.is.born s with ⟨no,k1,k2,k3⟩ | ⟨st2,k1,k2,k3,k4,k5,k6,k7⟩
 ·exact absurd ⟨h9,h10,h11,h12,h8⟩ k3
 have hup:up<0\/∃ j:Nat,up=j/\j<l.length/\liveK l j st.clock=true:=by
  rcases hk with ⟨_,e,_⟩ | ⟨_,p,_,_,_,j,e,hj,_⟩
  ·exact .inl (by omega)
  ·exact .inr ⟨j,e,hj,by rw [h.clk];exact h.liv j hj⟩
 have hub:(up<0->s.ub=0)/\(0<=up->s.ub=up+1):=by
  rcases hk with ⟨e0,e,_⟩ | ⟨e0,p,hpA,e1,e2,j,e,hj,hl⟩
  ·refine ⟨fun _ => ?_,fun _ => by omega⟩
   rcases h13 with ⟨_,_,h14⟩ | ⟨h14,_⟩
   ·exact h14
   ·exact absurd e0 h14
  ·refine ⟨fun _ => by omega,fun _ => ?_⟩
   rcases h13 with ⟨h14,_⟩ | ⟨_,q,_,_,hq,_,h14,_⟩
   ·omega
   ·rw [h14,<- e2,hl.birth,(h.seen.ups j hj).2,e]
 have hbl:s.birth=l.length+1:=by rw [h11,h.seen.bir]
 have hS:=h.seen.born (k:=⟨s.slot,s.birth,up,s.dl,false⟩) k3 k4 k5 ⟨rfl,rfl,rfl,hub.1,hub.2⟩ hbl rfl (by show st.clock<s.dl;rw [h.clk,hs1];decide) hup
 have hupl:up<(l.length:Int):=by rcases hup with hup | ⟨j,e,hj,_⟩ <;> omega
 refine ⟨st2,k1,⟨hS,k4.trans h.clk,?_,by simp [h.cnt],?_,?_,?_⟩,hbl⟩
 ·rw [k6,List.length_erase_of_mem h8,List.length_append,List.length_singleton]
  have:=h.room
  have:0<st.free.length:=List.length_pos_iff.2 (fun e => by rw [e] at h8;cases h8)
  omega
 ·intro x hx
  rcases List.mem_append.1 hx with hx | hx
  ·exact h.all x hx
  ·rw [List.mem_singleton] at hx;subst hx;exact ⟨hs7,hs1⟩
 ·intro i hi
  rw [List.length_append,List.length_singleton] at hi
  have hap:=liveK_app (k:=⟨s.slot,s.birth,up,s.dl,false⟩) h.seen.ups hupl hbl 0
  by_cases h3:i<l.length
  ·rw [hap i i (Nat.le_refl _) h3];exact h.liv i h3
  ·have e:i=l.length:=by omega
   subst e
   rw [liveK_eq hS.ups (by simp),kat_last,if_neg (by simp [hs1])]
   rcases hup with hup | ⟨j,e1,e2,_⟩
   ·rw [if_pos hup]
   ·rw [if_neg (by simp;omega)]
    show liveK _ up 0=true
    have h9:=hap j j (Nat.le_refl _) e2
    rw [<- e1] at h9
    rw [h9,e1];exact h.liv j e2
 ·intro _
  rcases hk with ⟨_,_,e,hd⟩ | ⟨_,_,_,_,_,j,_,hj,_⟩
  ·exact ⟨s,by simp,by rw [hbl,e];rfl,hd⟩
  ·obtain ⟨x,hx,h1⟩:=h.one (by intro e;rw [e] at hj;simp at hj)
   exact ⟨x,by simp [hx],h1⟩
theorem sw_new:Sw newF [] []:=⟨seen_new,rfl,by decide,rfl,fun s hs => (by cases hs),fun i hi => absurd hi (by simp),fun h => absurd rfl h⟩
def top1:Sess:=⟨0,1,0,0,0,annB,ByteArray.empty,7,1,0,100,0⟩
theorem plan_top:planF newF 0 0 0 (askR 1 100)=some (newF,top1,0):=by
 have h1:grantF newF 0 0 0 (askR 1 100)=(⟨0,1,0,0,0,annB,ByteArray.empty,7,1,0,100,0⟩,0):=by
  unfold grantF
  rw [if_pos rfl]
  unfold loginS
  rw [if_neg (by decide),if_neg (by decide),if_neg (by decide),if_neg (by decide),if_neg (by decide)]
  rfl
 unfold planF
 rw [if_neg (by decide),h1,if_neg (by decide)]
 rfl
theorem Sw.first:∃ st2,bornF newF top1=some (st2,0)/\Sw st2 [top1] [⟨0,1,-1,100,false⟩]:=by
 obtain ⟨st2,h1,h2,_⟩:=sw_new.grow (up:=-1) (by decide) plan_top rfl rfl (.inl ⟨rfl,rfl,rfl,rfl⟩)
 exact ⟨st2,h1,h2⟩
end Fr
end
section
open Go.RowKit Go.Maps Go.Shelf
namespace Fr
open Vw (Sess)
open Ex (Ent wo ExpAt)
attribute [local go_sem] Oper.semAt_some
theorem lask_any (level life:Int) (w:World):Calls Tryz.prog 9 #[.int .i64 level,.int .i64 life] w fun e w' => e = .returned (.agg (askR level life).cells.toArray)/\Below w.heap.size w w':=by
 have hb:Below w.heap.size w (w.alloc (.cells (askR level life).cells.toArray 41)):=(Below.refl _ _).alloc (Nat.le_refl _) _
 have HB:Hid (Below w.heap.size w (w.alloc (.cells #[.string ⟨#[97,110,110]⟩,.string ⟨#[116,118]⟩,.int .u64 7,.int .i64 level,.int .i64 life] 41))):=hb
 clear hb
 go_enter Tryz.func9,Tryz.ntmps9
 have hrow:(w.alloc (.cells #[.string ⟨#[97,110,110]⟩,.string ⟨#[116,118]⟩,.int .u64 7,.int .i64 level,.int .i64 life] 41)).heap[w.heap.size]? = some (.cells #[.string ⟨#[97,110,110]⟩,.string ⟨#[116,118]⟩,.int .u64 7,.int .i64 level,.int .i64 life] 41 (0,0)):=World.alloc_heap_new _ _
 have HROW:=zh hrow
 clear hrow
 go_wp2
 refine bodyPost_ret (results_cell_row rfl _ _ w.heap.size _ _ (0,0) _ rfl HROW.out Tryz.underlying41 rfl (by kernel_rfl)) rfl ?_
 exact ⟨rfl,HB.out⟩
section
variable {lo:Nat} {P:Pa} {st st1 st2:FS} {nw c d:Nat} {Fe:Nat->Prop} {w w' w'':World}
theorem FoTo.behind {w0:World} (h0:ForAt lo P st nw Fe w0) (hb:Below w0.heap.size w0 w) (h:FoTo lo P st1 c nw Fe w w') {G:Nat->Prop} (ho:Only G w' w'') (hG:∀ k,G k->w0.heap.size<=k/\k<w.heap.size):FoTo lo P st1 c nw Fe w0 w'':=by
 obtain ⟨n1,F1,a1,a2,hf,ho1,hn⟩:=h
 have hnF:∀ k,Fo P Fe k->k<w0.heap.size:=fun k hk => (h0.lt hk).2
 refine ⟨n1,F1,a1,a2,hf.only ho (fun k hk hg => ?_),((Only.of_below hb:Only (Fo P Fe) w0 w).trans ho1 (fun i hi h => h)).trans ho (fun i hi hg => absurd hi (by have:=(hG i hg).1;omega)),fun k hk => (hn k hk).imp id (Nat.le_trans hb.size)⟩
 have h1:=hG k hg
 exact Fo.new hn (fun hf => by have:=hnF k hf;omega) h1.2 hk
theorem FoTo.keepRow (h:FoTo lo P st1 c nw Fe w w') (h0:ForAt lo P st nw Fe w) {k:Nat} (hk:k<w.heap.size) (hn:¬ Fo P Fe k):w'.heap[k]? = w.heap[k]?:=by
 obtain ⟨n1,F1,a1,a2,hf,ho1,hnn⟩:=h
 exact ho1.block k hk hn
theorem lbirth_any (h:ForAt lo P st nw Fe w) (hw:nw+14<=1099511627776) (kind us ub:Int) (r:Req) (h1:r.user.size<=9223372036854775807) (h2:r.label.size<=9223372036854775807) (s:Sess) (hp:planF st kind us ub r=some (st1,s,0)) (hc:bornF st1 s=some (st2,0))
  (hD:DeepOk st1) (hbi:0<=st1.births/\st1.births<=1048576) (hu:s.user.size<=9223372036854775807) (hl:s.label.size<=9223372036854775807) (hsc:s.scopes<18446744073709551616) :
  Calls Tryz.prog 22 (planArgs P kind us ub r) w fun e w' => e = .returned (.tuple #[.agg s.cells.toArray,.bool true])/\FoTo lo P st2 14 nw Fe w w':=by
 obtain ⟨rs,hrs⟩:∃ rs,rs=r.cells:=⟨_,rfl⟩
 have HRL:Hid (rs.length=5):=by show _=_;rw [hrs];rfl
 obtain ⟨W0,hW0⟩:∃ W0,W0=((w.alloc (.cells #[.int .i64 us,.int .i64 ub] 28)).alloc (.cells r.cells.toArray 41)).alloc (.cells s0.cells.toArray 35):=⟨_,rfl⟩
 have hb0:Below w.heap.size w W0:=by rw [hW0];exact (((Below.refl _ _).alloc (Nat.le_refl _) _).alloc (by simp) _).alloc (by simp;omega) _
 have hs0:W0.heap.size=w.heap.size+3:=by rw [hW0,World.size_alloc,World.size_alloc,World.size_alloc]
 have hR0:W0.heap[w.heap.size+2]? = some (.cells s0.cells.toArray 35 (0,0)):=by
  have:=World.alloc_heap_new ((w.alloc (.cells #[.int .i64 us,.int .i64 ub] 28)).alloc (.cells r.cells.toArray 41)) (.cells s0.cells.toArray 35)
  rw [World.size_alloc,World.size_alloc] at this
  rw [hW0];exact this
 have hpl:=fplan (h.below hb0) (by omega) kind us ub r h1 h2 s 0 hp
 rw [show erV 0 = .nilIface from if_pos rfl] at hpl
 have HPL:=zh hpl
 clear hpl
 obtain ⟨ss,hss⟩:∃ ss,ss=s.cells:=⟨_,rfl⟩
 have HCL:Hid (ss.length=12):=by show _=_;rw [hss];rfl
 have HC1:Hid (∀ u ∈ ss,u.oneCell'=true):=by show ∀ _,_;rw [hss];exact sess_one _
 have HBORN:Hid (∀ (n1:Nat) (F1:Nat->Prop) (W:World),n1<=nw+8->ForAt lo P st1 n1 F1 W->Calls Tryz.prog 11 #[.pointer (some ⟨P.f,0,none⟩),.agg ss.toArray] W fun e w' => e = .returned (.nilIface)/\FoTo lo P st2 6 n1 F1 W w'):=fun n1 F1 W hn hf => by
  rw [hss]
  exact fborn hf hD hbi (by omega) s hu hl hsc 0 hc
 have HH:=zh h;have HB0:=zh hb0;have HS0:=zh hs0;have HR0:=zh hR0
 unfold planArgs
 rw [<- hss]
 rw [<- hss] at HPL
 obtain ⟨b1,b2,b3,b4,b5⟩:=r
 simp only [Req.cells] at *
 replace hW0:W0=((w.alloc (.cells #[.int .i64 us,.int .i64 ub] 28)).alloc (.cells #[.string b1,.string b2,.int .u64 (b3:Int),.int .i64 b4,.int .i64 b5] 41)).alloc (.cells #[.int .i64 0,.int .i64 0,.int .i64 0,.int .i64 0,.int .i64 0,.string ⟨#[]⟩,.string ⟨#[]⟩,.int .u64 0,.int .i64 0,.int .i64 0,.int .i64 0,.int .i64 0] 35):=hW0
 have HW0:=zh hW0
 have l0:W0.cell? ⟨w.heap.size,0,none⟩=some (.int .i64 us)/\W0.cell? ⟨w.heap.size,1,none⟩=some (.int .i64 ub):=by
  have k:W0.heap[w.heap.size]? = some (.cells #[.int .i64 us,.int .i64 ub] 28 (0,0)):=by
   rw [hW0,Below.heap_alloc _ _ _ (by simp;omega),Below.heap_alloc _ _ _ (by simp)];exact World.alloc_heap_new _ _
  exact ⟨by rw [zc k];rfl,by rw [zc k];rfl⟩
 have m0:W0.cell? ⟨w.heap.size+1,0,none⟩=some (.string b1)/\W0.cell? ⟨w.heap.size+1,1,none⟩=some (.string b2)/\W0.cell? ⟨w.heap.size+1,2,none⟩=some (.int .u64 (b3:Int))/\W0.cell? ⟨w.heap.size+1,3,none⟩=some (.int .i64 b4)/\W0.cell? ⟨w.heap.size+1,4,none⟩=some (.int .i64 b5):=by
  have k:W0.heap[w.heap.size+1]? = some (.cells #[.string b1,.string b2,.int .u64 (b3:Int),.int .i64 b4,.int .i64 b5] 41 (0,0)):=by
   have:=World.alloc_heap_new (w.alloc (.cells #[.int .i64 us,.int .i64 ub] 28)) (.cells #[.string b1,.string b2,.int .u64 (b3:Int),.int .i64 b4,.int .i64 b5] 41)
   rw [World.size_alloc] at this
   rw [hW0,Below.heap_alloc _ _ _ (by simp)];exact this
  exact ⟨by rw [zc k];rfl,by rw [zc k];rfl,by rw [zc k];rfl,by rw [zc k];rfl,by rw [zc k];rfl⟩
 obtain ⟨l0,l1⟩:=l0
 obtain ⟨m0,m1,m2,m3,m4⟩:=m0
 clear h h1 h2 hp hc hD hbi hu hl hsc hss hW0 hb0 hs0 hR0 hw hrs HRL
 go_enter Tryz.func22,Tryz.ntmps22
 go_upto_region 1 with fail
 rw [<- HW0.out]
 go_wp2_with fail
 refine HPL.out.mono ?_
 rintro e w1 ⟨rfl,hf1⟩
 obtain ⟨n1,F1,a1,a2,hfa,hoa,hna⟩:=hf1
 obtain ⟨W4,hW4⟩:∃ W4,W4=w1.alloc (.cells ss.toArray 35):=⟨_,rfl⟩
 obtain ⟨sx,hsx⟩:∃ sx,sx=w1.heap.size:=⟨_,rfl⟩
 have hb14:Below w1.heap.size w1 W4:=by rw [hW4];exact (Below.refl _ _).alloc (Nat.le_refl _) _
 have hrs4:W4.heap[sx]? = some (.cells ss.toArray 35 (0,0)):=by rw [hW4,hsx];exact World.alloc_heap_new _ _
 have hsx0:W0.heap.size<=sx:=by rw [hsx];exact hoa.size
 have hnsx:¬ Fo P F1 sx:=fun hf => by have:=(hfa.lt hf).2;omega
 have hnR:¬ Fo P F1 (w.heap.size+2):=Fo.new hna (fun hf => by have:=(HH.out.lt hf).2;omega) (by rw [HS0.out];omega)
 have hf4:=hfa.below hb14
 have ho04:Only (Fo P Fe) w W4:=(((Only.of_below HB0.out:Only (Fo P Fe) w W0).trans hoa (fun i hi h => h)).trans (Only.of_below hb14:Only (Fo P Fe) w1 W4) (fun i hi h => h))
 have hna0:∀ k,F1 k->Fe k\/w.heap.size<=k:=fun k hk => (hna k hk).imp id (Nat.le_trans HB0.out.size)
 have HF4:=zh hf4
 have HBO:Hid (∀ W,ForAt lo P st1 n1 F1 W->Calls Tryz.prog 11 #[.pointer (some ⟨P.f,0,none⟩),.agg ss.toArray] W fun e w' => e = .returned (.nilIface)/\FoTo lo P st2 6 n1 F1 W w'):=fun W hf => HBORN.out n1 F1 W a2 hf
 have HSX:=zh (And.intro hnsx (zx hrs4))
 have hRW4:W4.heap[w.heap.size+2]? = some (.cells s0.cells.toArray 35 (0,0)):=(hb14.block _ (by have:=HS0.out;have:=hoa.size;omega)).trans ((hoa.block _ (by rw [HS0.out];omega) (fun hf => by have:=(HH.out.lt hf).2;omega)).trans HR0.out)
 have HR4:=zh hRW4
 have HRX:=zh (And.intro hnR (zx hRW4))
 have HKR:Hid (∀ A B:World,B.heap[sx]? = A.heap[sx]?->A.rangeAt sx 0 ss->B.rangeAt sx 0 ss):=fun A B e h i u hi => by
  have:=h i u hi
  simp only [World.cell?] at this ⊢
  rw [e];exact this
 have hS4:W4.drew.rangeAt sx 0 ss:=fun i u hi => by
  rw [cell_of_row W4.drew _ _ _ _ _ (show W4.drew.heap[sx]? = _ from hrs4)]
  simpa using hi
 have HS4:=zh hS4
 have hset:∀ A:World,A.heap[w.heap.size+2]? = some (.cells s0.cells.toArray 35 (0,0))->(World.setCells A (w.heap.size+2) 0 ss).heap[w.heap.size+2]? = some (.cells ss.toArray 35 (0,0)):=fun A hA => by
  have:=Ag.setCells_row (w.heap.size+2) 35 ss 0 _ A hA
  rwa [Ag.put_all (by rw [HCL.out];rfl)] at this
 have hne:sx≠w.heap.size+2:=by have:=HS0.out;omega
 have HFIN:Hid (∀ w5,FoTo lo P st2 6 n1 F1 W4.drew w5->w5.heap[w.heap.size+2]? = some (.cells s0.cells.toArray 35 (0,0))->w5.rangeAt sx 0 ss ->
   (World.setCells w5 (w.heap.size+2) 0 ss).heap[w.heap.size+2]? = some (.cells ss.toArray 35 (0,0))/\FoTo lo P st2 14 nw Fe w (World.setCells w5 (w.heap.size+2) 0 ss)/\(World.setCells w5 (w.heap.size+2) 0 ss).rangeAt sx 0 ss):=fun w5 h5 hR hS => by
  have ho:Only (fun b => b=w.heap.size+2) w5 (World.setCells w5 (w.heap.size+2) 0 ss):=only_cells _ _ _ (Only.refl _ _)
  have hx:sx<w5.heap.size:=by
   obtain ⟨_,_,_,_,_,ho5,_⟩:=h5
   exact Nat.lt_of_lt_of_le HSX.out.2 ho5.size
  have h7:FoTo lo P st2 (8+6) nw Fe W0 w5:=FoTo.after a1 a2 (hoa.trans ((Only.of_below hb14:Only (Fo P Fe) w1 W4).drew) (fun i hi h => h)) hna h5
  exact ⟨hset w5 hR,FoTo.behind HH.out HB0.out h7 ho (fun k hk => by subst hk;exact ⟨by omega,by rw [HS0.out];omega⟩),HKR.out _ _ (ho.block _ hx hne) hS⟩
 have HST:Hid (W4.heap.size<=(World.setCells W4.drew (w.heap.size+2) 0 ss).heap.size/\ForAt lo P st1 n1 F1 (World.setCells W4.drew (w.heap.size+2) 0 ss)/\(World.setCells W4.drew (w.heap.size+2) 0 ss).rangeAt sx 0 ss/\(World.setCells W4.drew (w.heap.size+2) 0 ss).heap[w.heap.size+2]? = some (.cells ss.toArray 35 (0,0))/\Only (Fo P Fe) w (World.setCells W4.drew (w.heap.size+2) 0 ss)):=by
  have ho:Only (fun b => b=w.heap.size+2) W4.drew (World.setCells W4.drew (w.heap.size+2) 0 ss):=only_cells _ _ _ (Only.refl _ _)
  exact ⟨ho.size,hf4.drew.only ho (fun k hk e => by subst e;exact hnR hk),HKR.out _ _ (ho.block _ HSX.out.2 hne) hS4,hset _ hRW4,ho04.drew.trans ho (fun i hi e => by omega)⟩
 have HFB:Hid (∀ w5 w6,Only (Fo P Fe) w w5->FoTo lo P st2 6 n1 F1 w5 w6->FoTo lo P st2 14 nw Fe w w6):=fun w5 w6 ho h6 => FoTo.after (c:=8) (d:=6) a1 a2 ho hna0 h6
 have HW4:=zh hW4;have HSQ:=zh hsx
 clear hfa hoa hna hW4 hsx hb14 hrs4 hsx0 hnsx hnR hf4 ho04 hna0 hRW4 hS4 hset hne a1 a2 l0 l1 m0 m1 m2 m3 m4
 go_upto_region 4 with (first
  | (refine Ag.wpList_store_new (by rfl) 35 (.tmp 10) (.tmp 18) (by rfl) ss (by rfl) (by rfl) (by rw [HCL.out];kernel_rfl) (by rw [HCL.out];rfl) HC1.out ?_))
 rw [<- HW4.out,<- HSQ.out]
 refine wp_region_held_drew (S:=fun W' => W'.rangeAt sx 0 ss) (by kernel_rfl) HS4.out (fun _ => ?_)
 refine tk 0 rfl (.agg ss.toArray) (fun wq hq => by exact St.exec_load 35 (.tmp 10) (by rfl) sx 0 (by rfl) ss _ hq Tryz.underlying35 rfl (by rw [HCL.out];kernel_rfl)) HS4.out ?_
 try simp only [zq]
 refine tq 1 rfl (.pointer (some ⟨P.f,0,none⟩)) HS4.out ?_
 try simp only [zq]
 refine tk 2 rfl (.agg ss.toArray) (fun wq hq => by exact St.exec_load 35 (.tmp 10) (by rfl) sx 0 (by rfl) ss _ hq Tryz.underlying35 rfl (by rw [HCL.out];kernel_rfl)) HS4.out ?_
 try simp only [zq]
 refine zr 3 rfl (fun K hK => ?_)
 ·go_simp
  refine (HBO.out W4.drew HF4.out.drew).mono ?_
  rintro e w5 ⟨rfl,h5⟩
  have hS5:w5.rangeAt sx 0 ss:=HKR.out _ _ (h5.keepRow HF4.out.drew HSX.out.2 HSX.out.1) HS4.out
  have hR5:=(h5.keepRow HF4.out.drew HRX.out.2 HRX.out.1).trans HR4.out
  refine hK.out _ _ hS5 (fun _ => ?_)
  clear hK K
  try simp only [zq]
  refine tq 4 rfl (.bool true) hS5 ?_
  try simp only [zq]
  refine zr 5 rfl (fun K hK => ?_)
  rw [if_pos (by rfl)]
  refine wp_store_mid 35 (.tmp 8) (.tmp 23) (by rfl) (w.heap.size+2) 0 ss.toArray (by rfl) (by rfl) (Ag.there_row hR5 _ (by rw [List.size_toArray,HCL.out];decide)) (by rw [List.size_toArray,HCL.out];kernel_rfl) (all_oneCell_toArray HC1.out) ?_
  rw [List.toList_toArray]
  have hfin:=HFIN.out _ h5 hR5 hS5
  generalize World.setCells w5 (w.heap.size+2) 0 ss=w6 at hfin ⊢
  refine hK.out _ _ hfin.2.2 (fun _ => ?_)
  clear hK K
  try simp only [zq]
  refine tq 6 rfl (.bool true) hfin.2.2 ?_
  try simp only [zq]
  refine wpAnyH_done (by kernel_rfl) ?_ _
  try simp only [zq]
  clear h5 hS5 hR5
  have HFI:=zh hfin
  clear hfin
  go_wp2
  refine bodyPost_ret (results_cell_tmp rfl _ _ (w.heap.size+2) _ ss.toArray (0,0) _ rfl HFI.out.1 Tryz.underlying35 rfl (by rw [List.size_toArray,HCL.out];kernel_rfl)) rfl ?_
  exact ⟨rfl,HFI.out.2.1⟩
end
end Fr
end
section
open Go.RowKit Go.Maps
namespace Fr
open Vw (Sess)
attribute [local go_sem] Oper.semAt_some
def allC (ss:List Sess):List Value:=ss.flatMap Sess.cells
theorem allC_len (ss:List Sess):(allC ss).length=ss.length * 12:=by
 induction ss with
 | nil => rfl
 | cons s r ih =>
  have hc:s.cells.length=12:=rfl
  show (s.cells ++ allC r).length=_
  rw [List.length_append,ih,hc,List.length_cons];omega
theorem allC_snoc (ss:List Sess) (s:Sess):allC (ss ++ [s])=allC ss ++ s.cells:=by simp [allC,List.flatMap_append]
theorem allC_cell {ss:List Sess} {k i:Nat} (h:k<ss.length) (hi:i<12):(allC ss)[k * 12+i]? = ss[k].cells[i]?:=by
 induction ss generalizing k with
 | nil => simp at h
 | cons s r ih =>
  unfold allC
  rw [List.flatMap_cons]
  have hc:s.cells.length=12:=rfl
  cases k with
  | zero => rw [List.getElem?_append_left (by omega)];simp
  | succ k =>
   rw [List.getElem?_append_right (by rw [hc];omega),hc,show (k+1) * 12+i-12=k * 12+i by omega]
   exact ih (by simpa using h)
theorem sess_one' (s:Sess):∀ u ∈ s.cells,u.oneCell'=true:=by
 intro u hu
 simp only [Vw.Sess.cells,List.mem_cons,List.not_mem_nil,or_false] at hu
 rcases hu with rfl | rfl | rfl | rfl | rfl | rfl | rfl | rfl | rfl | rfl | rfl | rfl <;> rfl
def SesIn (W:World) (v:Value) (ss:List Sess):Prop :=
 ∃ p cap,v = .slice p ss.length cap/\∀ (j:Nat) (s:Sess),ss[j]? = some s->∃ g o,p=some ⟨g,o,none⟩/\W.rangeAt g (o+j * 12) s.cells
theorem sesIn_own {w:World} {base cap:Nat} {q:Option Addr} {ss:List Sess} (h:w.ownsRow base 35 12 (.slice q ss.length cap) ss.length (allC ss)):SesIn w (.slice q ss.length cap) ss:=by
 refine ⟨q,cap,rfl,fun j s hjs => ?_⟩
 obtain ⟨hj,rfl⟩:=List.getElem?_eq_some_iff.1 hjs
 rcases h.2 with ⟨h1,h2⟩ | ⟨g,c,cur,h1,h2,h3,h4,h5,h6,h7⟩
 ·omega
 ·injection h1 with e1 e2 e3
  subst e1 e3
  refine ⟨g,0,rfl,fun i u hi => ?_⟩
  have hi2:i<12:=(List.getElem?_eq_some_iff.1 hi).1
  rw [Nat.zero_add,World.ownsRow.cellAt (w:=w) h (j * 12+i) (by omega),allC_cell hj hi2]
  exact hi
theorem gathered_s {t:TypeId} {bx D:Nat} {v:Value} {L:List Sess} {w:World} (hb:Boxed w bx t v) (hr:w.ownsRow D 35 12 v L.length (allC L)) :
  ∀ W:World,(∀ b,(b=bx\/v.ownBlock=some b)->b<W.heap.size/\W.heap[b]? = w.heap[b]?)->W.cell? ⟨bx,0,none⟩=some v/\SesIn W v L:=fun W hW => by
 have h2:W.ownsRow D 35 12 v L.length (allC L):=own_stay hr (fun b e => (hW b (.inr e)).2)
 refine ⟨Boxed.cell (t:=t) (show Boxed W bx t v from (hW bx (.inl rfl)).2.trans hb),?_⟩
 obtain ⟨q,r,rfl,-⟩:=own_shape h2
 exact sesIn_own h2
def encZ (s:Sess):Array Value:=#[.agg s.cells.toArray]
theorem values_any (q:Option Addr) (n c:Nat) (w:World):Calls Tryz.prog 51 #[.slice q n c] w fun e w' => e = .returned (.func (.func 83) #[] #[.pointer (some ⟨w.heap.size,0,none⟩)])/\w'=w.alloc (.cells #[.slice q n c] 62):=by
 go_enter Tryz.func51,Tryz.ntmps51
 go_wp2
 go_ret
 exact ⟨rfl,rfl⟩
theorem values_seq (n:Nat) (bx:Nat) (v:Value) (ls:List Sess) (hll:ls.length<=65536) (C:Nat->Prop) (w:World)
  (hC:∀ W,(∀ b,C b->b<W.heap.size/\W.heap[b]? = w.heap[b]?)->W.cell? ⟨bx,0,none⟩=some v/\SesIn W v ls) :
  Fo.SeqF Fence.wide n Tryz.prog 83 #[.pointer (some ⟨bx,0,none⟩)] encZ (fun ys => ys=ls) (fun p => p <+: ls) C w:=by
 intro l J Jx W Fp0 hCW hFp hJ hJx hY h0
 obtain ⟨cv,p,c,rfl,-⟩:=hC W hCW
 have HC:=zh hC
 have HJ:=zh hJ;have HY:=zh hY
 have HK0:Hid (Kept C Fp0 w W):=fun b hb => ⟨fun hf => (hFp b hf).2 hb,hCW b hb⟩
 have H0:=zh h0
 have HCV:Hid (∀ A:World,(∀ b,C b->b<A.heap.size/\A.heap[b]? = w.heap[b]?)->∀ (j:Nat) (s:Sess),ls[j]? = some s->∃ g o,p=some ⟨g,o,none⟩/\A.rangeAt g (o+j * 12) s.cells):=fun A hA j s hjs => by
  obtain ⟨h2,p2,c2,e,hc⟩:=HC.out A hA
  obtain ⟨g,o,k1,k2⟩:=hc j s hjs
  injection e with e1 e2 e3
  exact ⟨g,o,e1.trans k1,k2⟩
 clear hC hJ hJx hY hCW hFp h0
 refine callsIn_of_wp Tryz.func83 rfl trivial ?_ rfl
 simp only [Tryz.ntmps83,List.size_toArray,List.length_cons,List.length_nil,Nat.reduceAdd,Nat.reduceSub,Array.replicate_succ,Array.replicate_zero,List.push_toArray,List.append_toArray,List.nil_append,List.cons_append]
 gi_wp2
 gi_loopw [7] (fun i wr => ∃ (k:Nat) (Fp:Nat->Prop),k<=ls.length/\i = .int .i64 k/\J (ls.take k) Fp wr/\W.heap.size<=wr.heap.size/\Kept C Fp w wr) (fun i _ => ls.length-(intOf i).toNat)
 case atStart => exact ⟨0,Fp0,Nat.zero_le _,rfl,H0.out,Nat.le_refl _,HK0.out⟩
 case round =>
  obtain ⟨k,Fp,hk,rfl,hj,hsz,hkp⟩:=hrel
  have b0:(0:Int)<=(k:Int):=by omega
  by_cases hlt:k<ls.length
  ·have b1:(k:Int)<(ls.length:Int):=by omega
   obtain ⟨s,hs⟩:∃ s,ls[k]? = some s:=⟨_,List.getElem?_eq_getElem hlt⟩
   obtain ⟨ga,oa,rfl,hrg⟩:=HCV.out wr hkp.agree k s hs
   have htk:ls.take (k+1)=ls.take k ++ [s]:=by rw [List.take_add_one,hs];rfl
   obtain ⟨cs,hcs⟩:∃ cs,cs=s.cells:=⟨_,rfl⟩
   have HCL:Hid (cs.length=12):=by show _=_;rw [hcs];rfl
   have HC1:Hid (∀ u ∈ cs,u.oneCell'=true):=by show ∀ _,_;rw [hcs];exact sess_one' s
   obtain ⟨W3,hW3⟩:∃ W3,W3=wr.alloc (.cells cs.toArray 35):=⟨_,rfl⟩
   have hj3:J (ls.take k) Fp W3:=HJ.out _ _ _ _ none hj hsz (by rw [hW3];exact World.grownBy_alloc _ _ none) (fun r e => by cases e)
   have hsz3:W.heap.size<=W3.heap.size:=Nat.le_trans hsz (by rw [hW3];simp)
   have hkp3:Kept C Fp w W3:=fun b hb => by
    obtain ⟨h1,h2,h3⟩:=hkp b hb
    rw [hW3]
    exact ⟨h1,by rw [World.size_alloc];omega,(Below.heap_alloc _ _ _ h2).trans h3⟩
   have HRN:Hid (W3.rangeAt wr.heap.size 0 cs):=by
    show World.rangeAt _ _ _ _
    intro j u hu
    rw [hW3,Nat.zero_add,zc (Ut.alloc_at _ _)]
    simpa using hu
   obtain ⟨fn,tmps,assign,body,hy,hR⟩:=HY.out (ls.take k) s Fp W3 hj3 hsz3 (by
    show _ <+: _
    rw [<- htk];exact List.take_prefix _ _)
   unfold encZ at hy
   rw [<- hcs] at hy hrg
   have HR:=zh hR;have HI:=zh hs;have HLT:=zh hlt;have HKP:=zh hkp3
   have HTK:=zh htk;have HSZ:=zh hsz3;have HRG:=zh hrg;have HW3:=zh hW3
   clear hR hs hlt hj hkp htk hsz hrg hcs hj3 hsz3 hkp3
   rw [hW3] at hy
   clear hW3
   gi_wp2_with (first
    | (refine Ag.wpListIn_load (by rfl) 35 _ (by rfl) _ _ (by rfl) cs _ HRG.out Tryz.underlying35 rfl (by rw [HCL.out];kernel_rfl) ?_)
    | (refine Ag.wpListIn_store_new (by rfl) 35 (.tmp 4) (.tmp 10) (by rfl) cs (by rfl) (by rfl) (by rw [HCL.out];kernel_rfl) (by rw [HCL.out];rfl) HC1.out ?_)
    | (refine Ag.wpListIn_load (by rfl) 35 _ (by rfl) _ _ (by rfl) cs _ (by rw [<- HW3.out];exact HRN.out) Tryz.underlying35 rfl (by rw [HCL.out];kernel_rfl) ?_))
   rw [<- HW3.out]
   refine ⟨fun h => by simp [Fence.wide] at h,HR.out.mono ?_⟩
   rintro e W4 (⟨rfl,Fp',hJ3,ho3,hn3⟩ | ⟨rfl,Fp',hJx3,-,-⟩)
   ·have HU:Hid (J (ls.take (k+1)) Fp' W4):=by show J _ _ _;rw [HTK.out];exact hJ3
    have HS3:Hid (W.heap.size<=W4.heap.size):=Nat.le_trans HSZ.out ho3.size
    have HK3:=zh (HKP.out.yield ho3 hn3)
    clear hJ3 ho3 hn3
    gi_wp2
    go_roundw
    case rel => have:=HLT.out;exact ⟨k+1,Fp',by omega,rfl,HU.out,HS3.out,HK3.out⟩
    case measure => have:=HLT.out;simp [intOf];omega
   ·have HU:Hid (Jx (ls.take (k+1)) Fp' W4):=by show Jx _ _ _;rw [HTK.out];exact hJx3
    clear hJx3
    gi_wp2
    refine bodyPost_ret (results_none rfl _ _ _) rfl ?_
    exact ⟨⟨_,rfl⟩,.inr ⟨_,Fp',List.take_prefix _ _,HU.out⟩⟩
  ·have b1:(ls.length:Int)<=(k:Int):=by omega
   have e:ls.take k=ls:=List.take_of_length_le (by omega)
   rw [e] at hj
   clear hlt
   gi_wp2
   go_end0
   exact ⟨⟨_,rfl⟩,.inl ⟨_,Fp,rfl,hj⟩⟩
end Fr
end
end Go.Proofs.YtimhglmfckfclaaGreat
