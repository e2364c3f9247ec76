/- Parts of the proof. -/
import Derived.Test.YtimhglmfckfclaaGreatM1
import Derived.Deep.RegionWith
import Derived.Deep.RegionHeld3
set_option linter.unusedVariables false
set_option linter.unusedSimpArgs false
set_option maxRecDepth 100000
set_option maxHeartbeats 16000000
namespace Go.Proofs.YtimhglmfckfclaaGreat
section
namespace Hp
abbrev It:=Int × Int
def ahd (a b:It):Bool:=decide (a.2<b.2) || (decide (a.2=b.2) && decide (a.1<b.1))
theorem ahd_iff {a b:It}:ahd a b=true↔a.2<b.2\/(a.2=b.2/\a.1<b.1):=by
 unfold ahd;simp
theorem ahd_no {a b:It}:ahd a b=false↔¬ (a.2<b.2\/(a.2=b.2/\a.1<b.1)):=by
 rw [<- ahd_iff,Bool.not_eq_true]
theorem ahd_irrefl (a:It):ahd a a=false:=by rw [ahd_no];omega
theorem ahd_asymm {a b:It} (h:ahd a b=true):ahd b a=false:=by rw [ahd_iff] at h;rw [ahd_no];omega
theorem no_trans {a b c:It} (h:ahd a b=false) (k:ahd b c=false):ahd a c=false:=by rw [ahd_no] at *;omega
theorem no_of_lt {a b c:It} (h:ahd a b=false) (k:ahd c b=true):ahd a c=false:=by rw [ahd_no] at *;rw [ahd_iff] at k;omega
theorem eq_of_no {a b:It} (h:ahd a b=false) (k:ahd b a=false):a=b:=by
 rw [ahd_no] at *
 exact Prod.ext (by omega) (by omega)
def g (L:List It) (k:Nat):It:=L.getD k (0,0)
theorem g_eq {L:List It} {k:Nat} (h:k<L.length):g L k=L[k]:=by simp [g,h]
theorem g_mem {L:List It} {k:Nat} (h:k<L.length):g L k ∈ L:=by rw [g_eq h];exact List.getElem_mem h
theorem g_set {L:List It} {i k:Nat} {x:It} (h:i<L.length):g (L.set i x) k=if k=i then x else g L k:=by
 unfold g
 rw [List.getD_eq_getElem?_getD,List.getD_eq_getElem?_getD,List.getElem?_set]
 by_cases e:i=k
 ·subst e;rw [if_pos rfl,if_pos rfl,if_pos h];rfl
 ·rw [if_neg e,if_neg (fun h => e h.symm)]
theorem g_of_mem {L:List It} {x:It} (h:x ∈ L):∃ k,k<L.length/\g L k=x:=by
 obtain ⟨k,hk,e⟩:=List.getElem_of_mem h
 exact ⟨k,hk,by rw [g_eq hk,e]⟩
def sw (L:List It) (i j:Nat):List It:=(L.set i (g L j)).set j (g L i)
theorem sw_len (L:List It) (i j:Nat):(sw L i j).length=L.length:=by simp [sw]
theorem sw_perm {L:List It} {i j:Nat} (hi:i<L.length) (hj:j<L.length):List.Perm (sw L i j) L:=by
 unfold sw
 rw [g_eq hi,g_eq hj]
 exact List.set_set_perm hi hj
theorem g_sw {L:List It} {i j k:Nat} (hi:i<L.length) (hj:j<L.length) (hij:i≠j):g (sw L i j) k=if k=j then g L i else if k=i then g L j else g L k:=by
 unfold sw
 rw [g_set (by simpa using hj),g_set hi]
def par (k:Nat):Nat:=(k-1) / 2
theorem par_lt {k:Nat} (h:0<k):par k<k:=by unfold par;omega
def HeapOrd (L:List It):Prop:=∀ k,0<k->k<L.length->ahd (g L k) (g L (par k))=false
structure UpOrd (L:List It) (c:Nat):Prop where
 one:∀ k,0<k->k<L.length->k≠c->ahd (g L k) (g L (par k))=false
 two:∀ k,0<k->k<L.length->par k=c->0<c->ahd (g L k) (g L (par c))=false
structure DownOrd (L:List It) (c:Nat):Prop where
 one:∀ k,0<k->k<L.length->par k≠c->ahd (g L k) (g L (par k))=false
 two:∀ k,0<k->k<L.length->par k=c->0<c->ahd (g L k) (g L (par c))=false
theorem UpOrd.done {L:List It} {c:Nat} (h:UpOrd L c) (k:c=0\/ahd (g L c) (g L (par c))=false):HeapOrd L:=by
 intro j h0 hj
 by_cases e:j=c
 ·subst e
  rcases k with k | k
  ·omega
  ·exact k
 ·exact h.one j h0 hj e
theorem DownOrd.done {L:List It} {c:Nat} (h:DownOrd L c) (k:∀ j,0<j->j<L.length->par j=c->ahd (g L j) (g L c)=false):HeapOrd L:=by
 intro j h0 hj
 by_cases e:par j=c
 ·rw [e];exact k j h0 hj e
 ·exact h.one j h0 hj e
theorem UpOrd.of {L:List It} (h:HeapOrd L) (c:Nat) (hc:c<L.length):UpOrd L c :=
 ⟨fun k h0 hk _ => h k h0 hk,fun k h0 hk e hc0 => no_trans (by have:=h k h0 hk;rw [e] at this;exact this) (h c hc0 hc)⟩
theorem UpOrd.step {L:List It} {c:Nat} (h:UpOrd L c) (h0:0<c) (hc:c<L.length) (ha:ahd (g L c) (g L (par c))=true):UpOrd (sw L c (par c)) (par c):=by
 have hp:=par_lt h0
 have hpl:par c<L.length:=by omega
 have hne:c≠par c:=by omega
 constructor
 ·intro k k0 hk hkp
  rw [sw_len] at hk
  rw [g_sw hc hpl hne,g_sw hc hpl hne,if_neg hkp]
  by_cases e1:k=c
  ·rw [if_pos e1,e1,if_pos rfl]
   exact ahd_asymm ha
  ·rw [if_neg e1]
   by_cases e2:par k=par c
   ·rw [if_pos e2]
    have:=h.one k k0 hk e1
    rw [e2] at this
    exact no_of_lt this ha
   ·rw [if_neg e2]
    by_cases e3:par k=c
    ·rw [if_pos e3]
     exact h.two k k0 hk e3 h0
    ·rw [if_neg e3]
     exact h.one k k0 hk e1
 ·intro k k0 hk e hp0
  rw [sw_len] at hk
  have hpp:=par_lt hp0
  have hkp:k≠par c:=by intro e2;rw [e2] at e;omega
  rw [g_sw hc hpl hne,g_sw hc hpl hne,if_neg hkp,if_neg (show par (par c)≠par c by omega),if_neg (show par (par c)≠c by omega)]
  have h1:=h.one (par c) hp0 hpl (fun e => hne e.symm)
  by_cases e1:k=c
  ·rw [if_pos e1];exact h1
  ·rw [if_neg e1]
   have:=h.one k k0 hk e1
   rw [e] at this
   exact no_trans this h1
theorem DownOrd.step {L:List It} {c m:Nat} (h:DownOrd L c) (hc:c<L.length) (h0:0<m) (hm:m<L.length) (hpm:par m=c) (hmin:∀ k,0<k->k<L.length->par k=c->ahd (g L k) (g L m)=false)
  (ha:ahd (g L m) (g L c)=true):DownOrd (sw L c m) m:=by
 have hlt:c<m:=by have:=par_lt h0;omega
 have hne:c≠m:=by omega
 constructor
 ·intro k k0 hk hkm
  rw [sw_len] at hk
  rw [g_sw hc hm hne,g_sw hc hm hne,if_neg hkm]
  by_cases e1:k=m
  ·rw [if_pos e1,e1,hpm,if_pos rfl]
   exact ahd_asymm ha
  ·rw [if_neg e1]
   by_cases e2:k=c
   ·rw [if_pos e2]
    have hpk:par k≠c:=by have:=par_lt k0;omega
    rw [if_neg hpk,e2]
    exact h.two m h0 hm hpm (by omega)
   ·rw [if_neg e2]
    by_cases e3:par k=c
    ·rw [if_pos e3];exact hmin k k0 hk e3
    ·rw [if_neg e3];exact h.one k k0 hk e3
 ·intro k k0 hk e _
  rw [sw_len] at hk
  have hkm:k≠m:=by intro e2;rw [e2] at e;have:=par_lt h0;omega
  have hkc:k≠c:=by intro e2;rw [e2] at e;rw [e2] at k0;have:=par_lt k0;omega
  rw [g_sw hc hm hne,g_sw hc hm hne,if_neg hkm,if_neg hkc,hpm,if_neg hne,if_pos rfl]
  have:=h.one k k0 hk (by rw [e];exact fun e => hne e.symm)
  rw [e] at this
  exact this
theorem HeapOrd.least {L:List It} (h:HeapOrd L):∀ k,k<L.length->ahd (g L k) (g L 0)=false:=by
 intro k
 induction k using Nat.strongRecOn with
 | ind k ih =>
  intro hk
  by_cases e:k=0
  ·rw [e];exact ahd_irrefl _
  ·have h1:=h k (by omega) hk
   have hp:=par_lt (k:=k) (by omega)
   exact no_trans h1 (ih _ hp (by omega))
theorem HeapOrd.put {L:List It} (h:HeapOrd L) (x:It):UpOrd (L ++ [x]) L.length:=by
 have hg:∀ k,k<L.length->g (L ++ [x]) k=g L k:=fun k hk => by
  unfold g
  rw [List.getD_eq_getElem?_getD,List.getD_eq_getElem?_getD,List.getElem?_append_left hk]
 constructor
 ·intro k k0 hk hkl
  rw [List.length_append,List.length_singleton] at hk
  have hp:=par_lt k0
  rw [hg k (by omega),hg _ (by omega)]
  exact h k k0 (by omega)
 ·intro k k0 hk e _
  rw [List.length_append,List.length_singleton] at hk
  have hp:=par_lt k0
  omega
def cut (L:List It) (a:Nat):List It:=(L.take (L.length-1)).set a (g L (L.length-1))
theorem cut_len (L:List It) (a:Nat):(cut L a).length=L.length-1:=by simp [cut]
theorem g_cut {L:List It} {a k:Nat} (ha:a+1<L.length) (hk:k+1<L.length):g (cut L a) k=if k=a then g L (L.length-1) else g L k:=by
 unfold cut
 rw [g_set (by simp;omega)]
 split
 ·rfl
 ·unfold g
  rw [List.getD_eq_getElem?_getD,List.getD_eq_getElem?_getD,List.getElem?_take,if_pos (by omega)]
theorem cut_down {L:List It} (h:HeapOrd L) {a:Nat} (ha:a+1<L.length) (k:a=0\/ahd (g L (L.length-1)) (g L (par a))=false):DownOrd (cut L a) a:=by
 constructor
 ·intro j j0 hj hpa
  rw [cut_len] at hj
  have hp:=par_lt j0
  rw [g_cut ha (by omega),g_cut ha (by omega),if_neg hpa]
  by_cases e:j=a
  ·rw [if_pos e,e]
   rcases k with k | k
   ·omega
   ·exact k
  ·rw [if_neg e];exact h j j0 (by omega)
 ·intro j j0 hj e a0
  rw [cut_len] at hj
  have hp:=par_lt j0
  have hp2:=par_lt a0
  rw [g_cut ha (by omega),g_cut ha (by omega),if_neg (by omega),if_neg (by omega)]
  have h1:=h j j0 (by omega)
  rw [e] at h1
  exact no_trans h1 (h a a0 (by omega))
theorem cut_still {L:List It} (h:HeapOrd L) {a:Nat} (ha:a+1<L.length) (a0:0<a) (k:ahd (g L (L.length-1)) (g L (par a))=true) :
  (∀ j,0<j->j<(cut L a).length->par j=a->ahd (g (cut L a) j) (g (cut L a) a)=false)/\UpOrd (cut L a) a:=by
 have hch:∀ j,0<j->j<(cut L a).length->par j=a->ahd (g L j) (g L (par a))=false:=fun j j0 hj e => by
  rw [cut_len] at hj
  have h1:=h j j0 (by omega)
  rw [e] at h1
  exact no_trans h1 (h a a0 (by omega))
 refine ⟨fun j j0 hj e => ?_,⟨fun j j0 hj hja => ?_,fun j j0 hj e _ => ?_⟩⟩
 ·have h1:=hch j j0 hj e
  rw [cut_len] at hj
  have hp:=par_lt j0
  rw [g_cut ha (by omega),g_cut ha (by omega),if_neg (by omega),if_pos rfl]
  exact no_of_lt h1 k
 ·have hj':=hj
  rw [cut_len] at hj
  have hp:=par_lt j0
  rw [g_cut ha (by omega),g_cut ha (by omega),if_neg hja]
  by_cases e:par j=a
  ·rw [if_pos e];exact no_of_lt (hch j j0 hj' e) k
  ·rw [if_neg e];exact h j j0 (by omega)
 ·have h1:=hch j j0 hj e
  rw [cut_len] at hj
  have hp:=par_lt j0
  have hp2:=par_lt a0
  rw [g_cut ha (by omega),g_cut ha (by omega),if_neg (by omega),if_neg (by omega)]
  exact h1
theorem cut_perm {L:List It} {a:Nat} (ha:a+1<L.length):List.Perm (g L a :: cut L a) L:=by
 obtain ⟨M,x,rfl⟩:∃ M x,L=M ++ [x]:=⟨L.dropLast,L.getLast (by intro e;rw [e] at ha;simp at ha),(List.dropLast_concat_getLast _).symm⟩
 rw [List.length_append,List.length_singleton] at ha
 have haM:a<M.length:=by omega
 have e1:g (M ++ [x]) a=M[a]:=by rw [g_eq (by simp;omega),List.getElem_append_left haM]
 have e2:cut (M ++ [x]) a=M.set a x:=by
  unfold cut
  rw [g_eq (by simp)]
  simp
 rw [e1,e2]
 obtain ⟨s,t,hM,hs⟩:∃ s t,M=s ++ M[a] :: t/\s.length=a:=⟨M.take a,M.drop (a+1),by rw [List.getElem_cons_drop,List.take_append_drop],by simp;omega⟩
 have e3:M.set a x=s ++ x :: t:=by
  conv => lhs;rw [hM]
  rw [List.set_append_right _ _ (by omega),hs,Nat.sub_self];rfl
 rw [e3]
 conv => rhs;rw [hM]
 generalize M[a]=y
 have h1:List.Perm (y :: (s ++ x :: t)) (y :: (s ++ (t ++ [x]))):=by
  refine List.Perm.cons _ (List.Perm.append_left _ ?_)
  exact (List.perm_append_comm (l₁:=[x]) (l₂:=t))
 refine h1.trans ?_
 rw [<- List.append_assoc]
 have h2:List.Perm (y :: (s ++ t)) (s ++ y :: t):=(List.perm_middle).symm
 have h3:=h2.append_right [x]
 simpa using h3
theorem last_perm {L:List It} (h:0<L.length):List.Perm (g L (L.length-1) :: L.take (L.length-1)) L:=by
 obtain ⟨M,x,rfl⟩:∃ M x,L=M ++ [x]:=⟨L.dropLast,L.getLast (by intro e;rw [e] at h;simp at h),(List.dropLast_concat_getLast _).symm⟩
 have e1:g (M ++ [x]) ((M ++ [x]).length-1)=x:=by rw [g_eq (by simp)];simp
 rw [e1]
 have e2:(M ++ [x]).take ((M ++ [x]).length-1)=M:=by simp
 rw [e2]
 exact List.perm_append_comm (l₁:=[x]) (l₂:=M)
theorem HeapOrd.take {L:List It} (h:HeapOrd L) (n:Nat):HeapOrd (L.take n):=by
 have hg:∀ k,k<(L.take n).length->g (L.take n) k=g L k:=fun k hk => by
  unfold g
  rw [List.length_take] at hk
  rw [List.getD_eq_getElem?_getD,List.getD_eq_getElem?_getD,List.getElem?_take,if_pos (by omega)]
 intro k k0 hk
 have hp:=par_lt k0
 rw [hg k hk,hg _ (by omega)]
 exact h k k0 (by rw [List.length_take] at hk;omega)
structure Good (L:List It) (n:Nat):Prop where
 nodup:(L.map Prod.fst).Nodup
 range:∀ x ∈ L,0<=x.1/\x.1<(n:Int)
theorem Good.perm {L L':List It} {n:Nat} (h:Good L n) (hp:List.Perm L' L):Good L' n :=
 ⟨(hp.map Prod.fst).nodup_iff.2 h.nodup,fun x hx => h.range x (hp.mem_iff.1 hx)⟩
theorem Good.inj {L:List It} {n:Nat} (h:Good L n) {i j:Nat} (hi:i<L.length) (hj:j<L.length) (e:(g L i).1=(g L j).1):i=j:=by
 have hp:=List.pairwise_iff_getElem.1 h.nodup
 rw [g_eq hi,g_eq hj] at e
 rcases Nat.lt_trichotomy i j with h1 | h1 | h1
 ·exact absurd (by rw [List.getElem_map,List.getElem_map];exact e) (hp i j (by simpa using hi) (by simpa using hj) h1)
 ·exact h1
 ·exact absurd (by rw [List.getElem_map,List.getElem_map];exact e.symm) (hp j i (by simpa using hj) (by simpa using hi) h1)
structure Pos (ats:List Int) (L:List It) (n:Nat) (c:Nat):Prop where
 len:ats.length=n
 here:∀ k,k<L.length->k≠c->ats.getD (g L k).1.toNat 0=(k:Int)
 gone:∀ i:Nat,i<n->(∀ k,k<L.length->(g L k).1≠(i:Int))->ats.getD i 0 = -1
theorem getD_set {l:List Int} {i k:Nat} {x d:Int} (h:i<l.length):(l.set i x).getD k d=if k=i then x else l.getD k d:=by
 rw [List.getD_eq_getElem?_getD,List.getD_eq_getElem?_getD,List.getElem?_set]
 by_cases e:i=k
 ·subst e;rw [if_pos rfl,if_pos rfl,if_pos h];rfl
 ·rw [if_neg e,if_neg (fun h => e h.symm)]
theorem Pos.move {ats:List Int} {L:List It} {n c d:Nat} (h:Pos ats L n c) (hG:Good L n) (hc:c<L.length) (hd:d<L.length) (hcd:c≠d):Pos (ats.set (g L d).1.toNat (c:Int)) (sw L c d) n d:=by
 have hr:=hG.range _ (g_mem hd)
 have hl:(g L d).1.toNat<ats.length:=by rw [h.len];omega
 refine ⟨by simp [h.len],fun k hk hkd => ?_,fun i hi hno => ?_⟩
 ·rw [sw_len] at hk
  rw [g_sw hc hd hcd,if_neg hkd,getD_set hl]
  by_cases e:k=c
  ·rw [if_pos e,if_pos rfl,e]
  ·rw [if_neg e]
   have hrk:=hG.range _ (g_mem hk)
   rw [if_neg (fun e2 => hkd (hG.inj hk hd (by omega)))]
   exact h.here k hk e
 ·have hno':∀ k,k<L.length->(g L k).1≠(i:Int):=fun k hk => by
   obtain ⟨j,hj,e⟩:=g_of_mem ((sw_perm hc hd).mem_iff.2 (g_mem hk))
   rw [<- e];exact hno j hj
  have:=hno' d hd
  rw [getD_set hl,if_neg (by omega)]
  exact h.gone i hi hno'
theorem Pos.fill {ats:List Int} {L:List It} {n c:Nat} (h:Pos ats L n c) (hG:Good L n) (hc:c<L.length):Pos (ats.set (g L c).1.toNat (c:Int)) L n L.length:=by
 have hr:=hG.range _ (g_mem hc)
 have hl:(g L c).1.toNat<ats.length:=by rw [h.len];omega
 refine ⟨by simp [h.len],fun k hk _ => ?_,fun i hi hno => ?_⟩
 ·rw [getD_set hl]
  by_cases e:k=c
  ·rw [e,if_pos rfl]
  ·have hrk:=hG.range _ (g_mem hk)
   rw [if_neg (fun e2 => e (hG.inj hk hc (by omega)))]
   exact h.here k hk e
 ·have:=hno c hc
  rw [getD_set hl,if_neg (by omega)]
  exact h.gone i hi hno
end Hp
end
section
open Go.RowKit
namespace Hp
def encI (x:It):List Value:=[.int .i64 x.1,.int .i64 x.2]
def encL (L:List It):List Value:=L.flatMap encI
theorem encL_len (L:List It):(encL L).length=L.length * 2:=by
 induction L with
 | nil => rfl
 | cons a r ih => simp [encL,encI] at ih ⊢;omega
theorem encL_cons (a:It) (r:List It):encL (a :: r) = .int .i64 a.1 :: .int .i64 a.2 :: encL r:=rfl
theorem encL_at:∀ (L:List It) (k:Nat),k<L.length->(encL L)[k * 2]? = some (.int .i64 (g L k).1)/\(encL L)[k * 2+1]? = some (.int .i64 (g L k).2)
 | a :: r,0,_ => ⟨rfl,rfl⟩
 | a :: r,k+1,h => by
  have ih:=encL_at r k (by simpa using h)
  rw [encL_cons,show (k+1) * 2=k * 2+1+1 by omega]
  exact ⟨by simpa [g] using ih.1,by simpa [g] using ih.2⟩
theorem encL_set:∀ (L:List It) (k:Nat) (x:It),encL (L.set k x)=((encL L).set (k * 2) (.int .i64 x.1)).set (k * 2+1) (.int .i64 x.2)
 | [],_,_ => by simp [encL]
 | a :: r,0,x => by simp [encL,encI]
 | a :: r,k+1,x => by
  rw [List.set_cons_succ,encL_cons,encL_cons,show (k+1) * 2=k * 2+1+1 by omega,encL_set r k x]
  simp
theorem encL_take:∀ (L:List It) (k:Nat),encL (L.take k)=(encL L).take (k * 2)
 | [],_ => by simp [encL]
 | a :: r,0 => by simp [encL]
 | a :: r,k+1 => by
  rw [List.take_succ_cons,encL_cons,encL_cons,show (k+1) * 2=k * 2+1+1 by omega,encL_take r k]
  simp
def vI (n:Int):Value:=.int .i64 n
structure QAt (lo H hb ga ca:Nat) (v:Value) (M:List It) (ats:List Int) (w:World):Prop where
 top:w.heap[H]? = some (.cells #[v,.func (.func 85) #[] #[],.func (.func 86) #[] #[.pointer (some ⟨hb,0,none⟩)],.slice (some ⟨ga,0,none⟩) ats.length ca] 156 (0,0))
 box:w.heap[hb]? = some (.cells #[.pointer (some ⟨H,0,none⟩)] 116 (0,0))
 row:w.ownsRow lo 158 2 v M.length (encL M)
 at_:w.ownsRow lo 3 1 (.slice (some ⟨ga,0,none⟩) ats.length ca) ats.length (ats.map vI)
 loH:lo<=H
 loB:lo<=hb
def Ft (H ga:Nat) (v:Value) (k:Nat):Prop:=k=H\/k=ga\/v.ownBlock=some k
theorem row_cells {w:World} {base e n:Nat} {v:Value} {M:List It} (h:w.ownsRow base e 2 v n (encL M)) (hn:M.length=n) (h0:0<n) :
  ∃ gv cap,v = .slice (some ⟨gv,0,none⟩) n cap/\n<=cap/\base<=gv/\gv<w.heap.size/\(∀ k,k<n->w.cell? ⟨gv,k * 2,none⟩=some (.int .i64 (g M k).1)/\w.cell? ⟨gv,k * 2+1,none⟩=some (.int .i64 (g M k).2))/\(∀ j,w.frozen? ⟨gv,j,none⟩=false) /\
   w.heap[gv]?.map (fun o => match o with | .cells _ t _ => t | _ => 0)=some e:=by
 obtain ⟨hl,h2⟩:=h
 rcases h2 with ⟨_,h2⟩ | ⟨gv,cap,cur,rfl,h3,h4,h5,h6,h7,h8⟩
 ·omega
 ·have ho:w.ownsRow base e 2 (.slice (some ⟨gv,0,none⟩) n cap) n (encL M):=⟨hl,.inr ⟨gv,cap,cur,rfl,h3,h4,h5,h6,h7,h8⟩⟩
  refine ⟨gv,cap,rfl,h5,h3,(zx h4),fun k hk => ?_,fun j => World.ownsRow.frozenAt ho j,by rw [h4];rfl⟩
  have e:=encL_at M k (by omega)
  rw [<- e.1,<- e.2]
  exact ⟨World.ownsRow.cellAt ho (k * 2) (by omega),World.ownsRow.cellAt ho (k * 2+1) (by omega)⟩
end Hp
end
section
open Go.RowKit
namespace Hp
theorem ahead_any (x y:It) (w:World):Calls Tryz.prog 85 #[.agg #[.int .i64 x.1,.int .i64 x.2],.agg #[.int .i64 y.1,.int .i64 y.2]] w fun e w' => e = .returned (.bool (ahd x y))/\w'=(w.alloc (.cells #[.int .i64 x.1,.int .i64 x.2] 158)).alloc (.cells #[.int .i64 y.1,.int .i64 y.2] 158):=by
 obtain ⟨a,b⟩:=x
 obtain ⟨c,d⟩:=y
 unfold ahd
 simp only
 by_cases h1:b<d
 ·go_enter Tryz.func85,Tryz.ntmps85
  go_wp2
  go_ret
  exact ⟨by simp [h1],rfl⟩
 ·by_cases h2:b=d
  ·have e1:(b == d)=true:=by simp [h2]
   go_enter Tryz.func85,Tryz.ntmps85
   go_wp2
   go_ret
   exact ⟨by simp,rfl⟩
  ·have e1:(b == d)=false:=by simp [h2]
   go_enter Tryz.func85,Tryz.ntmps85
   go_wp2
   go_ret
   exact ⟨by simp [h1],rfl⟩
theorem QAt.below {lo H hb ga ca:Nat} {v:Value} {M:List It} {ats:List Int} {w w':World} (h:QAt lo H hb ga ca v M ats w) (hbl:Below w.heap.size w w'):QAt lo H hb ga ca v M ats w' :=
 ⟨(hbl.block H (zx h.top)).trans h.top,(hbl.block hb (zx h.box)).trans h.box,Ut.own_below h.row hbl,Ut.own_below h.at_ hbl,h.loH,h.loB⟩
theorem QAt.c_box {lo H hb ga ca:Nat} {v:Value} {M:List It} {ats:List Int} {w:World} (h:QAt lo H hb ga ca v M ats w):w.cell? ⟨hb,0,none⟩=some (.pointer (some ⟨H,0,none⟩)):=by rw [cell_of_row w _ 0 _ _ _ h.box];rfl
theorem QAt.c_l {lo H hb ga ca:Nat} {v:Value} {M:List It} {ats:List Int} {w:World} (h:QAt lo H hb ga ca v M ats w):w.cell? ⟨H,0,none⟩=some v:=by rw [cell_of_row w _ 0 _ _ _ h.top];rfl
theorem QAt.c_ahead {lo H hb ga ca:Nat} {v:Value} {M:List It} {ats:List Int} {w:World} (h:QAt lo H hb ga ca v M ats w):w.cell? ⟨H,1,none⟩=some (.func (.func 85) #[] #[]):=by rw [cell_of_row w _ 1 _ _ _ h.top];rfl
theorem QAt.c_moved {lo H hb ga ca:Nat} {v:Value} {M:List It} {ats:List Int} {w:World} (h:QAt lo H hb ga ca v M ats w):w.cell? ⟨H,2,none⟩=some (.func (.func 86) #[] #[.pointer (some ⟨hb,0,none⟩)]):=by rw [cell_of_row w _ 2 _ _ _ h.top];rfl
theorem QAt.c_at {lo H hb ga ca:Nat} {v:Value} {M:List It} {ats:List Int} {w:World} (h:QAt lo H hb ga ca v M ats w):w.cell? ⟨H,3,none⟩=some (.slice (some ⟨ga,0,none⟩) ats.length ca):=by rw [cell_of_row w _ 3 _ _ _ h.top];rfl
theorem QAt.at_cell {lo H hb ga ca:Nat} {v:Value} {M:List It} {ats:List Int} {w:World} (h:QAt lo H hb ga ca v M ats w) {n:Nat} (hn:n<ats.length):∃ u,w.cell? ⟨ga,n,none⟩=some (.int .i64 u)/\w.frozen? ⟨ga,n,none⟩=false:=by
 obtain ⟨g',c',e,h1,h2,h3,h4,h5⟩:=Ut.own_cells h.at_ (by omega)
 obtain ⟨rfl,rfl⟩:ga=g'/\ca=c':=by simpa using e
 exact ⟨ats[n],by rw [h5 n hn];simp [hn,vI],World.ownsRow.frozenAt h.at_ n⟩
theorem own_block_t {w:World} {base e size n:Nat} {v:Value} {xs:List Value} (h:w.ownsRow base e size v n xs) {k:Nat} (hk:v.ownBlock=some k):∃ cur,w.heap[k]? = some (.cells cur e (0,0)):=by
 rcases h.2 with ⟨h1,_⟩ | ⟨gv,cap,cur,h1,_,h3,_⟩
 ·rw [h1] at hk;cases hk
 ·rw [h1] at hk
  obtain rfl:=Option.some.inj hk
  exact ⟨cur,h3⟩
theorem QAt.ne {lo H hb ga ca:Nat} {v:Value} {M:List It} {ats:List Int} {w:World} (h:QAt lo H hb ga ca v M ats w) :
  H≠hb/\ga≠H/\ga≠hb/\v.ownBlock≠some H/\v.ownBlock≠some hb/\v.ownBlock≠some ga/\H<w.heap.size/\hb<w.heap.size/\ga<w.heap.size/\lo<=ga:=by
 obtain ⟨cg,hg⟩:=own_block_t h.at_ (k:=ga) rfl
 have h1:=h.top;have h2:=h.box
 refine ⟨?_,?_,?_,?_,?_,?_,(zx h1),(zx h2),(zx hg),(h.at_.lt ga rfl).1⟩
 ·rintro rfl;rw [h1] at h2;simp at h2
 ·rintro rfl;rw [h1] at hg;simp at hg
 ·rintro rfl;rw [h2] at hg;simp at hg
 ·intro e;obtain ⟨c,hc⟩:=own_block_t h.row e;rw [h1] at hc;simp at hc
 ·intro e;obtain ⟨c,hc⟩:=own_block_t h.row e;rw [h2] at hc;simp at hc
 ·intro e;obtain ⟨c,hc⟩:=own_block_t h.row e;rw [hg] at hc;simp at hc
theorem QAt.drew {lo H hb ga ca:Nat} {v:Value} {M:List It} {ats:List Int} {w:World} (h:QAt lo H hb ga ca v M ats w):QAt lo H hb ga ca v M ats w.drew:=h.below ((Below.refl _ _).drew)
theorem QAt.only {lo H hb ga ca:Nat} {v:Value} {M:List It} {ats:List Int} {w w':World} (h:QAt lo H hb ga ca v M ats w) {F:Nat->Prop} (ho:Only F w w') (hF:∀ k,F k->k≠H/\k≠hb/\k≠ga/\v.ownBlock≠some k):QAt lo H hb ga ca v M ats w':=by
 obtain ⟨-,-,-,-,-,-,n1,n2,n3,-⟩:=h.ne
 exact ⟨(ho.block H n1 (fun e => (hF _ e).1 rfl)).trans h.top,(ho.block hb n2 (fun e => (hF _ e).2.1 rfl)).trans h.box,ho.row h.row (fun k e1 e2 => (hF k e2).2.2.2 e1),
  ho.row h.at_ (fun k e1 e2 => (hF k e2).2.2.1 (by cases e1;rfl)),h.loH,h.loB⟩
theorem QAt.set_at {lo H hb ga ca:Nat} {v:Value} {M:List It} {ats:List Int} {w:World} (h:QAt lo H hb ga ca v M ats w) {n:Nat} (hn:n<ats.length) (u:Int):QAt lo H hb ga ca v M (ats.set n u) (w.setCell ⟨ga,n,none⟩ (.int .i64 u)):=by
 obtain ⟨_,n1,n2,_,_,n3,_⟩:=h.ne
 have hk:∀ j,j≠ga->(w.setCell ⟨ga,n,none⟩ (.int .i64 u)).heap[j]? = w.heap[j]?:=fun j hj => Below.heap_setCell _ _ _ _ (by simpa using hj)
 refine ⟨?_,(hk hb (fun e => n2 e.symm)).trans h.box,ownsRow_setCell_other h.row (fun e => n3 e) _,?_,h.loH,h.loB⟩
 ·rw [hk H (fun e => n1 e.symm),List.length_set];exact h.top
 ·have:=(World.ownsRow.stored h.at_ n (.int .i64 u)).1
  rw [List.length_set]
  have e:(ats.set n u).map vI=(ats.map vI).set n (.int .i64 u):=by rw [List.map_set];rfl
  rw [e];exact this
theorem QAt.set_row {lo H hb ga ca gv cap:Nat} {M:List It} {ats:List Int} {w:World} (h:QAt lo H hb ga ca (.slice (some ⟨gv,0,none⟩) M.length cap) M ats w) {n:Nat} (x:It) :
  QAt lo H hb ga ca (.slice (some ⟨gv,0,none⟩) M.length cap) (M.set n x) ats ((w.setCell ⟨gv,n * 2,none⟩ (.int .i64 x.1)).setCell ⟨gv,n * 2+1,none⟩ (.int .i64 x.2)):=by
 obtain ⟨_,n1,n2,n3,n4,n5,_⟩:=h.ne
 have hk:∀ j,j≠gv->((w.setCell ⟨gv,n * 2,none⟩ (.int .i64 x.1)).setCell ⟨gv,n * 2+1,none⟩ (.int .i64 x.2)).heap[j]? = w.heap[j]?:=fun j hj =>
  (Below.heap_setCell _ _ _ _ (by simpa using hj)).trans (Below.heap_setCell _ _ _ _ (by simpa using hj))
 refine ⟨(hk H (fun e => n3 (by rw [e];rfl))).trans h.top,(hk hb (fun e => n4 (by rw [e];rfl))).trans h.box,?_,?_,h.loH,h.loB⟩
 ·rw [List.length_set,encL_set]
  exact (World.ownsRow.stored (World.ownsRow.stored h.row _ _).1 _ _).1
 ·exact ownsRow_setCell_other (ownsRow_setCell_other h.at_ (fun e => n5 (by cases e;rfl)) _) (fun e => n5 (by cases e;rfl)) _
theorem moved_any (lo H hb ga ca:Nat) (v:Value) (M:List It) (ats:List Int) (w:World) (hq:QAt lo H hb ga ca v M ats w) (x:It) (h0:0<=x.1) (h1:x.1<ats.length) (k:Nat) :
  Calls Tryz.prog 86 #[.agg #[.int .i64 x.1,.int .i64 x.2],.int .i64 k,.pointer (some ⟨hb,0,none⟩)] w fun e w' => (∃ u,e = .returned u)/\QAt lo H hb ga ca v M (ats.set x.1.toNat k) w'/\Only (fun j => j=ga) w w':=by
 obtain ⟨a,b⟩:=x
 simp only at h0 h1 ⊢
 obtain ⟨n,rfl⟩:∃ n:Nat,a=n:=⟨a.toNat,by omega⟩
 have hn:n<ats.length:=by omega
 have hbl:Below w.heap.size w (w.alloc (.cells #[.int .i64 n,.int .i64 b] 158)):=(Below.refl _ _).alloc (Nat.le_refl _) _
 have hq2:=hq.below hbl
 have c1:=hq2.c_box
 have c2:=hq2.c_at
 obtain ⟨u,c3,c4⟩:=hq2.at_cell hn
 have HQ:=zh hq2
 have HO:Hid (Only (fun j => j=ga) w (w.alloc (.cells #[.int .i64 n,.int .i64 b] 158))):=(Only.refl _ _).alloc _
 have e1:((n:Int)).toNat=n:=by simp
 rw [e1]
 obtain ⟨W,hW⟩:∃ W,W=w.alloc (.cells #[.int .i64 n,.int .i64 b] 158):=⟨_,rfl⟩
 have c5:W.cell? ⟨w.heap.size,0,none⟩=some (.int .i64 n):=by rw [hW];simp
 rw [<- hW] at c1 c2 c3 c4 HQ HO
 clear hq hbl hq2 e1
 have b1:(0:Int)<=(n:Int):=by omega
 have b2:(n:Int)<(ats.length:Int):=by omega
 go_enter Tryz.func86,Tryz.ntmps86
 go_wp2
 rw [<- hW]
 clear hW
 go_region
 go_end0
 exact ⟨⟨_,rfl⟩,(HQ.out.set_at hn (k:Int)).drew,(HO.out.setCell (p:=⟨ga,n,none⟩) (fun _ => rfl) _).drew⟩
theorem set_any (lo H hb ga ca:Nat) (v:Value) (M:List It) (ats:List Int) (w:World) (hq:QAt lo H hb ga ca v M ats w) (x:It) (h0:0<=x.1) (h1:x.1<ats.length) (k:Nat) (hk:k<M.length) :
  Calls Tryz.prog 161 #[.pointer (some ⟨H,0,none⟩),.agg #[.int .i64 x.1,.int .i64 x.2],.int .i64 k] w fun e w' => (∃ u,e = .returned u)/\QAt lo H hb ga ca v (M.set k x) (ats.set x.1.toNat k) w'/\Only (Ft H ga v) w w':=by
 obtain ⟨gv,cap,rfl,r1,r2,r3,r4,r5,-⟩:=row_cells hq.row rfl (by omega)
 obtain ⟨a,b⟩:=x
 simp only at h0 h1 ⊢
 have hbl:Below w.heap.size w (w.alloc (.cells #[.int .i64 a,.int .i64 b] 158)):=(Below.refl _ _).alloc (Nat.le_refl _) _
 have hq2:=hq.below hbl
 have HO:Hid (Only (Ft H ga (.slice (some ⟨gv,0,none⟩) M.length cap)) w (w.alloc (.cells #[.int .i64 a,.int .i64 b] 158))):=(Only.refl _ _).alloc _
 obtain ⟨gv',cap',e,-,-,-,r6,r7,-⟩:=row_cells hq2.row rfl (by omega)
 obtain ⟨rfl,rfl⟩:gv=gv'/\cap=cap':=by simpa using e
 have c1:=hq2.c_l
 obtain ⟨c2,c3⟩:=r6 k hk
 have c4:=r7 (k * 2)
 have c5:=r7 (k * 2+1)
 obtain ⟨W,hW⟩:∃ W,W=w.alloc (.cells #[.int .i64 a,.int .i64 b] 158):=⟨_,rfl⟩
 have c6:W.cell? ⟨w.heap.size,0,none⟩=some (.int .i64 a):=by rw [hW];simp
 have c7:W.cell? ⟨w.heap.size,1,none⟩=some (.int .i64 b):=by rw [hW];simp
 have HQ:=zh hq2
 have hgne:gv≠w.heap.size:=by omega
 have hgane:¬ w.heap.size=ga:=by have:=hq.ne.2.2.2.2.2.2.2.2.1;omega
 rw [<- hW] at c1 c2 c3 c4 c5 HQ HO
 clear hq hbl hq2 r1 r2 r3 r4 r5 r6 r7 e
 have b1:(0:Int)<=(k:Int):=by omega
 have b2:(k:Int)<(M.length:Int):=by omega
 go_enter Tryz.func161,Tryz.ntmps161
 go_wp2
 rw [<- hW]
 clear hW
 go_region
 have HQ2:=zh ((HQ.out.set_row (n:=k) (a,b)).drew)
 have HO2:Hid (Only (Ft H ga (.slice (some ⟨gv,0,none⟩) M.length cap)) w ((W.setCell ⟨gv,k * 2,none⟩ (.int .i64 a)).setCell ⟨gv,k * 2+1,none⟩ (.int .i64 b)).drew) :=
  ((HO.out.setCell (p:=⟨gv,k * 2,none⟩) (fun _ => .inr (.inr rfl)) _).setCell (p:=⟨gv,k * 2+1,none⟩) (fun _ => .inr (.inr rfl)) _).drew
 have d1:((W.setCell ⟨gv,k * 2,none⟩ (.int .i64 a)).setCell ⟨gv,k * 2+1,none⟩ (.int .i64 b)).drew.cell? ⟨w.heap.size,0,none⟩=some (.int .i64 a):=by
  refine (World.cell?_of_block (w:=W) ?_).trans c6
  exact (Below.heap_setCell _ _ _ _ (by simpa using fun e => hgne e.symm)).trans (Below.heap_setCell _ _ _ _ (by simpa using fun e => hgne e.symm))
 have d2:((W.setCell ⟨gv,k * 2,none⟩ (.int .i64 a)).setCell ⟨gv,k * 2+1,none⟩ (.int .i64 b)).drew.cell? ⟨w.heap.size,1,none⟩=some (.int .i64 b):=by
  refine (World.cell?_of_block (w:=W) ?_).trans c7
  exact (Below.heap_setCell _ _ _ _ (by simpa using fun e => hgne e.symm)).trans (Below.heap_setCell _ _ _ _ (by simpa using fun e => hgne e.symm))
 obtain ⟨W2,hW2⟩:∃ W2,W2=((W.setCell ⟨gv,k * 2,none⟩ (.int .i64 a)).setCell ⟨gv,k * 2+1,none⟩ (.int .i64 b)).drew:=⟨_,rfl⟩
 rw [<- hW2] at HQ2 HO2 d1 d2 ⊢
 have d3:=HQ2.out.c_moved
 clear hW2 HQ HO c1 c2 c3 c4 c5 c6 c7
 have HM:=zh (fun w' (hq:QAt lo H hb ga ca (.slice (some ⟨gv,0,none⟩) M.length cap) (M.set k (a,b)) ats w') (hc1:w'.cell? ⟨w.heap.size,0,none⟩=some (.int .i64 a)) (hc2:w'.cell? ⟨w.heap.size,1,none⟩=some (.int .i64 b)) =>
  (moved_any lo H hb ga ca _ _ ats w' hq (a,b) h0 h1 k).mono fun e w3 h => (⟨h.1,h.2.1,h.2.2,h.2.1.c_moved,(h.2.2.cell (p:=⟨w.heap.size,0,none⟩) (World.block_lt_of_cell? w' _ hc1) hgane).trans hc1,(h.2.2.cell (p:=⟨w.heap.size,1,none⟩) (World.block_lt_of_cell? w' _ hc2) hgane).trans hc2⟩ :
   (∃ u,e = .returned u)/\QAt lo H hb ga ca (.slice (some ⟨gv,0,none⟩) M.length cap) (M.set k (a,b)) (ats.set a.toNat k) w3/\Only (fun j => j=ga) w' w3/\w3.cell? ⟨H,2,none⟩=some (.func (.func 86) #[] #[.pointer (some ⟨hb,0,none⟩)])/\w3.cell? ⟨w.heap.size,0,none⟩=some (.int .i64 a)/\w3.cell? ⟨w.heap.size,1,none⟩=some (.int .i64 b)))
 have HF:Hid (∀ j,j=ga->Ft H ga (.slice (some ⟨gv,0,none⟩) M.length cap) j):=fun j hj => .inr (.inl hj)
 clear h0 h1
 go_wp2
 go_region_held3 (fun w' => w'.cell? ⟨H,2,none⟩=some (.func (.func 86) #[] #[.pointer (some ⟨hb,0,none⟩)])/\w'.cell? ⟨w.heap.size,0,none⟩=some (.int .i64 a)/\w'.cell? ⟨w.heap.size,1,none⟩=some (.int .i64 b)) (go_keep) (first | (go_at_call 86;refine (HM.out _ ?_ ?_ ?_).mono ?_;(exact HQ2.out.drew);(simp [*]);(simp [*]);rintro e w3 ⟨⟨u,rfl⟩,hq3,ho3,k1,k2,k3⟩;(have HQ3:=zh hq3;have HO3:=zh ho3;clear hq3 ho3)))
 go_end0
 exact ⟨⟨_,rfl⟩,HQ3.out,HO2.out.drew.trans HO3.out (fun j _ hj => HF.out j hj)⟩
end Hp
end
section
open Go.RowKit
namespace Hp
theorem cell_keep {w w':World} (hb:Below w.heap.size w w') {a:Addr} {v:Value} (h:w.cell? a=some v):w'.cell? a=some v:=(hb.cell (World.block_lt_of_cell? w a h)).trans h
theorem ahead_S (S:World->Prop) (hS:∀ w w',Below w.heap.size w w'->S w->S w') (x y:It) (w:World) (h:S w) :
  Calls Tryz.prog 85 #[.agg #[.int .i64 x.1,.int .i64 x.2],.agg #[.int .i64 y.1,.int .i64 y.2]] w fun e w' => e = .returned (.bool (ahd x y))/\Below w.heap.size w w'/\S w':=by
 refine (ahead_any x y w).mono fun e w' ⟨h1,h2⟩ => ?_
 have hb:Below w.heap.size w w':=by
  rw [h2];exact ((Below.refl _ _).alloc (Nat.le_refl _) _).alloc (by simp) _
 exact ⟨h1,hb,hS w w' hb h⟩
theorem set_of_g {L:List It} {c:Nat} (h:c<L.length):L.set c (g L c)=L:=by
 rw [g_eq h];exact List.set_getElem_self h
theorem sw_of_set {M:List It} {c p:Nat} {x:It} (hc:c<M.length) (hp:p<M.length) (hcp:c≠p):sw (M.set c x) c p=(M.set c (g M p)).set p x:=by
 unfold sw
 rw [g_set hc,g_set hc,if_neg (fun e => hcp e.symm),if_pos rfl,List.set_set]
def UpRel (lo H hb ga ca:Nat) (v:Value) (L0:List It) (n c0 gb:Nat) (x:It) (w:World) (i:Value) (wr:World):Prop :=
 ∃ (c:Nat) (M:List It) (ats:List Int),c<M.length/\i = .int .i64 c/\QAt lo H hb ga ca v M ats wr/\List.Perm (M.set c x) L0/\Pos ats (M.set c x) n c/\(UpOrd L0 c0->UpOrd (M.set c x) c) /\
  wr.cell? ⟨gb,0,none⟩=some (.int .i64 x.1)/\wr.cell? ⟨gb,1,none⟩=some (.int .i64 x.2)/\Only (Ft H ga v) w wr
def Sifted (lo H hb ga ca:Nat) (v:Value) (L0:List It) (n:Nat) (P:List It->Prop) (w:World) (e:Ending) (w':World):Prop :=
 (∃ u,e = .returned u)/\∃ L ats,QAt lo H hb ga ca v L ats w'/\List.Perm L L0/\Pos ats L n L.length/\P L/\Only (Ft H ga v) w w'
theorem up_any (lo H hb ga ca:Nat) (v:Value) (L:List It) (ats:List Int) (n c:Nat) (w:World) (hq:QAt lo H hb ga ca v L ats w) (hG:Good L n) (hP:Pos ats L n c) (hc:c<L.length) (hl:(L.length:Int)<=1048576) :
  Calls Tryz.prog 160 #[.pointer (some ⟨H,0,none⟩),.int .i64 c] w (Sifted lo H hb ga ca v L n (fun L' => UpOrd L c->HeapOrd L') w):=by
 obtain ⟨gv,cap,rfl,r1,r2,r3,r4,r5,-⟩:=row_cells hq.row rfl (by omega)
 have c1:=hq.c_l
 obtain ⟨c2,c3⟩:=r4 c hc
 obtain ⟨x,hx⟩:∃ x,x=g L c:=⟨_,rfl⟩
 rw [<- hx] at c2 c3
 have HX:=zh hx
 have hlt:=hq.ne.2.2.2.2.2.2
 have hgb:gv≠w.heap.size/\ga≠w.heap.size/\H≠w.heap.size:=⟨by omega,by omega,by omega⟩
 have hbl:Below w.heap.size w (w.alloc (.cells #[.int .i64 x.1,.int .i64 x.2] 158)):=(Below.refl _ _).alloc (Nat.le_refl _) _
 have HS:Hid (UpRel lo H hb ga ca (.slice (some ⟨gv,0,none⟩) L.length cap) L n c w.heap.size x w (.int .i64 c) (w.alloc (.cells #[.int .i64 x.1,.int .i64 x.2] 158))) :=
  ⟨c,L,ats,hc,rfl,hq.below hbl,by rw [hx,set_of_g hc],by rw [hx,set_of_g hc];exact hP,by rw [hx,set_of_g hc];exact id,by simp,by simp,(Only.refl _ _).alloc _⟩
 have HGB:=zh hgb
 have HG:=zh hG
 have b1:(0:Int)<=(c:Int):=by omega
 have b2:(c:Int)<(L.length:Int):=by omega
 clear hq hG hP r1 r2 r3 r4 r5 hlt hgb hbl hx
 go_enter Tryz.func160,Tryz.ntmps160
 go_wp2
 go_loopw [1] (fun i wr => UpRel lo H hb ga ca (.slice (some ⟨gv,0,none⟩) L.length cap) L n c w.heap.size x w i wr) (fun i _ => (intOf i).toNat)
 case atStart => exact HS.out
 case round =>
  obtain ⟨j,M,az,hj,rfl,hq,hperm,hpos,hord,k0,k1,honly⟩:=hrel
  have hlen:M.length=L.length:=by have:=hperm.length_eq;simpa using this
  have HQ:=zh hq;have HPERM:=zh hperm;have HPOS:=zh hpos;have HORD:=zh hord;have HONLY:=zh honly
  have HLEN:=zh hlen
  have c1':=hq.c_l
  have c2':=hq.c_ahead
  obtain ⟨gv',cap',e,r1,r2,r3,r4,r5,-⟩:=row_cells hq.row rfl (by omega)
  obtain ⟨rfl,-,rfl⟩:gv=gv'/\L.length=M.length/\cap=cap':=by simpa using e
  have HR4:=zh r4
  have HGL:Hid (Good (M.set j x) n):=HG.out.perm hperm
  have hxr:0<=x.1/\x.1<(n:Int):=HGL.out.range x (by rw [List.mem_iff_getElem];exact ⟨j,by simpa using hj,by simp⟩)
  have hal:az.length=n:=hpos.len
  have HXR:=zh hxr;have HAL:=zh hal
  have hj2:j<L.length:=by omega
  have HSX:=zh (fun w' (hq:QAt lo H hb ga ca (.slice (some ⟨gv,0,none⟩) L.length cap) M az w') => set_any lo H hb ga ca _ M az w' hq x hxr.1 (by omega) j hj)
  have b3:(0:Int)<=(j:Int):=by omega
  have b4:(j:Int)<=1048576:=by omega
  have b5:(j:Int)<(L.length:Int):=by omega
  have HEND:Hid (∀ w' w'',QAt lo H hb ga ca (.slice (some ⟨gv,0,none⟩) L.length cap) (M.set j x) (az.set x.1.toNat j) w''->Only (Ft H ga (.slice (some ⟨gv,0,none⟩) L.length cap)) w w'->Only (Ft H ga (.slice (some ⟨gv,0,none⟩) L.length cap)) w' w''->(j=0\/ahd x (g M (par j))=false) ->
    Sifted lo H hb ga ca (.slice (some ⟨gv,0,none⟩) L.length cap) L n (fun L' => UpOrd L c->HeapOrd L') w (.returned (.tuple #[])) w''):=fun w' w'' h1 h2 h3 h4 => by
   have hgx:g (M.set j x) j=x:=by rw [g_set hj,if_pos rfl]
   refine ⟨⟨_,rfl⟩,M.set j x,az.set x.1.toNat j,h1,HPERM.out,?_,fun hu => (HORD.out hu).done ?_,h2.trans h3 (fun _ _ h => h)⟩
   ·have:=HPOS.out.fill HGL.out (by simpa using hj)
    rw [hgx] at this;exact this
   ·rcases h4 with h4 | h4
    ·exact .inl h4
    ·by_cases j0:j=0
     ·exact .inl j0
     ·right
      have hpl:=par_lt (k:=j) (by omega)
      rw [hgx,g_set hj,if_neg (by omega)];exact h4
  clear hq hperm hpos hord honly r1 r2 r3 r4 r5 e hal hlen hxr HS hj
  by_cases h0:j=0
  ·have b6:(j:Int)<=0:=by omega
   have hdc:decide (0<j)=false:=by rw [decide_eq_false_iff_not];omega
   have HJ:=zh h0
   have hd1:∀ m,Only (Ft H ga (.slice (some ⟨gv,0,none⟩) L.length cap)) w (wr.drewN m):=fun m => HONLY.out.trans (Only.of_below (Ut.below_drewN (Below.refl _ _) m)) (fun _ _ h => h)
   have HD1:=zh hd1
   clear h0 hd1 b6
   go_wp2
   go_quiet (fail)
   go_wp2_with fail
   refine (HSX.out _ (HQ.out.below (Ut.below_drewN (Below.refl _ _) _))).mono ?_
   rintro e w2 ⟨⟨u,rfl⟩,hq2,ho2⟩
   go_wp2
   go_end0
   exact HEND.out _ _ hq2 (HD1.out _) ho2 (.inl HJ.out)
  ·have hp:=par_lt (k:=j) (by omega)
   have b6:decide (0<j)=true:=by rw [decide_eq_true_eq];omega
   have hpi:((j:Int)-1) / 2=((par j:Nat):Int):=by unfold par;omega
   have hpi2:Int.tdiv ((j:Int)-1) 2=((par j:Nat):Int):=by rw [Int.tdiv_eq_ediv_of_nonneg (by omega)];exact hpi
   have b9:(0:Int)<=(j:Int)-1:=by omega
   have hpM:par j<M.length:=by rw [HLEN.out];omega
   obtain ⟨m1,m2⟩:=HR4.out (par j) hpM
   have HNE:Hid (j≠par j/\par j<M.length/\0<j):=⟨by omega,hpM,by omega⟩
   have hgp:=HGL.out.range (g (M.set j x) (par j)) (g_mem (by simpa using hpM))
   have hgx:g (M.set j x) j=x:=by rw [g_set (by rw [HLEN.out];omega),if_pos rfl]
   have hgy:g (M.set j x) (par j)=g M (par j):=by rw [g_set (by rw [HLEN.out];omega),if_neg (by omega)]
   rw [hgy] at hgp
   have HGX:=zh hgx;have HGY:=zh hgy
   obtain ⟨p,hpp⟩:∃ p,p=par j:=⟨_,rfl⟩
   rw [<- hpp] at hp hpi hpi2 hpM m1 m2 HNE hgp HEND HGY
   have HPP:=zh hpp
   obtain ⟨y,hy⟩:∃ y,y=g M p:=⟨_,rfl⟩
   rw [<- hy] at m1 m2 hgp HEND HGY
   have HY:=zh hy
   have HGP:=zh hgp
   have b7:(0:Int)<=(p:Int):=by omega
   have b8:(p:Int)<(L.length:Int):=by omega
   have hw1:IntKind.i64.wrap ((j:Int)-1)=(j:Int)-1:=IntWalk.i64_in _ (by omega)
   have hw2:IntKind.i64.wrap (p:Int)=(p:Int):=IntWalk.i64_in _ (by omega)
   have HAH:=zh (fun w' (h :  w'.cell? ⟨w.heap.size,0,none⟩=some (.int .i64 x.1)/\w'.cell? ⟨w.heap.size,1,none⟩=some (.int .i64 x.2)/\w'.cell? ⟨H,0,none⟩=some (.slice (some ⟨gv,0,none⟩) L.length cap)/\w'.cell? ⟨H,1,none⟩=some (.func (.func 85) #[] #[])/\w'.cell? ⟨gv,p * 2,none⟩=some (.int .i64 y.1)/\w'.cell? ⟨gv,p * 2+1,none⟩=some (.int .i64 y.2)) =>
    ahead_S (fun w' => w'.cell? ⟨w.heap.size,0,none⟩=some (.int .i64 x.1)/\w'.cell? ⟨w.heap.size,1,none⟩=some (.int .i64 x.2)/\w'.cell? ⟨H,0,none⟩=some (.slice (some ⟨gv,0,none⟩) L.length cap)/\w'.cell? ⟨H,1,none⟩=some (.func (.func 85) #[] #[])/\w'.cell? ⟨gv,p * 2,none⟩=some (.int .i64 y.1)/\w'.cell? ⟨gv,p * 2+1,none⟩=some (.int .i64 y.2)) (fun w1 w2 hb h => ⟨cell_keep hb h.1,cell_keep hb h.2.1,cell_keep hb h.2.2.1,cell_keep hb h.2.2.2.1,cell_keep hb h.2.2.2.2.1,cell_keep hb h.2.2.2.2.2⟩) x y w' h)
   have HBL:Hid (∀ w2,Below wr.drew.heap.size wr.drew w2->QAt lo H hb ga ca (.slice (some ⟨gv,0,none⟩) L.length cap) M az w2/\Only (Ft H ga (.slice (some ⟨gv,0,none⟩) L.length cap)) w w2):=fun w2 hb2 =>
    ⟨HQ.out.drew.below hb2,(HONLY.out.drew).trans (Only.of_below hb2) (fun _ _ h => h)⟩
   clear hp hpM hpp hy hgp HR4
   cases hah:ahd x y with
   | false =>
    rw [hah] at HAH
    have HAHF:=zh hah
    clear hah
    go_wp2
    go_region_held3 (fun w' => w'.cell? ⟨w.heap.size,0,none⟩=some (.int .i64 x.1)/\w'.cell? ⟨w.heap.size,1,none⟩=some (.int .i64 x.2)/\w'.cell? ⟨H,0,none⟩=some (.slice (some ⟨gv,0,none⟩) L.length cap)/\w'.cell? ⟨H,1,none⟩=some (.func (.func 85) #[] #[])/\w'.cell? ⟨gv,p * 2,none⟩=some (.int .i64 y.1)/\w'.cell? ⟨gv,p * 2+1,none⟩=some (.int .i64 y.2)) (go_keep) (first | (go_at_call 85;refine (HAH.out _ ?_).mono ?_;(simp [*]);rintro e w3 ⟨rfl,hb3,n1,n2,n3,n4,n5,n6⟩))
    obtain ⟨hq3,ho3⟩:=HBL.out _ hb3
    have HSX3:=zh (HSX.out _ hq3)
    have HO3:=zh ho3
    clear hb3 hq3 ho3
    go_wp2_with fail
    refine HSX3.out.mono ?_
    rintro e w4 ⟨⟨u,rfl⟩,hq4,ho4⟩
    go_wp2
    go_end0
    exact HEND.out _ _ hq4 HO3.out ho4 (.inr HAHF.out)
   | true =>
    rw [hah] at HAH
    have HAHT:=zh hah
    clear hah
    go_wp2
    go_region_held3 (fun w' => w'.cell? ⟨w.heap.size,0,none⟩=some (.int .i64 x.1)/\w'.cell? ⟨w.heap.size,1,none⟩=some (.int .i64 x.2)/\w'.cell? ⟨H,0,none⟩=some (.slice (some ⟨gv,0,none⟩) L.length cap)/\w'.cell? ⟨H,1,none⟩=some (.func (.func 85) #[] #[])/\w'.cell? ⟨gv,p * 2,none⟩=some (.int .i64 y.1)/\w'.cell? ⟨gv,p * 2+1,none⟩=some (.int .i64 y.2)) (go_keep) (first | (go_at_call 85;refine (HAH.out _ ?_).mono ?_;(simp [*]);rintro e w3 ⟨rfl,hb3,n1,n2,n3,n4,n5,n6⟩))
    obtain ⟨hq3,ho3⟩:=HBL.out _ hb3
    have HSY:=zh (set_any lo H hb ga ca _ M az w3 hq3 y HGP.out.1 (by rw [HAL.out];exact HGP.out.2) j (by rw [HLEN.out];exact hj2))
    have HO3:=zh ho3
    have HK:Hid (∀ w4,QAt lo H hb ga ca (.slice (some ⟨gv,0,none⟩) L.length cap) (M.set j y) (az.set y.1.toNat j) w4->Only (Ft H ga (.slice (some ⟨gv,0,none⟩) L.length cap)) w3 w4 ->
      UpRel lo H hb ga ca (.slice (some ⟨gv,0,none⟩) L.length cap) L n c w.heap.size x w (.int .i64 p) w4):=fun w4 hq4 ho4 => by
     obtain ⟨n1',n2',n3'⟩:=HNE.out
     have hjM:j<M.length:=by rw [HLEN.out];exact hj2
     have hsw:sw (M.set j x) j p=(M.set j y).set p x:=by rw [sw_of_set hjM n2' n1',<- HY.out]
     have hlt4:w.heap.size<w3.heap.size:=World.block_lt_of_cell? w3 ⟨w.heap.size,0,none⟩ n1
     have hnf:¬ Ft H ga (.slice (some ⟨gv,0,none⟩) L.length cap) w.heap.size:=by
      obtain ⟨q1,q2,q3⟩:=HGB.out
      rintro (e | e | e)
      ·exact q3 e.symm
      ·exact q2 e.symm
      ·exact q1 (by cases e;rfl)
     refine ⟨p,M.set j y,az.set y.1.toNat j,by simpa using n2',rfl,hq4,?_,?_,fun hu => ?_,(ho4.cell (p:=⟨w.heap.size,0,none⟩) hlt4 hnf).trans n1,(ho4.cell (p:=⟨w.heap.size,1,none⟩) hlt4 hnf).trans n2,HO3.out.trans ho4 (fun _ _ h => h)⟩
     ·rw [<- hsw];exact (sw_perm (by simpa using hjM) (by simpa using n2')).trans HPERM.out
     ·rw [<- hsw]
      have:=HPOS.out.move HGL.out (d:=p) (by simpa using hjM) (by simpa using n2') n1'
      rw [HGY.out] at this;exact this
     ·rw [<- hsw]
      have:=(HORD.out hu).step n3' (by simpa using hjM) (by rw [HGX.out,<- HPP.out,HGY.out];exact HAHT.out)
      rw [<- HPP.out] at this;exact this
    clear hb3 hq3 ho3
    go_wp2_with fail
    refine HSY.out.mono ?_
    rintro e w4 ⟨⟨u,rfl⟩,hq4,ho4⟩
    have HU:=zh (HK.out _ hq4 ho4)
    clear hq4 ho4
    go_wp2
    go_roundw
    case rel => exact HU.out
    case measure => simp [intOf];have:=HNE.out;have:=HPP.out;unfold par at this;omega
end Hp
end
end Go.Proofs.YtimhglmfckfclaaGreat
