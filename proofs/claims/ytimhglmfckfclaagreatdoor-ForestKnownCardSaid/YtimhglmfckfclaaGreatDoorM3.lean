/- Parts of the proof. -/
import Derived.Test.YtimhglmfckfclaaGreatDoorM2
import Derived.Deep.RegionWith
import Derived.Deep.RegionHeld3
set_option linter.unusedVariables false
set_option linter.unusedSimpArgs false
set_option maxRecDepth 100000
set_option maxHeartbeats 16000000
namespace Go.Proofs.YtimhglmfckfclaaGreatDoor
section
namespace Fr
open Vw (Sess)
def Nx (S:List Slt) (x y:Int):Prop:=(sl S x).next=y/\(sl S y).prev=x
def Ch (R:Int->Int->Prop):List Int->Prop
 | [] => True
 | [_] => True
 | x :: y :: r => R x y/\Ch R (y :: r)
abbrev Path (S:List Slt):List Int->Prop:=Ch (Nx S)
theorem ch_app {R:Int->Int->Prop}:∀ (a:List Int) (x:Int) (b:List Int),Ch R (a ++ x :: b)↔Ch R (a ++ [x])/\Ch R (x :: b)
 | [],x,b => by simp [Ch]
 | [y],x,b => by simp [Ch]
 | y :: z :: r,x,b => by
  have:=ch_app (R:=R) (z :: r) x b
  simp only [List.cons_append,Ch] at this ⊢
  rw [this,and_assoc]
theorem Ch.imp {R Q:Int->Int->Prop} (h:∀ x y,R x y->Q x y):∀ (l:List Int),Ch R l->Ch Q l
 | [],_ => trivial
 | [_],_ => trivial
 | x :: y :: r,hc => ⟨h x y hc.1,Ch.imp h (y :: r) hc.2⟩
theorem Ch.mem {R:Int->Int->Prop}:∀ (l:List Int),Ch R l->Ch (fun x y => R x y/\x ∈ l/\y ∈ l) l
 | [],_ => trivial
 | [_],_ => trivial
 | x :: y :: r,hc => ⟨⟨hc.1,by simp,by simp⟩,Ch.imp (fun a b h => ⟨h.1,List.mem_cons_of_mem _ h.2.1,List.mem_cons_of_mem _ h.2.2⟩) _ (Ch.mem (y :: r) hc.2)⟩
theorem path_app {S:List Slt} (a:List Int) (x:Int) (b:List Int):Path S (a ++ x :: b)↔Path S (a ++ [x])/\Path S (x :: b):=ch_app a x b
def RingAt (S:List Slt) (last:Int) (L:List Int):Prop:=(L=[]/\last = -1)\/∃ r,L=r ++ [last]/\Path S (last :: L)
theorem RingAt.nil (S:List Slt):RingAt S (-1) []:=.inl ⟨rfl,rfl⟩
theorem RingAt.last_mem {S:List Slt} {last:Int} {L:List Int} (h:RingAt S last L) (hne:L≠[]):last ∈ L:=by
 rcases h with ⟨h,_⟩ | ⟨r,rfl,_⟩
 ·exact absurd h hne
 ·simp
theorem RingAt.empty {S:List Slt} {last:Int} {L:List Int} (h:RingAt S last L) (ht:∀ x ∈ L,thr x=true):last = -1↔L=[]:=by
 rcases h with ⟨h,h2⟩ | ⟨r,rfl,_⟩
 ·simp [h,h2]
 ·constructor
  ·rintro rfl
   have:=ht (-1) (by simp)
   exact absurd this (by decide)
  ·intro h;simp at h
theorem path_nx {S:List Slt} {a b:List Int} {x y:Int} (h:Path S (a ++ x :: y :: b)):Nx S x y:=((path_app a x (y :: b)).1 h).2.1
theorem RingAt.around {S:List Slt} {last:Int} {L:List Int} (h:RingAt S last L) {i:Int} (hi:i ∈ L):∃ p ∈ L,∃ n ∈ L,Nx S p i/\Nx S i n:=by
 rcases h with ⟨rfl,_⟩ | ⟨r,rfl,h⟩
 ·cases hi
 obtain ⟨a,b,hab⟩:=List.append_of_mem hi
 have hp:∃ p ∈ r ++ [last],Nx S p i:=by
  rcases List.eq_nil_or_concat a with rfl | ⟨a',q,rfl⟩
  ·refine ⟨last,by simp,?_⟩
   rw [hab] at h
   exact path_nx (a:=[]) h
  ·rw [hab] at h
   refine ⟨q,by rw [hab];simp,path_nx (a:=last :: a') (b:=b) (by simpa using h)⟩
 have hn:∃ n ∈ r ++ [last],Nx S i n:=by
  cases b with
  | nil =>
   have e:i=last:=by
    have:=congrArg List.getLast? hab
    simpa using this.symm
   subst e
   cases r with
   | nil => exact ⟨i,by simp,path_nx (a:=[]) (b:=[]) (by simpa using h)⟩
   | cons f t => exact ⟨f,by simp,path_nx (a:=[]) (b:=t ++ [i]) (by simpa using h)⟩
  | cons n t =>
   refine ⟨n,by rw [hab];simp,path_nx (a:=last :: a) (b:=t) ?_⟩
   rw [hab] at h;simpa using h
 obtain ⟨p,hp1,hp2⟩:=hp
 obtain ⟨n,hn1,hn2⟩:=hn
 exact ⟨p,hp1,n,hn1,hp2,hn2⟩
theorem RingAt.well {S:List Slt} {last:Int} {L:List Int} (h:RingAt S last L) (ht:∀ x ∈ L,thr x=true) {i:Int} (hi:i ∈ L):well S i=true:=by
 obtain ⟨p,hp,n,hn,h1,h2⟩:=h.around hi
 refine well_iff.2 ⟨ht i hi,by rw [h1.2];exact ht p hp,by rw [h2.1];exact ht n hn,by rw [h1.2];exact h1.1,by rw [h2.1];exact h2.2⟩
theorem RingAt.first {S:List Slt} {last:Int} {L:List Int} (h:RingAt S last L) {f:Int} {r:List Int} (e:L=f :: r):(sl S last).next=f:=by
 rcases h with ⟨rfl,_⟩ | ⟨q,h1,h⟩
 ·cases e
 ·rw [e] at h;exact h.1.1
theorem Path.keep {S T:List Slt}:∀ (a:List Int) (x:Int),(∀ y ∈ a,(sl T y).next=(sl S y).next)->(∀ y ∈ (a ++ [x]).tail,(sl T y).prev=(sl S y).prev)->Path S (a ++ [x])->Path T (a ++ [x])
 | [],x,_,_,_ => trivial
 | [y],x,h1,h2,h => ⟨⟨by rw [h1 y (by simp)];exact h.1.1,by rw [h2 x (by simp)];exact h.1.2⟩,trivial⟩
 | y :: z :: r,x,h1,h2,h => ⟨⟨by rw [h1 y (by simp)];exact h.1.1,by rw [h2 z (by simp)];exact h.1.2⟩,Path.keep (z :: r) x (fun q hq => h1 q (List.mem_cons_of_mem _ hq)) (fun q hq => h2 q (List.mem_cons_of_mem _ hq)) h.2⟩
theorem RingAt.keep {S T:List Slt} {last:Int} {L:List Int} (h:RingAt S last L) (hk:∀ y ∈ L,(sl T y).next=(sl S y).next/\(sl T y).prev=(sl S y).prev):RingAt T last L:=by
 rcases h with h | ⟨r,rfl,h⟩
 ·exact .inl h
 ·refine .inr ⟨r,rfl,?_⟩
  have:=Path.keep (S:=S) (T:=T) (last :: r) last (fun y hy => (hk y (by rcases List.mem_cons.1 hy with e | e <;> simp [e])).1) (fun y hy => (hk y (by simpa using hy)).2) (by simpa using h)
  simpa using this
theorem ring_push {S:List Slt} (hS:S.length=32) {last i:Int} {L:List Int} (h:RingAt S last L) (ht:∀ x ∈ L,thr x=true) (hd:L.Nodup) (hi:thr i=true) (hn:i ∉ L):RingAt (pushS S last i) i (L ++ [i]):=by
 rcases h with ⟨rfl,rfl⟩ | ⟨r,rfl,h⟩
 ·refine .inr ⟨[],rfl,?_⟩
  refine ⟨⟨?_,?_⟩,trivial⟩ <;> (unfold pushS;rw [if_pos rfl,sl_lnk _ hS _ _ _ hi hi hi];simp)
 ·have hl:thr last=true:=ht last (by simp)
  have hil:i≠last:=fun e => hn (by simp [e])
  have h0:=thr_iff.1 hl
  obtain ⟨f,q,hf⟩:∃ f q,r ++ [last]=f :: q:=by cases r <;> simp
  have hfn:(sl S last).next=f:=by rw [hf] at h;exact h.1.1
  have hft:thr f=true:=ht f (by rw [hf];simp)
  have hfi:f≠i:=fun e => hn (by rw [hf];simp [e])
  have hnx:∀ y,thr y=true->sl (pushS S last i) y={ sl S y with next:=if i=y then f else if last=y then i else (sl S y).next,prev:=if f=y then i else if i=y then last else (sl S y).prev }:=fun y hy => by
   unfold pushS
   rw [if_neg (by omega),hfn,sl_lnk _ (by rw [lnk_len,hS]) _ _ _ hi hft hy,sl_lnk _ hS _ _ _ hl hi hy]
  refine .inr ⟨r ++ [last],rfl,?_⟩
  have h1:Path S (r ++ [last]):=by
   rw [hf] at h ⊢;exact h.2
  have h2:Path (pushS S last i) (r ++ [last]):=by
   refine Path.keep r last (fun y hy => ?_) (fun y hy => ?_) h1
   ·have hy2:y ∈ r ++ [last]:=by simp [hy]
    have hyl:last≠y:=fun e => by subst e;have:=List.nodup_append.1 hd;exact (this.2.2 last hy last (by simp)) rfl
    rw [hnx y (ht y hy2)]
    show (if i=y then _ else _)=_
    rw [if_neg (fun e => hn (by rw [e];exact hy2)),if_neg hyl]
   ·rw [hf] at hy hd
    have hy2:y ∈ r ++ [last]:=by rw [hf];exact List.mem_cons_of_mem _ hy
    rw [hnx y (ht y hy2)]
    show (if f=y then _ else _)=_
    rw [if_neg (fun e => by subst e;exact (List.nodup_cons.1 hd).1 hy),if_neg (fun e => hn (by rw [e];exact hy2))]
  have e:i :: (r ++ [last] ++ [i])=(i :: r) ++ last :: [i]:=by simp
  rw [e,path_app]
  refine ⟨?_,⟨by rw [hnx last hl];show (if i=last then _ else _)=_;rw [if_neg hil,if_pos rfl],by rw [hnx i hi];show (if f=i then _ else _)=_;rw [if_neg hfi,if_pos rfl]⟩,trivial⟩
  show Path _ (i :: (r ++ [last]))
  rw [hf] at h2 ⊢
  exact ⟨⟨by rw [hnx i hi];show (if i=i then _ else _)=_;rw [if_pos rfl],by rw [hnx f hft];show (if f=f then _ else _)=_;rw [if_pos rfl]⟩,h2⟩
theorem push_core {S:List Slt} (hS:S.length=32) {last i:Int} (hc:canPush S last i=true) (y:Int) (hy:thr y=true) :
  ∃ p n,sl (pushS S last i) y={ sl S y with prev:=p,next:=n }:=by
 unfold canPush at hc
 simp only [Bool.and_eq_true,Bool.or_eq_true,beq_iff_eq,bne_iff_ne,ne_eq] at hc
 obtain ⟨hi,hc⟩:=hc
 unfold pushS
 split
 ·exact ⟨_,_,by rw [sl_lnk _ hS _ _ _ hi hi hy]⟩
 ·rename_i h0
  rcases hc with h | ⟨hw,h2,h3⟩
  ·exact absurd h h0
  ·obtain ⟨w1,w2,w3,w4,w5⟩:=well_iff.1 hw
   exact ⟨_,_,by rw [sl_lnk _ (by rw [lnk_len,hS]) _ _ _ hi w3 hy,sl_lnk _ hS _ _ _ w1 hi hy]⟩
theorem push_far {S:List Slt} (hS:S.length=32) {last i:Int} (hc:canPush S last i=true) (y:Int) (hy:thr y=true) (h1:y≠i) (h2:last≠-1->y≠last/\y≠(sl S last).next):sl (pushS S last i) y=sl S y:=by
 unfold canPush at hc
 simp only [Bool.and_eq_true,Bool.or_eq_true,beq_iff_eq,bne_iff_ne,ne_eq] at hc
 obtain ⟨hi,hc⟩:=hc
 unfold pushS
 split
 ·rw [sl_lnk _ hS _ _ _ hi hi hy,if_neg (Ne.symm h1),if_neg (Ne.symm h1)]
 ·rename_i h0
  rcases hc with h | ⟨hw,_,_⟩
  ·exact absurd h h0
  ·obtain ⟨w1,w2,w3,w4,w5⟩:=well_iff.1 hw
   obtain ⟨h3,h4⟩:=h2 h0
   rw [sl_lnk _ (by rw [lnk_len,hS]) _ _ _ hi w3 hy,sl_lnk _ hS _ _ _ w1 hi hy,if_neg (Ne.symm h1),if_neg (Ne.symm h3),if_neg (Ne.symm h4),if_neg (Ne.symm h1)]
theorem push_len (S:List Slt) (last i:Int):(pushS S last i).length=S.length:=by unfold pushS;split <;> simp only [lnk_len]
theorem drop_len (S:List Slt) (i:Int):(dropS S i).length=S.length:=by unfold dropS;simp only [put_len,lnk_len]
theorem splice_len (S:List Slt) (one two:Int):(spliceS S one two).length=S.length:=by unfold spliceS;simp only [lnk_len]
theorem RingAt.canPush {S:List Slt} {last i:Int} {L:List Int} (h:RingAt S last L) (ht:∀ x ∈ L,thr x=true) (hi:thr i=true) (hn:i ∉ L):canPush S last i=true:=by
 unfold Fr.canPush
 simp only [Bool.and_eq_true,Bool.or_eq_true,beq_iff_eq,bne_iff_ne,ne_eq]
 refine ⟨hi,?_⟩
 by_cases hL:L=[]
 ·exact .inl ((h.empty ht).2 hL)
 ·have hm:=h.last_mem hL
  obtain ⟨p,hp,n,hnn,h1,h2⟩:=h.around hm
  exact .inr ⟨h.well ht hm,fun e => hn (e ▸ hm),fun e => hn (by rw [e,h2.1];exact hnn)⟩
theorem sl_drop {S:List Slt} (hS:S.length=32) {i:Int} (hw:Fr.well S i=true) (y:Int) (hy:thr y=true) :
  sl (dropS S i) y={ sl S y with next:=if i=y then -1 else if (sl S i).prev=y then (sl S i).next else (sl S y).next,prev:=if i=y then -1 else if (sl S i).next=y then (sl S i).prev else (sl S y).prev }:=by
 obtain ⟨w1,w2,w3,w4,w5⟩:=well_iff.1 hw
 unfold dropS
 simp only
 rw [sl_put _ (by rw [lnk_len,hS]) _ _ _ w1 (thr_iff.1 hy).1,sl_lnk _ hS _ _ _ w2 w3 hy]
 split
 ·rename_i e;subst e;rw [sl_lnk _ hS _ _ _ w2 w3 w1]
 ·rfl
theorem ring_push_far {S:List Slt} (hS:S.length=32) {last i l2:Int} {L M:List Int} (h:RingAt S last L) (ht:∀ x ∈ L,thr x=true) (hi:thr i=true) (hn:i ∉ L) (hM:RingAt S l2 M) (ht2:∀ x ∈ M,thr x=true) (hd:∀ x ∈ M,x ∉ L/\x≠i):RingAt (pushS S last i) l2 M :=
 hM.keep (fun y hy => by
  rw [push_far hS (h.canPush ht hi hn) y (ht2 y hy) (hd y hy).2 (fun h0 => ?_)]
  ·exact ⟨rfl,rfl⟩
  ·have hL:L≠[]:=fun e => h0 ((h.empty ht).2 e)
   have hm:=h.last_mem hL
   obtain ⟨p,hp,n,hnn,h1,h2⟩:=h.around hm
   exact ⟨fun e => (hd y hy).1 (e ▸ hm),fun e => (hd y hy).1 (by rw [e,h2.1];exact hnn)⟩)
theorem nodup_mid {a b:List Int} {i:Int} (h:(a ++ i :: b).Nodup):i ∉ a/\i ∉ b/\(a ++ b).Nodup/\∀ x ∈ a,x ∉ b:=by
 have h1:=List.nodup_append.1 h
 have h2:=List.nodup_cons.1 h1.2.1
 refine ⟨fun e => h1.2.2 i e i (by simp) rfl,h2.1,List.nodup_append.2 ⟨h1.1,h2.2,fun x hx y hy => h1.2.2 x hx y (List.mem_cons_of_mem _ hy)⟩,fun x hx hb => h1.2.2 x hx x (List.mem_cons_of_mem _ hb) rfl⟩
theorem ch_left {R:Int->Int->Prop} {a:List Int} {x:Int} {b:List Int} (h:Ch R (a ++ x :: b)):Ch R (a ++ [x]):=((ch_app a x b).1 h).1
theorem ch_right {R:Int->Int->Prop} {a:List Int} {x:Int} {b:List Int} (h:Ch R (a ++ x :: b)):Ch R (x :: b):=((ch_app a x b).1 h).2
theorem drop_nx {S:List Slt} (hS:S.length=32) {i p n x y:Int} (hw:Fr.well S i=true) (ep:(sl S i).prev=p) (en:(sl S i).next=n) (hx:thr x=true) (hy:thr y=true) (hxi:x≠i) (hyi:y≠i) (h:Nx S x y\/(x=p/\y=n)):Nx (dropS S i) x y:=by
 obtain ⟨w1,w2,w3,w4,w5⟩:=well_iff.1 hw
 rw [ep] at w4
 rw [en] at w5
 unfold Nx
 rw [sl_drop hS hw x hx,sl_drop hS hw y hy,ep,en]
 rcases h with ⟨h1,h2⟩ | ⟨rfl,rfl⟩
 ·constructor
  ·show (if i=x then _ else if p=x then _ else _)=_
   rw [if_neg (Ne.symm hxi),if_neg (fun e => by subst e;rw [w4] at h1;exact hyi h1.symm)];exact h1
  ·show (if i=y then _ else if n=y then _ else _)=_
   rw [if_neg (Ne.symm hyi),if_neg (fun e => by subst e;rw [w5] at h2;exact hxi h2.symm)];exact h2
 ·constructor
  ·show (if i=x then _ else if x=x then _ else _)=_
   rw [if_neg (Ne.symm hxi),if_pos rfl]
  ·show (if i=y then _ else if y=y then _ else _)=_
   rw [if_neg (Ne.symm hyi),if_pos rfl]
theorem ring_drop {S:List Slt} (hS:S.length=32) {last i:Int} {a b:List Int} (h:RingAt S last (a ++ i :: b)) (ht:∀ x ∈ a ++ i :: b,thr x=true) (hd:(a ++ i :: b).Nodup):RingAt (dropS S i) (dropL S last i) (a ++ b):=by
 have hw:=h.well ht (i:=i) (by simp)
 obtain ⟨na,nb,hab,-⟩:=nodup_mid hd
 rcases h with ⟨h,_⟩ | ⟨r,hr,h⟩
 ·simp at h
 rcases List.eq_nil_or_concat b with rfl | ⟨b',q,rfl⟩
 ·-- it is the last one
  have e:i=last:=by have:=congrArg List.getLast? hr;simpa using this
  subst e
  have era:a=r:=by simpa using hr
  subst era
  rw [List.append_nil]
  rcases List.eq_nil_or_concat a with rfl | ⟨c,p,rfl⟩
  ·have hp:(sl S i).prev=i:=h.1.2
   refine .inl ⟨rfl,?_⟩
   unfold dropL;rw [if_neg (by simp),if_pos hp]
  ·have hpi:Nx S p i:=path_nx (a:=i :: c) (b:=[]) (by simpa using h)
   have hpne:p≠i:=fun e => na (by simp [e])
   have hdl:dropL S i i=p:=by unfold dropL;rw [if_neg (by simp),hpi.2,if_neg hpne]
   rw [hdl]
   refine .inr ⟨c,by simp,?_⟩
   obtain ⟨f,t,hf⟩:∃ f t,c ++ [p]=f :: t:=by cases c <;> simp
   have hfn:(sl S i).next=f:=by
    have h2:Path S (i :: ((c ++ [p]) ++ [i])):=by simpa using h
    rw [hf] at h2;exact h2.1.1
   have h1:Path S (c ++ [p]):=by
    have h2:Path S ((i :: c) ++ p :: [i]):=by simpa using h
    have h3:=ch_left h2
    have h4:Path S (i :: (c ++ [p])):=by simpa using h3
    rw [hf] at h4 ⊢;exact h4.2
   have hm:∀ x ∈ c ++ [p],x≠i/\thr x=true:=fun x hx => ⟨fun e => na (by subst e;simpa using hx),ht x (by simp at hx ⊢;rcases hx with h | h <;> simp [h])⟩
   have h5:Path (dropS S i) (c ++ [p]):=Ch.imp (fun x y ⟨h,hx,hy⟩ => drop_nx hS hw hpi.2 hfn (hm x hx).2 (hm y hy).2 (hm x hx).1 (hm y hy).1 (.inl h)) _ (Ch.mem _ h1)
   have e2:p :: (c.concat p)=p :: f :: t:=by rw [List.concat_eq_append,hf]
   rw [e2]
   rw [hf] at h5 hm
   exact ⟨drop_nx hS hw hpi.2 hfn (hm p (by rw [<- hf];simp)).2 (hm f (by simp)).2 (hm p (by rw [<- hf];simp)).1 (hm f (by simp)).1 (.inr ⟨rfl,rfl⟩),h5⟩
 ·-- it is not
  have e:q=last:=by
   have h5:(a ++ i :: b') ++ [q]=r ++ [last]:=by rw [<- hr];simp
   exact (List.append_inj' h5 rfl).2 |> fun h => by simpa using h
  subst e
  have hqi:q≠i:=fun e => nb (by simp [e])
  have hdl:dropL S q i=q:=by unfold dropL;rw [if_pos (Ne.symm hqi)]
  rw [hdl]
  refine .inr ⟨a ++ b',by simp,?_⟩
  obtain ⟨c,p,hcp⟩:∃ c p,q :: a=c ++ [p]:=by
   rcases List.eq_nil_or_concat a with rfl | ⟨c,p,rfl⟩
   ·exact ⟨[],q,rfl⟩
   ·exact ⟨q :: c,p,by simp⟩
  obtain ⟨n,d,hnd⟩:∃ n d,b'.concat q=n :: d:=by cases b' <;> simp
  have h1:Path S (c ++ p :: i :: n :: d):=by
   have h2:q :: (a ++ i :: b'.concat q)=c ++ p :: i :: n :: d:=by rw [<- List.cons_append,hcp,hnd];simp
   rw [<- h2];exact h
  have hpi:Nx S p i:=path_nx h1
  have hin:Nx S i n:=path_nx (a:=c ++ [p]) (by simpa using h1)
  have hma:∀ x ∈ c ++ [p],x≠i/\thr x=true:=fun x hx => by
   rw [<- hcp] at hx
   rcases List.mem_cons.1 hx with rfl | hx
   ·exact ⟨hqi,ht _ (by simp)⟩
   ·exact ⟨fun e => na (e ▸ hx),ht _ (by simp [hx])⟩
  have hmb:∀ x ∈ n :: d,x≠i/\thr x=true:=fun x hx => by
   rw [<- hnd] at hx
   exact ⟨fun e => nb (e ▸ hx),ht _ (by simp at hx ⊢;rcases hx with h | h <;> simp [h])⟩
  have e3:q :: (a ++ b'.concat q)=c ++ p :: n :: d:=by rw [<- List.cons_append,hcp,hnd];simp
  rw [e3]
  refine (ch_app c p (n :: d)).2 ⟨?_,?_,?_⟩
  ·exact Ch.imp (fun x y ⟨h,hx,hy⟩ => drop_nx hS hw hpi.2 hin.1 (hma x hx).2 (hma y hy).2 (hma x hx).1 (hma y hy).1 (.inl h)) _ (Ch.mem _ (ch_left h1))
  ·exact drop_nx hS hw hpi.2 hin.1 (hma p (by simp)).2 (hmb n (by simp)).2 (hma p (by simp)).1 (hmb n (by simp)).1 (.inr ⟨rfl,rfl⟩)
  ·have h4:Path S ((c ++ [p,i]) ++ n :: d):=by simpa using h1
   exact Ch.imp (fun x y ⟨h,hx,hy⟩ => drop_nx hS hw hpi.2 hin.1 (hmb x hx).2 (hmb y hy).2 (hmb x hx).1 (hmb y hy).1 (.inl h)) _ (Ch.mem _ (ch_right h4))
theorem drop_far {S:List Slt} (hS:S.length=32) {i y:Int} (hw:Fr.well S i=true) (hy:thr y=true) (h1:y≠i) (h2:y≠(sl S i).prev) (h3:y≠(sl S i).next):sl (dropS S i) y=sl S y:=by
 rw [sl_drop hS hw y hy,if_neg (Ne.symm h1),if_neg (Ne.symm h1),if_neg (Ne.symm h2),if_neg (Ne.symm h3)]
theorem ring_drop_far {S:List Slt} (hS:S.length=32) {last i l2:Int} {L M:List Int} (h:RingAt S last L) (ht:∀ x ∈ L,thr x=true) (hi:i ∈ L) (hM:RingAt S l2 M) (ht2:∀ x ∈ M,thr x=true) (hd:∀ x ∈ M,x ∉ L):RingAt (dropS S i) l2 M :=
 hM.keep (fun y hy => by
  obtain ⟨p,hp,n,hn,h1,h2⟩:=h.around hi
  rw [drop_far hS (h.well ht hi) (ht2 y hy) (fun e => hd y hy (e ▸ hi)) (fun e => hd y hy (by rw [e,h1.2];exact hp)) (fun e => hd y hy (by rw [e,h2.1];exact hn))]
  exact ⟨rfl,rfl⟩)
theorem sl_splice {S:List Slt} (hS:S.length=32) {one two:Int} (h1:Fr.well S one=true) (h2:Fr.well S two=true) (y:Int) (hy:thr y=true) :
  sl (spliceS S one two) y={ sl S y with next:=if two=y then (sl S one).next else if one=y then (sl S two).next else (sl S y).next,prev:=if (sl S one).next=y then two else if (sl S two).next=y then one else (sl S y).prev }:=by
 obtain ⟨w1,w2,w3,w4,w5⟩:=well_iff.1 h1
 obtain ⟨v1,v2,v3,v4,v5⟩:=well_iff.1 h2
 unfold spliceS
 rw [sl_lnk _ (by rw [lnk_len,hS]) _ _ _ v1 w3 hy,sl_lnk _ hS _ _ _ w1 v3 hy]
theorem ring_splice {S:List Slt} (hS:S.length=32) {one two:Int} {L M:List Int} (h1:RingAt S one L) (h2:RingAt S two M) (ht1:∀ x ∈ L,thr x=true) (ht2:∀ x ∈ M,thr x=true) (hL:L≠[]) (hM:M≠[]) (hd:(L ++ M).Nodup):RingAt (spliceS S one two) two (L ++ M)/\canSplice S one two=true:=by
 have d0:=List.nodup_append.1 hd
 have m1:=h1.last_mem hL
 have m2:=h2.last_mem hM
 have w1:=h1.well ht1 m1
 have w2:=h2.well ht2 m2
 obtain ⟨p1,hp1,f,hf,k1,k2⟩:=h1.around m1
 obtain ⟨p2,hp2,g,hg,k3,k4⟩:=h2.around m2
 have hne:one≠two:=fun e => d0.2.2 one m1 two m2 e
 constructor
 ·rcases h1 with ⟨h,_⟩ | ⟨r,rfl,h1⟩
  ·exact absurd h hL
  rcases h2 with ⟨h,_⟩ | ⟨q,rfl,h2⟩
  ·exact absurd h hM
  obtain ⟨f',t,hft⟩:∃ f' t,r ++ [one]=f' :: t:=by cases r <;> simp
  obtain ⟨g',u,hgu⟩:∃ g' u,q ++ [two]=g' :: u:=by cases q <;> simp
  have ef:f=f':=by rw [hft] at h1;exact k2.1.symm.trans h1.1.1
  have eg:g=g':=by rw [hgu] at h2;exact k4.1.symm.trans h2.1.1
  subst ef eg
  have hnL:∀ x,x ∈ r ++ [one]->x≠two/\x≠g:=fun x hx => ⟨d0.2.2 x hx two m2,d0.2.2 x hx g hg⟩
  have hnM:∀ x,x ∈ q ++ [two]->one≠x/\f≠x:=fun x hx => ⟨d0.2.2 one m1 x hx,d0.2.2 f hf x hx⟩
  have hsl:=fun y hy => sl_splice hS w1 w2 y hy
  rw [k2.1,k4.1] at hsl
  have hr:Path (spliceS S one two) (r ++ [one]):=by
   have h3:Path S (r ++ [one]):=by rw [hft] at h1 ⊢;exact h1.2
   refine Path.keep r one (fun y hy => ?_) (fun y hy => ?_) h3
   ·have hy2:y ∈ r ++ [one]:=by simp [hy]
    rw [hsl y (ht1 y hy2)]
    show (if two=y then _ else if one=y then _ else _)=_
    rw [if_neg (Ne.symm (hnL y hy2).1),if_neg (fun e => by subst e;exact (List.nodup_append.1 d0.1).2.2 one hy one (by simp) rfl)]
   ·rw [hft] at hy
    have hy2:y ∈ r ++ [one]:=by rw [hft];exact List.mem_cons_of_mem _ hy
    rw [hsl y (ht1 y hy2)]
    show (if f=y then _ else if g=y then _ else _)=_
    have:=d0.1
    rw [hft] at this
    rw [if_neg (fun e => by subst e;exact (List.nodup_cons.1 this).1 hy),if_neg (Ne.symm (hnL y hy2).2)]
  have hq:Path (spliceS S one two) (q ++ [two]):=by
   have h3:Path S (q ++ [two]):=by rw [hgu] at h2 ⊢;exact h2.2
   refine Path.keep q two (fun y hy => ?_) (fun y hy => ?_) h3
   ·have hy2:y ∈ q ++ [two]:=by simp [hy]
    rw [hsl y (ht2 y hy2)]
    show (if two=y then _ else if one=y then _ else _)=_
    rw [if_neg (fun e => by subst e;exact (List.nodup_append.1 d0.2.1).2.2 two hy two (by simp) rfl),if_neg (hnM y hy2).1]
   ·rw [hgu] at hy
    have hy2:y ∈ q ++ [two]:=by rw [hgu];exact List.mem_cons_of_mem _ hy
    rw [hsl y (ht2 y hy2)]
    show (if f=y then _ else if g=y then _ else _)=_
    have:=d0.2.1
    rw [hgu] at this
    rw [if_neg (hnM y hy2).2,if_neg (fun e => by subst e;exact (List.nodup_cons.1 this).1 hy)]
  have hof:Nx (spliceS S one two) two f:=by
   refine ⟨?_,?_⟩
   ·rw [hsl two (ht2 two m2)];show (if two=two then _ else _)=_;rw [if_pos rfl]
   ·rw [hsl f (ht1 f hf)];show (if f=f then _ else _)=_;rw [if_pos rfl]
  have hog:Nx (spliceS S one two) one g:=by
   refine ⟨?_,?_⟩
   ·rw [hsl one (ht1 one m1)];show (if two=one then _ else if one=one then _ else _)=_;rw [if_neg (Ne.symm hne),if_pos rfl]
   ·rw [hsl g (ht2 g hg)];show (if f=g then _ else if g=g then _ else _)=_;rw [if_neg (hnM g hg).2,if_pos rfl]
  refine .inr ⟨r ++ [one] ++ q,by simp,?_⟩
  have e:two :: (r ++ [one] ++ (q ++ [two]))=(two :: r) ++ one :: (q ++ [two]):=by simp
  rw [e,path_app]
  refine ⟨?_,?_⟩
  ·show Path _ (two :: (r ++ [one]))
   rw [hft] at hr ⊢
   exact ⟨hof,hr⟩
  ·rw [hgu] at hq ⊢
   exact ⟨hog,hq⟩
 ·unfold canSplice
  simp only [Bool.and_eq_true,bne_iff_ne,ne_eq]
  exact ⟨hne,w1,w2,fun e => d0.2.2 f hf two m2 (k2.1.symm.trans e),fun e => d0.2.2 one m1 g hg (by rw [<- k4.1,e])⟩
theorem ring_splice_far {S:List Slt} (hS:S.length=32) {one two l3:Int} {L M K:List Int} (h1:RingAt S one L) (h2:RingAt S two M) (ht1:∀ x ∈ L,thr x=true) (ht2:∀ x ∈ M,thr x=true) (hL:L≠[]) (hM:M≠[]) (hK:RingAt S l3 K) (ht3:∀ x ∈ K,thr x=true) (hd:∀ x ∈ K,x ∉ L/\x ∉ M):RingAt (spliceS S one two) l3 K:=by
 have m1:=h1.last_mem hL
 have m2:=h2.last_mem hM
 obtain ⟨p1,hp1,f,hf,k1,k2⟩:=h1.around m1
 obtain ⟨p2,hp2,g,hg,k3,k4⟩:=h2.around m2
 refine hK.keep (fun y hy => ?_)
 rw [sl_splice hS (h1.well ht1 m1) (h2.well ht2 m2) y (ht3 y hy),k2.1,k4.1]
 have e1:¬ (two=y):=fun e => (hd y hy).2 (e ▸ m2)
 have e2:¬ (one=y):=fun e => (hd y hy).1 (e ▸ m1)
 have e3:¬ (f=y):=fun e => (hd y hy).1 (e ▸ hf)
 have e4:¬ (g=y):=fun e => (hd y hy).2 (e ▸ hg)
 exact ⟨by show (if two=y then _ else if one=y then _ else _)=_;rw [if_neg e1,if_neg e2],by show (if f=y then _ else if g=y then _ else _)=_;rw [if_neg e3,if_neg e4]⟩
end Fr
end
section
namespace Hp
abbrev It:=Int × Int
def ahd (a b:It):Bool:=decide (a.2<b.2) || (decide (a.2=b.2) && decide (a.1<b.1))
theorem ahd_iff {a b:It}:ahd a b=true↔a.2<b.2\/(a.2=b.2/\a.1<b.1):=by
 unfold ahd;simp
theorem ahd_no {a b:It}:ahd a b=false↔¬ (a.2<b.2\/(a.2=b.2/\a.1<b.1)):=by
 rw [<- ahd_iff,Bool.not_eq_true]
theorem ahd_irrefl (a:It):ahd a a=false:=by rw [ahd_no];omega
theorem ahd_asymm {a b:It} (h:ahd a b=true):ahd b a=false:=by rw [ahd_iff] at h;rw [ahd_no];omega
theorem no_trans {a b c:It} (h:ahd a b=false) (k:ahd b c=false):ahd a c=false:=by rw [ahd_no] at *;omega
theorem no_of_lt {a b c:It} (h:ahd a b=false) (k:ahd c b=true):ahd a c=false:=by rw [ahd_no] at *;rw [ahd_iff] at k;omega
theorem eq_of_no {a b:It} (h:ahd a b=false) (k:ahd b a=false):a=b:=by
 rw [ahd_no] at *
 exact Prod.ext (by omega) (by omega)
def g (L:List It) (k:Nat):It:=L.getD k (0,0)
theorem g_eq {L:List It} {k:Nat} (h:k<L.length):g L k=L[k]:=by simp [g,h]
theorem g_mem {L:List It} {k:Nat} (h:k<L.length):g L k ∈ L:=by rw [g_eq h];exact List.getElem_mem h
theorem g_set {L:List It} {i k:Nat} {x:It} (h:i<L.length):g (L.set i x) k=if k=i then x else g L k:=by
 unfold g
 rw [List.getD_eq_getElem?_getD,List.getD_eq_getElem?_getD,List.getElem?_set]
 by_cases e:i=k
 ·subst e;rw [if_pos rfl,if_pos rfl,if_pos h];rfl
 ·rw [if_neg e,if_neg (fun h => e h.symm)]
theorem g_of_mem {L:List It} {x:It} (h:x ∈ L):∃ k,k<L.length/\g L k=x:=by
 obtain ⟨k,hk,e⟩:=List.getElem_of_mem h
 exact ⟨k,hk,by rw [g_eq hk,e]⟩
def sw (L:List It) (i j:Nat):List It:=(L.set i (g L j)).set j (g L i)
theorem sw_len (L:List It) (i j:Nat):(sw L i j).length=L.length:=by simp [sw]
theorem sw_perm {L:List It} {i j:Nat} (hi:i<L.length) (hj:j<L.length):List.Perm (sw L i j) L:=by
 unfold sw
 rw [g_eq hi,g_eq hj]
 exact List.set_set_perm hi hj
theorem g_sw {L:List It} {i j k:Nat} (hi:i<L.length) (hj:j<L.length) (hij:i≠j):g (sw L i j) k=if k=j then g L i else if k=i then g L j else g L k:=by
 unfold sw
 rw [g_set (by simpa using hj),g_set hi]
def par (k:Nat):Nat:=(k-1) / 2
theorem par_lt {k:Nat} (h:0<k):par k<k:=by unfold par;omega
def HeapOrd (L:List It):Prop:=∀ k,0<k->k<L.length->ahd (g L k) (g L (par k))=false
structure UpOrd (L:List It) (c:Nat):Prop where
 one:∀ k,0<k->k<L.length->k≠c->ahd (g L k) (g L (par k))=false
 two:∀ k,0<k->k<L.length->par k=c->0<c->ahd (g L k) (g L (par c))=false
structure DownOrd (L:List It) (c:Nat):Prop where
 one:∀ k,0<k->k<L.length->par k≠c->ahd (g L k) (g L (par k))=false
 two:∀ k,0<k->k<L.length->par k=c->0<c->ahd (g L k) (g L (par c))=false
theorem UpOrd.done {L:List It} {c:Nat} (h:UpOrd L c) (k:c=0\/ahd (g L c) (g L (par c))=false):HeapOrd L:=by
 intro j h0 hj
 by_cases e:j=c
 ·subst e
  rcases k with k | k
  ·omega
  ·exact k
 ·exact h.one j h0 hj e
theorem DownOrd.done {L:List It} {c:Nat} (h:DownOrd L c) (k:∀ j,0<j->j<L.length->par j=c->ahd (g L j) (g L c)=false):HeapOrd L:=by
 intro j h0 hj
 by_cases e:par j=c
 ·rw [e];exact k j h0 hj e
 ·exact h.one j h0 hj e
theorem UpOrd.of {L:List It} (h:HeapOrd L) (c:Nat) (hc:c<L.length):UpOrd L c :=
 ⟨fun k h0 hk _ => h k h0 hk,fun k h0 hk e hc0 => no_trans (by have:=h k h0 hk;rw [e] at this;exact this) (h c hc0 hc)⟩
theorem UpOrd.step {L:List It} {c:Nat} (h:UpOrd L c) (h0:0<c) (hc:c<L.length) (ha:ahd (g L c) (g L (par c))=true):UpOrd (sw L c (par c)) (par c):=by
 have hp:=par_lt h0
 have hpl:par c<L.length:=by omega
 have hne:c≠par c:=by omega
 constructor
 ·intro k k0 hk hkp
  rw [sw_len] at hk
  rw [g_sw hc hpl hne,g_sw hc hpl hne,if_neg hkp]
  by_cases e1:k=c
  ·rw [if_pos e1,e1,if_pos rfl]
   exact ahd_asymm ha
  ·rw [if_neg e1]
   by_cases e2:par k=par c
   ·rw [if_pos e2]
    have:=h.one k k0 hk e1
    rw [e2] at this
    exact no_of_lt this ha
   ·rw [if_neg e2]
    by_cases e3:par k=c
    ·rw [if_pos e3]
     exact h.two k k0 hk e3 h0
    ·rw [if_neg e3]
     exact h.one k k0 hk e1
 ·intro k k0 hk e hp0
  rw [sw_len] at hk
  have hpp:=par_lt hp0
  have hkp:k≠par c:=by intro e2;rw [e2] at e;omega
  rw [g_sw hc hpl hne,g_sw hc hpl hne,if_neg hkp,if_neg (show par (par c)≠par c by omega),if_neg (show par (par c)≠c by omega)]
  have h1:=h.one (par c) hp0 hpl (fun e => hne e.symm)
  by_cases e1:k=c
  ·rw [if_pos e1];exact h1
  ·rw [if_neg e1]
   have:=h.one k k0 hk e1
   rw [e] at this
   exact no_trans this h1
theorem DownOrd.step {L:List It} {c m:Nat} (h:DownOrd L c) (hc:c<L.length) (h0:0<m) (hm:m<L.length) (hpm:par m=c) (hmin:∀ k,0<k->k<L.length->par k=c->ahd (g L k) (g L m)=false)
  (ha:ahd (g L m) (g L c)=true):DownOrd (sw L c m) m:=by
 have hlt:c<m:=by have:=par_lt h0;omega
 have hne:c≠m:=by omega
 constructor
 ·intro k k0 hk hkm
  rw [sw_len] at hk
  rw [g_sw hc hm hne,g_sw hc hm hne,if_neg hkm]
  by_cases e1:k=m
  ·rw [if_pos e1,e1,hpm,if_pos rfl]
   exact ahd_asymm ha
  ·rw [if_neg e1]
   by_cases e2:k=c
   ·rw [if_pos e2]
    have hpk:par k≠c:=by have:=par_lt k0;omega
    rw [if_neg hpk,e2]
    exact h.two m h0 hm hpm (by omega)
   ·rw [if_neg e2]
    by_cases e3:par k=c
    ·rw [if_pos e3];exact hmin k k0 hk e3
    ·rw [if_neg e3];exact h.one k k0 hk e3
 ·intro k k0 hk e _
  rw [sw_len] at hk
  have hkm:k≠m:=by intro e2;rw [e2] at e;have:=par_lt h0;omega
  have hkc:k≠c:=by intro e2;rw [e2] at e;rw [e2] at k0;have:=par_lt k0;omega
  rw [g_sw hc hm hne,g_sw hc hm hne,if_neg hkm,if_neg hkc,hpm,if_neg hne,if_pos rfl]
  have:=h.one k k0 hk (by rw [e];exact fun e => hne e.symm)
  rw [e] at this
  exact this
theorem HeapOrd.least {L:List It} (h:HeapOrd L):∀ k,k<L.length->ahd (g L k) (g L 0)=false:=by
 intro k
 induction k using Nat.strongRecOn with
 | ind k ih =>
  intro hk
  by_cases e:k=0
  ·rw [e];exact ahd_irrefl _
  ·have h1:=h k (by omega) hk
   have hp:=par_lt (k:=k) (by omega)
   exact no_trans h1 (ih _ hp (by omega))
theorem HeapOrd.put {L:List It} (h:HeapOrd L) (x:It):UpOrd (L ++ [x]) L.length:=by
 have hg:∀ k,k<L.length->g (L ++ [x]) k=g L k:=fun k hk => by
  unfold g
  rw [List.getD_eq_getElem?_getD,List.getD_eq_getElem?_getD,List.getElem?_append_left hk]
 constructor
 ·intro k k0 hk hkl
  rw [List.length_append,List.length_singleton] at hk
  have hp:=par_lt k0
  rw [hg k (by omega),hg _ (by omega)]
  exact h k k0 (by omega)
 ·intro k k0 hk e _
  rw [List.length_append,List.length_singleton] at hk
  have hp:=par_lt k0
  omega
def cut (L:List It) (a:Nat):List It:=(L.take (L.length-1)).set a (g L (L.length-1))
theorem cut_len (L:List It) (a:Nat):(cut L a).length=L.length-1:=by simp [cut]
theorem g_cut {L:List It} {a k:Nat} (ha:a+1<L.length) (hk:k+1<L.length):g (cut L a) k=if k=a then g L (L.length-1) else g L k:=by
 unfold cut
 rw [g_set (by simp;omega)]
 split
 ·rfl
 ·unfold g
  rw [List.getD_eq_getElem?_getD,List.getD_eq_getElem?_getD,List.getElem?_take,if_pos (by omega)]
theorem cut_down {L:List It} (h:HeapOrd L) {a:Nat} (ha:a+1<L.length) (k:a=0\/ahd (g L (L.length-1)) (g L (par a))=false):DownOrd (cut L a) a:=by
 constructor
 ·intro j j0 hj hpa
  rw [cut_len] at hj
  have hp:=par_lt j0
  rw [g_cut ha (by omega),g_cut ha (by omega),if_neg hpa]
  by_cases e:j=a
  ·rw [if_pos e,e]
   rcases k with k | k
   ·omega
   ·exact k
  ·rw [if_neg e];exact h j j0 (by omega)
 ·intro j j0 hj e a0
  rw [cut_len] at hj
  have hp:=par_lt j0
  have hp2:=par_lt a0
  rw [g_cut ha (by omega),g_cut ha (by omega),if_neg (by omega),if_neg (by omega)]
  have h1:=h j j0 (by omega)
  rw [e] at h1
  exact no_trans h1 (h a a0 (by omega))
theorem cut_still {L:List It} (h:HeapOrd L) {a:Nat} (ha:a+1<L.length) (a0:0<a) (k:ahd (g L (L.length-1)) (g L (par a))=true) :
  (∀ j,0<j->j<(cut L a).length->par j=a->ahd (g (cut L a) j) (g (cut L a) a)=false)/\UpOrd (cut L a) a:=by
 have hch:∀ j,0<j->j<(cut L a).length->par j=a->ahd (g L j) (g L (par a))=false:=fun j j0 hj e => by
  rw [cut_len] at hj
  have h1:=h j j0 (by omega)
  rw [e] at h1
  exact no_trans h1 (h a a0 (by omega))
 refine ⟨fun j j0 hj e => ?_,⟨fun j j0 hj hja => ?_,fun j j0 hj e _ => ?_⟩⟩
 ·have h1:=hch j j0 hj e
  rw [cut_len] at hj
  have hp:=par_lt j0
  rw [g_cut ha (by omega),g_cut ha (by omega),if_neg (by omega),if_pos rfl]
  exact no_of_lt h1 k
 ·have hj':=hj
  rw [cut_len] at hj
  have hp:=par_lt j0
  rw [g_cut ha (by omega),g_cut ha (by omega),if_neg hja]
  by_cases e:par j=a
  ·rw [if_pos e];exact no_of_lt (hch j j0 hj' e) k
  ·rw [if_neg e];exact h j j0 (by omega)
 ·have h1:=hch j j0 hj e
  rw [cut_len] at hj
  have hp:=par_lt j0
  have hp2:=par_lt a0
  rw [g_cut ha (by omega),g_cut ha (by omega),if_neg (by omega),if_neg (by omega)]
  exact h1
theorem cut_perm {L:List It} {a:Nat} (ha:a+1<L.length):List.Perm (g L a :: cut L a) L:=by
 obtain ⟨M,x,rfl⟩:∃ M x,L=M ++ [x]:=⟨L.dropLast,L.getLast (by intro e;rw [e] at ha;simp at ha),(List.dropLast_concat_getLast _).symm⟩
 rw [List.length_append,List.length_singleton] at ha
 have haM:a<M.length:=by omega
 have e1:g (M ++ [x]) a=M[a]:=by rw [g_eq (by simp;omega),List.getElem_append_left haM]
 have e2:cut (M ++ [x]) a=M.set a x:=by
  unfold cut
  rw [g_eq (by simp)]
  simp
 rw [e1,e2]
 obtain ⟨s,t,hM,hs⟩:∃ s t,M=s ++ M[a] :: t/\s.length=a:=⟨M.take a,M.drop (a+1),by rw [List.getElem_cons_drop,List.take_append_drop],by simp;omega⟩
 have e3:M.set a x=s ++ x :: t:=by
  conv => lhs;rw [hM]
  rw [List.set_append_right _ _ (by omega),hs,Nat.sub_self];rfl
 rw [e3]
 conv => rhs;rw [hM]
 generalize M[a]=y
 have h1:List.Perm (y :: (s ++ x :: t)) (y :: (s ++ (t ++ [x]))):=by
  refine List.Perm.cons _ (List.Perm.append_left _ ?_)
  exact (List.perm_append_comm (l₁:=[x]) (l₂:=t))
 refine h1.trans ?_
 rw [<- List.append_assoc]
 have h2:List.Perm (y :: (s ++ t)) (s ++ y :: t):=(List.perm_middle).symm
 have h3:=h2.append_right [x]
 simpa using h3
theorem last_perm {L:List It} (h:0<L.length):List.Perm (g L (L.length-1) :: L.take (L.length-1)) L:=by
 obtain ⟨M,x,rfl⟩:∃ M x,L=M ++ [x]:=⟨L.dropLast,L.getLast (by intro e;rw [e] at h;simp at h),(List.dropLast_concat_getLast _).symm⟩
 have e1:g (M ++ [x]) ((M ++ [x]).length-1)=x:=by rw [g_eq (by simp)];simp
 rw [e1]
 have e2:(M ++ [x]).take ((M ++ [x]).length-1)=M:=by simp
 rw [e2]
 exact List.perm_append_comm (l₁:=[x]) (l₂:=M)
theorem HeapOrd.take {L:List It} (h:HeapOrd L) (n:Nat):HeapOrd (L.take n):=by
 have hg:∀ k,k<(L.take n).length->g (L.take n) k=g L k:=fun k hk => by
  unfold g
  rw [List.length_take] at hk
  rw [List.getD_eq_getElem?_getD,List.getD_eq_getElem?_getD,List.getElem?_take,if_pos (by omega)]
 intro k k0 hk
 have hp:=par_lt k0
 rw [hg k hk,hg _ (by omega)]
 exact h k k0 (by rw [List.length_take] at hk;omega)
structure Good (L:List It) (n:Nat):Prop where
 nodup:(L.map Prod.fst).Nodup
 range:∀ x ∈ L,0<=x.1/\x.1<(n:Int)
theorem Good.perm {L L':List It} {n:Nat} (h:Good L n) (hp:List.Perm L' L):Good L' n :=
 ⟨(hp.map Prod.fst).nodup_iff.2 h.nodup,fun x hx => h.range x (hp.mem_iff.1 hx)⟩
theorem Good.inj {L:List It} {n:Nat} (h:Good L n) {i j:Nat} (hi:i<L.length) (hj:j<L.length) (e:(g L i).1=(g L j).1):i=j:=by
 have hp:=List.pairwise_iff_getElem.1 h.nodup
 rw [g_eq hi,g_eq hj] at e
 rcases Nat.lt_trichotomy i j with h1 | h1 | h1
 ·exact absurd (by rw [List.getElem_map,List.getElem_map];exact e) (hp i j (by simpa using hi) (by simpa using hj) h1)
 ·exact h1
 ·exact absurd (by rw [List.getElem_map,List.getElem_map];exact e.symm) (hp j i (by simpa using hj) (by simpa using hi) h1)
structure Pos (ats:List Int) (L:List It) (n:Nat) (c:Nat):Prop where
 len:ats.length=n
 here:∀ k,k<L.length->k≠c->ats.getD (g L k).1.toNat 0=(k:Int)
 gone:∀ i:Nat,i<n->(∀ k,k<L.length->(g L k).1≠(i:Int))->ats.getD i 0 = -1
theorem getD_set {l:List Int} {i k:Nat} {x d:Int} (h:i<l.length):(l.set i x).getD k d=if k=i then x else l.getD k d:=by
 rw [List.getD_eq_getElem?_getD,List.getD_eq_getElem?_getD,List.getElem?_set]
 by_cases e:i=k
 ·subst e;rw [if_pos rfl,if_pos rfl,if_pos h];rfl
 ·rw [if_neg e,if_neg (fun h => e h.symm)]
theorem Pos.move {ats:List Int} {L:List It} {n c d:Nat} (h:Pos ats L n c) (hG:Good L n) (hc:c<L.length) (hd:d<L.length) (hcd:c≠d):Pos (ats.set (g L d).1.toNat (c:Int)) (sw L c d) n d:=by
 have hr:=hG.range _ (g_mem hd)
 have hl:(g L d).1.toNat<ats.length:=by rw [h.len];omega
 refine ⟨by simp [h.len],fun k hk hkd => ?_,fun i hi hno => ?_⟩
 ·rw [sw_len] at hk
  rw [g_sw hc hd hcd,if_neg hkd,getD_set hl]
  by_cases e:k=c
  ·rw [if_pos e,if_pos rfl,e]
  ·rw [if_neg e]
   have hrk:=hG.range _ (g_mem hk)
   rw [if_neg (fun e2 => hkd (hG.inj hk hd (by omega)))]
   exact h.here k hk e
 ·have hno':∀ k,k<L.length->(g L k).1≠(i:Int):=fun k hk => by
   obtain ⟨j,hj,e⟩:=g_of_mem ((sw_perm hc hd).mem_iff.2 (g_mem hk))
   rw [<- e];exact hno j hj
  have:=hno' d hd
  rw [getD_set hl,if_neg (by omega)]
  exact h.gone i hi hno'
theorem Pos.fill {ats:List Int} {L:List It} {n c:Nat} (h:Pos ats L n c) (hG:Good L n) (hc:c<L.length):Pos (ats.set (g L c).1.toNat (c:Int)) L n L.length:=by
 have hr:=hG.range _ (g_mem hc)
 have hl:(g L c).1.toNat<ats.length:=by rw [h.len];omega
 refine ⟨by simp [h.len],fun k hk _ => ?_,fun i hi hno => ?_⟩
 ·rw [getD_set hl]
  by_cases e:k=c
  ·rw [e,if_pos rfl]
  ·have hrk:=hG.range _ (g_mem hk)
   rw [if_neg (fun e2 => e (hG.inj hk hc (by omega)))]
   exact h.here k hk e
 ·have:=hno c hc
  rw [getD_set hl,if_neg (by omega)]
  exact h.gone i hi hno
end Hp
end
section
open Go.RowKit
namespace Hp
def encI (x:It):List Value:=[.int .i64 x.1,.int .i64 x.2]
def encL (L:List It):List Value:=L.flatMap encI
theorem encL_len (L:List It):(encL L).length=L.length * 2:=by
 induction L with
 | nil => rfl
 | cons a r ih => simp [encL,encI] at ih ⊢;omega
theorem encL_cons (a:It) (r:List It):encL (a :: r) = .int .i64 a.1 :: .int .i64 a.2 :: encL r:=rfl
theorem encL_at:∀ (L:List It) (k:Nat),k<L.length->(encL L)[k * 2]? = some (.int .i64 (g L k).1)/\(encL L)[k * 2+1]? = some (.int .i64 (g L k).2)
 | a :: r,0,_ => ⟨rfl,rfl⟩
 | a :: r,k+1,h => by
  have ih:=encL_at r k (by simpa using h)
  rw [encL_cons,show (k+1) * 2=k * 2+1+1 by omega]
  exact ⟨by simpa [g] using ih.1,by simpa [g] using ih.2⟩
theorem encL_set:∀ (L:List It) (k:Nat) (x:It),encL (L.set k x)=((encL L).set (k * 2) (.int .i64 x.1)).set (k * 2+1) (.int .i64 x.2)
 | [],_,_ => by simp [encL]
 | a :: r,0,x => by simp [encL,encI]
 | a :: r,k+1,x => by
  rw [List.set_cons_succ,encL_cons,encL_cons,show (k+1) * 2=k * 2+1+1 by omega,encL_set r k x]
  simp
theorem encL_take:∀ (L:List It) (k:Nat),encL (L.take k)=(encL L).take (k * 2)
 | [],_ => by simp [encL]
 | a :: r,0 => by simp [encL]
 | a :: r,k+1 => by
  rw [List.take_succ_cons,encL_cons,encL_cons,show (k+1) * 2=k * 2+1+1 by omega,encL_take r k]
  simp
def vI (n:Int):Value:=.int .i64 n
structure QAt (lo H hb ga ca:Nat) (v:Value) (M:List It) (ats:List Int) (w:World):Prop where
 top:w.heap[H]? = some (.cells #[v,.func (.func 205) #[] #[],.func (.func 206) #[] #[.pointer (some ⟨hb,0,none⟩)],.slice (some ⟨ga,0,none⟩) ats.length ca] 318 (0,0))
 box:w.heap[hb]? = some (.cells #[.pointer (some ⟨H,0,none⟩)] 215 (0,0))
 row:w.ownsRow lo 320 2 v M.length (encL M)
 at_:w.ownsRow lo 3 1 (.slice (some ⟨ga,0,none⟩) ats.length ca) ats.length (ats.map vI)
 loH:lo<=H
 loB:lo<=hb
def Ft (H ga:Nat) (v:Value) (k:Nat):Prop:=k=H\/k=ga\/v.ownBlock=some k
theorem row_cells {w:World} {base e n:Nat} {v:Value} {M:List It} (h:w.ownsRow base e 2 v n (encL M)) (hn:M.length=n) (h0:0<n) :
  ∃ gv cap,v = .slice (some ⟨gv,0,none⟩) n cap/\n<=cap/\base<=gv/\gv<w.heap.size/\(∀ k,k<n->w.cell? ⟨gv,k * 2,none⟩=some (.int .i64 (g M k).1)/\w.cell? ⟨gv,k * 2+1,none⟩=some (.int .i64 (g M k).2))/\(∀ j,w.frozen? ⟨gv,j,none⟩=false) /\
   w.heap[gv]?.map (fun o => match o with | .cells _ t _ => t | _ => 0)=some e:=by
 obtain ⟨hl,h2⟩:=h
 rcases h2 with ⟨_,h2⟩ | ⟨gv,cap,cur,rfl,h3,h4,h5,h6,h7,h8⟩
 ·omega
 ·have ho:w.ownsRow base e 2 (.slice (some ⟨gv,0,none⟩) n cap) n (encL M):=⟨hl,.inr ⟨gv,cap,cur,rfl,h3,h4,h5,h6,h7,h8⟩⟩
  refine ⟨gv,cap,rfl,h5,h3,(zx h4),fun k hk => ?_,fun j => World.ownsRow.frozenAt ho j,by rw [h4];rfl⟩
  have e:=encL_at M k (by omega)
  rw [<- e.1,<- e.2]
  exact ⟨World.ownsRow.cellAt ho (k * 2) (by omega),World.ownsRow.cellAt ho (k * 2+1) (by omega)⟩
end Hp
end
end Go.Proofs.YtimhglmfckfclaaGreatDoor
