/- Parts of the proof. -/
import Derived.Test.YtimhglmfckfclaaGreatDoorM9
set_option linter.unusedVariables false
set_option linter.unusedSimpArgs false
set_option maxRecDepth 100000
set_option maxHeartbeats 16000000
namespace Go.Proofs.YtimhglmfckfclaaGreatDoor
section
namespace Fr
open Vw (Sess)
open Ex (Ent itm wo)
open Hp (ahd)
section
variable {S:List Slt} {free:List Int} {roots garb:Int} {R G:List Int} {K:Int->List Int} {pl:Int->Pl}
def newSlt (s:Sess):Slt:=⟨true,false,-1,-1,-1,s⟩
def layS (S:List Slt) (roots:Int) (s:Sess):List Slt :=
 let i:=s.slot
 let S0:=put S i (newSlt s)
 let S1:=pushS S0 (if s.ub=0 then roots else (sl S0 s.us).kids) i
 let S2:=put S1 i { sl S1 i with kids:=-1,s:={ (sl S1 i).s with us:=if s.ub=0 then 0 else s.us,ub:=s.ub } }
 if s.ub=0 then S2 else put S2 s.us { sl S2 s.us with kids:=i }
theorem Shape.laid (h:Shape S free roots garb R G K pl) {s:Sess} {x:Pl} (hi:thr s.slot=true) (hf:pl s.slot = .fr)
  (hx:x = .rt/\s.us=0/\s.ub=0\/∃ p,x = .kd p/\thr p=true/\pl p≠.fr/\s.ub≠0/\s.us=p) :
  canPush (put S s.slot (newSlt s)) (if s.ub=0 then roots else (sl (put S s.slot (newSlt s)) s.us).kids) s.slot=true /\
  Shape (layS S roots s) (free.erase s.slot) (if s.ub=0 then s.slot else roots) garb (if x = .rt then R ++ [s.slot] else R) G (fun p => if x = .kd p then K p ++ [s.slot] else K p) (plLay pl s.slot x) /\
  ∀ j,thr j=true->cor (layS S roots s) j=if j=s.slot then (true,false,s) else cor S j:=by
 obtain ⟨i,ei⟩:∃ i,i=s.slot:=⟨_,rfl⟩
 have xnf:x≠.fr:=by rcases hx with ⟨rfl,_⟩ | ⟨p,rfl,_⟩ <;> simp
 have xng:x≠.gb:=by rcases hx with ⟨rfl,_⟩ | ⟨p,rfl,_⟩ <;> simp
 rw [<- ei] at hi hf ⊢
 have hiR:i ∉ R:=fun e => by have:=((h.rmem i).1 e).2;rw [hf] at this;cases this
 have hiG:i ∉ G:=fun e => by have:=((h.gmem i).1 e).2;rw [hf] at this;cases this
 have hiK:∀ p,i ∉ K p:=fun p e => by have:=((h.kmem p i).1 e).2;rw [hf] at this;cases this
 have hKi:K i=[]:=by
  rcases List.eq_nil_or_concat (K i) with e | ⟨a,b,e⟩
  ·exact e
  ·have hb:=(h.kmem i b).1 (by rw [e];simp)
   exact absurd hf (h.kpar b i hb.1 hb.2).2
 obtain ⟨S0,hS0⟩:∃ S0,S0=put S i (newSlt s):=⟨_,rfl⟩
 have l0:S0.length=32:=by rw [hS0,put_len,h.len]
 have same0:∀ y,thr y=true->y≠i->sl S0 y=sl S y:=fun y hy hn => by rw [hS0,sl_put_ne _ h.len i y _ hi hy (Ne.symm hn)]
 have self0:sl S0 i=newSlt s:=by rw [hS0,sl_put_same _ h.len i _ hi]
 have out0:∀ last L,RingAt S last L->(∀ y ∈ L,thr y=true)->i ∉ L->RingAt S0 last L:=fun last L hr ht hn => by rw [hS0];exact hr.put_out h.len ht hi hn _
 have kids0:∀ p,thr p=true->pl p≠.fr->(sl S0 p).kids=(sl S p).kids:=fun p hp hn => by rw [same0 p hp (fun e => hn (by rw [e,hf]))]
 have rR0:=out0 _ _ h.rR h.rthr hiR
 have rG0:=out0 _ _ h.rG h.gthr hiG
 have rK0:∀ p,thr p=true->pl p≠.fr->RingAt S0 (sl S0 p).kids (K p):=fun p hp hn => by rw [kids0 p hp hn];exact out0 _ _ (h.rK p hp hn) (h.kthr p) (hiK p)
 have usd:(if s.ub=0 then 0 else s.us)=s.us:=by
  rcases hx with ⟨_,h1,h2⟩ | ⟨p,_,_,_,h1,_⟩
  ·rw [if_pos h2,h1]
  ·rw [if_neg h1]
 obtain ⟨lst,hlst⟩:∃ lst,lst=(if s.ub=0 then roots else (sl S0 s.us).kids):=⟨_,rfl⟩
 -- the ring in which it is hung
 obtain ⟨L,hL,htL,hdL,hiL,hsel⟩:∃ L,RingAt S0 lst L/\(∀ y ∈ L,thr y=true)/\L.Nodup/\i ∉ L/\((x = .rt/\L=R)\/∃ p,x = .kd p/\thr p=true/\pl p≠.fr/\s.us=p/\s.ub≠0/\L=K p):=by
  rcases hx with ⟨h1,h2,h3⟩ | ⟨p,h1,h2,h3,h4,h5⟩
  ·rw [if_pos h3] at hlst;subst hlst
   exact ⟨R,rR0,h.rthr,h.rnd,hiR,.inl ⟨h1,rfl⟩⟩
  ·rw [if_neg h4,h5] at hlst;subst hlst
   exact ⟨K p,rK0 p h2 h3,h.kthr p,h.knd p,hiK p,.inr ⟨p,h1,h2,h3,h5,h4,rfl⟩⟩
 have cp:canPush S0 lst i=true:=hL.canPush htL hi hiL
 obtain ⟨S1,hS1⟩:∃ S1,S1=pushS S0 lst i:=⟨_,rfl⟩
 have l1:S1.length=32:=by rw [hS1,push_len,l0]
 have rL1:RingAt S1 i (L ++ [i]):=by rw [hS1];exact ring_push l0 hL htL hdL hi hiL
 have far1:∀ last M,RingAt S0 last M->(∀ y ∈ M,thr y=true)->(∀ y ∈ M,y ∉ L/\y≠i)->RingAt S1 last M:=fun last M hr ht hd => by rw [hS1];exact ring_push_far l0 hL htL hi hiL hr ht hd
 have sc1:∀ y,thr y=true->∃ a b,sl S1 y={ sl S0 y with prev:=a,next:=b }:=fun y hy => by rw [hS1];exact push_core l0 cp y hy
 have tLi:∀ y ∈ L ++ [i],thr y=true:=fun y hy => by
  rcases List.mem_append.1 hy with hy | hy
  ·exact htL y hy
  ·rw [List.mem_singleton.1 hy];exact hi
 obtain ⟨S2,hS2⟩:∃ S2,S2=put S1 i { sl S1 i with kids:=-1,s:=s }:=⟨_,rfl⟩
 have l2:S2.length=32:=by rw [hS2,put_len,l1]
 have lk2:∀ last M,RingAt S1 last M->(∀ y ∈ M,thr y=true)->RingAt S2 last M:=fun last M hr ht => by rw [hS2];exact hr.put_link l1 ht hi rfl rfl
 have s1i:(sl S1 i).s=s:=by
  obtain ⟨a,b,e⟩:=sc1 i hi
  rw [e,self0];rfl
 have eL:layS S roots s=if s.ub=0 then S2 else put S2 s.us { sl S2 s.us with kids:=i }:=by
  unfold layS
  simp only
  rw [<- ei,<- hS0,<- hlst,<- hS1,usd,s1i,<- hS2]
 have sl2:∀ y,thr y=true->sl S2 y=if i=y then { sl S1 i with kids:=-1,s:=s } else sl S1 y:=fun y hy => by rw [hS2,sl_put _ l1 i y _ hi (thr_iff.1 hy).1]
 -- the list of slots that comes out
 obtain ⟨T,hT,lT,lkT,kT,cT⟩:∃ T,T=layS S roots s/\T.length=32/\(∀ last M,RingAt S2 last M->(∀ y ∈ M,thr y=true)->RingAt T last M)/\(∀ y,thr y=true->(sl T y).kids=if x = .kd y then i else (sl S2 y).kids)/\(∀ y,thr y=true->∃ k,sl T y={ sl S2 y with kids:=k }):=by
  refine ⟨_,rfl,?_⟩
  rw [eL]
  rcases hsel with ⟨rfl,-⟩ | ⟨p,rfl,tp,np,e5,h4,-⟩
  ·have hb:s.ub=0:=by
    rcases hx with ⟨_,_,h3⟩ | ⟨p,h1,_⟩
    ·exact h3
    ·cases h1
   rw [if_pos hb]
   exact ⟨l2,fun _ _ hr _ => hr,fun y _ => by rw [if_neg (by simp)],fun y _ => ⟨_,rfl⟩⟩
  ·rw [if_neg h4,e5]
   refine ⟨by rw [put_len,l2],fun last M hr ht => hr.put_link l2 ht tp rfl rfl,fun y hy => ?_,fun y hy => ?_⟩
   ·rw [sl_put _ l2 p y _ tp (thr_iff.1 hy).1]
    by_cases e:p=y
    ·subst e;rw [if_pos rfl,if_pos rfl]
    ·rw [if_neg e,if_neg (fun e2 => by injection e2 with e2;exact e e2)]
   ·rw [sl_put _ l2 p y _ tp (thr_iff.1 hy).1]
    by_cases e:p=y
    ·subst e;rw [if_pos rfl];exact ⟨_,rfl⟩
    ·rw [if_neg e];exact ⟨_,rfl⟩
 have xpi:x≠.kd i:=by
  rcases hsel with ⟨rfl,-⟩ | ⟨p,rfl,tp,np,-⟩
  ·simp
  ·intro e;injection e with e;subst e;exact np hf
 have corT:∀ j,thr j=true->cor T j=if j=i then (true,false,s) else cor S j:=fun j hj => by
  obtain ⟨k,e⟩:=cT j hj
  unfold cor
  rw [e]
  by_cases e2:j=i
  ·subst e2
   rw [if_pos rfl,sl2 j hj,if_pos rfl]
   obtain ⟨a,b,e3⟩:=sc1 j hj
   rw [e3,self0];rfl
  ·rw [if_neg e2,sl2 j hj,if_neg (Ne.symm e2)]
   obtain ⟨a,b,e3⟩:=sc1 j hj
   rw [e3,same0 j hj e2]
 refine ⟨by rw [<- hS0,<- hlst];exact cp,?_,by rw [<- hT];exact corT⟩
 rw [<- hT]
 have dj:∀ y,y ∈ L->pl y=x:=fun y hy => by
  rcases hsel with ⟨rfl,rfl⟩ | ⟨p,rfl,_,_,_,_,rfl⟩
  ·exact ((h.rmem y).1 hy).2
  ·exact ((h.kmem p y).1 hy).2
 have nf:∀ j,plLay pl i x j≠.fr↔j=i\/pl j≠.fr:=fun j => by
  unfold plLay
  split
  ·rename_i e;simp [e,xnf]
  ·rename_i e;simp [e]
 refine { len:=lT,fmem:=fun j => ?_,fnd:=h.fnd.erase _,rmem:=fun j => ?_,rnd:=?_,gmem:=fun j => ?_,gnd:=h.gnd,kmem:=fun p j => ?_,knd:=fun p => ?_,kpar:=fun j p hj hk => ?_,rR:=?_,rG:=?_,rK:=fun p hp hpn => ?_,bareF:=fun j hj hjf => ?_ }
 ·rw [h.fnd.mem_erase_iff,h.fmem j];unfold plLay
  by_cases e:j=i
  ·subst e;rw [if_pos rfl];simp [xnf]
  ·rw [if_neg e];simp [e]
 ·unfold plLay
  by_cases ex:x = .rt
  ·rw [if_pos ex,List.mem_append,List.mem_singleton,h.rmem j]
   by_cases e:j=i
   ·subst e;rw [if_pos rfl];simp [hi,ex]
   ·rw [if_neg e];simp [e]
  ·rw [if_neg ex,h.rmem j]
   by_cases e:j=i
   ·subst e;rw [if_pos rfl,hf];simp [ex]
   ·rw [if_neg e]
 ·split
  ·exact List.nodup_append.2 ⟨h.rnd,by simp,fun y hy z hz e => hiR (by rw [List.mem_singleton.1 hz] at e;exact e ▸ hy)⟩
  ·exact h.rnd
 ·rw [h.gmem j];unfold plLay
  by_cases e:j=i
  ·subst e;rw [if_pos rfl,hf];simp [xng]
  ·rw [if_neg e]
 ·unfold plLay
  by_cases ex:x = .kd p
  ·rw [if_pos ex,List.mem_append,List.mem_singleton,h.kmem p j]
   by_cases e:j=i
   ·subst e;rw [if_pos rfl];simp [hi,ex]
   ·rw [if_neg e];simp [e]
  ·rw [if_neg ex,h.kmem p j]
   by_cases e:j=i
   ·subst e;rw [if_pos rfl,hf];simp [ex]
   ·rw [if_neg e]
 ·split
  ·exact List.nodup_append.2 ⟨h.knd p,by simp,fun y hy z hz e => hiK p (by rw [List.mem_singleton.1 hz] at e;exact e ▸ hy)⟩
  ·exact h.knd p
 ·unfold plLay at hk
  by_cases e:j=i
  ·rw [if_pos e] at hk
   rcases hsel with ⟨rfl,-⟩ | ⟨q,rfl,tq,nq,-⟩
   ·cases hk
   ·injection hk with hk;subst hk;exact ⟨tq,(nf q).2 (.inr nq)⟩
  ·rw [if_neg e] at hk
   obtain ⟨k1,k2⟩:=h.kpar j p hj hk
   exact ⟨k1,(nf p).2 (.inr k2)⟩
 ·rcases hsel with ⟨ex,eL2⟩ | ⟨p,ex,tp,np,e5,h4,eL2⟩
  ·have hb:s.ub=0:=by
    rcases hx with ⟨_,_,h3⟩ | ⟨p,h1,_⟩
    ·exact h3
    ·rw [ex] at h1;cases h1
   rw [if_pos hb,if_pos ex,<- eL2]
   exact lkT _ _ (lk2 _ _ rL1 tLi) tLi
  ·rw [if_neg h4,if_neg (by rw [ex];simp)]
   exact lkT _ _ (lk2 _ _ (far1 _ _ rR0 h.rthr (fun y hy => ⟨fun e => (by have:=dj y e;rw [((h.rmem y).1 hy).2,ex] at this;cases this),fun e => hiR (e ▸ hy)⟩)) h.rthr) h.rthr
 ·exact lkT _ _ (lk2 _ _ (far1 _ _ rG0 h.gthr (fun y hy => ⟨fun e => xng (by rw [<- dj y e];exact ((h.gmem y).1 hy).2),fun e => hiG (e ▸ hy)⟩)) h.gthr) h.gthr
 ·rw [kT p hp]
  by_cases ex:x = .kd p
  ·rw [if_pos ex,if_pos ex]
   rcases hsel with ⟨e,-⟩ | ⟨q,e,-,-,-,-,eL2⟩
   ·rw [ex] at e;cases e
   ·rw [ex] at e;injection e with e;subst e
    rw [<- eL2]
    exact lkT _ _ (lk2 _ _ rL1 tLi) tLi
  ·rw [if_neg ex,if_neg ex]
   by_cases e:p=i
   ·subst e
    rw [hKi,sl2 p hp,if_pos rfl]
    exact RingAt.nil _
   ·have hpn2:pl p≠.fr:=by
     rcases (nf p).1 hpn with h1 | h1
     ·exact absurd h1 e
     ·exact h1
    have e6:(sl S2 p).kids=(sl S0 p).kids:=by
     rw [sl2 p hp,if_neg (Ne.symm e)]
     obtain ⟨a,b,e3⟩:=sc1 p hp
     rw [e3]
    rw [e6]
    exact lkT _ _ (lk2 _ _ (far1 _ _ (rK0 p hp hpn2) (h.kthr p) (fun y hy => ⟨fun e => ex (by rw [<- dj y e];exact ((h.kmem p y).1 hy).2),fun e => hiK p (e ▸ hy)⟩)) (h.kthr p)) (h.kthr p)
 ·have e:j≠i:=fun e => by subst e;simp [plLay] at hjf;exact xnf hjf
  have hj2:pl j = .fr:=by unfold plLay at hjf;rwa [if_neg e] at hjf
  have hjL:j ∉ L:=fun e2 => xnf (by rw [<- dj j e2,hj2])
  have e7:sl T j=sl S2 j:=by
   rw [hT,eL]
   split
   ·rfl
   ·rename_i hb
    rcases hsel with ⟨ex,-⟩ | ⟨p,ex,tp,np,e5,-,-⟩
    ·rcases hx with ⟨_,_,h3⟩ | ⟨p,h1,_⟩
     ·exact absurd h3 hb
     ·rw [ex] at h1;cases h1
    ·rw [e5,sl_put_ne _ l2 p j _ tp hj (fun e8 => np (by rw [e8,hj2]))]
  rw [e7,sl2 j hj,if_neg (Ne.symm e),hS1,push_far l0 cp j hj e (fun h0 => ?_),same0 j hj e]
  ·exact h.bareF j hj hj2
  ·have hLne:L≠[]:=fun e2 => h0 ((hL.empty htL).2 e2)
   have hm:=hL.last_mem hLne
   obtain ⟨p,hp,n,hnn,h1,h2⟩:=hL.around hm
   exact ⟨fun e2 => hjL (e2 ▸ hm),fun e2 => hjL (by rw [e2,h2.1];exact hnn)⟩
end
end Fr
end
section
namespace Fr
open Vw (Sess)
open Ex (Ent itm wo)
open Hp (ahd)
section
variable {C:Int->Bool × Bool × Sess} {pl:Int->Pl} {births:Int} {exp:List Ent}
theorem Core.later (h:Core C pl births exp) {i p:Int} (hi:thr i=true) (hk:pl i = .kd p):(C p).2.2.birth<(C i).2.2.birth:=by
 obtain ⟨k1,k2,k3,k4,k5,k6⟩:=h.kid i p hi hk
 have hf:pl i≠.fr:=by rw [hk];simp
 have h6:=(mayS_iff.1 (h.may i hi hf).1).2.2.2.2.2.2
 have hb:=h.birth1 k1 k2
 rcases h6 with ⟨_,⟨_,h7⟩,_⟩ | ⟨_,_,_,_,⟨_,h7⟩,_⟩
 ·rw [k4] at h7;omega
 ·rw [k4] at h7;omega
theorem Core.sub_birth (h:Core C pl births exp) {a i:Int} (hs:Sub pl a i) (hi:thr i=true):a=i\/(C a).2.2.birth<(C i).2.2.birth:=by
 induction hs with
 | refl => exact .inl rfl
 | step hk _ ih =>
  have h1:=h.later hi hk
  rcases ih (h.kid _ _ hi hk).1 with e | h2
  ·rw [e];exact .inr h1
  ·exact .inr (by omega)
theorem Sub.trans {a b c:Int} (h1:Sub pl a b) (h2:Sub pl b c):Sub pl a c:=by
 induction h2 with
 | refl => exact h1
 | step hk _ ih => exact .step hk ih
theorem Sub.line {a b c:Int} (h1:Sub pl a c) (h2:Sub pl b c):Sub pl a b\/Sub pl b a:=by
 induction h1 with
 | refl => exact .inr h2
 | step hk h ih =>
  rename_i i p
  cases h2 with
  | refl => exact .inl (.step hk h)
  | step hk2 h3 =>
   rw [hk] at hk2;injection hk2 with e;subst e
   exact ih h3
theorem Lv.up {a i:Int} (h:Lv pl i) (hs:Sub pl a i):Lv pl a:=by
 induction hs with
 | refl => exact h
 | step hk _ ih =>
  refine ih ?_
  cases h with
  | root h2 => rw [hk] at h2;cases h2
  | kid h2 h3 => rw [hk] at h2;injection h2 with e;subst e;exact h3
theorem Lv.down {a i:Int} (h:Lv pl a) (hs:Sub pl a i):Lv pl i:=by
 induction hs with
 | refl => exact h
 | step hk _ ih => exact .kid hk ih
theorem Core.lv_or (h:Core C pl births exp):∀ (n:Nat) (i:Int),thr i=true->pl i≠.fr->(C i).2.2.birth<=n->Lv pl i\/∃ g,thr g=true/\pl g = .gb/\Sub pl g i
 | 0,i,hi,hf,hn => by have:=h.birth1 hi hf;omega
 | n+1,i,hi,hf,hn => by
  cases hp:pl i with
  | fr => exact absurd hp hf
  | rt => exact .inl (.root hp)
  | gb => exact .inr ⟨i,hi,hp,.refl⟩
  | kd p =>
   obtain ⟨k1,k2,_⟩:=h.kid i p hi hp
   have h1:=h.later hi hp
   rcases Core.lv_or h n p k1 k2 (by omega) with h2 | ⟨g,g1,g2,g3⟩
   ·exact .inl (.kid hp h2)
   ·exact .inr ⟨g,g1,g2,.step hp g3⟩
theorem Core.all_live (h:Core C pl births exp) (hg:∀ i,thr i=true->pl i≠.gb) {i:Int} (hi:thr i=true) (hf:pl i≠.fr):Lv pl i:=by
 have:=h.birth1 hi hf
 rcases h.lv_or (C i).2.2.birth.toNat i hi hf (by omega) with h1 | ⟨g,g1,g2,_⟩
 ·exact h1
 ·exact absurd g2 (hg g g1)
end
theorem nodup_le:∀ {l m:List Int},l.Nodup->(∀ x ∈ l,x ∈ m)->l.length<=m.length
 | [],_,_,_ => Nat.zero_le _
 | a :: t,m,h,hs => by
  have h1:=List.nodup_cons.1 h
  have ha:=hs a (by simp)
  have:=nodup_le (l:=t) (m:=m.erase a) h1.2 (fun x hx => (List.mem_erase_of_ne (fun e => h1.1 (by rw [<- e];exact hx))).2 (hs x (List.mem_cons_of_mem _ hx)))
  rw [List.length_erase_of_mem ha] at this
  have hp:=List.length_pos_of_mem ha
  simp only [List.length_cons];omega
def ids:List Int:=(List.range 32).map Int.ofNat
theorem mem_ids {i : Int} : i ∈ ids ↔ thr i = true := by
  rw [thr_iff]
  unfold ids
  simp only [List.mem_map, List.mem_range]
  constructor
  · rintro ⟨n, hn, rfl⟩
    exact ⟨Int.natCast_nonneg n, by have : ((n : Nat) : Int) < 32 := by omega
                                    exact this⟩
  · rintro ⟨h1, h2⟩
    exact ⟨i.toNat, by omega, by show ((i.toNat : Nat) : Int) = i; omega⟩
theorem ids_nd:ids.Nodup:=by decide
theorem ids_len:ids.length=32:=by decide
def IsN (st:FS) (A:List Sess):Prop :=
 ∃ R G K pl,Wf st R G K pl/\(A.Pairwise fun x y => x.birth<y.birth)/\∀ s,s ∈ A↔∃ i,thr i=true/\Lv pl i/\(sl st.S i).s=s
def Is (st:FS) (A:List Sess):Prop:=IsN st A/\∀ e ∈ st.exp,st.clock<e.2.2
theorem sorted_ext:∀ {A B:List Sess},(A.Pairwise fun x y => x.birth<y.birth)->(B.Pairwise fun x y => x.birth<y.birth)->(∀ s,s ∈ A↔s ∈ B)->A=B
 | [],[],_,_,_ => rfl
 | [],b :: t,_,_,h => by have:=(h b).2 (by simp);cases this
 | a :: r,[],_,_,h => by have:=(h a).1 (by simp);cases this
 | a :: r,b :: t,h1,h2,h => by
  have p1:=List.pairwise_cons.1 h1
  have p2:=List.pairwise_cons.1 h2
  have e:a=b:=by
   rcases List.mem_cons.1 ((h a).1 (by simp)) with e | e
   ·exact e
   ·rcases List.mem_cons.1 ((h b).2 (by simp)) with e2 | e2
    ·exact e2.symm
    ·have:=p1.1 b e2;have:=p2.1 a e;omega
  subst e
  refine congrArg _ (sorted_ext p1.2 p2.2 (fun s => ?_))
  constructor
  ·intro hs
   rcases List.mem_cons.1 ((h s).1 (List.mem_cons_of_mem _ hs)) with e | e
   ·subst e;have:=p1.1 s hs;omega
   ·exact e
  ·intro hs
   rcases List.mem_cons.1 ((h s).2 (List.mem_cons_of_mem _ hs)) with e | e
   ·subst e;have:=p2.1 s hs;omega
   ·exact e
theorem IsN.birth_inj {st:FS} {A:List Sess} (h:IsN st A) {s t:Sess} (hs:s ∈ A) (ht:t ∈ A) (e:s.birth=t.birth):s=t:=by
 obtain ⟨R,G,K,pl,hw,_,hm⟩:=h
 obtain ⟨i,i1,i2,rfl⟩:=(hm s).1 hs
 obtain ⟨j,j1,j2,rfl⟩:=(hm t).1 ht
 rw [hw.co.inj i j i1 j1 i2.nf.1 j2.nf.1 e]
theorem IsN.may {st:FS} {A:List Sess} (h:IsN st A) {s:Sess} (hs:s ∈ A):mayS s=true/\s.birth<=st.births/\(s.slot,s.birth,s.dl) ∈ st.exp/\(sl st.S s.slot).s=s/\thr s.slot=true:=by
 obtain ⟨R,G,K,pl,hw,_,hm⟩:=h
 obtain ⟨i,i1,i2,rfl⟩:=(hm s).1 hs
 obtain ⟨m1,m2,m3⟩:=hw.co.may i i1 i2.nf.1
 have m2':(sl st.S i).s.slot=i:=m2
 have:=hw.co.exs i i1 i2
 exact ⟨m1,m3,by rw [m2'];exact this,by rw [m2'],by rw [m2'];exact i1⟩
theorem IsN.lives_iff {st:FS} {A:List Sess} (h:IsN st A) (i b:Int):lives st.S i b=true↔∃ s ∈ A,s.slot=i/\s.birth=b:=by
 obtain ⟨R,G,K,pl,hw,_,hm⟩:=h
 rw [hw.co.lives_iff]
 constructor
 ·rintro ⟨h1,h2,h3⟩
  exact ⟨_,(hm _).2 ⟨i,h1,h2,rfl⟩,(hw.co.may i h1 h2.nf.1).2.1,h3⟩
 ·rintro ⟨s,hs,h1,h2⟩
  obtain ⟨j,j1,j2,rfl⟩:=(hm s).1 hs
  have e:(sl st.S j).s.slot=j:=(hw.co.may j j1 j2.nf.1).2.1
  rw [e] at h1;subst h1
  exact ⟨j1,j2,h2⟩
def dead (st:FS) (A:List Sess):Nat:=32-st.free.length-A.length
theorem IsN.count {st:FS} {A:List Sess} (h:IsN st A):st.free.length+A.length<=32/\(st.garb = -1->st.free.length+A.length=32)/\(st.garb≠-1->st.free.length+A.length<32):=by
 obtain ⟨R,G,K,pl,hw,hp,hm⟩:=h
 have hnd:A.Nodup:=hp.imp (fun h e => by rw [e] at h;omega)
 have hsub:(st.free ++ A.map (·.slot)).Nodup/\∀ x ∈ st.free ++ A.map (·.slot),x ∈ ids:=by
  refine ⟨List.nodup_append.2 ⟨hw.sh.fnd,?_,fun x hx y hy e => ?_⟩,fun x hx => ?_⟩
  ·rw [List.nodup_iff_pairwise_ne,List.pairwise_map]
   have h2:=List.Pairwise.and_mem.1 hp
   refine h2.imp (fun {a b} ⟨ha,hb,hab⟩ e => ?_)
   obtain ⟨i,i1,i2,rfl⟩:=(hm a).1 ha
   obtain ⟨j,j1,j2,rfl⟩:=(hm b).1 hb
   have e1:(sl st.S i).s.slot=i:=(hw.co.may i i1 i2.nf.1).2.1
   have e2:(sl st.S j).s.slot=j:=(hw.co.may j j1 j2.nf.1).2.1
   rw [e1,e2] at e;subst e;omega
  ·subst e
   obtain ⟨s,hs,e⟩:=List.mem_map.1 hy
   obtain ⟨i,i1,i2,rfl⟩:=(hm s).1 hs
   have e1:(sl st.S i).s.slot=i:=(hw.co.may i i1 i2.nf.1).2.1
   rw [e1] at e;subst e
   exact i2.nf.1 ((hw.sh.fmem i).1 hx).2
  ·rw [mem_ids]
   rcases List.mem_append.1 hx with hx | hx
   ·exact ((hw.sh.fmem x).1 hx).1
   ·obtain ⟨s,hs,e⟩:=List.mem_map.1 hx
    obtain ⟨i,i1,i2,rfl⟩:=(hm s).1 hs
    have e1:(sl st.S i).s.slot=i:=(hw.co.may i i1 i2.nf.1).2.1
    rw [e1] at e;subst e;exact i1
 have hle:=nodup_le hsub.1 hsub.2
 simp only [List.length_append,List.length_map,ids_len] at hle
 refine ⟨hle,fun hg => ?_,fun hg => ?_⟩
 ·have hG:=(hw.sh.rG.empty hw.sh.gthr).1 hg
  have hng:∀ i,thr i=true->pl i≠.gb:=fun i hi e => by
   have:=(hw.sh.gmem i).2 ⟨hi,e⟩;rw [hG] at this;cases this
  have h3:=nodup_le (m:=st.free ++ A.map (·.slot)) ids_nd (fun x hx => ?_)
  ·simp only [List.length_append,List.length_map,ids_len] at h3
   omega
  ·have tx:=mem_ids.1 hx
   by_cases hf:pl x = .fr
   ·exact List.mem_append_left _ ((hw.sh.fmem x).2 ⟨tx,hf⟩)
   ·have hl:=hw.co.all_live hng tx hf
    refine List.mem_append_right _ (List.mem_map.2 ⟨_,(hm _).2 ⟨x,tx,hl,rfl⟩,(hw.co.may x tx hf).2.1⟩)
 ·have hG:G≠[]:=fun e => hg ((hw.sh.rG.empty hw.sh.gthr).2 e)
  have hm2:=hw.sh.rG.last_mem hG
  obtain ⟨t1,t2⟩:=(hw.sh.gmem _).1 hm2
  have h4:(st.garb :: (st.free ++ A.map (·.slot))).Nodup:=by
   refine List.nodup_cons.2 ⟨fun hx => ?_,hsub.1⟩
   rcases List.mem_append.1 hx with hx | hx
   ·have:=((hw.sh.fmem _).1 hx).2;rw [t2] at this;cases this
   ·obtain ⟨s,hs,e⟩:=List.mem_map.1 hx
    obtain ⟨i,i1,i2,rfl⟩:=(hm s).1 hs
    have e1:(sl st.S i).s.slot=i:=(hw.co.may i i1 i2.nf.1).2.1
    rw [e1] at e;subst e;exact i2.nf.2 t2
  have h5:=nodup_le (m:=ids) h4 (fun x hx => by
   rcases List.mem_cons.1 hx with e | hx
   ·rw [e,mem_ids];exact t1
   ·exact hsub.2 x hx)
  simp only [List.length_cons,List.length_append,List.length_map,ids_len] at h5
  omega
end Fr
end
section
namespace Fr
open Vw (Sess)
open Ex (Ent itm wo)
open Hp (ahd)
theorem wf_new : Wf newF [] [] (fun _ => []) (fun _ => .fr) where
  sh := { len := by decide, fmem := fun i => by
            show i ∈ (List.range 32).map Int.ofNat ↔ _
            have := mem_ids (i := i); unfold ids at this; rw [this]; simp
          fnd := by decide, rmem := by simp, rnd := by simp, gmem := by simp, gnd := by simp, kmem := by simp, knd := by simp, kpar := by simp, rR := RingAt.nil _, rG := RingAt.nil _, rK := fun p _ h => absurd rfl h
          bareF := fun i hi _ => by
            have := thr_iff.1 hi
            show (List.replicate 32 bare).getD i.toNat bare = bare
            rw [List.getD_eq_getElem?_getD, List.getElem?_replicate, if_pos (by omega)]; rfl }
  co := { used := fun i hi => by
            have := thr_iff.1 hi
            show ((List.replicate 32 bare).getD i.toNat bare).used = true ↔ _
            rw [List.getD_eq_getElem?_getD, List.getElem?_replicate, if_pos (by omega)]; simp [bare]
          may := fun i _ h => absurd rfl h, kid := by simp, root := by simp, garbd := by simp, inj := fun i j _ _ h => absurd rfl h, bir := by decide
          exs := fun i _ h => absurd rfl h.nf.1, exd := (by intro e he; cases he), exn := by simp [newF], exo := by simp [newF] }
  clk := by decide
theorem is_new:Is newF []:=⟨⟨_,_,_,_,wf_new,List.Pairwise.nil,fun s => ⟨fun h => (by cases h),fun ⟨i,_,h,_⟩ => absurd rfl h.nf.1⟩⟩,fun e he => (by cases he)⟩
inductive Anc (A:List Sess) (b:Int):Sess->Prop
 | self {x:Sess}:x ∈ A->x.birth=b->Anc A b x
 | step {x p:Sess}:x ∈ A->p ∈ A->x.ub=p.birth->Anc A b p->Anc A b x
open Classical in
noncomputable def cutA (A:List Sess) (b:Int):List Sess:=A.filter fun x => !decide (Anc A b x)
theorem mem_cutA {A:List Sess} {b:Int} {s:Sess}:s ∈ cutA A b↔s ∈ A/\¬ Anc A b s:=by unfold cutA;simp
theorem cutA_sorted {A:List Sess} (h:A.Pairwise fun x y => x.birth<y.birth) (b:Int):(cutA A b).Pairwise fun x y => x.birth<y.birth:=h.sublist List.filter_sublist
theorem Anc.mem {A:List Sess} {b:Int} {s:Sess} (h:Anc A b s):s ∈ A:=by cases h <;> assumption
theorem anc_sub {st:FS} {A:List Sess} {R G:List Int} {K:Int->List Int} {pl:Int->Pl} (hw:Wf st R G K pl) (hm:∀ s,s ∈ A↔∃ i,thr i=true/\Lv pl i/\(sl st.S i).s=s) {a:Int} (ta:thr a=true) (la:Lv pl a) {i:Int} (ti:thr i=true) (li:Lv pl i) :
  Anc A (sl st.S a).s.birth (sl st.S i).s↔Sub pl a i:=by
 constructor
 ·intro h
  generalize hx:(sl st.S i).s=x at h
  induction h generalizing i with
  | self h1 h2 =>
   subst hx
   have:=hw.co.inj i a ti ta li.nf.1 la.nf.1 h2
   rw [this];exact .refl
  | step h1 h2 h3 _ ih =>
   subst hx
   obtain ⟨j,j1,j2,rfl⟩:=(hm _).1 h2
   cases li with
   | root hr =>
    have h4:(sl st.S i).s.ub=0:=(hw.co.root i ti hr).2.1
    have h5:1<=(sl st.S j).s.birth:=hw.co.birth1 j1 j2.nf.1
    omega
   | kid hk hl =>
    rename_i q
    obtain ⟨k1,k2,k3,k4,_⟩:=hw.co.kid i q ti hk
    have k4':(sl st.S i).s.ub=(sl st.S q).s.birth:=k4
    have e:q=j:=hw.co.inj q j k1 j1 k2 j2.nf.1 (k4'.symm.trans h3)
    subst e
    exact .step hk (ih j1 j2 rfl)
 ·intro h
  induction h with
  | refl => exact .self ((hm _).2 ⟨_,ti,li,rfl⟩) rfl
  | step hk _ ih =>
   rename_i i p _
   obtain ⟨k1,k2,k3,k4,_⟩:=hw.co.kid i p ti hk
   have lp:Lv pl p:=li.up (.step hk .refl)
   exact .step ((hm _).2 ⟨_,ti,li,rfl⟩) ((hm _).2 ⟨_,k1,lp,rfl⟩) k4 (ih k1 lp)
theorem endF_eq {st:FS} {R G:List Int} {K:Int->List Int} {pl:Int->Pl} (hw:Wf st R G K pl) {i:Int} (ti:thr i=true) (li:Lv pl i) :
  endF st i=some { st with S:=endS st.S st.roots st.garb i,roots:=endR st.S st.roots i,garb:=i,exp:=wo st.exp i } /\
  Wf { st with S:=endS st.S st.roots st.garb i,roots:=endR st.S st.roots i,garb:=i,exp:=wo st.exp i } (R.filter (· != i)) (G ++ [i]) (fun p => (K p).filter (· != i)) (plEnd pl i):=by
 have hp:pl i = .rt/\(sl st.S i).s.ub=0\/∃ p,pl i = .kd p/\(sl st.S i).s.ub≠0/\(sl st.S i).s.us=p:=by
  cases li with
  | root h => exact .inl ⟨h,(hw.co.root i ti h).2.1⟩
  | kid h hl =>
   rename_i p
   obtain ⟨k1,k2,k3,k4,_⟩:=hw.co.kid i p ti h
   have k4':(sl st.S i).s.ub=(sl st.S p).s.birth:=k4
   have:1<=(sl st.S p).s.birth:=hw.co.birth1 k1 k2
   exact .inr ⟨p,h,by omega,k3⟩
 obtain ⟨c1,c2,c3,c4⟩:=hw.sh.ended ti hp
 have hu:(sl st.S i).used=true:=(hw.co.used i ti).2 li.nf.1
 have w:well st.S i=true:=by unfold canDrop at c1;simp only [Bool.and_eq_true] at c1;exact c1.2
 have l1:(dropS st.S i).length=32:=by rw [drop_len,hw.sh.len]
 have hup:upOk st.S (sl st.S i).s.us (sl st.S i).s.ub=true:=by
  unfold upOk
  rcases hp with ⟨_,h⟩ | ⟨p,hk,h,e⟩
  ·rw [h];rfl
  ·obtain ⟨k1,k2,k3,k4,_⟩:=hw.co.kid i p ti hk
   have k4':(sl st.S i).s.ub=(sl st.S p).s.birth:=k4
   have ku:(sl st.S p).used=true:=(hw.co.used p k1).2 k2
   rw [e,k1,ku,k4'];simp
 have cor2:Core (cor (endS st.S st.roots st.garb i)) (plEnd pl i) st.births (wo st.exp i) :=
  (hw.co.ended li).congr (fun j hj => by rw [c4 j hj];rfl)
 refine ⟨?_,⟨c3,cor2,hw.clk⟩⟩
 have hcut:cutF st i=some (turn { st with S:=dropS st.S i } (sl st.S i).s.us (sl st.S i).s.ub (dropL st.S (ringOf st (sl st.S i).s.us (sl st.S i).s.ub) i)):=by
  unfold cutF
  simp only
  unfold ringOf at *
  rw [if_pos (by rw [ti,hu,hup,c1];rfl)]
 unfold endF
 rw [hcut,Option.bind_some]
 by_cases hb:(sl st.S i).s.ub=0
 ·have c2':=c2 _ rfl
  rw [if_pos hb] at c2'
  have hu2:(sl (put (dropS st.S i) i { sl (dropS st.S i) i with dead:=true }) i).used=true:=by
   rw [sl_put_same _ l1 i _ ti]
   show (sl (dropS st.S i) i).used=true
   rw [sl_drop hw.sh.len w i ti];exact hu
  unfold addG turn ringOf endS endR
  simp only [if_pos hb]
  rw [if_pos (by rw [ti,hu2,c2'];rfl)]
 ·have c2':=c2 _ rfl
  rw [if_neg hb] at c2'
  obtain ⟨p,hk,-,e⟩:∃ p,pl i = .kd p/\(sl st.S i).s.ub≠0/\(sl st.S i).s.us=p:=by
   rcases hp with ⟨_,h⟩ | h
   ·exact absurd h hb
   ·exact h
  have tp:thr (sl st.S i).s.us=true:=by rw [e];exact (hw.co.kid i p ti hk).1
  have hu2:∀ x:Slt,x={ sl (dropS st.S i) (sl st.S i).s.us with kids:=dropL st.S (sl st.S (sl st.S i).s.us).kids i }->(sl (put (put (dropS st.S i) (sl st.S i).s.us x) i { sl (put (dropS st.S i) (sl st.S i).s.us x) i with dead:=true }) i).used=true:=fun x hx => by
   rw [sl_put_same _ (by rw [put_len,l1]) i _ ti]
   show (sl (put (dropS st.S i) (sl st.S i).s.us x) i).used=true
   rw [sl_put _ l1 _ i _ tp (thr_iff.1 ti).1]
   have h9:(sl (dropS st.S i) i).used=true:=by rw [sl_drop hw.sh.len w i ti];exact hu
   split
   ·rename_i e2;rw [hx,e2];exact h9
   ·exact h9
  unfold addG turn ringOf endS endR
  simp only [if_neg hb]
  rw [if_pos (by rw [ti,hu2 _ rfl,c2'];rfl)]
theorem IsN.ended {st:FS} {A:List Sess} (h:IsN st A) {s:Sess} (hs:s ∈ A):∃ st',endF st s.slot=some st'/\IsN st' (cutA A s.birth)/\st'.clock=st.clock/\st'.births=st.births/\st'.free=st.free/\st'.exp=wo st.exp s.slot:=by
 obtain ⟨R,G,K,pl,hw,hp,hm⟩:=h
 obtain ⟨i,i1,i2,rfl⟩:=(hm s).1 hs
 have e1:(sl st.S i).s.slot=i:=(hw.co.may i i1 i2.nf.1).2.1
 obtain ⟨h1,h2⟩:=endF_eq hw i1 i2
 refine ⟨_,by rw [e1];exact h1,⟨_,_,_,_,h2,cutA_sorted hp _,fun x => ?_⟩,rfl,rfl,rfl,by rw [e1]⟩
 have hcor:∀ j,thr j=true->(sl (endS st.S st.roots st.garb i) j).s=(sl st.S j).s:=fun j hj => by
  have hpq:pl i = .rt/\(sl st.S i).s.ub=0\/∃ p,pl i = .kd p/\(sl st.S i).s.ub≠0/\(sl st.S i).s.us=p:=by
   cases i2 with
   | root h => exact .inl ⟨h,(hw.co.root i i1 h).2.1⟩
   | kid h hl =>
    rename_i p
    obtain ⟨k1,k2,k3,k4,_⟩:=hw.co.kid i p i1 h
    have k4':(sl st.S i).s.ub=(sl st.S p).s.birth:=k4
    have:1<=(sl st.S p).s.birth:=hw.co.birth1 k1 k2
    exact .inr ⟨p,h,by omega,k3⟩
  have h4:=(hw.sh.ended i1 hpq).2.2.2 j hj
  have h5:(cor (endS st.S st.roots st.garb i) j).2.2=(cor st.S j).2.2:=by
   rw [h4]
   split
   ·rename_i e;rw [e];rfl
   ·rfl
  exact h5
 rw [mem_cutA]
 constructor
 ·rintro ⟨hx,hn⟩
  obtain ⟨j,j1,j2,rfl⟩:=(hm x).1 hx
  refine ⟨j,j1,(lv_end i2 j).2 ⟨j2,fun hsub => hn ((anc_sub hw hm i1 i2 j1 j2).2 hsub)⟩,hcor j j1⟩
 ·rintro ⟨j,j1,j2,rfl⟩
  obtain ⟨j3,j4⟩:=(lv_end i2 j).1 j2
  rw [show (sl (endS st.S st.roots st.garb i) j).s=(sl st.S j).s from hcor j j1]
  exact ⟨(hm _).2 ⟨j,j1,j3,rfl⟩,fun ha => j4 ((anc_sub hw hm i1 i2 j1 j3).1 ha)⟩
end Fr
end
end Go.Proofs.YtimhglmfckfclaaGreatDoor
