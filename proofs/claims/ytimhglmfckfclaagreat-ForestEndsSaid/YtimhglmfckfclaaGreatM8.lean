/- Parts of the proof. -/
import Derived.Test.YtimhglmfckfclaaGreatM7
set_option linter.unusedVariables false
set_option linter.unusedSimpArgs false
set_option maxRecDepth 100000
set_option maxHeartbeats 16000000
namespace Go.Proofs.YtimhglmfckfclaaGreat
section
namespace Fr
open Vw (Sess)
open Ex (Ent itm wo)
open Hp (ahd)
section
variable {S:List Slt} {free:List Int} {roots garb:Int} {R G:List Int} {K:Int->List Int} {pl:Int->Pl}
theorem Shape.rthr (h:Shape S free roots garb R G K pl):∀ x ∈ R,thr x=true:=fun x hx => ((h.rmem x).1 hx).1
theorem Shape.gthr (h:Shape S free roots garb R G K pl):∀ x ∈ G,thr x=true:=fun x hx => ((h.gmem x).1 hx).1
theorem Shape.kthr (h:Shape S free roots garb R G K pl) (p:Int):∀ x ∈ K p,thr x=true:=fun x hx => ((h.kmem p x).1 hx).1
theorem Shape.rg (h:Shape S free roots garb R G K pl):∀ x ∈ R,x ∉ G:=fun x hx hg => by
 have h1:=((h.rmem x).1 hx).2;have h2:=((h.gmem x).1 hg).2;rw [h1] at h2;cases h2
theorem Shape.rk (h:Shape S free roots garb R G K pl) (p:Int):∀ x ∈ R,x ∉ K p:=fun x hx hg => by
 have h1:=((h.rmem x).1 hx).2;have h2:=((h.kmem p x).1 hg).2;rw [h1] at h2;cases h2
theorem Shape.gk (h:Shape S free roots garb R G K pl) (p:Int):∀ x ∈ G,x ∉ K p:=fun x hx hg => by
 have h1:=((h.gmem x).1 hx).2;have h2:=((h.kmem p x).1 hg).2;rw [h1] at h2;cases h2
theorem Shape.kk (h:Shape S free roots garb R G K pl) {p q:Int} (hn:p≠q):∀ x ∈ K p,x ∉ K q:=fun x hx hg => by
 have h1:=((h.kmem p x).1 hx).2;have h2:=((h.kmem q x).1 hg).2;rw [h1] at h2;injection h2 with h2;exact hn h2
theorem RingAt.put_out {S:List Slt} (hS:S.length=32) {last:Int} {L:List Int} (h:RingAt S last L) (ht:∀ x ∈ L,thr x=true) {i:Int} (hi:thr i=true) (hn:i ∉ L) (x:Slt):RingAt (put S i x) last L :=
 h.keep (fun y hy => by rw [sl_put_ne S hS i y x hi (ht y hy) (fun e => hn (e ▸ hy))];exact ⟨rfl,rfl⟩)
theorem RingAt.put_link {S:List Slt} (hS:S.length=32) {last:Int} {L:List Int} (h:RingAt S last L) (ht:∀ x ∈ L,thr x=true) {i:Int} (hi:thr i=true) {x:Slt} (h1:x.next=(sl S i).next) (h2:x.prev=(sl S i).prev):RingAt (put S i x) last L :=
 h.keep (fun y hy => by
  rw [sl_put S hS i y x hi (thr_iff.1 (ht y hy)).1]
  split
  ·rename_i e;subst e;exact ⟨h1,h2⟩
  ·exact ⟨rfl,rfl⟩)
theorem Shape.freed (h:Shape S free roots garb R G K pl) {f:Int} {g:List Int} (hG:G=f :: g) :
  thr garb=true/\(sl S garb).next=f/\thr f=true/\f ∉ free /\
  ∃ S1 g1,(S1=(if (sl S f).kids = -1 then S else spliceS S garb (sl S f).kids)/\g1=(if (sl S f).kids = -1 then garb else (sl S f).kids))/\((sl S f).kids = -1\/canSplice S garb (sl S f).kids=true)/\canDrop S1 g1 f=true /\
  Shape (put (dropS S1 f) f bare) (f :: free) roots (dropL S1 g1 f) R (g ++ K f) (fun p => if p=f then [] else K p) (plFree pl f) /\
  ∀ i,thr i=true->i≠f->cor (put (dropS S1 f) f bare) i=cor S i:=by
 subst hG
 have hfG:f ∈ f :: g:=by simp
 obtain ⟨tf,pf⟩:=(h.gmem f).1 hfG
 have hnf:pl f≠.fr:=by rw [pf];simp
 have hne:f :: g≠[]:=by simp
 have tg:=h.gthr garb (h.rG.last_mem hne)
 have hnx:=h.rG.first rfl
 have hff:f ∉ free:=fun e => by have:=((h.fmem f).1 e).2;rw [pf] at this;cases this
 have hfR:f ∉ R:=fun e => h.rg f e hfG
 have hfK:∀ p,f ∉ K p:=fun p e => h.gk p f hfG e
 have hkf:=h.rK f tf hnf
 obtain ⟨S1,hS1⟩:∃ S1,S1=(if (sl S f).kids = -1 then S else spliceS S garb (sl S f).kids):=⟨_,rfl⟩
 obtain ⟨g1,hg1⟩:∃ g1,g1=(if (sl S f).kids = -1 then garb else (sl S f).kids):=⟨_,rfl⟩
 have hd1:((f :: g) ++ K f).Nodup:=List.nodup_append.2 ⟨h.gnd,h.knd f,fun x hx y hy e => h.gk f x hx (e ▸ hy)⟩
 have key:S1.length=32/\RingAt S1 g1 ((f :: g) ++ K f)/\((sl S f).kids = -1\/canSplice S garb (sl S f).kids=true)/\(∀ y,thr y=true->∃ p n,sl S1 y={ sl S y with prev:=p,next:=n })/\(∀ last L,RingAt S last L->(∀ x ∈ L,thr x=true)->(∀ x ∈ L,x ∉ f :: g/\x ∉ K f)->RingAt S1 last L):=by
  by_cases hk:K f=[]
  ·have e:=(hkf.empty (h.kthr f)).2 hk
   rw [if_pos e] at hS1 hg1
   subst hS1 hg1
   refine ⟨h.len,by rw [hk,List.append_nil];exact h.rG,.inl e,fun y _ => ⟨_,_,rfl⟩,fun last L hr _ _ => hr⟩
  ·have e:¬ (sl S f).kids = -1:=fun e => hk ((hkf.empty (h.kthr f)).1 e)
   rw [if_neg e] at hS1 hg1
   subst hS1 hg1
   obtain ⟨r1,r2⟩:=ring_splice h.len h.rG hkf h.gthr (h.kthr f) hne hk hd1
   refine ⟨by rw [splice_len,h.len],r1,.inr r2,fun y hy => ⟨_,_,sl_splice h.len (h.rG.well h.gthr (h.rG.last_mem hne)) (hkf.well (h.kthr f) (hkf.last_mem hk)) y hy⟩,fun last L hr ht hd => ring_splice_far h.len h.rG hkf h.gthr (h.kthr f) hne hk hr ht hd⟩
 obtain ⟨l1,r1,cs,sc,far⟩:=key
 have t1:∀ x ∈ (f :: g) ++ K f,thr x=true:=fun x hx => by
  rcases List.mem_append.1 hx with hx | hx
  ·exact h.gthr x hx
  ·exact h.kthr f x hx
 have w1:well S1 f=true:=r1.well t1 (by simp)
 have tg1:thr g1=true:=t1 g1 (r1.last_mem (by simp))
 have cd:canDrop S1 g1 f=true:=by unfold canDrop;rw [tg1,w1];rfl
 have r2:RingAt (dropS S1 f) (dropL S1 g1 f) (g ++ K f):=by
  have:=ring_drop l1 (a:=[]) (b:=g ++ K f) (i:=f) (by simpa using r1) (by simpa using t1) (by simpa using hd1)
  simpa using this
 have l2:(dropS S1 f).length=32:=by rw [drop_len,l1]
 have sl2:∀ y,thr y=true->y≠f->∃ p n,sl (put (dropS S1 f) f bare) y={ sl S y with prev:=p,next:=n }:=fun y hy hn => by
  obtain ⟨p,n,e⟩:=sc y hy
  rw [sl_put_ne _ l2 f y _ tf hy (Ne.symm hn),sl_drop l1 w1 y hy,e]
  exact ⟨_,_,rfl⟩
 have hgn:=List.nodup_cons.1 h.gnd
 have fin:∀ last L,RingAt S last L->(∀ x ∈ L,thr x=true)->(∀ x ∈ L,x ∉ f :: g/\x ∉ K f)->RingAt (put (dropS S1 f) f bare) last L:=fun last L hr ht hd => by
  have h3:=far last L hr ht hd
  have h4:=ring_drop_far l1 r1 t1 (i:=f) (by simp) h3 ht (fun x hx e => by
   rcases List.mem_append.1 e with e | e
   ·exact (hd x hx).1 e
   ·exact (hd x hx).2 e)
  exact h4.put_out l2 ht tf (fun e => (hd f e).1 hfG) _
 refine ⟨tg,hnx,tf,hff,S1,g1,⟨hS1,hg1⟩,cs,cd,?_,fun i hi hn => ?_⟩
 ·refine { len:=by rw [put_len,l2],fmem:=fun i => ?_,fnd:=List.nodup_cons.2 ⟨hff,h.fnd⟩,rmem:=fun i => ?_,rnd:=h.rnd,gmem:=fun i => ?_,gnd:=(by simpa using (List.nodup_cons.1 hd1).2),kmem:=fun p i => ?_,knd:=fun p => ?_,kpar:=fun i p hi hk => ?_,rR:=?_,rG:=?_,rK:=fun p hp hpn => ?_,bareF:=fun i hi hp => ?_ }
  ·unfold plFree
   by_cases e:i=f
   ·subst e;simp [tf]
   ·rw [if_neg e,List.mem_cons,h.fmem i]
    constructor
    ·rintro (e2 | ⟨h1,h2⟩)
     ·exact absurd e2 e
     ·exact ⟨h1,by rw [if_neg (fun e3 => by rw [h2] at e3;cases e3),h2]⟩
    ·rintro ⟨h1,h2⟩
     split at h2
     ·cases h2
     ·exact .inr ⟨h1,h2⟩
  ·rw [h.rmem i]
   unfold plFree
   constructor
   ·rintro ⟨h1,h2⟩
    exact ⟨h1,by rw [if_neg (fun e => by subst e;rw [pf] at h2;cases h2),if_neg (fun e3 => by rw [h2] at e3;cases e3),h2]⟩
   ·rintro ⟨h1,h2⟩
    split at h2
    ·cases h2
    ·split at h2
     ·cases h2
     ·exact ⟨h1,h2⟩
  ·rw [List.mem_append,h.kmem f i]
   have hgm:=h.gmem i
   rw [List.mem_cons] at hgm
   unfold plFree
   by_cases e:i=f
   ·subst e
    rw [if_pos rfl]
    constructor
    ·rintro (h1 | ⟨h1,h2⟩)
     ·exact absurd h1 hgn.1
     ·rw [pf] at h2;cases h2
    ·rintro ⟨_,h2⟩;cases h2
   ·rw [if_neg e]
    constructor
    ·rintro (h1 | ⟨h1,h2⟩)
     ·obtain ⟨h3,h4⟩:=hgm.1 (.inr h1)
      exact ⟨h3,by rw [if_neg (fun e3 => by rw [h4] at e3;cases e3),h4]⟩
     ·exact ⟨h1,by rw [if_pos h2]⟩
    ·rintro ⟨h1,h2⟩
     split at h2
     ·rename_i h3;exact .inr ⟨h1,h3⟩
     ·rcases hgm.2 ⟨h1,h2⟩ with h3 | h3
      ·exact absurd h3 e
      ·exact .inl h3
  ·unfold plFree
   by_cases e:p=f
   ·subst e
    simp only [if_pos,List.not_mem_nil,false_iff]
    rintro ⟨h1,h2⟩
    split at h2
    ·cases h2
    ·split at h2
     ·cases h2
     ·rename_i h3;exact h3 h2
   ·rw [if_neg e,h.kmem p i]
    constructor
    ·rintro ⟨h1,h2⟩
     exact ⟨h1,by rw [if_neg (fun e => by subst e;rw [pf] at h2;cases h2),if_neg (fun e3 => by rw [h2] at e3;injection e3 with e3;exact e e3),h2]⟩
    ·rintro ⟨h1,h2⟩
     split at h2
     ·cases h2
     ·split at h2
      ·cases h2
      ·exact ⟨h1,h2⟩
  ·split
   ·simp
   ·exact h.knd p
  ·have h1:i≠f:=fun e => by subst e;simp [plFree] at hk
   have h2:pl i = .kd p/\p≠f:=by
    unfold plFree at hk
    rw [if_neg h1] at hk
    split at hk
    ·cases hk
    ·rename_i h3;exact ⟨hk,fun e => h3 (by rw [hk,e])⟩
   obtain ⟨k1,k2⟩:=h.kpar i p hi h2.1
   exact ⟨k1,nf_free h2.2 k2⟩
  ·exact fin _ _ h.rR h.rthr (fun x hx => ⟨h.rg x hx,h.rk f x hx⟩)
  ·exact r2.put_out l2 (fun x hx => t1 x (by rw [List.cons_append];exact List.mem_cons_of_mem _ hx)) tf (by
    have:=hd1
    rw [List.cons_append] at this
    exact (List.nodup_cons.1 this).1) _
  ·obtain ⟨n1,n2⟩:=free_nf hpn
   simp only [if_neg n1]
   obtain ⟨q,n,e⟩:=sl2 p hp n1
   rw [e]
   exact fin _ _ (h.rK p hp n2) (h.kthr p) (fun x hx => ⟨fun e2 => h.gk p x e2 hx,h.kk n1 x hx⟩)
  ·by_cases e:i=f
   ·subst e;exact sl_put_same _ l2 i _ tf
   ·have h2:pl i = .fr:=by
     unfold plFree at hp
     rw [if_neg e] at hp
     split at hp
     ·cases hp
     ·exact hp
    rw [sl_put_ne _ l2 f i _ tf hi (Ne.symm e)]
    have hiL:i ∉ (f :: g) ++ K f:=fun e3 => by
     rcases List.mem_append.1 e3 with e3 | e3
     ·have:=((h.gmem i).1 e3).2;rw [h2] at this;cases this
     ·have:=((h.kmem f i).1 e3).2;rw [h2] at this;cases this
    obtain ⟨p,hp1,n,hn1,q1,q2⟩:=r1.around (i:=f) (by simp)
    rw [drop_far l1 w1 hi e (fun e4 => hiL (by rw [e4,q1.2];exact hp1)) (fun e4 => hiL (by rw [e4,q2.1];exact hn1))]
    by_cases hk:K f=[]
    ·have e5:=(hkf.empty (h.kthr f)).2 hk
     rw [if_pos e5] at hS1
     rw [hS1];exact h.bareF i hi h2
    ·have e5:¬ (sl S f).kids = -1:=fun e => hk ((hkf.empty (h.kthr f)).1 e)
     rw [if_neg e5] at hS1
     have m1:=h.rG.last_mem hne
     have m2:=hkf.last_mem hk
     obtain ⟨_,_,n1,hn1,_,k2⟩:=h.rG.around m1
     obtain ⟨_,_,n2,hn2,_,k4⟩:=hkf.around m2
     have o1:∀ x ∈ f :: g,x≠i:=fun x hx e6 => hiL (by rw [<- e6];exact List.mem_append_left _ hx)
     have o2:∀ x ∈ K f,x≠i:=fun x hx e6 => hiL (by rw [<- e6];exact List.mem_append_right _ hx)
     rw [hS1,sl_splice h.len (h.rG.well h.gthr m1) (hkf.well (h.kthr f) m2) i hi,k2.1,k4.1,if_neg (o2 _ m2),if_neg (o1 _ m1),if_neg (o1 _ hn1),if_neg (o2 _ hn2)]
     exact h.bareF i hi h2
 ·obtain ⟨p,n,e⟩:=sl2 i hi hn
  unfold cor
  rw [e]
end
end Fr
end
section
namespace Fr
open Vw (Sess)
open Ex (Ent itm wo)
open Hp (ahd)
section
variable {S:List Slt} {free:List Int} {roots garb:Int} {R G:List Int} {K:Int->List Int} {pl:Int->Pl}
theorem filter_mid {a b:List Int} {i:Int} (h:(a ++ i :: b).Nodup):(a ++ i :: b).filter (· != i)=a ++ b:=by
 obtain ⟨h1,h2,_,_⟩:=nodup_mid h
 rw [List.filter_append,List.filter_cons]
 simp only [bne_self_eq_false,Bool.false_eq_true,if_false]
 rw [List.filter_eq_self.2 (fun x hx => by simp only [bne_iff_ne,ne_eq];rintro rfl;exact h1 hx),List.filter_eq_self.2 (fun x hx => by simp only [bne_iff_ne,ne_eq];rintro rfl;exact h2 hx)]
theorem filter_out {a:List Int} {i:Int} (h:i ∉ a):a.filter (· != i)=a:=List.filter_eq_self.2 (fun x hx => by simp only [bne_iff_ne,ne_eq];rintro rfl;exact h hx)
theorem ring_leave {S:List Slt} (hS:S.length=32) {last i:Int} {L:List Int} (h:RingAt S last L) (ht:∀ x ∈ L,thr x=true) (hd:L.Nodup) (hi:i ∈ L):RingAt (dropS S i) (dropL S last i) (L.filter (· != i))/\canDrop S last i=true:=by
 have w:=h.well ht hi
 have tl:=ht last (h.last_mem (List.ne_nil_of_mem hi))
 obtain ⟨a,b,rfl⟩:=List.append_of_mem hi
 rw [filter_mid hd]
 exact ⟨ring_drop hS h ht hd,by unfold canDrop;rw [tl,w];rfl⟩
def endS (S:List Slt) (roots garb:Int) (i:Int):List Slt :=
 let us:=(sl S i).s.us;let ub:=(sl S i).s.ub
 let lst:=if ub=0 then roots else (sl S us).kids
 let S1:=dropS S i
 let S2:=if ub=0 then S1 else put S1 us { sl S1 us with kids:=dropL S lst i }
 pushS (put S2 i { sl S2 i with dead:=true }) garb i
def endR (S:List Slt) (roots:Int) (i:Int):Int:=if (sl S i).s.ub=0 then dropL S roots i else roots
theorem Shape.ended (h:Shape S free roots garb R G K pl) {i:Int} (hi:thr i=true)
  (hp:pl i = .rt/\(sl S i).s.ub=0\/∃ p,pl i = .kd p/\(sl S i).s.ub≠0/\(sl S i).s.us=p) :
  canDrop S (if (sl S i).s.ub=0 then roots else (sl S (sl S i).s.us).kids) i=true /\
  (∀ S2,S2=(if (sl S i).s.ub=0 then dropS S i else put (dropS S i) (sl S i).s.us { sl (dropS S i) (sl S i).s.us with kids:=dropL S (sl S (sl S i).s.us).kids i })->canPush (put S2 i { sl S2 i with dead:=true }) garb i=true) /\
  Shape (endS S roots garb i) free (endR S roots i) i (R.filter (· != i)) (G ++ [i]) (fun p => (K p).filter (· != i)) (plEnd pl i) /\
  ∀ j,thr j=true->cor (endS S roots garb i) j=if j=i then ((sl S i).used,true,(sl S i).s) else cor S j:=by
 have hnf:pl i≠.fr:=by rcases hp with ⟨h1,_⟩ | ⟨p,h1,_⟩ <;> rw [h1] <;> simp
 have hng:pl i≠.gb:=by rcases hp with ⟨h1,_⟩ | ⟨p,h1,_⟩ <;> rw [h1] <;> simp
 have hiG:i ∉ G:=fun e => hng ((h.gmem i).1 e).2
 have hif:i ∉ free:=fun e => hnf ((h.fmem i).1 e).2
 -- the ring that it leaves
 have key:∃ S2,(S2=(if (sl S i).s.ub=0 then dropS S i else put (dropS S i) (sl S i).s.us { sl (dropS S i) (sl S i).s.us with kids:=dropL S (sl S (sl S i).s.us).kids i }))/\canDrop S (if (sl S i).s.ub=0 then roots else (sl S (sl S i).s.us).kids) i=true/\S2.length=32 /\
   RingAt S2 (endR S roots i) (R.filter (· != i))/\RingAt S2 garb G/\(∀ p,thr p=true->pl p≠.fr->RingAt S2 (sl S2 p).kids ((K p).filter (· != i)))/\(∀ y,thr y=true->∃ a b c,sl S2 y={ sl S y with prev:=a,next:=b,kids:=c })/\(∀ y,thr y=true->pl y = .fr->sl S2 y=sl S y):=by
  rcases hp with ⟨hr,hb⟩ | ⟨p,hk,hb,hu⟩
  ·have hiR:i ∈ R:=(h.rmem i).2 ⟨hi,hr⟩
   have hiK:∀ p,i ∉ K p:=fun p => h.rk p i hiR
   obtain ⟨r1,r2⟩:=ring_leave h.len h.rR h.rthr h.rnd hiR
   have w:=h.rR.well h.rthr hiR
   refine ⟨_,rfl,?_⟩
   unfold endR
   rw [if_pos hb,if_pos hb,if_pos hb]
   refine ⟨r2,by rw [drop_len,h.len],r1,ring_drop_far h.len h.rR h.rthr hiR h.rG h.gthr (fun x hx e => h.rg x e hx),fun p hp hpn => ?_,fun y hy => ⟨_,_,_,sl_drop h.len w y hy⟩,fun y hy hyf => ?_⟩
   ·rw [filter_out (hiK p),show (sl (dropS S i) p).kids=(sl S p).kids by rw [sl_drop h.len w p hp]]
    exact ring_drop_far h.len h.rR h.rthr hiR (h.rK p hp hpn) (h.kthr p) (fun x hx e => h.rk p x e hx)
   ·have hyR:y ∉ R:=fun e => by have:=((h.rmem y).1 e).2;rw [hyf] at this;cases this
    obtain ⟨p,hp1,n,hn1,q1,q2⟩:=h.rR.around hiR
    exact drop_far h.len w hy (fun e => hyR (e ▸ hiR)) (fun e => hyR (by rw [e,q1.2];exact hp1)) (fun e => hyR (by rw [e,q2.1];exact hn1))
  ·have hiK:i ∈ K p:=(h.kmem p i).2 ⟨hi,hk⟩
   obtain ⟨tp,np⟩:=h.kpar i p hi hk
   have hiR:i ∉ R:=fun e => h.rk p i e hiK
   have hrp:=h.rK p tp np
   obtain ⟨r1,r2⟩:=ring_leave h.len hrp (h.kthr p) (h.knd p) hiK
   have w:=hrp.well (h.kthr p) hiK
   have l1:(dropS S i).length=32:=by rw [drop_len,h.len]
   refine ⟨_,rfl,?_⟩
   unfold endR
   rw [if_neg hb,if_neg hb,if_neg hb,hu]
   have lk:∀ last L,RingAt (dropS S i) last L->(∀ x ∈ L,thr x=true)->RingAt (put (dropS S i) p { sl (dropS S i) p with kids:=dropL S (sl S p).kids i }) last L:=fun last L hr ht => hr.put_link l1 ht tp rfl rfl
   refine ⟨r2,by rw [put_len,l1],?_,?_,fun q hq hqn => ?_,fun y hy => ?_,fun y hy hyf => ?_⟩
   ·rw [filter_out hiR]
    exact lk _ _ (ring_drop_far h.len hrp (h.kthr p) hiK h.rR h.rthr (fun x hx e => h.rk p x hx e)) h.rthr
   ·exact lk _ _ (ring_drop_far h.len hrp (h.kthr p) hiK h.rG h.gthr (fun x hx e => h.gk p x hx e)) h.gthr
   ·rw [sl_put _ l1 p q _ tp (thr_iff.1 hq).1]
    by_cases e:p=q
    ·subst e
     rw [if_pos rfl]
     exact lk _ _ r1 (fun x hx => h.kthr p x (List.mem_filter.1 hx).1)
    ·rw [if_neg e,filter_out (fun e2 => h.kk e i hiK e2),show (sl (dropS S i) q).kids=(sl S q).kids by rw [sl_drop h.len w q hq]]
     exact lk _ _ (ring_drop_far h.len hrp (h.kthr p) hiK (h.rK q hq hqn) (h.kthr q) (fun x hx e2 => h.kk e x e2 hx)) (h.kthr q)
   ·rw [sl_put _ l1 p y _ tp (thr_iff.1 hy).1]
    split
    ·rename_i e;subst e;rw [sl_drop h.len w p hy];exact ⟨_,_,_,rfl⟩
    ·rw [sl_drop h.len w y hy];exact ⟨_,_,_,rfl⟩
   ·have hyK:y ∉ K p:=fun e => by have:=((h.kmem p y).1 e).2;rw [hyf] at this;cases this
    obtain ⟨q,hp1,n,hn1,q1,q2⟩:=hrp.around hiK
    rw [sl_put_ne _ l1 p y _ tp hy (fun e => np (by rw [e,hyf]))]
    exact drop_far h.len w hy (fun e => hyK (e ▸ hiK)) (fun e => hyK (by rw [e,q1.2];exact hp1)) (fun e => hyK (by rw [e,q2.1];exact hn1))
 obtain ⟨S2,hS2,cd,l2,rR,rG,rK,sc,sf⟩:=key
 have tR:∀ x ∈ R.filter (· != i),thr x=true/\x≠i:=fun x hx => ⟨h.rthr x (List.mem_filter.1 hx).1,by simpa using (List.mem_filter.1 hx).2⟩
 have tK:∀ p,∀ x ∈ (K p).filter (· != i),thr x=true/\x≠i:=fun p x hx => ⟨h.kthr p x (List.mem_filter.1 hx).1,by simpa using (List.mem_filter.1 hx).2⟩
 obtain ⟨S3,hS3⟩:∃ S3,S3=put S2 i { sl S2 i with dead:=true }:=⟨_,rfl⟩
 have l3:S3.length=32:=by rw [hS3,put_len,l2]
 have lk:∀ last L,RingAt S2 last L->(∀ x ∈ L,thr x=true)->RingAt S3 last L:=fun last L hr ht => by rw [hS3];exact hr.put_link l2 ht hi rfl rfl
 have rG3:=lk _ _ rG h.gthr
 have cp:canPush S3 garb i=true:=rG3.canPush h.gthr hi hiG
 have eE:endS S roots garb i=pushS S3 garb i:=by
  unfold endS
  simp only
  rw [hS3,hS2]
  by_cases hb:(sl S i).s.ub=0
  ·rw [if_pos hb,if_pos hb]
  ·rw [if_neg hb,if_neg hb];simp only [if_neg hb]
 have sc3:∀ y,thr y=true->∃ a b c,sl (pushS S3 garb i) y={ sl S y with prev:=a,next:=b,kids:=c,dead:=if y=i then true else (sl S y).dead }:=fun y hy => by
  obtain ⟨a,b,e⟩:=push_core l3 cp y hy
  obtain ⟨c,d,k,e2⟩:=sc y hy
  rw [e,hS3,sl_put _ l2 i y _ hi (thr_iff.1 hy).1]
  by_cases e3:i=y
  ·subst e3;rw [if_pos rfl,e2];exact ⟨a,b,k,by rw [if_pos rfl]⟩
  ·rw [if_neg e3,e2];exact ⟨a,b,k,by rw [if_neg (Ne.symm e3)]⟩
 refine ⟨cd,fun S2' e => by rw [e,<- hS2,<- hS3];exact cp,?_,fun j hj => ?_⟩
 ·rw [eE]
  refine { len:=by rw [push_len,l3],fmem:=fun j => ?_,fnd:=h.fnd,rmem:=fun j => ?_,rnd:=h.rnd.sublist List.filter_sublist,gmem:=fun j => ?_,gnd:=?_,kmem:=fun p j => ?_,knd:=fun p => (h.knd p).sublist List.filter_sublist,kpar:=fun j p hj hk => ?_,rR:=?_,rG:=ring_push l3 rG3 h.gthr h.gnd hi hiG,rK:=fun p hp hpn => ?_,bareF:=fun j hj hjf => ?_ }
  ·rw [h.fmem j];unfold plEnd
   by_cases e:j=i
   ·subst e;rw [if_pos rfl];simp [hnf]
   ·rw [if_neg e]
  ·rw [List.mem_filter,h.rmem j];unfold plEnd
   by_cases e:j=i
   ·subst e;simp
   ·rw [if_neg e];simp [e]
  ·rw [List.mem_append,List.mem_singleton,h.gmem j];unfold plEnd
   by_cases e:j=i
   ·subst e;simp [hi]
   ·rw [if_neg e];simp [e]
  ·exact List.nodup_append.2 ⟨h.gnd,by simp,fun x hx y hy e => hiG (by rw [List.mem_singleton.1 hy] at e;exact e ▸ hx)⟩
  ·rw [List.mem_filter,h.kmem p j];unfold plEnd
   by_cases e:j=i
   ·subst e;simp
   ·rw [if_neg e];simp [e]
  ·have e:j≠i:=fun e => by subst e;simp [plEnd] at hk
   have hk2:pl j = .kd p:=by unfold plEnd at hk;rwa [if_neg e] at hk
   obtain ⟨k1,k2⟩:=h.kpar j p hj hk2
   exact ⟨k1,(end_nf hnf).2 k2⟩
  ·exact ring_push_far l3 rG3 h.gthr hi hiG (lk _ _ rR (fun x hx => (tR x hx).1)) (fun x hx => (tR x hx).1) (fun x hx => ⟨fun e => h.rg x (List.mem_filter.1 hx).1 e,(tR x hx).2⟩)
  ·have hpn2:=(end_nf hnf).1 hpn
   have e4:(sl (pushS S3 garb i) p).kids=(sl S2 p).kids:=by
    obtain ⟨a,b,e⟩:=push_core l3 cp p hp
    rw [e,hS3,sl_put _ l2 i p _ hi (thr_iff.1 hp).1]
    split
    ·rename_i e;subst e;rfl
    ·rfl
   rw [e4]
   exact ring_push_far l3 rG3 h.gthr hi hiG (lk _ _ (rK p hp hpn2) (fun x hx => (tK p x hx).1)) (fun x hx => (tK p x hx).1) (fun x hx => ⟨fun e => h.gk p x e (List.mem_filter.1 hx).1,(tK p x hx).2⟩)
  ·have e:j≠i:=fun e => by subst e;simp [plEnd] at hjf
   have hj2:pl j = .fr:=by unfold plEnd at hjf;rwa [if_neg e] at hjf
   have hjG:j ∉ G:=fun e2 => by have:=((h.gmem j).1 e2).2;rw [hj2] at this;cases this
   rw [push_far l3 cp j hj e (fun h0 => ?_),hS3,sl_put_ne _ l2 i j _ hi hj (Ne.symm e),sf j hj hj2]
   ·exact h.bareF j hj hj2
   ·have hL:G≠[]:=fun e2 => h0 ((rG3.empty h.gthr).2 e2)
    have hm:=rG3.last_mem hL
    obtain ⟨p,hp,n,hnn,h1,h2⟩:=rG3.around hm
    exact ⟨fun e2 => hjG (e2 ▸ hm),fun e2 => hjG (by rw [e2,h2.1];exact hnn)⟩
 ·rw [eE]
  obtain ⟨a,b,c,e⟩:=sc3 j hj
  unfold cor
  rw [e]
  by_cases e2:j=i
  ·subst e2;simp
  ·rw [if_neg e2];simp [e2]
end
end Fr
end
section
namespace Fr
open Vw (Sess)
open Ex (Ent itm wo)
open Hp (ahd)
section
variable {S:List Slt} {free:List Int} {roots garb:Int} {R G:List Int} {K:Int->List Int} {pl:Int->Pl}
def newSlt (s:Sess):Slt:=⟨true,false,-1,-1,-1,s⟩
def layS (S:List Slt) (roots:Int) (s:Sess):List Slt :=
 let i:=s.slot
 let S0:=put S i (newSlt s)
 let S1:=pushS S0 (if s.ub=0 then roots else (sl S0 s.us).kids) i
 let S2:=put S1 i { sl S1 i with kids:=-1,s:={ (sl S1 i).s with us:=if s.ub=0 then 0 else s.us,ub:=s.ub } }
 if s.ub=0 then S2 else put S2 s.us { sl S2 s.us with kids:=i }
theorem Shape.laid (h:Shape S free roots garb R G K pl) {s:Sess} {x:Pl} (hi:thr s.slot=true) (hf:pl s.slot = .fr)
  (hx:x = .rt/\s.us=0/\s.ub=0\/∃ p,x = .kd p/\thr p=true/\pl p≠.fr/\s.ub≠0/\s.us=p) :
  canPush (put S s.slot (newSlt s)) (if s.ub=0 then roots else (sl (put S s.slot (newSlt s)) s.us).kids) s.slot=true /\
  Shape (layS S roots s) (free.erase s.slot) (if s.ub=0 then s.slot else roots) garb (if x = .rt then R ++ [s.slot] else R) G (fun p => if x = .kd p then K p ++ [s.slot] else K p) (plLay pl s.slot x) /\
  ∀ j,thr j=true->cor (layS S roots s) j=if j=s.slot then (true,false,s) else cor S j:=by
 obtain ⟨i,ei⟩:∃ i,i=s.slot:=⟨_,rfl⟩
 have xnf:x≠.fr:=by rcases hx with ⟨rfl,_⟩ | ⟨p,rfl,_⟩ <;> simp
 have xng:x≠.gb:=by rcases hx with ⟨rfl,_⟩ | ⟨p,rfl,_⟩ <;> simp
 rw [<- ei] at hi hf ⊢
 have hiR:i ∉ R:=fun e => by have:=((h.rmem i).1 e).2;rw [hf] at this;cases this
 have hiG:i ∉ G:=fun e => by have:=((h.gmem i).1 e).2;rw [hf] at this;cases this
 have hiK:∀ p,i ∉ K p:=fun p e => by have:=((h.kmem p i).1 e).2;rw [hf] at this;cases this
 have hKi:K i=[]:=by
  rcases List.eq_nil_or_concat (K i) with e | ⟨a,b,e⟩
  ·exact e
  ·have hb:=(h.kmem i b).1 (by rw [e];simp)
   exact absurd hf (h.kpar b i hb.1 hb.2).2
 obtain ⟨S0,hS0⟩:∃ S0,S0=put S i (newSlt s):=⟨_,rfl⟩
 have l0:S0.length=32:=by rw [hS0,put_len,h.len]
 have same0:∀ y,thr y=true->y≠i->sl S0 y=sl S y:=fun y hy hn => by rw [hS0,sl_put_ne _ h.len i y _ hi hy (Ne.symm hn)]
 have self0:sl S0 i=newSlt s:=by rw [hS0,sl_put_same _ h.len i _ hi]
 have out0:∀ last L,RingAt S last L->(∀ y ∈ L,thr y=true)->i ∉ L->RingAt S0 last L:=fun last L hr ht hn => by rw [hS0];exact hr.put_out h.len ht hi hn _
 have kids0:∀ p,thr p=true->pl p≠.fr->(sl S0 p).kids=(sl S p).kids:=fun p hp hn => by rw [same0 p hp (fun e => hn (by rw [e,hf]))]
 have rR0:=out0 _ _ h.rR h.rthr hiR
 have rG0:=out0 _ _ h.rG h.gthr hiG
 have rK0:∀ p,thr p=true->pl p≠.fr->RingAt S0 (sl S0 p).kids (K p):=fun p hp hn => by rw [kids0 p hp hn];exact out0 _ _ (h.rK p hp hn) (h.kthr p) (hiK p)
 have usd:(if s.ub=0 then 0 else s.us)=s.us:=by
  rcases hx with ⟨_,h1,h2⟩ | ⟨p,_,_,_,h1,_⟩
  ·rw [if_pos h2,h1]
  ·rw [if_neg h1]
 obtain ⟨lst,hlst⟩:∃ lst,lst=(if s.ub=0 then roots else (sl S0 s.us).kids):=⟨_,rfl⟩
 -- the ring in which it is hung
 obtain ⟨L,hL,htL,hdL,hiL,hsel⟩:∃ L,RingAt S0 lst L/\(∀ y ∈ L,thr y=true)/\L.Nodup/\i ∉ L/\((x = .rt/\L=R)\/∃ p,x = .kd p/\thr p=true/\pl p≠.fr/\s.us=p/\s.ub≠0/\L=K p):=by
  rcases hx with ⟨h1,h2,h3⟩ | ⟨p,h1,h2,h3,h4,h5⟩
  ·rw [if_pos h3] at hlst;subst hlst
   exact ⟨R,rR0,h.rthr,h.rnd,hiR,.inl ⟨h1,rfl⟩⟩
  ·rw [if_neg h4,h5] at hlst;subst hlst
   exact ⟨K p,rK0 p h2 h3,h.kthr p,h.knd p,hiK p,.inr ⟨p,h1,h2,h3,h5,h4,rfl⟩⟩
 have cp:canPush S0 lst i=true:=hL.canPush htL hi hiL
 obtain ⟨S1,hS1⟩:∃ S1,S1=pushS S0 lst i:=⟨_,rfl⟩
 have l1:S1.length=32:=by rw [hS1,push_len,l0]
 have rL1:RingAt S1 i (L ++ [i]):=by rw [hS1];exact ring_push l0 hL htL hdL hi hiL
 have far1:∀ last M,RingAt S0 last M->(∀ y ∈ M,thr y=true)->(∀ y ∈ M,y ∉ L/\y≠i)->RingAt S1 last M:=fun last M hr ht hd => by rw [hS1];exact ring_push_far l0 hL htL hi hiL hr ht hd
 have sc1:∀ y,thr y=true->∃ a b,sl S1 y={ sl S0 y with prev:=a,next:=b }:=fun y hy => by rw [hS1];exact push_core l0 cp y hy
 have tLi:∀ y ∈ L ++ [i],thr y=true:=fun y hy => by
  rcases List.mem_append.1 hy with hy | hy
  ·exact htL y hy
  ·rw [List.mem_singleton.1 hy];exact hi
 obtain ⟨S2,hS2⟩:∃ S2,S2=put S1 i { sl S1 i with kids:=-1,s:=s }:=⟨_,rfl⟩
 have l2:S2.length=32:=by rw [hS2,put_len,l1]
 have lk2:∀ last M,RingAt S1 last M->(∀ y ∈ M,thr y=true)->RingAt S2 last M:=fun last M hr ht => by rw [hS2];exact hr.put_link l1 ht hi rfl rfl
 have s1i:(sl S1 i).s=s:=by
  obtain ⟨a,b,e⟩:=sc1 i hi
  rw [e,self0];rfl
 have eL:layS S roots s=if s.ub=0 then S2 else put S2 s.us { sl S2 s.us with kids:=i }:=by
  unfold layS
  simp only
  rw [<- ei,<- hS0,<- hlst,<- hS1,usd,s1i,<- hS2]
 have sl2:∀ y,thr y=true->sl S2 y=if i=y then { sl S1 i with kids:=-1,s:=s } else sl S1 y:=fun y hy => by rw [hS2,sl_put _ l1 i y _ hi (thr_iff.1 hy).1]
 -- the list of slots that comes out
 obtain ⟨T,hT,lT,lkT,kT,cT⟩:∃ T,T=layS S roots s/\T.length=32/\(∀ last M,RingAt S2 last M->(∀ y ∈ M,thr y=true)->RingAt T last M)/\(∀ y,thr y=true->(sl T y).kids=if x = .kd y then i else (sl S2 y).kids)/\(∀ y,thr y=true->∃ k,sl T y={ sl S2 y with kids:=k }):=by
  refine ⟨_,rfl,?_⟩
  rw [eL]
  rcases hsel with ⟨rfl,-⟩ | ⟨p,rfl,tp,np,e5,h4,-⟩
  ·have hb:s.ub=0:=by
    rcases hx with ⟨_,_,h3⟩ | ⟨p,h1,_⟩
    ·exact h3
    ·cases h1
   rw [if_pos hb]
   exact ⟨l2,fun _ _ hr _ => hr,fun y _ => by rw [if_neg (by simp)],fun y _ => ⟨_,rfl⟩⟩
  ·rw [if_neg h4,e5]
   refine ⟨by rw [put_len,l2],fun last M hr ht => hr.put_link l2 ht tp rfl rfl,fun y hy => ?_,fun y hy => ?_⟩
   ·rw [sl_put _ l2 p y _ tp (thr_iff.1 hy).1]
    by_cases e:p=y
    ·subst e;rw [if_pos rfl,if_pos rfl]
    ·rw [if_neg e,if_neg (fun e2 => by injection e2 with e2;exact e e2)]
   ·rw [sl_put _ l2 p y _ tp (thr_iff.1 hy).1]
    by_cases e:p=y
    ·subst e;rw [if_pos rfl];exact ⟨_,rfl⟩
    ·rw [if_neg e];exact ⟨_,rfl⟩
 have xpi:x≠.kd i:=by
  rcases hsel with ⟨rfl,-⟩ | ⟨p,rfl,tp,np,-⟩
  ·simp
  ·intro e;injection e with e;subst e;exact np hf
 have corT:∀ j,thr j=true->cor T j=if j=i then (true,false,s) else cor S j:=fun j hj => by
  obtain ⟨k,e⟩:=cT j hj
  unfold cor
  rw [e]
  by_cases e2:j=i
  ·subst e2
   rw [if_pos rfl,sl2 j hj,if_pos rfl]
   obtain ⟨a,b,e3⟩:=sc1 j hj
   rw [e3,self0];rfl
  ·rw [if_neg e2,sl2 j hj,if_neg (Ne.symm e2)]
   obtain ⟨a,b,e3⟩:=sc1 j hj
   rw [e3,same0 j hj e2]
 refine ⟨by rw [<- hS0,<- hlst];exact cp,?_,by rw [<- hT];exact corT⟩
 rw [<- hT]
 have dj:∀ y,y ∈ L->pl y=x:=fun y hy => by
  rcases hsel with ⟨rfl,rfl⟩ | ⟨p,rfl,_,_,_,_,rfl⟩
  ·exact ((h.rmem y).1 hy).2
  ·exact ((h.kmem p y).1 hy).2
 have nf:∀ j,plLay pl i x j≠.fr↔j=i\/pl j≠.fr:=fun j => by
  unfold plLay
  split
  ·rename_i e;simp [e,xnf]
  ·rename_i e;simp [e]
 refine { len:=lT,fmem:=fun j => ?_,fnd:=h.fnd.erase _,rmem:=fun j => ?_,rnd:=?_,gmem:=fun j => ?_,gnd:=h.gnd,kmem:=fun p j => ?_,knd:=fun p => ?_,kpar:=fun j p hj hk => ?_,rR:=?_,rG:=?_,rK:=fun p hp hpn => ?_,bareF:=fun j hj hjf => ?_ }
 ·rw [h.fnd.mem_erase_iff,h.fmem j];unfold plLay
  by_cases e:j=i
  ·subst e;rw [if_pos rfl];simp [xnf]
  ·rw [if_neg e];simp [e]
 ·unfold plLay
  by_cases ex:x = .rt
  ·rw [if_pos ex,List.mem_append,List.mem_singleton,h.rmem j]
   by_cases e:j=i
   ·subst e;rw [if_pos rfl];simp [hi,ex]
   ·rw [if_neg e];simp [e]
  ·rw [if_neg ex,h.rmem j]
   by_cases e:j=i
   ·subst e;rw [if_pos rfl,hf];simp [ex]
   ·rw [if_neg e]
 ·split
  ·exact List.nodup_append.2 ⟨h.rnd,by simp,fun y hy z hz e => hiR (by rw [List.mem_singleton.1 hz] at e;exact e ▸ hy)⟩
  ·exact h.rnd
 ·rw [h.gmem j];unfold plLay
  by_cases e:j=i
  ·subst e;rw [if_pos rfl,hf];simp [xng]
  ·rw [if_neg e]
 ·unfold plLay
  by_cases ex:x = .kd p
  ·rw [if_pos ex,List.mem_append,List.mem_singleton,h.kmem p j]
   by_cases e:j=i
   ·subst e;rw [if_pos rfl];simp [hi,ex]
   ·rw [if_neg e];simp [e]
  ·rw [if_neg ex,h.kmem p j]
   by_cases e:j=i
   ·subst e;rw [if_pos rfl,hf];simp [ex]
   ·rw [if_neg e]
 ·split
  ·exact List.nodup_append.2 ⟨h.knd p,by simp,fun y hy z hz e => hiK p (by rw [List.mem_singleton.1 hz] at e;exact e ▸ hy)⟩
  ·exact h.knd p
 ·unfold plLay at hk
  by_cases e:j=i
  ·rw [if_pos e] at hk
   rcases hsel with ⟨rfl,-⟩ | ⟨q,rfl,tq,nq,-⟩
   ·cases hk
   ·injection hk with hk;subst hk;exact ⟨tq,(nf q).2 (.inr nq)⟩
  ·rw [if_neg e] at hk
   obtain ⟨k1,k2⟩:=h.kpar j p hj hk
   exact ⟨k1,(nf p).2 (.inr k2)⟩
 ·rcases hsel with ⟨ex,eL2⟩ | ⟨p,ex,tp,np,e5,h4,eL2⟩
  ·have hb:s.ub=0:=by
    rcases hx with ⟨_,_,h3⟩ | ⟨p,h1,_⟩
    ·exact h3
    ·rw [ex] at h1;cases h1
   rw [if_pos hb,if_pos ex,<- eL2]
   exact lkT _ _ (lk2 _ _ rL1 tLi) tLi
  ·rw [if_neg h4,if_neg (by rw [ex];simp)]
   exact lkT _ _ (lk2 _ _ (far1 _ _ rR0 h.rthr (fun y hy => ⟨fun e => (by have:=dj y e;rw [((h.rmem y).1 hy).2,ex] at this;cases this),fun e => hiR (e ▸ hy)⟩)) h.rthr) h.rthr
 ·exact lkT _ _ (lk2 _ _ (far1 _ _ rG0 h.gthr (fun y hy => ⟨fun e => xng (by rw [<- dj y e];exact ((h.gmem y).1 hy).2),fun e => hiG (e ▸ hy)⟩)) h.gthr) h.gthr
 ·rw [kT p hp]
  by_cases ex:x = .kd p
  ·rw [if_pos ex,if_pos ex]
   rcases hsel with ⟨e,-⟩ | ⟨q,e,-,-,-,-,eL2⟩
   ·rw [ex] at e;cases e
   ·rw [ex] at e;injection e with e;subst e
    rw [<- eL2]
    exact lkT _ _ (lk2 _ _ rL1 tLi) tLi
  ·rw [if_neg ex,if_neg ex]
   by_cases e:p=i
   ·subst e
    rw [hKi,sl2 p hp,if_pos rfl]
    exact RingAt.nil _
   ·have hpn2:pl p≠.fr:=by
     rcases (nf p).1 hpn with h1 | h1
     ·exact absurd h1 e
     ·exact h1
    have e6:(sl S2 p).kids=(sl S0 p).kids:=by
     rw [sl2 p hp,if_neg (Ne.symm e)]
     obtain ⟨a,b,e3⟩:=sc1 p hp
     rw [e3]
    rw [e6]
    exact lkT _ _ (lk2 _ _ (far1 _ _ (rK0 p hp hpn2) (h.kthr p) (fun y hy => ⟨fun e => ex (by rw [<- dj y e];exact ((h.kmem p y).1 hy).2),fun e => hiK p (e ▸ hy)⟩)) (h.kthr p)) (h.kthr p)
 ·have e:j≠i:=fun e => by subst e;simp [plLay] at hjf;exact xnf hjf
  have hj2:pl j = .fr:=by unfold plLay at hjf;rwa [if_neg e] at hjf
  have hjL:j ∉ L:=fun e2 => xnf (by rw [<- dj j e2,hj2])
  have e7:sl T j=sl S2 j:=by
   rw [hT,eL]
   split
   ·rfl
   ·rename_i hb
    rcases hsel with ⟨ex,-⟩ | ⟨p,ex,tp,np,e5,-,-⟩
    ·rcases hx with ⟨_,_,h3⟩ | ⟨p,h1,_⟩
     ·exact absurd h3 hb
     ·rw [ex] at h1;cases h1
    ·rw [e5,sl_put_ne _ l2 p j _ tp hj (fun e8 => np (by rw [e8,hj2]))]
  rw [e7,sl2 j hj,if_neg (Ne.symm e),hS1,push_far l0 cp j hj e (fun h0 => ?_),same0 j hj e]
  ·exact h.bareF j hj hj2
  ·have hLne:L≠[]:=fun e2 => h0 ((hL.empty htL).2 e2)
   have hm:=hL.last_mem hLne
   obtain ⟨p,hp,n,hnn,h1,h2⟩:=hL.around hm
   exact ⟨fun e2 => hjL (e2 ▸ hm),fun e2 => hjL (by rw [e2,h2.1];exact hnn)⟩
end
end Fr
end
section
namespace Fr
open Vw (Sess)
open Ex (Ent itm wo)
open Hp (ahd)
section
variable {C:Int->Bool × Bool × Sess} {pl:Int->Pl} {births:Int} {exp:List Ent}
theorem Core.later (h:Core C pl births exp) {i p:Int} (hi:thr i=true) (hk:pl i = .kd p):(C p).2.2.birth<(C i).2.2.birth:=by
 obtain ⟨k1,k2,k3,k4,k5,k6⟩:=h.kid i p hi hk
 have hf:pl i≠.fr:=by rw [hk];simp
 have h6:=(mayS_iff.1 (h.may i hi hf).1).2.2.2.2.2.2
 have hb:=h.birth1 k1 k2
 rcases h6 with ⟨_,⟨_,h7⟩,_⟩ | ⟨_,_,_,_,⟨_,h7⟩,_⟩
 ·rw [k4] at h7;omega
 ·rw [k4] at h7;omega
theorem Core.sub_birth (h:Core C pl births exp) {a i:Int} (hs:Sub pl a i) (hi:thr i=true):a=i\/(C a).2.2.birth<(C i).2.2.birth:=by
 induction hs with
 | refl => exact .inl rfl
 | step hk _ ih =>
  have h1:=h.later hi hk
  rcases ih (h.kid _ _ hi hk).1 with e | h2
  ·rw [e];exact .inr h1
  ·exact .inr (by omega)
theorem Sub.trans {a b c:Int} (h1:Sub pl a b) (h2:Sub pl b c):Sub pl a c:=by
 induction h2 with
 | refl => exact h1
 | step hk _ ih => exact .step hk ih
theorem Sub.line {a b c:Int} (h1:Sub pl a c) (h2:Sub pl b c):Sub pl a b\/Sub pl b a:=by
 induction h1 with
 | refl => exact .inr h2
 | step hk h ih =>
  rename_i i p
  cases h2 with
  | refl => exact .inl (.step hk h)
  | step hk2 h3 =>
   rw [hk] at hk2;injection hk2 with e;subst e
   exact ih h3
theorem Lv.up {a i:Int} (h:Lv pl i) (hs:Sub pl a i):Lv pl a:=by
 induction hs with
 | refl => exact h
 | step hk _ ih =>
  refine ih ?_
  cases h with
  | root h2 => rw [hk] at h2;cases h2
  | kid h2 h3 => rw [hk] at h2;injection h2 with e;subst e;exact h3
theorem Lv.down {a i:Int} (h:Lv pl a) (hs:Sub pl a i):Lv pl i:=by
 induction hs with
 | refl => exact h
 | step hk _ ih => exact .kid hk ih
theorem Core.lv_or (h:Core C pl births exp):∀ (n:Nat) (i:Int),thr i=true->pl i≠.fr->(C i).2.2.birth<=n->Lv pl i\/∃ g,thr g=true/\pl g = .gb/\Sub pl g i
 | 0,i,hi,hf,hn => by have:=h.birth1 hi hf;omega
 | n+1,i,hi,hf,hn => by
  cases hp:pl i with
  | fr => exact absurd hp hf
  | rt => exact .inl (.root hp)
  | gb => exact .inr ⟨i,hi,hp,.refl⟩
  | kd p =>
   obtain ⟨k1,k2,_⟩:=h.kid i p hi hp
   have h1:=h.later hi hp
   rcases Core.lv_or h n p k1 k2 (by omega) with h2 | ⟨g,g1,g2,g3⟩
   ·exact .inl (.kid hp h2)
   ·exact .inr ⟨g,g1,g2,.step hp g3⟩
theorem Core.all_live (h:Core C pl births exp) (hg:∀ i,thr i=true->pl i≠.gb) {i:Int} (hi:thr i=true) (hf:pl i≠.fr):Lv pl i:=by
 have:=h.birth1 hi hf
 rcases h.lv_or (C i).2.2.birth.toNat i hi hf (by omega) with h1 | ⟨g,g1,g2,_⟩
 ·exact h1
 ·exact absurd g2 (hg g g1)
end
theorem nodup_le:∀ {l m:List Int},l.Nodup->(∀ x ∈ l,x ∈ m)->l.length<=m.length
 | [],_,_,_ => Nat.zero_le _
 | a :: t,m,h,hs => by
  have h1:=List.nodup_cons.1 h
  have ha:=hs a (by simp)
  have:=nodup_le (l:=t) (m:=m.erase a) h1.2 (fun x hx => (List.mem_erase_of_ne (fun e => h1.1 (by rw [<- e];exact hx))).2 (hs x (List.mem_cons_of_mem _ hx)))
  rw [List.length_erase_of_mem ha] at this
  have hp:=List.length_pos_of_mem ha
  simp only [List.length_cons];omega
def ids:List Int:=(List.range 32).map Int.ofNat
theorem mem_ids {i : Int} : i ∈ ids ↔ thr i = true := by
  rw [thr_iff]
  unfold ids
  simp only [List.mem_map, List.mem_range]
  constructor
  · rintro ⟨n, hn, rfl⟩
    exact ⟨Int.natCast_nonneg n, by have : ((n : Nat) : Int) < 32 := by omega
                                    exact this⟩
  · rintro ⟨h1, h2⟩
    exact ⟨i.toNat, by omega, by show ((i.toNat : Nat) : Int) = i; omega⟩
theorem ids_nd:ids.Nodup:=by decide
theorem ids_len:ids.length=32:=by decide
def IsN (st:FS) (A:List Sess):Prop :=
 ∃ R G K pl,Wf st R G K pl/\(A.Pairwise fun x y => x.birth<y.birth)/\∀ s,s ∈ A↔∃ i,thr i=true/\Lv pl i/\(sl st.S i).s=s
def Is (st:FS) (A:List Sess):Prop:=IsN st A/\∀ e ∈ st.exp,st.clock<e.2.2
theorem sorted_ext:∀ {A B:List Sess},(A.Pairwise fun x y => x.birth<y.birth)->(B.Pairwise fun x y => x.birth<y.birth)->(∀ s,s ∈ A↔s ∈ B)->A=B
 | [],[],_,_,_ => rfl
 | [],b :: t,_,_,h => by have:=(h b).2 (by simp);cases this
 | a :: r,[],_,_,h => by have:=(h a).1 (by simp);cases this
 | a :: r,b :: t,h1,h2,h => by
  have p1:=List.pairwise_cons.1 h1
  have p2:=List.pairwise_cons.1 h2
  have e:a=b:=by
   rcases List.mem_cons.1 ((h a).1 (by simp)) with e | e
   ·exact e
   ·rcases List.mem_cons.1 ((h b).2 (by simp)) with e2 | e2
    ·exact e2.symm
    ·have:=p1.1 b e2;have:=p2.1 a e;omega
  subst e
  refine congrArg _ (sorted_ext p1.2 p2.2 (fun s => ?_))
  constructor
  ·intro hs
   rcases List.mem_cons.1 ((h s).1 (List.mem_cons_of_mem _ hs)) with e | e
   ·subst e;have:=p1.1 s hs;omega
   ·exact e
  ·intro hs
   rcases List.mem_cons.1 ((h s).2 (List.mem_cons_of_mem _ hs)) with e | e
   ·subst e;have:=p2.1 s hs;omega
   ·exact e
theorem IsN.birth_inj {st:FS} {A:List Sess} (h:IsN st A) {s t:Sess} (hs:s ∈ A) (ht:t ∈ A) (e:s.birth=t.birth):s=t:=by
 obtain ⟨R,G,K,pl,hw,_,hm⟩:=h
 obtain ⟨i,i1,i2,rfl⟩:=(hm s).1 hs
 obtain ⟨j,j1,j2,rfl⟩:=(hm t).1 ht
 rw [hw.co.inj i j i1 j1 i2.nf.1 j2.nf.1 e]
theorem IsN.may {st:FS} {A:List Sess} (h:IsN st A) {s:Sess} (hs:s ∈ A):mayS s=true/\s.birth<=st.births/\(s.slot,s.birth,s.dl) ∈ st.exp/\(sl st.S s.slot).s=s/\thr s.slot=true:=by
 obtain ⟨R,G,K,pl,hw,_,hm⟩:=h
 obtain ⟨i,i1,i2,rfl⟩:=(hm s).1 hs
 obtain ⟨m1,m2,m3⟩:=hw.co.may i i1 i2.nf.1
 have m2':(sl st.S i).s.slot=i:=m2
 have:=hw.co.exs i i1 i2
 exact ⟨m1,m3,by rw [m2'];exact this,by rw [m2'],by rw [m2'];exact i1⟩
theorem IsN.lives_iff {st:FS} {A:List Sess} (h:IsN st A) (i b:Int):lives st.S i b=true↔∃ s ∈ A,s.slot=i/\s.birth=b:=by
 obtain ⟨R,G,K,pl,hw,_,hm⟩:=h
 rw [hw.co.lives_iff]
 constructor
 ·rintro ⟨h1,h2,h3⟩
  exact ⟨_,(hm _).2 ⟨i,h1,h2,rfl⟩,(hw.co.may i h1 h2.nf.1).2.1,h3⟩
 ·rintro ⟨s,hs,h1,h2⟩
  obtain ⟨j,j1,j2,rfl⟩:=(hm s).1 hs
  have e:(sl st.S j).s.slot=j:=(hw.co.may j j1 j2.nf.1).2.1
  rw [e] at h1;subst h1
  exact ⟨j1,j2,h2⟩
def dead (st:FS) (A:List Sess):Nat:=32-st.free.length-A.length
theorem IsN.count {st:FS} {A:List Sess} (h:IsN st A):st.free.length+A.length<=32/\(st.garb = -1->st.free.length+A.length=32)/\(st.garb≠-1->st.free.length+A.length<32):=by
 obtain ⟨R,G,K,pl,hw,hp,hm⟩:=h
 have hnd:A.Nodup:=hp.imp (fun h e => by rw [e] at h;omega)
 have hsub:(st.free ++ A.map (·.slot)).Nodup/\∀ x ∈ st.free ++ A.map (·.slot),x ∈ ids:=by
  refine ⟨List.nodup_append.2 ⟨hw.sh.fnd,?_,fun x hx y hy e => ?_⟩,fun x hx => ?_⟩
  ·rw [List.nodup_iff_pairwise_ne,List.pairwise_map]
   have h2:=List.Pairwise.and_mem.1 hp
   refine h2.imp (fun {a b} ⟨ha,hb,hab⟩ e => ?_)
   obtain ⟨i,i1,i2,rfl⟩:=(hm a).1 ha
   obtain ⟨j,j1,j2,rfl⟩:=(hm b).1 hb
   have e1:(sl st.S i).s.slot=i:=(hw.co.may i i1 i2.nf.1).2.1
   have e2:(sl st.S j).s.slot=j:=(hw.co.may j j1 j2.nf.1).2.1
   rw [e1,e2] at e;subst e;omega
  ·subst e
   obtain ⟨s,hs,e⟩:=List.mem_map.1 hy
   obtain ⟨i,i1,i2,rfl⟩:=(hm s).1 hs
   have e1:(sl st.S i).s.slot=i:=(hw.co.may i i1 i2.nf.1).2.1
   rw [e1] at e;subst e
   exact i2.nf.1 ((hw.sh.fmem i).1 hx).2
  ·rw [mem_ids]
   rcases List.mem_append.1 hx with hx | hx
   ·exact ((hw.sh.fmem x).1 hx).1
   ·obtain ⟨s,hs,e⟩:=List.mem_map.1 hx
    obtain ⟨i,i1,i2,rfl⟩:=(hm s).1 hs
    have e1:(sl st.S i).s.slot=i:=(hw.co.may i i1 i2.nf.1).2.1
    rw [e1] at e;subst e;exact i1
 have hle:=nodup_le hsub.1 hsub.2
 simp only [List.length_append,List.length_map,ids_len] at hle
 refine ⟨hle,fun hg => ?_,fun hg => ?_⟩
 ·have hG:=(hw.sh.rG.empty hw.sh.gthr).1 hg
  have hng:∀ i,thr i=true->pl i≠.gb:=fun i hi e => by
   have:=(hw.sh.gmem i).2 ⟨hi,e⟩;rw [hG] at this;cases this
  have h3:=nodup_le (m:=st.free ++ A.map (·.slot)) ids_nd (fun x hx => ?_)
  ·simp only [List.length_append,List.length_map,ids_len] at h3
   omega
  ·have tx:=mem_ids.1 hx
   by_cases hf:pl x = .fr
   ·exact List.mem_append_left _ ((hw.sh.fmem x).2 ⟨tx,hf⟩)
   ·have hl:=hw.co.all_live hng tx hf
    refine List.mem_append_right _ (List.mem_map.2 ⟨_,(hm _).2 ⟨x,tx,hl,rfl⟩,(hw.co.may x tx hf).2.1⟩)
 ·have hG:G≠[]:=fun e => hg ((hw.sh.rG.empty hw.sh.gthr).2 e)
  have hm2:=hw.sh.rG.last_mem hG
  obtain ⟨t1,t2⟩:=(hw.sh.gmem _).1 hm2
  have h4:(st.garb :: (st.free ++ A.map (·.slot))).Nodup:=by
   refine List.nodup_cons.2 ⟨fun hx => ?_,hsub.1⟩
   rcases List.mem_append.1 hx with hx | hx
   ·have:=((hw.sh.fmem _).1 hx).2;rw [t2] at this;cases this
   ·obtain ⟨s,hs,e⟩:=List.mem_map.1 hx
    obtain ⟨i,i1,i2,rfl⟩:=(hm s).1 hs
    have e1:(sl st.S i).s.slot=i:=(hw.co.may i i1 i2.nf.1).2.1
    rw [e1] at e;subst e;exact i2.nf.2 t2
  have h5:=nodup_le (m:=ids) h4 (fun x hx => by
   rcases List.mem_cons.1 hx with e | hx
   ·rw [e,mem_ids];exact t1
   ·exact hsub.2 x hx)
  simp only [List.length_cons,List.length_append,List.length_map,ids_len] at h5
  omega
end Fr
end
end Go.Proofs.YtimhglmfckfclaaGreat
