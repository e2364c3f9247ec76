/- Parts of the proof. -/
import Derived.Test.YtimhglmfckfclaaGreatM9
import Derived.Great.BuildSlice
import Derived.Deep.MidRow
import Derived.Laws.NewBlocks
import Derived.StillTail
import Derived.StillTactics
import Derived.StillTailTactics
import Derived.RegionTactic
set_option linter.unusedVariables false
set_option linter.unusedSimpArgs false
set_option maxRecDepth 100000
set_option maxHeartbeats 16000000
namespace Go.Proofs.YtimhglmfckfclaaGreat
section
namespace Fr
open Vw (Sess)
open Ex (Ent itm wo)
open Hp (ahd)
theorem goes_path {S:List Slt} {last:Int}:∀ (t:List Int) (x:Int) (n:Nat),Path S (x :: t)->(x :: t).getLast? = some last->(x :: t).Nodup->(∀ y ∈ x :: t,thr y=true)->(x :: t).length<=n->goes S last n x=x :: t
 | [],x,n,_,hl,_,ht,hn => by
  obtain ⟨m,rfl⟩:∃ m,n=m+1:=⟨n-1,by simp at hn;omega⟩
  have e:x=last:=by simpa using hl
  unfold goes
  rw [if_pos (ht x (by simp)),if_pos e]
 | y :: t,x,n,hp,hl,hd,ht,hn => by
  obtain ⟨m,rfl⟩:∃ m,n=m+1:=⟨n-1,by simp at hn;omega⟩
  have hl2:(y :: t).getLast? = some last:=by simpa using hl
  have hne:x≠last:=fun e => (List.nodup_cons.1 hd).1 (by subst e;exact List.mem_of_getLast? hl2)
  unfold goes
  rw [if_pos (ht x (by simp)),if_neg hne,hp.1.1,goes_path t y m hp.2 hl2 (List.nodup_cons.1 hd).2 (fun z hz => ht z (List.mem_cons_of_mem _ hz)) (by simp at hn ⊢;omega)]
theorem RingAt.all {S:List Slt} {last:Int} {L:List Int} (h:RingAt S last L) (ht:∀ x ∈ L,thr x=true) (hd:L.Nodup):allL S last=L:=by
 unfold allL
 rcases h with ⟨rfl,rfl⟩ | ⟨r,e,h⟩
 ·rfl
 ·have hl:thr last=true:=ht last (by rw [e];simp)
  rw [if_pos hl]
  obtain ⟨f,t,hf⟩:∃ f t,L=f :: t:=by rw [e];cases r <;> simp
  have hlast:L.getLast? = some last:=by rw [e];simp
  have hlen:L.length<=32:=by
   have:=nodup_le (m:=ids) hd (fun x hx => mem_ids.2 (ht x hx))
   rw [ids_len] at this;exact this
  rw [hf] at h hlast hd ht hlen ⊢
  rw [h.1.1]
  exact goes_path t f 32 h.2 hlast hd ht hlen
def preN (K:Int->List Int):Nat->Int->List Int
 | 0,_ => []
 | n+1,i => i :: (K i).flatMap (preN K n)
section
variable {st:FS} {R G:List Int} {K:Int->List Int} {pl:Int->Pl}
theorem Wf.sub_top (hw:Wf st R G K pl) {i j:Int} (hs:Sub pl i j) (tj:thr j=true):i=j\/∃ k,k ∈ K i/\Sub pl k j:=by
 induction hs with
 | refl => exact .inl rfl
 | step hk h ih =>
  rename_i j p
  have tp:=(hw.co.kid j p tj hk).1
  rcases ih tp with e | ⟨k,k1,k2⟩
  ·subst e;exact .inr ⟨j,(hw.sh.kmem _ _).2 ⟨tj,hk⟩,.refl⟩
  ·exact .inr ⟨k,k1,.step hk k2⟩
def far (st:FS) (i:Int):Nat:=(7-(sl st.S i).s.depth).toNat
theorem Wf.far_pos (hw:Wf st R G K pl) {i:Int} (ti:thr i=true) (hf:pl i≠.fr):1<=far st i:=by
 have:(sl st.S i).s.depth<=6:=(hw.co.depth ti hf).2
 unfold far;omega
theorem Wf.far_kid (hw:Wf st R G K pl) {i k:Int} (hk:k ∈ K i):thr k=true/\pl k≠.fr/\far st i=far st k+1:=by
 obtain ⟨tk,pk⟩:=(hw.sh.kmem i k).1 hk
 have hd:(sl st.S k).s.depth=(sl st.S i).s.depth+1:=hw.co.kid_depth tk pk
 have nf:pl k≠.fr:=by rw [pk];simp
 have h2:(sl st.S k).s.depth<=6:=(hw.co.depth tk nf).2
 exact ⟨tk,nf,by unfold far;omega⟩
theorem Wf.mem_pre (hw:Wf st R G K pl):∀ (n:Nat) (i:Int),thr i=true->pl i≠.fr->far st i<=n->∀ j,j ∈ preN K n i↔thr j=true/\Sub pl i j
 | 0,i,ti,hf,hn,j => by have:=hw.far_pos ti hf;omega
 | n+1,i,ti,hf,hn,j => by
  unfold preN
  rw [List.mem_cons,List.mem_flatMap]
  constructor
  ·rintro (rfl | ⟨k,hk,hj⟩)
   ·exact ⟨ti,.refl⟩
   ·obtain ⟨tk,nf,hfar⟩:=hw.far_kid hk
    obtain ⟨h1,h2⟩:=(Wf.mem_pre hw n k tk nf (by omega) j).1 hj
    exact ⟨h1,Sub.trans (.step ((hw.sh.kmem i k).1 hk).2 .refl) h2⟩
  ·rintro ⟨tj,hs⟩
   rcases hw.sub_top hs tj with e | ⟨k,hk,h2⟩
   ·exact .inl e.symm
   ·obtain ⟨tk,nf,hfar⟩:=hw.far_kid hk
    exact .inr ⟨k,hk,(Wf.mem_pre hw n k tk nf (by omega) j).2 ⟨tj,h2⟩⟩
theorem Wf.apart (hw:Wf st R G K pl) {i k l j:Int} (hk:k ∈ K i) (hl:l ∈ K i) (hn:k≠l) (tj:thr j=true) (h1:Sub pl k j) (h2:Sub pl l j):False:=by
 obtain ⟨tk,pk⟩:=(hw.sh.kmem i k).1 hk
 obtain ⟨tl,pL⟩:=(hw.sh.kmem i l).1 hl
 have key:∀ a b:Int,thr a=true->thr b=true->pl a = .kd i->pl b = .kd i->a≠b->¬ Sub pl a b:=fun a b ta tb pa pb hab hs => by
  cases hs with
  | refl => exact hab rfl
  | step h3 h4 =>
   rw [pb] at h3;injection h3 with h3;subst h3
   have t1:=(hw.co.kid b _ tb pb).1
   have e1:=hw.co.later ta pa
   rcases hw.co.sub_birth h4 t1 with e | e
   ·subst e;omega
   ·omega
 rcases Sub.line h1 h2 with h3 | h3
 ·exact key k l tk tl pk pL hn h3
 ·exact key l k tl tk pL pk (Ne.symm hn) h3
theorem Wf.pre_nd (hw:Wf st R G K pl):∀ (n:Nat) (i:Int),thr i=true->pl i≠.fr->far st i<=n->(preN K n i).Nodup
 | 0,i,ti,hf,hn => List.nodup_nil
 | n+1,i,ti,hf,hn => by
  unfold preN
  refine List.nodup_cons.2 ⟨fun hm => ?_,?_⟩
  ·obtain ⟨k,hk,hj⟩:=List.mem_flatMap.1 hm
   obtain ⟨tk,nf,hfar⟩:=hw.far_kid hk
   have h2:=((hw.mem_pre n k tk nf (by omega) i).1 hj).2
   have h3:=hw.co.later tk ((hw.sh.kmem i k).1 hk).2
   rcases hw.co.sub_birth h2 ti with e | e
   ·subst e;omega
   ·omega
  ·have:∀ l:List Int,l.Nodup->(∀ k ∈ l,k ∈ K i)->(l.flatMap (preN K n)).Nodup:=by
    intro l
    induction l with
    | nil => intro _ _;exact List.nodup_nil
    | cons k t ih =>
     intro hd hk
     rw [List.flatMap_cons]
     obtain ⟨tk,nf,hfar⟩:=hw.far_kid (hk k (by simp))
     refine List.nodup_append.2 ⟨Wf.pre_nd hw n k tk nf (by omega),ih (List.nodup_cons.1 hd).2 (fun x hx => hk x (List.mem_cons_of_mem _ hx)),fun x hx y hy e => ?_⟩
     subst e
     obtain ⟨l,hl,hj⟩:=List.mem_flatMap.1 hy
     obtain ⟨tl,nfl,hfarl⟩:=hw.far_kid (hk l (List.mem_cons_of_mem _ hl))
     obtain ⟨tx,s1⟩:=(hw.mem_pre n k tk nf (by omega) x).1 hx
     obtain ⟨_,s2⟩:=(hw.mem_pre n l tl nfl (by omega) x).1 hj
     exact hw.apart (hk k (by simp)) (hk l (List.mem_cons_of_mem _ hl)) (fun e => (List.nodup_cons.1 hd).1 (by rw [e];exact hl)) tx s1 s2
   exact this (K i) (hw.sh.knd i) (fun k hk => hk)
theorem Wf.below (hw:Wf st R G K pl):∀ (n:Nat) (i:Int) (seen:List Int),thr i=true->pl i≠.fr->far st i<=n->(∀ j,thr j=true->Sub pl i j->j ∉ seen)->belowN st.S n i seen=seen ++ preN K n i
 | 0,i,seen,ti,hf,hn,_ => by have:=hw.far_pos ti hf;omega
 | n+1,i,seen,ti,hf,hn,hs => by
  unfold belowN
  have hc:seen.contains i=false:=by simpa using hs i ti .refl
  rw [hc,(hw.sh.rK i ti hf).all (hw.sh.kthr i) (hw.sh.knd i)]
  simp only [Bool.false_eq_true,if_false]
  have key:∀ (l:List Int) (acc:List Int),l.Nodup->(∀ k ∈ l,k ∈ K i)->(∀ k ∈ l,∀ j,thr j=true->Sub pl k j->j ∉ acc)->l.foldl (fun sn k => belowN st.S n k sn) acc=acc ++ l.flatMap (preN K n):=by
   intro l
   induction l with
   | nil => intro acc _ _ _;simp
   | cons k t ih =>
    intro acc hd hk ha
    obtain ⟨tk,nf,hfar⟩:=hw.far_kid (hk k (by simp))
    rw [List.foldl_cons,Wf.below hw n k acc tk nf (by omega) (ha k (by simp)),ih _ (List.nodup_cons.1 hd).2 (fun x hx => hk x (List.mem_cons_of_mem _ hx)),List.flatMap_cons,List.append_assoc]
    intro l hl j tj h2 hm
    rcases List.mem_append.1 hm with hm | hm
    ·exact ha l (List.mem_cons_of_mem _ hl) j tj h2 hm
    ·have h1:=((hw.mem_pre n k tk nf (by omega) j).1 hm).2
     exact hw.apart (hk k (by simp)) (hk l (List.mem_cons_of_mem _ hl)) (fun e => (List.nodup_cons.1 hd).1 (by rw [e];exact hl)) tj h1 h2
  rw [key (K i) _ (hw.sh.knd i) (fun k hk => hk) (fun k hk j tj h2 hm => ?_)]
  ·unfold preN;simp
  ·rcases List.mem_append.1 hm with hm | hm
   ·exact hs j tj (Sub.trans (.step ((hw.sh.kmem i k).1 hk).2 .refl) h2) hm
   ·rw [List.mem_singleton.1 hm] at h2
    have h3:=hw.co.later ((hw.sh.kmem i k).1 hk).1 ((hw.sh.kmem i k).1 hk).2
    rcases hw.co.sub_birth h2 ti with e | e
    ·subst e;omega
    ·omega
theorem Wf.under (hw:Wf st R G K pl) {i:Int} (ti:thr i=true) (hf:pl i≠.fr):underI st.S i=preN K 33 i:=by
 unfold underI
 rw [if_pos ti,hw.below 33 i [] ti hf (by have:0<=(sl st.S i).s.depth:=(hw.co.depth ti hf).1;unfold far;omega) (fun j _ _ => by simp)]
 rfl
theorem Wf.mem_under (hw:Wf st R G K pl) {i:Int} (ti:thr i=true) (hf:pl i≠.fr) (j:Int):j ∈ underI st.S i↔thr j=true/\Sub pl i j:=by
 rw [hw.under ti hf]
 exact hw.mem_pre 33 i ti hf (by have:0<=(sl st.S i).s.depth:=(hw.co.depth ti hf).1;unfold far;omega) j
theorem Wf.under_nd (hw:Wf st R G K pl) {i:Int} (ti:thr i=true) (hf:pl i≠.fr):(underI st.S i).Nodup:=by
 rw [hw.under ti hf]
 exact hw.pre_nd 33 i ti hf (by have:0<=(sl st.S i).s.depth:=(hw.co.depth ti hf).1;unfold far;omega)
end
theorem IsN.mem_underF {st:FS} {A:List Sess} (h:IsN st A) {s:Sess} (hs:s ∈ A) (x:Sess):x ∈ underF st s.slot s.birth↔Anc A s.birth x:=by
 unfold underF
 rw [if_pos ((h.lives_iff _ _).2 ⟨s,hs,rfl,rfl⟩)]
 obtain ⟨R,G,K,pl,hw,hp,hm⟩:=h
 obtain ⟨i,i1,i2,rfl⟩:=(hm s).1 hs
 have e:(sl st.S i).s.slot=i:=(hw.co.may i i1 i2.nf.1).2.1
 rw [e,List.mem_map]
 constructor
 ·rintro ⟨j,hj,rfl⟩
  obtain ⟨tj,h2⟩:=(hw.mem_under i1 i2.nf.1 j).1 hj
  exact (anc_sub hw hm i1 i2 tj (i2.down h2)).2 h2
 ·intro ha
  obtain ⟨j,j1,j2,rfl⟩:=(hm x).1 ha.mem
  exact ⟨j,(hw.mem_under i1 i2.nf.1 j).2 ⟨j1,(anc_sub hw hm i1 i2 j1 j2).1 ha⟩,rfl⟩
theorem insB_mem (x:Sess):∀ (l:List Sess) (y:Sess),y ∈ insB x l↔y=x\/y ∈ l
 | [],y => by simp [insB]
 | z :: r,y => by
  unfold insB
  split
  ·simp
  ·rw [List.mem_cons,insB_mem x r y,List.mem_cons]
   constructor
   ·rintro (h | h | h) <;> simp [h]
   ·rintro (h | h | h) <;> simp [h]
theorem insB_sorted (x:Sess):∀ (l:List Sess),(l.Pairwise fun a b => a.birth<b.birth)->(∀ y ∈ l,y.birth≠x.birth)->(insB x l).Pairwise fun a b => a.birth<b.birth
 | [],_,_ => by simp [insB]
 | z :: r,h,hn => by
  have h1:=List.pairwise_cons.1 h
  unfold insB
  split
  ·rename_i hlt
   refine List.pairwise_cons.2 ⟨fun y hy => ?_,h⟩
   rcases List.mem_cons.1 hy with rfl | hy
   ·exact hlt
   ·have:=h1.1 y hy;omega
  ·rename_i hge
   have hz:=hn z (by simp)
   refine List.pairwise_cons.2 ⟨fun y hy => ?_,insB_sorted x r h1.2 (fun y hy => hn y (List.mem_cons_of_mem _ hy))⟩
   rcases (insB_mem x r y).1 hy with rfl | hy
   ·omega
   ·exact h1.1 y hy
theorem sortB_spec (l:List Sess) (hd:l.Pairwise fun a b => a.birth≠b.birth):(∀ y,y ∈ sortB l↔y ∈ l)/\(sortB l).Pairwise fun a b => a.birth<b.birth:=by
 have key:∀ (l acc:List Sess),(acc.Pairwise fun a b => a.birth<b.birth)->(l.Pairwise fun a b => a.birth≠b.birth)->(∀ x ∈ l,∀ y ∈ acc,y.birth≠x.birth)->(∀ y,y ∈ l.foldl (fun a x => insB x a) acc↔y ∈ l\/y ∈ acc)/\(l.foldl (fun a x => insB x a) acc).Pairwise fun a b => a.birth<b.birth:=by
  intro l
  induction l with
  | nil => intro acc h _ _;exact ⟨fun y => by simp,h⟩
  | cons x t ih =>
   intro acc h h2 h3
   have h4:=List.pairwise_cons.1 h2
   rw [List.foldl_cons]
   obtain ⟨k1,k2⟩:=ih (insB x acc) (insB_sorted x acc h (h3 x (by simp))) h4.2 (fun z hz y hy => by
    rcases (insB_mem x acc y).1 hy with rfl | hy
    ·exact h4.1 z hz
    ·exact h3 z (List.mem_cons_of_mem _ hz) y hy)
   refine ⟨fun y => ?_,k2⟩
   rw [k1,insB_mem,List.mem_cons]
   constructor
   ·rintro (h | h | h) <;> simp [h]
   ·rintro ((h | h) | h) <;> simp [h]
 obtain ⟨k1,k2⟩:=key l [] List.Pairwise.nil hd (fun _ _ _ hy => by cases hy)
 exact ⟨fun y => by rw [show sortB l=l.foldl (fun a x => insB x a) [] from rfl,k1];simp,k2⟩
def rawState (st:FS):List Sess:=(allL st.S st.roots).flatMap fun i => underF st (sl st.S i).s.slot (sl st.S i).s.birth
theorem IsN.raw {st:FS} {A:List Sess} (h:IsN st A):(∀ s,s ∈ rawState st↔s ∈ A)/\(rawState st).Pairwise fun a b => a.birth≠b.birth:=by
 have hmu:=fun (s:Sess) (hs:s ∈ A) x => h.mem_underF hs x
 have hl:=h.lives_iff
 obtain ⟨R,G,K,pl,hw,hp,hm⟩:=h
 unfold rawState
 rw [hw.sh.rR.all hw.sh.rthr hw.sh.rnd]
 have hroot:∀ i ∈ R,thr i=true/\Lv pl i/\(sl st.S i).s ∈ A/\(sl st.S i).s.slot=i:=fun i hi => by
  obtain ⟨t1,t2⟩:=(hw.sh.rmem i).1 hi
  have lv:Lv pl i:=.root t2
  exact ⟨t1,lv,(hm _).2 ⟨i,t1,lv,rfl⟩,(hw.co.may i t1 lv.nf.1).2.1⟩
 have hund:∀ i ∈ R,underF st (sl st.S i).s.slot (sl st.S i).s.birth=(underI st.S i).map fun j => (sl st.S j).s:=fun i hi => by
  obtain ⟨t1,t2,t3,t4⟩:=hroot i hi
  unfold underF
  rw [if_pos ((hl _ _).2 ⟨_,t3,rfl,rfl⟩),t4]
 constructor
 ·intro s
  rw [List.mem_flatMap]
  constructor
  ·rintro ⟨i,hi,hs⟩
   obtain ⟨t1,t2,t3,t4⟩:=hroot i hi
   exact ((hmu _ t3 s).1 hs).mem
  ·intro hs
   obtain ⟨j,j1,j2,rfl⟩:=(hm s).1 hs
   have:∃ i ∈ R,Sub pl i j:=by
    clear hs
    induction j2 with
    | root h => rename_i j;exact ⟨j,(hw.sh.rmem j).2 ⟨j1,h⟩,.refl⟩
    | kid h _ ih =>
     obtain ⟨i,hi,h2⟩:=ih (hw.co.kid _ _ j1 h).1
     exact ⟨i,hi,.step h h2⟩
   obtain ⟨i,hi,h2⟩:=this
   obtain ⟨t1,t2,t3,t4⟩:=hroot i hi
   exact ⟨i,hi,(hmu _ t3 _).2 ((anc_sub hw hm t1 t2 j1 j2).2 h2)⟩
 ·have key:∀ l:List Int,l.Nodup->(∀ i ∈ l,i ∈ R)->(l.flatMap fun i => underF st (sl st.S i).s.slot (sl st.S i).s.birth).Pairwise fun a b => a.birth≠b.birth:=by
   intro l
   induction l with
   | nil => intro _ _;exact List.Pairwise.nil
   | cons i t ih =>
    intro hd hk
    have hi:=hk i (by simp)
    obtain ⟨t1,t2,t3,t4⟩:=hroot i hi
    rw [List.flatMap_cons]
    refine List.pairwise_append.2 ⟨?_,ih (List.nodup_cons.1 hd).2 (fun x hx => hk x (List.mem_cons_of_mem _ hx)),fun a ha b hb e => ?_⟩
    ·rw [hund i hi,List.pairwise_map]
     have h2:=List.Pairwise.and_mem.1 (List.nodup_iff_pairwise_ne.1 (hw.under_nd t1 t2.nf.1))
     refine h2.imp (fun {x y} ⟨hx,hy,hxy⟩ e => hxy ?_)
     obtain ⟨x1,x2⟩:=(hw.mem_under t1 t2.nf.1 x).1 hx
     obtain ⟨y1,y2⟩:=(hw.mem_under t1 t2.nf.1 y).1 hy
     exact hw.co.inj x y x1 y1 (t2.down x2).nf.1 (t2.down y2).nf.1 e
    ·rw [hund i hi] at ha
     obtain ⟨l,hl2,hb⟩:=List.mem_flatMap.1 hb
     have hlR:=hk l (List.mem_cons_of_mem _ hl2)
     obtain ⟨l1,l2,l3,l4⟩:=hroot l hlR
     rw [hund l hlR] at hb
     obtain ⟨x,hx,rfl⟩:=List.mem_map.1 ha
     obtain ⟨y,hy,rfl⟩:=List.mem_map.1 hb
     obtain ⟨x1,x2⟩:=(hw.mem_under t1 t2.nf.1 x).1 hx
     obtain ⟨y1,y2⟩:=(hw.mem_under l1 l2.nf.1 y).1 hy
     have exy:=hw.co.inj x y x1 y1 (t2.down x2).nf.1 (l2.down y2).nf.1 e
     subst exy
     have hne:i≠l:=fun e => (List.nodup_cons.1 hd).1 (by rw [e];exact hl2)
     have pr1:=((hw.sh.rmem i).1 hi).2
     have pr2:=((hw.sh.rmem l).1 hlR).2
     rcases Sub.line x2 y2 with h3 | h3
     ·cases h3 with
      | refl => exact hne rfl
      | step h4 _ => rw [pr2] at h4;cases h4
     ·cases h3 with
      | refl => exact hne rfl
      | step h4 _ => rw [pr1] at h4;cases h4
  exact key R hw.sh.rnd (fun i hi => hi)
theorem IsN.state {st:FS} {A:List Sess} (h:IsN st A):stateF st=A:=by
 obtain ⟨h1,h2⟩:=h.raw
 obtain ⟨h3,h4⟩:=sortB_spec (rawState st) h2
 obtain ⟨R,G,K,pl,hw,hp,hm⟩:=h
 exact sorted_ext (A:=sortB (rawState st)) h4 hp (fun s => by rw [h3,h1])
end Fr
end
section
open Go.RowKit
namespace Ag
theorem fill_one (ie:TypeInfo) (z:Value) (cs:List Value) (hn:cs.length=ie.size) (h0:0<ie.size):Instr.fill (fun i => some (i * ie.size,ie.size)) ((Array.range (1 * ie.size)).map (z.cells[· % z.cells.size]!)) [(0,.agg cs.toArray)]=some cs.toArray:=by
 have h:=Go.Great.fill_whole (s:=ie.size) h0 [Value.agg cs.toArray] ((Array.range (1 * ie.size)).map (z.cells[· % z.cells.size]!)) (by simp [Value.cells,hn]) (by simp)
 simpa [Value.cells] using h
theorem wpList_one {P:Program} {ops:Array Oper} {rest:List Oper} {o:Oper} {a:Act} {w:World} {Q:Exit->Act->World->Prop} (hg:o.guard=none) (t e:TypeId) (x:Operand) (ho:o.op = .buildSlice t 1 #[(0,x)])
  (cs:List Value) (hx:a.eval x = .agg cs.toArray) (ie:TypeInfo) (z:Value) (hu:P.underlying t=some (.slice e)) (hie:P.info? e=some ie) (hz:ie.zero=some z) (hn:cs.length=ie.size) (h0:0<ie.size) (hs:ie.size<=16777216)
  (h:wpList P ops Q rest (a.put o.dst (.slice (some ⟨w.heap.size,0,none⟩) 1 1)) (w.alloc (.cells cs.toArray e))):wpList P ops Q (o :: rest) a w:=by
 refine Go.wpList_buildSlice hg t e 1 #[(0,x)] ho cs.toArray ie z hu hie hz (by omega) (by omega) ?_ h
 have h:=fill_one ie z cs hn h0
 simpa [hx] using h
def put (Z:Array Value):Nat->List Value->Array Value
 | _,[] => Z
 | o,v :: r => put (Z.setIfInBounds o v) (o+1) r
theorem put_size:∀ (vs:List Value) (o:Nat) (Z:Array Value),(put Z o vs).size=Z.size
 | [],_,_ => rfl
 | v :: r,o,Z => by rw [put,put_size r];simp
theorem put_at:∀ (vs:List Value) (o:Nat) (Z:Array Value) (i:Nat),(put Z o vs)[i]? = if o<=i/\i<o+vs.length/\i<Z.size then vs[i-o]? else Z[i]?
 | [],o,Z,i => by rw [if_neg (by simp;omega)];rfl
 | v :: r,o,Z,i => by
  rw [put,put_at r]
  by_cases h1:o=i
  ·subst h1
   rw [if_neg (by omega)]
   by_cases h2:o<Z.size
   ·rw [if_pos (by simp;omega)];simp [h2]
   ·rw [if_neg (by simp;omega)];simp [h2]
  ·by_cases h2:o+1<=i/\i<o+1+r.length/\i<Z.size
   ·rw [if_pos (by simpa using h2),if_pos (by simp;omega),show i-o=(i-(o+1))+1 by omega,List.getElem?_cons_succ]
   ·rw [if_neg (by simpa using h2),if_neg (by simp;omega),Array.getElem?_setIfInBounds,if_neg h1]
theorem put_all {Z:Array Value} {cs:List Value} (h:Z.size=cs.length):put Z 0 cs=cs.toArray:=by
 apply Array.ext_getElem?
 intro i
 rw [put_at]
 by_cases h1:i<cs.length
 ·rw [if_pos (by omega)];simp
 ·rw [if_neg (by omega)]
  simp [h1,h]
theorem setCells_new (w:World) (t:TypeId):∀ (vs:List Value) (o:Nat) (Z:Array Value),(w.alloc (.cells Z t)).setCells w.heap.size o vs=w.alloc (.cells (put Z o vs) t)
 | [],_,_ => rfl
 | v :: r,o,Z => by
  rw [World.setCells,World.setCell_alloc_at (hn:=rfl),setCells_new w t r];rfl
theorem there_new (w:World) (t:TypeId) (Z:Array Value) (n:Nat) (h:n<=Z.size):(w.alloc (.cells Z t)).there w.heap.size 0 n:=fun j hj => by
 refine ⟨?_,World.frozen?_alloc_new w Z t _⟩
 rw [zc (Ut.alloc_at w (.cells Z t)),Nat.zero_add]
 have h2:j<Z.size:=by omega
 simp [h2]
theorem wpList_store_new {P:Program} {ops:Array Oper} {rest:List Oper} {o:Oper} {a:Act} {w:World} {Q:Exit->Act->World->Prop} {t:TypeId} {Z:Array Value} (hg:o.guard=none) (ty:TypeId) (x y:Operand) (ho:o.op = .store ty x y) (cs:List Value)
  (hx:a.eval x = .pointer (some ⟨w.heap.size,0,none⟩)) (hy:a.eval y = .agg cs.toArray) (hi:(P.info? ty).map (·.size)=some cs.length) (hZ:Z.size=cs.length) (h1:∀ v ∈ cs,v.oneCell'=true)
  (h:wpList P ops Q rest (a.put o.dst undef) (w.alloc (.cells cs.toArray t))):wpList P ops Q (o :: rest) a (w.alloc (.cells Z t)):=by
 refine wpList_store_mid hg ty x y ho w.heap.size 0 cs.toArray hx hy (there_new w t Z _ (by simp [hZ])) (by simpa using hi) (all_oneCell_toArray h1) ?_
 rw [setCells_new,List.toList_toArray,put_all hZ]
 exact h
theorem setCells_row (b:Nat) (t:TypeId):∀ (vs:List Value) (o:Nat) (Z:Array Value) (w:World),w.heap[b]? = some (.cells Z t (0,0))->(w.setCells b o vs).heap[b]? = some (.cells (put Z o vs) t (0,0))
 | [],_,_,_,h => h
 | v :: r,o,Z,w,h => by
  rw [World.setCells,put]
  exact setCells_row b t r _ _ _ (heap_setCell_same w b o _ _ v h)
theorem there_row {w:World} {b:Nat} {t:TypeId} {Z:Array Value} (h:w.heap[b]? = some (.cells Z t (0,0))) (n:Nat) (hn:n<=Z.size):w.there b 0 n:=fun j hj => by
 refine ⟨?_,by unfold World.frozen?;rw [h];rfl⟩
 rw [zc h,Nat.zero_add]
 have h2:j<Z.size:=by omega
 simp [h2]
theorem below_setCells {B:Nat} {a:World} {b:Nat} (hb:B<=b):∀ (vs:List Value) (o:Nat) (w:World),Below B a w->Below B a (w.setCells b o vs)
 | [],_,_,h => h
 | v :: r,o,w,h => by
  rw [World.setCells]
  exact below_setCells hb r _ _ (h.setCell (p:=⟨b,o,none⟩) hb v)
end Ag
end
section
open Go.RowKit
namespace Fr
open Vw (Sess)
def Slt.cells (x:Slt):List Value:=[.bool x.used,.bool x.dead,.int .i64 x.kids,.int .i64 x.prev,.int .i64 x.next,.int .i64 x.s.slot,.int .i64 x.s.birth,.int .i64 x.s.us,.int .i64 x.s.ub,.int .i64 x.s.kind,.string x.s.user,.string x.s.label,.int .u64 (x.s.scopes:Int),.int .i64 x.s.level,.int .i64 x.s.born,.int .i64 x.s.dl,.int .i64 x.s.depth]
theorem Slt.cells_eq (x:Slt):x.cells=[.bool x.used,.bool x.dead,.int .i64 x.kids,.int .i64 x.prev,.int .i64 x.next] ++ x.s.cells:=rfl
theorem Slt.cells_len (x:Slt):x.cells.length=17:=rfl
theorem Slt.one (x:Slt):∀ u ∈ x.cells,u.oneCell'=true:=by
 intro u hu
 simp only [Slt.cells,List.mem_cons,List.not_mem_nil,or_false] at hu
 rcases hu with rfl | rfl | rfl | rfl | rfl | rfl | rfl | rfl | rfl | rfl | rfl | rfl | rfl | rfl | rfl | rfl | rfl <;> rfl
def allS (S:List Slt):List Value:=S.flatMap Slt.cells
theorem allS_len (S:List Slt):(allS S).length=S.length * 17:=by
 unfold allS
 induction S with
 | nil => rfl
 | cons s r ih => rw [List.flatMap_cons,List.length_append,ih,List.length_cons,Slt.cells_len];omega
theorem allS_at:∀ (S:List Slt) {k j:Nat} (hk:k<S.length) (hj:j<17),(allS S)[k * 17+j]? = S[k].cells[j]?
 | [],k,j,hk,_ => absurd hk (Nat.not_lt_zero _)
 | s :: r,0,j,hk,hj => by
  show (s.cells ++ allS r)[0 * 17+j]? = s.cells[j]?
  rw [List.getElem?_append_left (by rw [Slt.cells_len];omega),Nat.zero_mul,Nat.zero_add]
 | s :: r,k+1,j,hk,hj => by
  show (s.cells ++ allS r)[(k+1) * 17+j]? = _
  rw [List.getElem?_append_right (by rw [Slt.cells_len];omega),Slt.cells_len,show (k+1) * 17+j-17=k * 17+j by omega,allS_at r (by simpa using hk) hj]
  rfl
def arCells (S:List Slt) (nx:List Int) (fi:Int) (wr:Nat):List Value:=allS S ++ (nx.map (Value.int .i64) ++ [.int .i64 fi,.int .i64 (wr:Int)])
structure ArW (a:Nat) (S:List Slt) (nx:List Int) (fi:Int) (wr:Nat) (w:World):Prop where
 row:w.heap[a]? = some (.cells (arCells S nx fi wr).toArray 110 (0,0))
 ls:S.length=32
 ln:nx.length=32
section
variable {a:Nat} {S:List Slt} {nx:List Int} {fi:Int} {wr:Nat} {w:World}
theorem ArW.lt (h:ArW a S nx fi wr w):a<w.heap.size:=(zx h.row)
theorem ArW.keep {w':World} (h:ArW a S nx fi wr w) (e:w'.heap[a]? = w.heap[a]?):ArW a S nx fi wr w':=⟨e.trans h.row,h.ls,h.ln⟩
theorem ArW.below {w':World} (h:ArW a S nx fi wr w) (hb:Below w.heap.size w w'):ArW a S nx fi wr w':=h.keep (hb.block a h.lt)
theorem ArW.len (h:ArW a S nx fi wr w):(arCells S nx fi wr).length=578:=by
 unfold arCells
 simp only [List.length_append,allS_len,List.length_map,h.ls,h.ln,List.length_cons,List.length_nil]
theorem ArW.slot (h:ArW a S nx fi wr w) {k:Nat} (hk:k<32):w.rangeAt a (k * 17) (sl S (k:Int)).cells:=fun j u hu => by
 rw [zc h.row,List.getElem?_toArray]
 have hj:j<17:=(List.getElem?_eq_some_iff.1 hu).1
 unfold arCells
 have hk2:k<S.length:=by rw [h.ls];exact hk
 have e:sl S (k:Int)=S[k]:=by
  unfold sl
  rw [List.getD_eq_getElem?_getD,Int.toNat_natCast,List.getElem?_eq_getElem hk2];rfl
 rw [List.getElem?_append_left (by rw [allS_len,h.ls];omega),allS_at S hk2 hj,<- hu,e]
theorem ArW.next (h:ArW a S nx fi wr w) {k:Nat} (hk:k<32):w.cell? ⟨a,544+k,none⟩=some (.int .i64 (nx.getD k 0)):=by
 rw [zc h.row,List.getElem?_toArray]
 unfold arCells
 rw [List.getElem?_append_right (by rw [allS_len,h.ls];omega),allS_len,h.ls,show 544+k-32 * 17=k by omega,List.getElem?_append_left (by rw [List.length_map,h.ln];exact hk),List.getElem?_map,List.getD_eq_getElem?_getD,List.getElem?_eq_getElem (by rw [h.ln];exact hk)];rfl
theorem ArW.first (h:ArW a S nx fi wr w):w.cell? ⟨a,576,none⟩=some (.int .i64 fi):=by
 rw [zc h.row,List.getElem?_toArray]
 unfold arCells
 rw [List.getElem?_append_right (by rw [allS_len,h.ls];omega),allS_len,h.ls,List.getElem?_append_right (by rw [List.length_map,h.ln];omega),List.length_map,h.ln];rfl
theorem ArW.writes (h:ArW a S nx fi wr w):w.cell? ⟨a,577,none⟩=some (.int .i64 (wr:Int)):=by
 rw [zc h.row,List.getElem?_toArray]
 unfold arCells
 rw [List.getElem?_append_right (by rw [allS_len,h.ls];omega),allS_len,h.ls,List.getElem?_append_right (by rw [List.length_map,h.ln];omega),List.length_map,h.ln];rfl
theorem ArW.free (h:ArW a S nx fi wr w) (o:Nat):w.frozen? ⟨a,o,none⟩=false:=by unfold World.frozen?;rw [h.row];rfl
theorem ArW.there (h:ArW a S nx fi wr w) {k:Nat} (hk:k<32):w.there a (k * 17) 17:=fun j hj => by
 refine ⟨?_,h.free _⟩
 rw [zc h.row,List.getElem?_toArray,List.getElem?_eq_getElem (by rw [h.len];omega)];rfl
theorem put_cells {S:List Slt} {k:Nat} (hk:k<S.length) (x:Slt) (t:List Value):Ag.put (allS S ++ t).toArray (k * 17) x.cells=(allS (put S (k:Int) x) ++ t).toArray:=by
 apply Array.ext_getElem?
 intro i
 have hx:x.cells.length=17:=rfl
 have hl:(allS (put S (k:Int) x)).length=S.length * 17:=by rw [allS_len,put_len]
 rw [Ag.put_at,hx,List.size_toArray,List.length_append,allS_len,List.getElem?_toArray,List.getElem?_toArray]
 by_cases hi:i<S.length * 17
 ·rw [List.getElem?_append_left (by rw [allS_len];exact hi),List.getElem?_append_left (by rw [hl];exact hi)]
  have e:i=i / 17 * 17+i % 17:=by omega
  have h1:i / 17<S.length:=by omega
  have h2:i / 17<(put S (k:Int) x).length:=by rw [put_len];exact h1
  have hm:i % 17<17:=by omega
  have e1:(allS (put S (k:Int) x))[i]? = (put S (k:Int) x)[i / 17].cells[i % 17]?:=by
   conv => lhs;rw [e]
   exact allS_at _ h2 hm
  have e2:(allS S)[i]? = S[i / 17].cells[i % 17]?:=by
   conv => lhs;rw [e]
   exact allS_at _ h1 hm
  have e5:(put S (k:Int) x)[i / 17]=if k=i / 17 then x else S[i / 17]:=by
   have:=List.getElem_set (l:=S) (i:=(k:Int).toNat) (j:=i / 17) (a:=x) (h:=by rw [List.length_set];exact h1)
   rw [show (put S (k:Int) x)[i / 17]=(S.set (k:Int).toNat x)[i / 17]'(by rw [List.length_set];exact h1) from rfl,this,Int.toNat_natCast]
  rw [e1,e2,e5]
  by_cases hb:k=i / 17
  ·have e3:i-k * 17=i % 17:=by omega
   rw [if_pos (by omega),if_pos hb,e3]
  ·rw [if_neg (by omega),if_neg hb]
 ·rw [if_neg (by omega),List.getElem?_append_right (by rw [allS_len];omega),List.getElem?_append_right (by rw [hl];omega),allS_len,hl]
theorem ArW.put (h:ArW a S nx fi wr w) {k:Nat} (hk:k<32) (x:Slt):ArW a (Fr.put S (k:Int) x) nx fi wr (w.setCells a (k * 17) x.cells):=by
 refine ⟨?_,by rw [put_len,h.ls],h.ln⟩
 rw [Ag.setCells_row a _ x.cells (k * 17) _ w h.row]
 unfold arCells
 rw [put_cells (by rw [h.ls];exact hk)]
theorem ar3 (X Y:List Value) (p q:Value) (hx:X.length=544) (hy:Y.length=32) (i:Nat):(X ++ (Y ++ [p,q]))[i]? = if i<544 then X[i]? else if i<576 then Y[i-544]? else if i=576 then some p else if i=577 then some q else none:=by
 by_cases h1:i<544
 ·rw [if_pos h1,List.getElem?_append_left (by omega)]
 ·rw [if_neg h1,List.getElem?_append_right (by omega),hx]
  by_cases h2:i<576
  ·rw [if_pos h2,List.getElem?_append_left (by omega)]
  ·rw [if_neg h2,List.getElem?_append_right (by omega),hy]
   by_cases h3:i=576
   ·subst h3;rw [if_pos rfl];rfl
   ·rw [if_neg h3]
    by_cases h4:i=577
    ·subst h4;rw [if_pos rfl];rfl
    ·rw [if_neg h4]
     exact List.getElem?_eq_none (by simp;omega)
theorem ArW.l1 (h:ArW a S nx fi wr w):(allS S).length=544/\(nx.map (Value.int .i64)).length=32:=⟨by rw [allS_len,h.ls],by rw [List.length_map,h.ln]⟩
theorem ArW.setW (h:ArW a S nx fi wr w) (n:Nat):ArW a S nx fi n (w.setCell ⟨a,577,none⟩ (.int .i64 (n:Int))):=by
 refine ⟨?_,h.ls,h.ln⟩
 rw [heap_setCell_same _ _ _ _ _ _ h.row]
 congr 2
 apply Array.ext_getElem?
 intro i
 rw [Array.getElem?_setIfInBounds,List.getElem?_toArray,List.getElem?_toArray,List.size_toArray,h.len]
 unfold arCells
 rw [ar3 _ _ _ _ h.l1.1 h.l1.2,ar3 _ _ _ _ h.l1.1 h.l1.2]
 by_cases h1:i=577
 ·subst h1;simp
 ·rw [if_neg (by omega)]
  simp only [if_neg h1]
theorem ArW.setF (h:ArW a S nx fi wr w) (n:Int):ArW a S nx n wr (w.setCell ⟨a,576,none⟩ (.int .i64 n)):=by
 refine ⟨?_,h.ls,h.ln⟩
 rw [heap_setCell_same _ _ _ _ _ _ h.row]
 congr 2
 apply Array.ext_getElem?
 intro i
 rw [Array.getElem?_setIfInBounds,List.getElem?_toArray,List.getElem?_toArray,List.size_toArray,h.len]
 unfold arCells
 rw [ar3 _ _ _ _ h.l1.1 h.l1.2,ar3 _ _ _ _ h.l1.1 h.l1.2]
 by_cases h1:i=576
 ·subst h1;simp
 ·rw [if_neg (by omega)]
  simp only [if_neg h1]
theorem ArW.setN (h:ArW a S nx fi wr w) {k:Nat} (hk:k<32) (n:Int):ArW a S (nx.set k n) fi wr (w.setCell ⟨a,544+k,none⟩ (.int .i64 n)):=by
 refine ⟨?_,h.ls,by rw [List.length_set,h.ln]⟩
 rw [heap_setCell_same _ _ _ _ _ _ h.row]
 congr 2
 apply Array.ext_getElem?
 intro i
 rw [Array.getElem?_setIfInBounds,List.getElem?_toArray,List.getElem?_toArray,List.size_toArray,h.len]
 unfold arCells
 rw [ar3 _ _ _ _ h.l1.1 h.l1.2,ar3 _ _ _ _ h.l1.1 (by rw [List.length_map,List.length_set,h.ln])]
 by_cases h1:544+k=i
 ·subst h1
  rw [if_pos rfl,if_pos (by omega),if_neg (by omega),if_pos (by omega),List.getElem?_map,List.getElem?_set,h.ln,if_pos (by omega),if_pos (by omega)];rfl
 ·rw [if_neg h1]
  by_cases h2:i<544
  ·rw [if_pos h2,if_pos h2]
  ·rw [if_neg h2,if_neg h2]
   by_cases h3:i<576
   ·rw [if_pos h3,if_pos h3,List.getElem?_map,List.getElem?_map,List.getElem?_set,if_neg (by omega)]
   ·rw [if_neg h3,if_neg h3]
end
theorem results_cell_tmp {P:Program} {fn:Func} {p q:Tmp} {ty:TypeId} (h:fn.results=#[.cell p ty,.tmp q]) (tmps:Array Value) (w:World) (g:Nat) (t:TypeId) (cs:Array Value) (fr:Nat × Nat) (d:TypeDesc)
  (hp:tmps.getD p undef = .pointer (some ⟨g,0,none⟩)) (hg:w.heap[g]? = some (.cells cs t fr)) (hu:P.underlying ty=some d) (hd:(match d with | .struct _ | .array _ _ => true | _ => false)=true) (hi:(P.info? ty).map (·.size)=some cs.size) :
  (results fn tmps).run P w = .ok (.tuple #[.agg cs,tmps.getD q undef]) w:=by
 have hp':tmps[p]?.getD undef = .pointer (some ⟨g,0,none⟩):=by simpa using hp
 simp [results,h,hp',asAddr,run_loadVar_row w g t ty cs fr d hg hu hd hi]
end Fr
end
section
open Go.RowKit
namespace St
theorem value {P:Program} {ops:Array Oper} {w:World} {Q:Act->Prop} {a:Act} {o:Oper} {rest:List Oper} (v:Value) (hw:Region.wanted o (yielded ops a.tmps)=true) (hv:(execOp a.eval o).run P w = .ok (.value v) w)
  (h:wpStill P ops w Q rest (a.put o.dst v)):wpStill P ops w Q (o :: rest) a :=
 wpStill_step fun K hK => by
  rw [if_pos hw]
  unfold Oper.still
  rw [hv]
  exact ⟨rfl,hK _ h⟩
theorem load {P:Program} {ops:Array Oper} {w:World} {Q:Act->Prop} {a:Act} {o:Oper} {rest:List Oper} (hw:Region.wanted o (yielded ops a.tmps)=true) (ty:TypeId) (x:Operand) (ho:o.op = .load ty x)
  (b k:Nat) (hx:a.eval x = .pointer (some ⟨b,k,none⟩)) (cs:List Value) (d:TypeDesc) (hc:w.rangeAt b k cs) (hu:P.underlying ty=some d) (hd:d.isRow=true) (hi:(P.info? ty).map (·.size)=some cs.length)
  (h:wpStill P ops w Q rest (a.put o.dst (.agg cs.toArray))):wpStill P ops w Q (o :: rest) a :=
 value _ hw (by
  unfold execOp
  simp only [ho,hx,Instr.loadAt,Instr.sureAddr,Sem.run_bind,Sem.run_pure,Result.andThen_ok,run_loadVar_mid w b k ty cs d hc hu hd hi]) h
theorem exec_load {P:Program} {w:World} {o:Oper} {ev:Operand->Value} (ty:TypeId) (x:Operand) (ho:o.op = .load ty x) (b k:Nat) (hx:ev x = .pointer (some ⟨b,k,none⟩)) (cs:List Value) (d:TypeDesc) (hc:w.rangeAt b k cs) (hu:P.underlying ty=some d) (hd:d.isRow=true)
  (hi:(P.info? ty).map (·.size)=some cs.length):(execOp ev o).run P w = .ok (.value (.agg cs.toArray)) w:=by
 unfold execOp
 simp only [ho,hx,Instr.loadAt,Instr.sureAddr,Sem.run_bind,Sem.run_pure,Result.andThen_ok,run_loadVar_mid w b k ty cs d hc hu hd hi]
theorem call {P:Program} {ops:Array Oper} {w:World} {Q:Act->Prop} {a:Act} {o:Oper} {rest:List Oper} (v:Value) (hw:Region.wanted o (yielded ops a.tmps)=true) (f:Nat) (args:Array Value) (he:(execOp a.eval o).run P w = .ok (.enter f args) w)
  (hc:Calls P f args w fun e w' => e = .returned v/\w'=w) (h:wpStill P ops w Q rest (a.put o.dst v)):wpStill P ops w Q (o :: rest) a :=
 wpStill_step fun K hK => by
  rw [if_pos hw]
  unfold Oper.still
  rw [he]
  exact ⟨rfl,v,hc,hK _ h⟩
end St
end
section
open Go.RowKit
namespace Fr
open Vw (Sess)
theorem there_yes (i:Int) (h:thr i=true) (w:World):Calls Tryz.prog 68 #[.int .i64 i] w fun e w' => e = .returned (.bool true)/\w=w':=by
 obtain ⟨h0,h1⟩:=thr_iff.1 h
 clear h
 go_enter Tryz.func68,Tryz.ntmps68
 go_wp2
 go_ret
 exact ⟨rfl,rfl⟩
theorem there_no (i:Int) (h:thr i=false) (w:World):Calls Tryz.prog 68 #[.int .i64 i] w fun e w' => e = .returned (.bool false)/\w=w':=by
 have h2:=thr_no.1 h
 clear h
 by_cases h0:0<=i
 ·have h1:32<=i:=by omega
  clear h2
  go_enter Tryz.func68,Tryz.ntmps68
  go_wp2
  go_ret
  exact ⟨by simp;omega,rfl⟩
 ·have h1:i<0:=by omega
  clear h2 h0
  go_enter Tryz.func68,Tryz.ntmps68
  go_wp2
  go_ret
  exact ⟨by simp,rfl⟩
theorem get_ok {a:Nat} {S:List Slt} {nx:List Int} {fi:Int} {wr:Nat} {w:World} (h:ArW a S nx fi wr w) (i:Int) (hi:thr i=true) :
  Calls Tryz.prog 39 #[.pointer (some ⟨a,0,none⟩),.int .i64 i] w fun e w' => e = .returned (.tuple #[.agg (sl S i).cells.toArray,.nilIface])/\Below w.heap.size w w':=by
 obtain ⟨h0,h1⟩:=thr_iff.1 hi
 obtain ⟨k,rfl⟩:=Int.eq_ofNat_of_zero_le h0
 have hk:k<32:=by omega
 obtain ⟨cs,hcs⟩:∃ cs,cs=(sl S (k:Int)).cells:=⟨_,rfl⟩
 have hb:Below w.heap.size w (w.alloc (.cells cs.toArray 61)):=(Below.refl _ _).alloc (Nat.le_refl _) _
 have hrg:∀ o:Obj,(w.alloc o).rangeAt a (k * 17) cs:=fun o => by rw [hcs];exact (h.below ((Below.refl _ _).alloc (Nat.le_refl _) _)).slot hk
 have HRG:=zh hrg
 have HCL:Hid (cs.length=17):=by show _=_;rw [hcs];rfl
 have HC1:Hid (∀ u ∈ cs,u.oneCell'=true):=by show ∀ _,_;rw [hcs];exact (sl S (k:Int)).one
 have HT:=zh (fun w => there_yes (k:Int) hi w)
 have HB:=zh hb
 have hlt:=h.lt
 have HE:Hid ((w.alloc (.cells cs.toArray 61)).heap[w.heap.size]? = some (.cells cs.toArray 61 (0,0))):=Ut.alloc_at _ _
 rw [<- hcs]
 clear hcs hrg hb h hi h0
 go_enter Tryz.func39,Tryz.ntmps39
 go_wp2_with (first
  | (go_at_call 68;(with_reducible refine (HT.out _).mono ?_);rintro e w' ⟨rfl,rfl⟩)
  | (refine wpList_load_mid (by rfl) 61 _ (by rfl) _ _ (by rfl) cs _ (HRG.out _) Tryz.underlying61 rfl (by rw [HCL.out];kernel_rfl) ?_)
  | (refine Ag.wpList_store_new (by rfl) 61 (.tmp 4) (.tmp 16) (by rfl) cs (by rfl) (by rfl) (by rw [HCL.out];kernel_rfl) (by rw [HCL.out];rfl) HC1.out ?_))
 refine bodyPost_ret (results_cell_tmp rfl _ _ w.heap.size _ cs.toArray (0,0) _ rfl HE.out Tryz.underlying61 rfl (by rw [List.size_toArray,HCL.out];kernel_rfl)) rfl ?_
 exact ⟨rfl,HB.out⟩
theorem get_no {a:Nat} (i:Int) (hi:thr i=false) (w:World) :
  Calls Tryz.prog 39 #[.pointer (some ⟨a,0,none⟩),.int .i64 i] w fun e w' => e = .returned (.tuple #[.agg zeroS.cells.toArray,.iface 83 (.int .i64 1)])/\Below w.heap.size w w':=by
 obtain ⟨cs,hcs⟩:∃ cs,cs=zeroS.cells:=⟨_,rfl⟩
 have hb:Below w.heap.size w (w.alloc (.cells cs.toArray 61)):=(Below.refl _ _).alloc (Nat.le_refl _) _
 have HCS:=zh hcs
 have HCL:Hid (cs.length=17):=by show _=_;rw [hcs];rfl
 have HC1:Hid (∀ u ∈ cs,u.oneCell'=true):=by show ∀ _,_;rw [hcs];exact zeroS.one
 have HT:=zh (fun w => there_no i hi w)
 have HB:=zh hb
 have HE:Hid ((w.alloc (.cells cs.toArray 61)).heap[w.heap.size]? = some (.cells cs.toArray 61 (0,0))):=Ut.alloc_at _ _
 rw [<- hcs]
 clear hcs hb hi
 go_enter Tryz.func39,Tryz.ntmps39
 go_wp2_with (first
  | (go_at_call 68;(with_reducible refine (HT.out _).mono ?_);rintro e w' ⟨rfl,rfl⟩)
  | (refine Ag.wpList_store_new (by rfl) 61 (.tmp 4) (.tmp 9) (by rfl) cs (by rfl) (by rw [HCS.out];rfl) (by rw [HCL.out];kernel_rfl) (by rw [HCL.out];rfl) HC1.out ?_))
 refine bodyPost_ret (results_cell_tmp rfl _ _ w.heap.size _ cs.toArray (0,0) _ rfl HE.out Tryz.underlying61 rfl (by rw [List.size_toArray,HCL.out];kernel_rfl)) rfl ?_
 exact ⟨rfl,HB.out⟩
theorem put_ok {a:Nat} {S:List Slt} {nx:List Int} {fi:Int} {wr:Nat} {w:World} (h:ArW a S nx fi wr w) (hw:wr+1<=4611686018427387904) (i:Int) (hi:thr i=true) (x:Slt) :
  Calls Tryz.prog 65 #[.pointer (some ⟨a,0,none⟩),.int .i64 i,.agg x.cells.toArray] w fun e w' => e = .returned .nilIface/\ArW a (put S i x) nx fi (wr+1) w'/\Only (fun b => b=a) w w':=by
 obtain ⟨h0,h1⟩:=thr_iff.1 hi
 obtain ⟨k,rfl⟩:=Int.eq_ofNat_of_zero_le h0
 have hk:k<32:=by omega
 obtain ⟨cs,hcs⟩:∃ cs,cs=x.cells:=⟨_,rfl⟩
 obtain ⟨W,hW⟩:∃ W,W=w.alloc (.cells cs.toArray 61):=⟨_,rfl⟩
 have hb:Below w.heap.size w W:=by rw [hW];exact (Below.refl _ _).alloc (Nat.le_refl _) _
 have hA:=h.below hb
 have hrow:W.heap[w.heap.size]? = some (.cells cs.toArray 61 (0,0)):=by rw [hW];exact Ut.alloc_at _ _
 have hrg:W.drew.rangeAt w.heap.size 0 cs:=fun j u hu => by
  have hrow':W.drew.heap[w.heap.size]? = some (.cells cs.toArray 61 (0,0)):=hrow
  rw [zc hrow',Nat.zero_add];simpa using hu
 have HRG:=zh hrg
 have HCL:Hid (cs.length=17):=by show _=_;rw [hcs];rfl
 have HC1:Hid (∀ u ∈ cs,u.oneCell'=true):=by show ∀ _,_;rw [hcs];exact x.one
 have HT:=zh (fun w => there_yes (k:Int) hi w)
 have hA1:ArW a S nx fi wr W.drew:=hA.below ((Below.refl _ _).drew)
 have HTH:Hid (W.drew.there a (k * 17) cs.toArray.size):=by
  show W.drew.there _ _ _
  rw [List.size_toArray,HCL.out];exact hA1.there hk
 have hA2:ArW a (put S (k:Int) x) nx fi wr (W.drew.setCells a (k * 17) cs):=by rw [hcs];exact hA1.put hk x
 have hO2:Only (fun b => b=a) w (W.drew.setCells a (k * 17) cs):=by
  have:∀ (vs:List Value) (o:Nat) (w1:World),Only (fun b => b=a) w w1->Only (fun b => b=a) w (w1.setCells a o vs):=by
   intro vs
   induction vs with
   | nil => intro o w1 h;exact h
   | cons v r ih => intro o w1 h;rw [World.setCells];exact ih _ _ (h.setCell (p:=⟨a,o,none⟩) (fun _ => rfl) v)
  exact this _ _ _ (Only.of_below hb).drew
 obtain ⟨W2,hW2⟩:∃ W2,W2=W.drew.setCells a (k * 17) cs:=⟨_,rfl⟩
 rw [<- hW2] at hA2 hO2
 have c1:=hA2.writes
 have f1:=hA2.free 577
 have e1:((wr:Int)+1)=((wr+1:Nat):Int):=by omega
 have HF:Hid (ArW a (put S (k:Int) x) nx fi (wr+1) (W2.setCell ⟨a,577,none⟩ (.int .i64 ((wr:Int)+1)))/\Only (fun b => b=a) w (W2.setCell ⟨a,577,none⟩ (.int .i64 ((wr:Int)+1)))):=by
  rw [e1];exact ⟨hA2.setW (wr+1),hO2.setCell (p:=⟨a,577,none⟩) (fun _ => rfl) _⟩
 have HW2:=zh hW2
 have n1:(0:Int)<=(wr:Int):=by omega
 have n2:(wr:Int)<=4611686018427387903:=by omega
 rw [<- hcs]
 clear hcs hrg hb h hA hA1 hA2 hO2 hrow hi h0 e1 hW2 hw
 go_enter Tryz.func65,Tryz.ntmps65
 go_wp2_with (go_at_call 68;(with_reducible refine (HT.out _).mono ?_);rintro e w' ⟨rfl,rfl⟩)
 rw [<- hW]
 clear hW
 refine wp_region_still_tail 6 (by kernel_rfl) (by kernel_rfl) ?_
 simp only [List.take_succ_cons,List.take_zero,List.drop_succ_cons,List.drop_zero]
 still_step
 still_step
 refine St.load (by rfl) 61 _ (by rfl) w.heap.size 0 (by rfl) cs _ HRG.out Tryz.underlying61 rfl (by rw [HCL.out];kernel_rfl) ?_
 still_step
 still_step
 still_step
 refine wpStill_nil ?_
 change wpList _ _ _ _ _ W.drew
 refine wpList_store_mid (by rfl) 61 (.tmp 16) (.tmp 13) (by rfl) a (k * 17) cs.toArray (by rfl) (by rfl) HTH.out (by rw [List.size_toArray,HCL.out];kernel_rfl) (all_oneCell_toArray HC1.out) ?_
 rw [List.toList_toArray,<- HW2.out]
 clear HW2 HTH HRG HC1 HCL
 go_wp2
 go_ret
 exact ⟨rfl,HF.out⟩
theorem bare_any (w:World):Calls Tryz.prog 52 #[] w fun e w' => e = .returned (.agg bare.cells.toArray)/\w'=w.alloc (.cells bare.cells.toArray 61):=by
 obtain ⟨cs,hcs⟩:∃ cs,cs=bare.cells:=⟨_,rfl⟩
 have HCS:=zh hcs
 have HCL:Hid (cs.length=17):=by show _=_;rw [hcs];rfl
 have HC1:Hid (∀ u ∈ cs,u.oneCell'=true):=by show ∀ _,_;rw [hcs];exact bare.one
 have HE:Hid ((w.alloc (.cells cs.toArray 61)).heap[w.heap.size]? = some (.cells cs.toArray 61 (0,0))):=Ut.alloc_at _ _
 rw [<- hcs]
 clear hcs
 go_enter Tryz.func52,Tryz.ntmps52
 go_wp2_with (first
  | (refine Ag.wpList_store_new (by rfl) 61 (.tmp 0) (.tmp 1) (by rfl) cs (by rfl) (by rw [HCS.out];rfl) (by rw [HCL.out];kernel_rfl) (by rw [HCL.out];rfl) HC1.out ?_))
 refine bodyPost_ret (results_cell_row rfl _ _ w.heap.size _ cs.toArray (0,0) _ rfl HE.out Tryz.underlying61 rfl (by rw [List.size_toArray,HCL.out];kernel_rfl)) rfl ?_
 exact ⟨rfl,rfl⟩
end Fr
end
end Go.Proofs.YtimhglmfckfclaaGreat
