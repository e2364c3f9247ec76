/- Parts of the proof. -/
import Derived.Test.YtimhglmfckfclaaGreatDoorM8
set_option linter.unusedVariables false
set_option linter.unusedSimpArgs false
set_option maxRecDepth 100000
set_option maxHeartbeats 16000000
namespace Go.Proofs.YtimhglmfckfclaaGreatDoor
section
namespace Fr
open Vw (Sess)
open Ex (Ent itm wo)
open Hp (ahd)
section
variable {C:Int->Bool × Bool × Sess} {pl:Int->Pl} {births:Int} {exp:List Ent}
def plFree (pl:Int->Pl) (f:Int) (i:Int):Pl:=if i=f then .fr else if pl i = .kd f then .gb else pl i
theorem lv_free {f:Int} (hf:pl f = .gb) (i:Int):Lv (plFree pl f) i↔Lv pl i:=by
 constructor
 ·intro h
  induction h with
  | root h =>
   unfold plFree at h
   split at h
   ·cases h
   ·split at h
    ·cases h
    ·exact .root h
  | kid h _ ih =>
   unfold plFree at h
   split at h
   ·cases h
   ·split at h
    ·cases h
    ·exact .kid h ih
 ·intro h
  induction h with
  | root h =>
   rename_i i
   refine .root ?_
   unfold plFree
   rw [if_neg (fun e => by subst e;rw [hf] at h;cases h),if_neg (fun e => by rw [e] at h;cases h),h]
  | kid h hp ih =>
   rename_i i p
   refine .kid (p:=p) ?_ ih
   unfold plFree
   rw [if_neg (fun e => by subst e;rw [hf] at h;cases h),if_neg (fun e => by
    have e2:p=f:=by rw [e] at h;injection h with h;exact h.symm
    subst e2;exact hp.nf.2 hf),h]
theorem free_nf {f i:Int} (h:plFree pl f i≠.fr):i≠f/\pl i≠.fr:=by
 unfold plFree at h
 split at h
 ·exact absurd rfl h
 ·rename_i hn
  split at h
  ·rename_i h2;exact ⟨hn,by rw [h2];simp⟩
  ·exact ⟨hn,h⟩
theorem nf_free {f i:Int} (hn:i≠f) (h:pl i≠.fr):plFree pl f i≠.fr:=by
 unfold plFree
 rw [if_neg hn]
 split
 ·simp
 ·exact h
theorem Core.free (h:Core C pl births exp) {f:Int} (tf:thr f=true) (hf:pl f = .gb):Core (fun i => if i=f then (false,false,s0) else C i) (plFree pl f) births exp where
 used i hi:=by
  show ((if i=f then _ else _:Bool × Bool × Sess)).1=true↔_
  by_cases e:i=f
  ·rw [if_pos e];simp [plFree,e]
  ·rw [if_neg e,h.used i hi]
   exact ⟨nf_free e,fun h2 => (free_nf h2).2⟩
 may i hi hn:=by
  obtain ⟨h1,h2⟩:=free_nf hn
  simp only [if_neg h1];exact h.may i hi h2
 kid i p hi hk:=by
  have h1:i≠f:=fun e => by subst e;simp [plFree] at hk
  have h2:pl i = .kd p/\p≠f:=by
   unfold plFree at hk
   rw [if_neg h1] at hk
   split at hk
   ·cases hk
   ·rename_i h3;exact ⟨hk,fun e => h3 (by rw [hk,e])⟩
  obtain ⟨k1,k2,k3,k4,k5,k6⟩:=h.kid i p hi h2.1
  simp only [if_neg h1,if_neg h2.2]
  exact ⟨k1,nf_free h2.2 k2,k3,k4,k5,k6⟩
 root i hi hr:=by
  have h1:i≠f:=fun e => by subst e;simp [plFree] at hr
  have h2:pl i = .rt:=by
   unfold plFree at hr
   rw [if_neg h1] at hr
   split at hr
   ·cases hr
   ·exact hr
  simp only [if_neg h1];exact h.root i hi h2
 garbd i hi hg:=by
  have h1:i≠f:=fun e => by subst e;simp [plFree] at hg
  simp only [if_neg h1]
  unfold plFree at hg
  rw [if_neg h1] at hg
  split at hg
  ·rename_i hk
   obtain ⟨k1,k2,k3,k4,k5,k6⟩:=h.kid i f hi hk
   have:=h.birth1 k1 k2
   refine .inr ⟨by rw [k4];omega,fun j hj hn => ?_⟩
   obtain ⟨n1,n2⟩:=free_nf hn
   rw [if_neg n1,k4]
   exact fun e => n1 (h.inj j f hj tf n2 k2 e)
  ·rcases h.garbd i hi hg with h2 | ⟨h2,h3⟩
   ·exact .inl h2
   ·refine .inr ⟨h2,fun j hj hn => ?_⟩
    obtain ⟨n1,n2⟩:=free_nf hn
    rw [if_neg n1];exact h3 j hj n2
 inj i j hi hj hn hm he:=by
  obtain ⟨n1,n2⟩:=free_nf hn
  obtain ⟨m1,m2⟩:=free_nf hm
  simp only [if_neg n1,if_neg m1] at he
  exact h.inj i j hi hj n2 m2 he
 bir:=h.bir
 exs i hi hl:=by
  have h2:=(lv_free hf i).1 hl
  have h1:i≠f:=fun e => by subst e;exact h2.nf.2 hf
  simp only [if_neg h1];exact h.exs i hi h2
 exd e he:=by
  refine ⟨(h.exd e he).1,fun hn hb => ?_⟩
  obtain ⟨n1,n2⟩:=free_nf hn
  simp only [if_neg n1] at hb ⊢
  exact (h.exd e he).2 n2 hb
 exn:=h.exn
 exo:=h.exo
def plEnd (pl:Int->Pl) (f:Int) (i:Int):Pl:=if i=f then .gb else pl i
theorem lv_end {f:Int} (hf:Lv pl f) (i:Int):Lv (plEnd pl f) i↔Lv pl i/\¬ Sub pl f i:=by
 constructor
 ·intro h
  induction h with
  | root h =>
   rename_i i
   unfold plEnd at h
   split at h
   ·cases h
   ·rename_i hn
    exact ⟨.root h,fun hs => by
     cases hs with
     | refl => exact hn rfl
     | step h2 _ => rw [h] at h2;cases h2⟩
  | kid h _ ih =>
   rename_i i p _
   unfold plEnd at h
   split at h
   ·cases h
   ·rename_i hn
    refine ⟨.kid h ih.1,fun hs => ?_⟩
    cases hs with
    | refl => exact hn rfl
    | step h2 h3 => rw [h] at h2;injection h2 with h2;subst h2;exact ih.2 h3
 ·rintro ⟨h,hs⟩
  induction h with
  | root h =>
   rename_i i
   refine .root ?_
   unfold plEnd
   rw [if_neg (fun e => by subst e;exact hs .refl),h]
  | kid h _ ih =>
   rename_i i p _
   refine .kid (p:=p) ?_ (ih (fun h2 => hs (.step h h2)))
   unfold plEnd
   rw [if_neg (fun e => by subst e;exact hs .refl),h]
theorem end_nf {f i:Int} (hf:pl f≠.fr):plEnd pl f i≠.fr↔pl i≠.fr:=by
 unfold plEnd
 split
 ·rename_i e;subst e;simp [hf]
 ·exact Iff.rfl
theorem wo_mem {S:List Ent} {s:Int} {e:Ent}:e ∈ wo S s↔e ∈ S/\e.1≠s:=by unfold Ex.wo;simp
theorem wo_nd {S:List Ent} (h:(S.map (·.1)).Nodup) (s:Int):((wo S s).map (·.1)).Nodup:=h.sublist ((List.filter_sublist).map _)
theorem wo_so {S:List Ent} (h:S.Pairwise fun x y => ahd (itm y) (itm x)=false) (s:Int):(wo S s).Pairwise fun x y => ahd (itm y) (itm x)=false:=h.sublist List.filter_sublist
theorem Core.forget (h:Core C pl births exp) {f:Int} (hl:¬ Lv pl f):Core C pl births (wo exp f) where
 used:=h.used
 may:=h.may
 kid:=h.kid
 root:=h.root
 garbd:=h.garbd
 inj:=h.inj
 bir:=h.bir
 exs i hi hv:=wo_mem.2 ⟨h.exs i hi hv,fun e => hl (by subst e;exact hv)⟩
 exd e he:=h.exd e (wo_mem.1 he).1
 exn:=wo_nd h.exn f
 exo:=wo_so h.exo f
theorem Core.ended (h:Core C pl births exp) {f:Int} (hf:Lv pl f):Core (fun i => if i=f then ((C f).1,true,(C f).2.2) else C i) (plEnd pl f) births (wo exp f):=by
 have hs:∀ i,(if i=f then ((C f).1,true,(C f).2.2) else C i).2.2=(C i).2.2:=by
  intro i
  split
  ·rename_i e;rw [e]
  ·rfl
 have hu:∀ i,(if i=f then ((C f).1,true,(C f).2.2) else C i).1=(C i).1:=by
  intro i
  split
  ·rename_i e;rw [e]
  ·rfl
 have nf:=hf.nf.1
 constructor
 case used => intro i hi;rw [hu,end_nf nf];exact h.used i hi
 case may => intro i hi hn;rw [hs];exact h.may i hi ((end_nf nf).1 hn)
 case kid =>
  intro i p hi hk
  have h1:i≠f:=fun e => by subst e;simp [plEnd] at hk
  have h2:pl i = .kd p:=by unfold plEnd at hk;rwa [if_neg h1] at hk
  obtain ⟨k1,k2,k3,k4,k5,k6⟩:=h.kid i p hi h2
  rw [hs,hs]
  simp only [if_neg h1]
  exact ⟨k1,(end_nf nf).2 k2,k3,k4,k5,k6⟩
 case root =>
  intro i hi hr
  have h1:i≠f:=fun e => by subst e;simp [plEnd] at hr
  have h2:pl i = .rt:=by unfold plEnd at hr;rwa [if_neg h1] at hr
  simp only [if_neg h1];exact h.root i hi h2
 case garbd =>
  intro i hi hg
  by_cases e:i=f
  ·simp only [if_pos e];exact .inl trivial
  ·have h2:pl i = .gb:=by unfold plEnd at hg;rwa [if_neg e] at hg
   simp only [if_neg e]
   rcases h.garbd i hi h2 with h3 | ⟨h3,h4⟩
   ·exact .inl h3
   ·refine .inr ⟨h3,fun j hj hn => ?_⟩
    rw [hs];exact h4 j hj ((end_nf nf).1 hn)
 case inj => intro i j hi hj hn hm he;rw [hs,hs] at he;exact h.inj i j hi hj ((end_nf nf).1 hn) ((end_nf nf).1 hm) he
 case bir => exact h.bir
 case exs =>
  intro i hi hv
  obtain ⟨h1,h2⟩:=(lv_end hf i).1 hv
  rw [hs]
  exact wo_mem.2 ⟨h.exs i hi h1,fun e => h2 (by have e2:i=f:=e;subst e2;exact .refl)⟩
 case exd =>
  intro e he
  refine ⟨(h.exd e (wo_mem.1 he).1).1,fun hn hb => ?_⟩
  rw [hs] at hb ⊢
  exact (h.exd e (wo_mem.1 he).1).2 ((end_nf nf).1 hn) hb
 case exn => exact wo_nd h.exn f
 case exo => exact wo_so h.exo f
theorem put_mem {S:List Ent} {x e:Ent}:e ∈ Ex.put S x↔e=x\/e ∈ S:=by rw [(Ex.put_perm S x).mem_iff,List.mem_cons]
theorem ahd_no {a b:Int × Int}:ahd a b=false↔¬ (a.2<b.2\/(a.2=b.2/\a.1<b.1)):=by
 unfold ahd;simp
theorem put_so {S:List Ent} {x:Ent} (h:S.Pairwise fun x y => ahd (itm y) (itm x)=false):(Ex.put S x).Pairwise fun x y => ahd (itm y) (itm x)=false:=by
 induction S with
 | nil => simp [Ex.put]
 | cons e t ih =>
  have h1:=List.pairwise_cons.1 h
  unfold Ex.put
  by_cases hc:ahd (itm x) (itm e)=true
  ·rw [List.takeWhile_cons_of_neg (by simp [hc]),List.dropWhile_cons_of_neg (by simp [hc])]
   refine List.pairwise_cons.2 ⟨fun y hy => ?_,h⟩
   have hc':(itm x).2<(itm e).2\/((itm x).2=(itm e).2/\(itm x).1<(itm e).1):=by
    unfold ahd at hc;simpa using hc
   rcases List.mem_cons.1 hy with rfl | hy
   ·rw [ahd_no];omega
   ·have:=ahd_no.1 (h1.1 y hy)
    rw [ahd_no];omega
  ·have hc2:ahd (itm x) (itm e)=false:=by simpa using hc
   rw [List.takeWhile_cons_of_pos (by simp [hc2]),List.dropWhile_cons_of_pos (by simp [hc2])]
   refine List.pairwise_cons.2 ⟨fun y hy => ?_,ih h1.2⟩
   rcases (put_mem (S:=t)).1 hy with rfl | hy
   ·exact hc2
   ·exact h1.1 y hy
theorem put_nd {S:List Ent} {x:Ent} (h:(S.map (·.1)).Nodup) (hx:∀ e ∈ S,e.1≠x.1):((Ex.put S x).map (·.1)).Nodup:=by
 refine ((Ex.put_perm S x).map (·.1)).nodup_iff.2 ?_
 refine List.nodup_cons.2 ⟨fun hm => ?_,h⟩
 obtain ⟨e,he,h2⟩:=List.mem_map.1 hm
 exact hx e he h2
def plLay (pl:Int->Pl) (f:Int) (x:Pl) (i:Int):Pl:=if i=f then x else pl i
theorem lv_lay (h:Core C pl births exp) {f:Int} {x:Pl} (hf:pl f = .fr) (hx:x = .rt\/∃ p,x = .kd p/\p≠f/\Lv pl p) (i:Int) (hi:thr i=true):Lv (plLay pl f x) i↔i=f\/Lv pl i:=by
 have old:∀ i,Lv pl i->Lv (plLay pl f x) i:=by
  intro i h2
  induction h2 with
  | root h2 => rename_i i;exact .root (by unfold plLay;rw [if_neg (fun e => by subst e;rw [hf] at h2;cases h2),h2])
  | kid h2 _ ih => rename_i i p _;exact .kid (p:=p) (by unfold plLay;rw [if_neg (fun e => by subst e;rw [hf] at h2;cases h2),h2]) ih
 constructor
 ·intro h2
  induction h2 with
  | root h2 =>
   rename_i i
   by_cases e:i=f
   ·exact .inl e
   ·unfold plLay at h2;rw [if_neg e] at h2;exact .inr (.root h2)
  | kid h2 _ ih =>
   rename_i i p _
   by_cases e:i=f
   ·exact .inl e
   ·unfold plLay at h2;rw [if_neg e] at h2
    have h3:=h.kid i p hi h2
    rcases ih h3.1 with e2 | h4
    ·subst e2;exact absurd hf h3.2.1
    ·exact .inr (.kid h2 h4)
 ·rintro (rfl | h2)
  ·rcases hx with rfl | ⟨p,rfl,hp,hl⟩
   ·exact .root (by unfold plLay;rw [if_pos rfl])
   ·exact .kid (p:=p) (by unfold plLay;rw [if_pos rfl]) (old p hl)
  ·exact old i h2
theorem Core.lay (h:Core C pl births exp) {f:Int} {x:Pl} {s:Sess} {births':Int} (tf:thr f=true) (hf:pl f = .fr) (hm:mayS s=true) (hs:s.slot=f) (hb:s.birth<=births') (hb2:births<=births') (hb3:births'<=1048576)
  (hx:x = .rt/\s.us=0/\s.ub=0\/∃ p,x = .kd p/\thr p=true/\Lv pl p/\s.us=p/\s.ub=(C p).2.2.birth/\belowB s (C p).2.2=true) (hn:∀ j,thr j=true->pl j≠.fr->(C j).2.2.birth<s.birth) :
  Core (fun i => if i=f then (true,false,s) else C i) (plLay pl f x) births' (Ex.put (wo exp f) (f,s.birth,s.dl)):=by
 have xnf:x≠.fr:=by rcases hx with ⟨rfl,_⟩ | ⟨p,rfl,_⟩ <;> simp
 have xng:x≠.gb:=by rcases hx with ⟨rfl,_⟩ | ⟨p,rfl,_⟩ <;> simp
 have hx2:x = .rt\/∃ p,x = .kd p/\p≠f/\Lv pl p:=by
  rcases hx with ⟨rfl,_⟩ | ⟨p,rfl,_,h2,_⟩
  ·exact .inl rfl
  ·exact .inr ⟨p,rfl,fun e => by subst e;exact h2.nf.1 hf,h2⟩
 have nf:∀ i,plLay pl f x i≠.fr↔i=f\/pl i≠.fr:=fun i => by
  unfold plLay
  split
  ·rename_i e;simp [e,xnf]
  ·rename_i e;simp [e]
 have off:∀ i,pl i≠.fr->i≠f:=fun i h2 e => h2 (by rw [e,hf])
 constructor
 case used =>
  intro i hi
  rw [nf]
  by_cases e:i=f
  ·simp [e]
  ·simp only [if_neg e,h.used i hi];simp [e]
 case may =>
  intro i hi h2
  by_cases e:i=f
  ·simp only [if_pos e];exact ⟨hm,hs.trans e.symm,hb⟩
  ·simp only [if_neg e]
   rcases (nf i).1 h2 with h3 | h3
   ·exact absurd h3 e
   ·obtain ⟨m1,m2,m3⟩:=h.may i hi h3
    exact ⟨m1,m2,by omega⟩
 case kid =>
  intro i p hi hk
  by_cases e:i=f
  ·have hxk:x = .kd p:=by unfold plLay at hk;rwa [if_pos e] at hk
   rcases hx with ⟨rfl,_⟩ | ⟨q,rfl,q1,q2,q3,q4,q5⟩
   ·cases hxk
   ·injection hxk with hxk;subst hxk
    have qf:=off q q2.nf.1
    simp only [if_pos e,if_neg qf]
    exact ⟨q1,(nf q).2 (.inr q2.nf.1),q3,q4,trivial,q5⟩
  ·have h2:pl i = .kd p:=by unfold plLay at hk;rwa [if_neg e] at hk
   obtain ⟨k1,k2,k3,k4,k5,k6⟩:=h.kid i p hi h2
   simp only [if_neg e,if_neg (off p k2)]
   exact ⟨k1,(nf p).2 (.inr k2),k3,k4,k5,k6⟩
 case root =>
  intro i hi hr
  by_cases e:i=f
  ·have hxk:x = .rt:=by unfold plLay at hr;rwa [if_pos e] at hr
   rcases hx with ⟨_,q1,q2⟩ | ⟨q,h2,_⟩
   ·simp only [if_pos e];exact ⟨q1,q2,trivial⟩
   ·rw [hxk] at h2;cases h2
  ·have h2:pl i = .rt:=by unfold plLay at hr;rwa [if_neg e] at hr
   simp only [if_neg e];exact h.root i hi h2
 case garbd =>
  intro i hi hg
  by_cases e:i=f
  ·unfold plLay at hg;rw [if_pos e] at hg;exact absurd hg xng
  ·have h2:pl i = .gb:=by unfold plLay at hg;rwa [if_neg e] at hg
   simp only [if_neg e]
   rcases h.garbd i hi h2 with h3 | ⟨h3,h4⟩
   ·exact .inl h3
   ·refine .inr ⟨h3,fun j hj hjn => ?_⟩
    by_cases e2:j=f
    ·simp only [if_pos e2]
     have hif:pl i≠.fr:=by rw [h2];simp
     have h5:=hn i hi hif
     have h6:=(mayS_iff.1 (h.may i hi hif).1).2.2.2.2.2.2
     rcases h6 with ⟨_,⟨_,h7⟩,_⟩ | ⟨_,_,_,_,⟨_,h7⟩,_⟩
     ·exact absurd h7 h3
     ·omega
    ·simp only [if_neg e2]
     rcases (nf j).1 hjn with h5 | h5
     ·exact absurd h5 e2
     ·exact h4 j hj h5
 case inj =>
  intro i j hi hj hni hnj he
  by_cases e:i=f
  ·by_cases e2:j=f
   ·rw [e,e2]
   ·simp only [if_pos e,if_neg e2] at he
    rcases (nf j).1 hnj with h5 | h5
    ·exact absurd h5 e2
    ·have:=hn j hj h5;omega
  ·rcases (nf i).1 hni with h4 | h4
   ·exact absurd h4 e
   by_cases e2:j=f
   ·simp only [if_neg e,if_pos e2] at he
    have:=hn i hi h4;omega
   ·simp only [if_neg e,if_neg e2] at he
    rcases (nf j).1 hnj with h5 | h5
    ·exact absurd h5 e2
    ·exact h.inj i j hi hj h4 h5 he
 case bir => have:=h.bir;omega
 case exs =>
  intro i hi hv
  rcases (lv_lay h hf hx2 i hi).1 hv with e | h2
  ·simp only [if_pos e];rw [e];exact put_mem.2 (.inl rfl)
  ·have e:=off i h2.nf.1
   simp only [if_neg e]
   exact put_mem.2 (.inr (wo_mem.2 ⟨h.exs i hi h2,e⟩))
 case exd =>
  intro e he
  rcases put_mem.1 he with rfl | he
  ·exact ⟨tf,fun _ _ => by simp⟩
  ·obtain ⟨h1,h2⟩:=wo_mem.1 he
   refine ⟨(h.exd e h1).1,fun h3 h4 => ?_⟩
   simp only [if_neg h2] at h4 ⊢
   rcases (nf e.1).1 h3 with h5 | h5
   ·exact absurd h5 h2
   ·exact (h.exd e h1).2 h5 h4
 case exn => exact put_nd (wo_nd h.exn f) (fun e he => (wo_mem.1 he).2)
 case exo => exact put_so (wo_so h.exo f)
end
end Fr
end
section
namespace Fr
open Vw (Sess)
open Ex (Ent itm wo)
open Hp (ahd)
section
variable {S:List Slt} {free:List Int} {roots garb:Int} {R G:List Int} {K:Int->List Int} {pl:Int->Pl}
theorem Shape.rthr (h:Shape S free roots garb R G K pl):∀ x ∈ R,thr x=true:=fun x hx => ((h.rmem x).1 hx).1
theorem Shape.gthr (h:Shape S free roots garb R G K pl):∀ x ∈ G,thr x=true:=fun x hx => ((h.gmem x).1 hx).1
theorem Shape.kthr (h:Shape S free roots garb R G K pl) (p:Int):∀ x ∈ K p,thr x=true:=fun x hx => ((h.kmem p x).1 hx).1
theorem Shape.rg (h:Shape S free roots garb R G K pl):∀ x ∈ R,x ∉ G:=fun x hx hg => by
 have h1:=((h.rmem x).1 hx).2;have h2:=((h.gmem x).1 hg).2;rw [h1] at h2;cases h2
theorem Shape.rk (h:Shape S free roots garb R G K pl) (p:Int):∀ x ∈ R,x ∉ K p:=fun x hx hg => by
 have h1:=((h.rmem x).1 hx).2;have h2:=((h.kmem p x).1 hg).2;rw [h1] at h2;cases h2
theorem Shape.gk (h:Shape S free roots garb R G K pl) (p:Int):∀ x ∈ G,x ∉ K p:=fun x hx hg => by
 have h1:=((h.gmem x).1 hx).2;have h2:=((h.kmem p x).1 hg).2;rw [h1] at h2;cases h2
theorem Shape.kk (h:Shape S free roots garb R G K pl) {p q:Int} (hn:p≠q):∀ x ∈ K p,x ∉ K q:=fun x hx hg => by
 have h1:=((h.kmem p x).1 hx).2;have h2:=((h.kmem q x).1 hg).2;rw [h1] at h2;injection h2 with h2;exact hn h2
theorem RingAt.put_out {S:List Slt} (hS:S.length=32) {last:Int} {L:List Int} (h:RingAt S last L) (ht:∀ x ∈ L,thr x=true) {i:Int} (hi:thr i=true) (hn:i ∉ L) (x:Slt):RingAt (put S i x) last L :=
 h.keep (fun y hy => by rw [sl_put_ne S hS i y x hi (ht y hy) (fun e => hn (e ▸ hy))];exact ⟨rfl,rfl⟩)
theorem RingAt.put_link {S:List Slt} (hS:S.length=32) {last:Int} {L:List Int} (h:RingAt S last L) (ht:∀ x ∈ L,thr x=true) {i:Int} (hi:thr i=true) {x:Slt} (h1:x.next=(sl S i).next) (h2:x.prev=(sl S i).prev):RingAt (put S i x) last L :=
 h.keep (fun y hy => by
  rw [sl_put S hS i y x hi (thr_iff.1 (ht y hy)).1]
  split
  ·rename_i e;subst e;exact ⟨h1,h2⟩
  ·exact ⟨rfl,rfl⟩)
theorem Shape.freed (h:Shape S free roots garb R G K pl) {f:Int} {g:List Int} (hG:G=f :: g) :
  thr garb=true/\(sl S garb).next=f/\thr f=true/\f ∉ free /\
  ∃ S1 g1,(S1=(if (sl S f).kids = -1 then S else spliceS S garb (sl S f).kids)/\g1=(if (sl S f).kids = -1 then garb else (sl S f).kids))/\((sl S f).kids = -1\/canSplice S garb (sl S f).kids=true)/\canDrop S1 g1 f=true /\
  Shape (put (dropS S1 f) f bare) (f :: free) roots (dropL S1 g1 f) R (g ++ K f) (fun p => if p=f then [] else K p) (plFree pl f) /\
  ∀ i,thr i=true->i≠f->cor (put (dropS S1 f) f bare) i=cor S i:=by
 subst hG
 have hfG:f ∈ f :: g:=by simp
 obtain ⟨tf,pf⟩:=(h.gmem f).1 hfG
 have hnf:pl f≠.fr:=by rw [pf];simp
 have hne:f :: g≠[]:=by simp
 have tg:=h.gthr garb (h.rG.last_mem hne)
 have hnx:=h.rG.first rfl
 have hff:f ∉ free:=fun e => by have:=((h.fmem f).1 e).2;rw [pf] at this;cases this
 have hfR:f ∉ R:=fun e => h.rg f e hfG
 have hfK:∀ p,f ∉ K p:=fun p e => h.gk p f hfG e
 have hkf:=h.rK f tf hnf
 obtain ⟨S1,hS1⟩:∃ S1,S1=(if (sl S f).kids = -1 then S else spliceS S garb (sl S f).kids):=⟨_,rfl⟩
 obtain ⟨g1,hg1⟩:∃ g1,g1=(if (sl S f).kids = -1 then garb else (sl S f).kids):=⟨_,rfl⟩
 have hd1:((f :: g) ++ K f).Nodup:=List.nodup_append.2 ⟨h.gnd,h.knd f,fun x hx y hy e => h.gk f x hx (e ▸ hy)⟩
 have key:S1.length=32/\RingAt S1 g1 ((f :: g) ++ K f)/\((sl S f).kids = -1\/canSplice S garb (sl S f).kids=true)/\(∀ y,thr y=true->∃ p n,sl S1 y={ sl S y with prev:=p,next:=n })/\(∀ last L,RingAt S last L->(∀ x ∈ L,thr x=true)->(∀ x ∈ L,x ∉ f :: g/\x ∉ K f)->RingAt S1 last L):=by
  by_cases hk:K f=[]
  ·have e:=(hkf.empty (h.kthr f)).2 hk
   rw [if_pos e] at hS1 hg1
   subst hS1 hg1
   refine ⟨h.len,by rw [hk,List.append_nil];exact h.rG,.inl e,fun y _ => ⟨_,_,rfl⟩,fun last L hr _ _ => hr⟩
  ·have e:¬ (sl S f).kids = -1:=fun e => hk ((hkf.empty (h.kthr f)).1 e)
   rw [if_neg e] at hS1 hg1
   subst hS1 hg1
   obtain ⟨r1,r2⟩:=ring_splice h.len h.rG hkf h.gthr (h.kthr f) hne hk hd1
   refine ⟨by rw [splice_len,h.len],r1,.inr r2,fun y hy => ⟨_,_,sl_splice h.len (h.rG.well h.gthr (h.rG.last_mem hne)) (hkf.well (h.kthr f) (hkf.last_mem hk)) y hy⟩,fun last L hr ht hd => ring_splice_far h.len h.rG hkf h.gthr (h.kthr f) hne hk hr ht hd⟩
 obtain ⟨l1,r1,cs,sc,far⟩:=key
 have t1:∀ x ∈ (f :: g) ++ K f,thr x=true:=fun x hx => by
  rcases List.mem_append.1 hx with hx | hx
  ·exact h.gthr x hx
  ·exact h.kthr f x hx
 have w1:well S1 f=true:=r1.well t1 (by simp)
 have tg1:thr g1=true:=t1 g1 (r1.last_mem (by simp))
 have cd:canDrop S1 g1 f=true:=by unfold canDrop;rw [tg1,w1];rfl
 have r2:RingAt (dropS S1 f) (dropL S1 g1 f) (g ++ K f):=by
  have:=ring_drop l1 (a:=[]) (b:=g ++ K f) (i:=f) (by simpa using r1) (by simpa using t1) (by simpa using hd1)
  simpa using this
 have l2:(dropS S1 f).length=32:=by rw [drop_len,l1]
 have sl2:∀ y,thr y=true->y≠f->∃ p n,sl (put (dropS S1 f) f bare) y={ sl S y with prev:=p,next:=n }:=fun y hy hn => by
  obtain ⟨p,n,e⟩:=sc y hy
  rw [sl_put_ne _ l2 f y _ tf hy (Ne.symm hn),sl_drop l1 w1 y hy,e]
  exact ⟨_,_,rfl⟩
 have hgn:=List.nodup_cons.1 h.gnd
 have fin:∀ last L,RingAt S last L->(∀ x ∈ L,thr x=true)->(∀ x ∈ L,x ∉ f :: g/\x ∉ K f)->RingAt (put (dropS S1 f) f bare) last L:=fun last L hr ht hd => by
  have h3:=far last L hr ht hd
  have h4:=ring_drop_far l1 r1 t1 (i:=f) (by simp) h3 ht (fun x hx e => by
   rcases List.mem_append.1 e with e | e
   ·exact (hd x hx).1 e
   ·exact (hd x hx).2 e)
  exact h4.put_out l2 ht tf (fun e => (hd f e).1 hfG) _
 refine ⟨tg,hnx,tf,hff,S1,g1,⟨hS1,hg1⟩,cs,cd,?_,fun i hi hn => ?_⟩
 ·refine { len:=by rw [put_len,l2],fmem:=fun i => ?_,fnd:=List.nodup_cons.2 ⟨hff,h.fnd⟩,rmem:=fun i => ?_,rnd:=h.rnd,gmem:=fun i => ?_,gnd:=(by simpa using (List.nodup_cons.1 hd1).2),kmem:=fun p i => ?_,knd:=fun p => ?_,kpar:=fun i p hi hk => ?_,rR:=?_,rG:=?_,rK:=fun p hp hpn => ?_,bareF:=fun i hi hp => ?_ }
  ·unfold plFree
   by_cases e:i=f
   ·subst e;simp [tf]
   ·rw [if_neg e,List.mem_cons,h.fmem i]
    constructor
    ·rintro (e2 | ⟨h1,h2⟩)
     ·exact absurd e2 e
     ·exact ⟨h1,by rw [if_neg (fun e3 => by rw [h2] at e3;cases e3),h2]⟩
    ·rintro ⟨h1,h2⟩
     split at h2
     ·cases h2
     ·exact .inr ⟨h1,h2⟩
  ·rw [h.rmem i]
   unfold plFree
   constructor
   ·rintro ⟨h1,h2⟩
    exact ⟨h1,by rw [if_neg (fun e => by subst e;rw [pf] at h2;cases h2),if_neg (fun e3 => by rw [h2] at e3;cases e3),h2]⟩
   ·rintro ⟨h1,h2⟩
    split at h2
    ·cases h2
    ·split at h2
     ·cases h2
     ·exact ⟨h1,h2⟩
  ·rw [List.mem_append,h.kmem f i]
   have hgm:=h.gmem i
   rw [List.mem_cons] at hgm
   unfold plFree
   by_cases e:i=f
   ·subst e
    rw [if_pos rfl]
    constructor
    ·rintro (h1 | ⟨h1,h2⟩)
     ·exact absurd h1 hgn.1
     ·rw [pf] at h2;cases h2
    ·rintro ⟨_,h2⟩;cases h2
   ·rw [if_neg e]
    constructor
    ·rintro (h1 | ⟨h1,h2⟩)
     ·obtain ⟨h3,h4⟩:=hgm.1 (.inr h1)
      exact ⟨h3,by rw [if_neg (fun e3 => by rw [h4] at e3;cases e3),h4]⟩
     ·exact ⟨h1,by rw [if_pos h2]⟩
    ·rintro ⟨h1,h2⟩
     split at h2
     ·rename_i h3;exact .inr ⟨h1,h3⟩
     ·rcases hgm.2 ⟨h1,h2⟩ with h3 | h3
      ·exact absurd h3 e
      ·exact .inl h3
  ·unfold plFree
   by_cases e:p=f
   ·subst e
    simp only [if_pos,List.not_mem_nil,false_iff]
    rintro ⟨h1,h2⟩
    split at h2
    ·cases h2
    ·split at h2
     ·cases h2
     ·rename_i h3;exact h3 h2
   ·rw [if_neg e,h.kmem p i]
    constructor
    ·rintro ⟨h1,h2⟩
     exact ⟨h1,by rw [if_neg (fun e => by subst e;rw [pf] at h2;cases h2),if_neg (fun e3 => by rw [h2] at e3;injection e3 with e3;exact e e3),h2]⟩
    ·rintro ⟨h1,h2⟩
     split at h2
     ·cases h2
     ·split at h2
      ·cases h2
      ·exact ⟨h1,h2⟩
  ·split
   ·simp
   ·exact h.knd p
  ·have h1:i≠f:=fun e => by subst e;simp [plFree] at hk
   have h2:pl i = .kd p/\p≠f:=by
    unfold plFree at hk
    rw [if_neg h1] at hk
    split at hk
    ·cases hk
    ·rename_i h3;exact ⟨hk,fun e => h3 (by rw [hk,e])⟩
   obtain ⟨k1,k2⟩:=h.kpar i p hi h2.1
   exact ⟨k1,nf_free h2.2 k2⟩
  ·exact fin _ _ h.rR h.rthr (fun x hx => ⟨h.rg x hx,h.rk f x hx⟩)
  ·exact r2.put_out l2 (fun x hx => t1 x (by rw [List.cons_append];exact List.mem_cons_of_mem _ hx)) tf (by
    have:=hd1
    rw [List.cons_append] at this
    exact (List.nodup_cons.1 this).1) _
  ·obtain ⟨n1,n2⟩:=free_nf hpn
   simp only [if_neg n1]
   obtain ⟨q,n,e⟩:=sl2 p hp n1
   rw [e]
   exact fin _ _ (h.rK p hp n2) (h.kthr p) (fun x hx => ⟨fun e2 => h.gk p x e2 hx,h.kk n1 x hx⟩)
  ·by_cases e:i=f
   ·subst e;exact sl_put_same _ l2 i _ tf
   ·have h2:pl i = .fr:=by
     unfold plFree at hp
     rw [if_neg e] at hp
     split at hp
     ·cases hp
     ·exact hp
    rw [sl_put_ne _ l2 f i _ tf hi (Ne.symm e)]
    have hiL:i ∉ (f :: g) ++ K f:=fun e3 => by
     rcases List.mem_append.1 e3 with e3 | e3
     ·have:=((h.gmem i).1 e3).2;rw [h2] at this;cases this
     ·have:=((h.kmem f i).1 e3).2;rw [h2] at this;cases this
    obtain ⟨p,hp1,n,hn1,q1,q2⟩:=r1.around (i:=f) (by simp)
    rw [drop_far l1 w1 hi e (fun e4 => hiL (by rw [e4,q1.2];exact hp1)) (fun e4 => hiL (by rw [e4,q2.1];exact hn1))]
    by_cases hk:K f=[]
    ·have e5:=(hkf.empty (h.kthr f)).2 hk
     rw [if_pos e5] at hS1
     rw [hS1];exact h.bareF i hi h2
    ·have e5:¬ (sl S f).kids = -1:=fun e => hk ((hkf.empty (h.kthr f)).1 e)
     rw [if_neg e5] at hS1
     have m1:=h.rG.last_mem hne
     have m2:=hkf.last_mem hk
     obtain ⟨_,_,n1,hn1,_,k2⟩:=h.rG.around m1
     obtain ⟨_,_,n2,hn2,_,k4⟩:=hkf.around m2
     have o1:∀ x ∈ f :: g,x≠i:=fun x hx e6 => hiL (by rw [<- e6];exact List.mem_append_left _ hx)
     have o2:∀ x ∈ K f,x≠i:=fun x hx e6 => hiL (by rw [<- e6];exact List.mem_append_right _ hx)
     rw [hS1,sl_splice h.len (h.rG.well h.gthr m1) (hkf.well (h.kthr f) m2) i hi,k2.1,k4.1,if_neg (o2 _ m2),if_neg (o1 _ m1),if_neg (o1 _ hn1),if_neg (o2 _ hn2)]
     exact h.bareF i hi h2
 ·obtain ⟨p,n,e⟩:=sl2 i hi hn
  unfold cor
  rw [e]
end
end Fr
end
section
namespace Fr
open Vw (Sess)
open Ex (Ent itm wo)
open Hp (ahd)
section
variable {S:List Slt} {free:List Int} {roots garb:Int} {R G:List Int} {K:Int->List Int} {pl:Int->Pl}
theorem filter_mid {a b:List Int} {i:Int} (h:(a ++ i :: b).Nodup):(a ++ i :: b).filter (· != i)=a ++ b:=by
 obtain ⟨h1,h2,_,_⟩:=nodup_mid h
 rw [List.filter_append,List.filter_cons]
 simp only [bne_self_eq_false,Bool.false_eq_true,if_false]
 rw [List.filter_eq_self.2 (fun x hx => by simp only [bne_iff_ne,ne_eq];rintro rfl;exact h1 hx),List.filter_eq_self.2 (fun x hx => by simp only [bne_iff_ne,ne_eq];rintro rfl;exact h2 hx)]
theorem filter_out {a:List Int} {i:Int} (h:i ∉ a):a.filter (· != i)=a:=List.filter_eq_self.2 (fun x hx => by simp only [bne_iff_ne,ne_eq];rintro rfl;exact h hx)
theorem ring_leave {S:List Slt} (hS:S.length=32) {last i:Int} {L:List Int} (h:RingAt S last L) (ht:∀ x ∈ L,thr x=true) (hd:L.Nodup) (hi:i ∈ L):RingAt (dropS S i) (dropL S last i) (L.filter (· != i))/\canDrop S last i=true:=by
 have w:=h.well ht hi
 have tl:=ht last (h.last_mem (List.ne_nil_of_mem hi))
 obtain ⟨a,b,rfl⟩:=List.append_of_mem hi
 rw [filter_mid hd]
 exact ⟨ring_drop hS h ht hd,by unfold canDrop;rw [tl,w];rfl⟩
def endS (S:List Slt) (roots garb:Int) (i:Int):List Slt :=
 let us:=(sl S i).s.us;let ub:=(sl S i).s.ub
 let lst:=if ub=0 then roots else (sl S us).kids
 let S1:=dropS S i
 let S2:=if ub=0 then S1 else put S1 us { sl S1 us with kids:=dropL S lst i }
 pushS (put S2 i { sl S2 i with dead:=true }) garb i
def endR (S:List Slt) (roots:Int) (i:Int):Int:=if (sl S i).s.ub=0 then dropL S roots i else roots
theorem Shape.ended (h:Shape S free roots garb R G K pl) {i:Int} (hi:thr i=true)
  (hp:pl i = .rt/\(sl S i).s.ub=0\/∃ p,pl i = .kd p/\(sl S i).s.ub≠0/\(sl S i).s.us=p) :
  canDrop S (if (sl S i).s.ub=0 then roots else (sl S (sl S i).s.us).kids) i=true /\
  (∀ S2,S2=(if (sl S i).s.ub=0 then dropS S i else put (dropS S i) (sl S i).s.us { sl (dropS S i) (sl S i).s.us with kids:=dropL S (sl S (sl S i).s.us).kids i })->canPush (put S2 i { sl S2 i with dead:=true }) garb i=true) /\
  Shape (endS S roots garb i) free (endR S roots i) i (R.filter (· != i)) (G ++ [i]) (fun p => (K p).filter (· != i)) (plEnd pl i) /\
  ∀ j,thr j=true->cor (endS S roots garb i) j=if j=i then ((sl S i).used,true,(sl S i).s) else cor S j:=by
 have hnf:pl i≠.fr:=by rcases hp with ⟨h1,_⟩ | ⟨p,h1,_⟩ <;> rw [h1] <;> simp
 have hng:pl i≠.gb:=by rcases hp with ⟨h1,_⟩ | ⟨p,h1,_⟩ <;> rw [h1] <;> simp
 have hiG:i ∉ G:=fun e => hng ((h.gmem i).1 e).2
 have hif:i ∉ free:=fun e => hnf ((h.fmem i).1 e).2
 -- the ring that it leaves
 have key:∃ S2,(S2=(if (sl S i).s.ub=0 then dropS S i else put (dropS S i) (sl S i).s.us { sl (dropS S i) (sl S i).s.us with kids:=dropL S (sl S (sl S i).s.us).kids i }))/\canDrop S (if (sl S i).s.ub=0 then roots else (sl S (sl S i).s.us).kids) i=true/\S2.length=32 /\
   RingAt S2 (endR S roots i) (R.filter (· != i))/\RingAt S2 garb G/\(∀ p,thr p=true->pl p≠.fr->RingAt S2 (sl S2 p).kids ((K p).filter (· != i)))/\(∀ y,thr y=true->∃ a b c,sl S2 y={ sl S y with prev:=a,next:=b,kids:=c })/\(∀ y,thr y=true->pl y = .fr->sl S2 y=sl S y):=by
  rcases hp with ⟨hr,hb⟩ | ⟨p,hk,hb,hu⟩
  ·have hiR:i ∈ R:=(h.rmem i).2 ⟨hi,hr⟩
   have hiK:∀ p,i ∉ K p:=fun p => h.rk p i hiR
   obtain ⟨r1,r2⟩:=ring_leave h.len h.rR h.rthr h.rnd hiR
   have w:=h.rR.well h.rthr hiR
   refine ⟨_,rfl,?_⟩
   unfold endR
   rw [if_pos hb,if_pos hb,if_pos hb]
   refine ⟨r2,by rw [drop_len,h.len],r1,ring_drop_far h.len h.rR h.rthr hiR h.rG h.gthr (fun x hx e => h.rg x e hx),fun p hp hpn => ?_,fun y hy => ⟨_,_,_,sl_drop h.len w y hy⟩,fun y hy hyf => ?_⟩
   ·rw [filter_out (hiK p),show (sl (dropS S i) p).kids=(sl S p).kids by rw [sl_drop h.len w p hp]]
    exact ring_drop_far h.len h.rR h.rthr hiR (h.rK p hp hpn) (h.kthr p) (fun x hx e => h.rk p x e hx)
   ·have hyR:y ∉ R:=fun e => by have:=((h.rmem y).1 e).2;rw [hyf] at this;cases this
    obtain ⟨p,hp1,n,hn1,q1,q2⟩:=h.rR.around hiR
    exact drop_far h.len w hy (fun e => hyR (e ▸ hiR)) (fun e => hyR (by rw [e,q1.2];exact hp1)) (fun e => hyR (by rw [e,q2.1];exact hn1))
  ·have hiK:i ∈ K p:=(h.kmem p i).2 ⟨hi,hk⟩
   obtain ⟨tp,np⟩:=h.kpar i p hi hk
   have hiR:i ∉ R:=fun e => h.rk p i e hiK
   have hrp:=h.rK p tp np
   obtain ⟨r1,r2⟩:=ring_leave h.len hrp (h.kthr p) (h.knd p) hiK
   have w:=hrp.well (h.kthr p) hiK
   have l1:(dropS S i).length=32:=by rw [drop_len,h.len]
   refine ⟨_,rfl,?_⟩
   unfold endR
   rw [if_neg hb,if_neg hb,if_neg hb,hu]
   have lk:∀ last L,RingAt (dropS S i) last L->(∀ x ∈ L,thr x=true)->RingAt (put (dropS S i) p { sl (dropS S i) p with kids:=dropL S (sl S p).kids i }) last L:=fun last L hr ht => hr.put_link l1 ht tp rfl rfl
   refine ⟨r2,by rw [put_len,l1],?_,?_,fun q hq hqn => ?_,fun y hy => ?_,fun y hy hyf => ?_⟩
   ·rw [filter_out hiR]
    exact lk _ _ (ring_drop_far h.len hrp (h.kthr p) hiK h.rR h.rthr (fun x hx e => h.rk p x hx e)) h.rthr
   ·exact lk _ _ (ring_drop_far h.len hrp (h.kthr p) hiK h.rG h.gthr (fun x hx e => h.gk p x hx e)) h.gthr
   ·rw [sl_put _ l1 p q _ tp (thr_iff.1 hq).1]
    by_cases e:p=q
    ·subst e
     rw [if_pos rfl]
     exact lk _ _ r1 (fun x hx => h.kthr p x (List.mem_filter.1 hx).1)
    ·rw [if_neg e,filter_out (fun e2 => h.kk e i hiK e2),show (sl (dropS S i) q).kids=(sl S q).kids by rw [sl_drop h.len w q hq]]
     exact lk _ _ (ring_drop_far h.len hrp (h.kthr p) hiK (h.rK q hq hqn) (h.kthr q) (fun x hx e2 => h.kk e x e2 hx)) (h.kthr q)
   ·rw [sl_put _ l1 p y _ tp (thr_iff.1 hy).1]
    split
    ·rename_i e;subst e;rw [sl_drop h.len w p hy];exact ⟨_,_,_,rfl⟩
    ·rw [sl_drop h.len w y hy];exact ⟨_,_,_,rfl⟩
   ·have hyK:y ∉ K p:=fun e => by have:=((h.kmem p y).1 e).2;rw [hyf] at this;cases this
    obtain ⟨q,hp1,n,hn1,q1,q2⟩:=hrp.around hiK
    rw [sl_put_ne _ l1 p y _ tp hy (fun e => np (by rw [e,hyf]))]
    exact drop_far h.len w hy (fun e => hyK (e ▸ hiK)) (fun e => hyK (by rw [e,q1.2];exact hp1)) (fun e => hyK (by rw [e,q2.1];exact hn1))
 obtain ⟨S2,hS2,cd,l2,rR,rG,rK,sc,sf⟩:=key
 have tR:∀ x ∈ R.filter (· != i),thr x=true/\x≠i:=fun x hx => ⟨h.rthr x (List.mem_filter.1 hx).1,by simpa using (List.mem_filter.1 hx).2⟩
 have tK:∀ p,∀ x ∈ (K p).filter (· != i),thr x=true/\x≠i:=fun p x hx => ⟨h.kthr p x (List.mem_filter.1 hx).1,by simpa using (List.mem_filter.1 hx).2⟩
 obtain ⟨S3,hS3⟩:∃ S3,S3=put S2 i { sl S2 i with dead:=true }:=⟨_,rfl⟩
 have l3:S3.length=32:=by rw [hS3,put_len,l2]
 have lk:∀ last L,RingAt S2 last L->(∀ x ∈ L,thr x=true)->RingAt S3 last L:=fun last L hr ht => by rw [hS3];exact hr.put_link l2 ht hi rfl rfl
 have rG3:=lk _ _ rG h.gthr
 have cp:canPush S3 garb i=true:=rG3.canPush h.gthr hi hiG
 have eE:endS S roots garb i=pushS S3 garb i:=by
  unfold endS
  simp only
  rw [hS3,hS2]
  by_cases hb:(sl S i).s.ub=0
  ·rw [if_pos hb,if_pos hb]
  ·rw [if_neg hb,if_neg hb];simp only [if_neg hb]
 have sc3:∀ y,thr y=true->∃ a b c,sl (pushS S3 garb i) y={ sl S y with prev:=a,next:=b,kids:=c,dead:=if y=i then true else (sl S y).dead }:=fun y hy => by
  obtain ⟨a,b,e⟩:=push_core l3 cp y hy
  obtain ⟨c,d,k,e2⟩:=sc y hy
  rw [e,hS3,sl_put _ l2 i y _ hi (thr_iff.1 hy).1]
  by_cases e3:i=y
  ·subst e3;rw [if_pos rfl,e2];exact ⟨a,b,k,by rw [if_pos rfl]⟩
  ·rw [if_neg e3,e2];exact ⟨a,b,k,by rw [if_neg (Ne.symm e3)]⟩
 refine ⟨cd,fun S2' e => by rw [e,<- hS2,<- hS3];exact cp,?_,fun j hj => ?_⟩
 ·rw [eE]
  refine { len:=by rw [push_len,l3],fmem:=fun j => ?_,fnd:=h.fnd,rmem:=fun j => ?_,rnd:=h.rnd.sublist List.filter_sublist,gmem:=fun j => ?_,gnd:=?_,kmem:=fun p j => ?_,knd:=fun p => (h.knd p).sublist List.filter_sublist,kpar:=fun j p hj hk => ?_,rR:=?_,rG:=ring_push l3 rG3 h.gthr h.gnd hi hiG,rK:=fun p hp hpn => ?_,bareF:=fun j hj hjf => ?_ }
  ·rw [h.fmem j];unfold plEnd
   by_cases e:j=i
   ·subst e;rw [if_pos rfl];simp [hnf]
   ·rw [if_neg e]
  ·rw [List.mem_filter,h.rmem j];unfold plEnd
   by_cases e:j=i
   ·subst e;simp
   ·rw [if_neg e];simp [e]
  ·rw [List.mem_append,List.mem_singleton,h.gmem j];unfold plEnd
   by_cases e:j=i
   ·subst e;simp [hi]
   ·rw [if_neg e];simp [e]
  ·exact List.nodup_append.2 ⟨h.gnd,by simp,fun x hx y hy e => hiG (by rw [List.mem_singleton.1 hy] at e;exact e ▸ hx)⟩
  ·rw [List.mem_filter,h.kmem p j];unfold plEnd
   by_cases e:j=i
   ·subst e;simp
   ·rw [if_neg e];simp [e]
  ·have e:j≠i:=fun e => by subst e;simp [plEnd] at hk
   have hk2:pl j = .kd p:=by unfold plEnd at hk;rwa [if_neg e] at hk
   obtain ⟨k1,k2⟩:=h.kpar j p hj hk2
   exact ⟨k1,(end_nf hnf).2 k2⟩
  ·exact ring_push_far l3 rG3 h.gthr hi hiG (lk _ _ rR (fun x hx => (tR x hx).1)) (fun x hx => (tR x hx).1) (fun x hx => ⟨fun e => h.rg x (List.mem_filter.1 hx).1 e,(tR x hx).2⟩)
  ·have hpn2:=(end_nf hnf).1 hpn
   have e4:(sl (pushS S3 garb i) p).kids=(sl S2 p).kids:=by
    obtain ⟨a,b,e⟩:=push_core l3 cp p hp
    rw [e,hS3,sl_put _ l2 i p _ hi (thr_iff.1 hp).1]
    split
    ·rename_i e;subst e;rfl
    ·rfl
   rw [e4]
   exact ring_push_far l3 rG3 h.gthr hi hiG (lk _ _ (rK p hp hpn2) (fun x hx => (tK p x hx).1)) (fun x hx => (tK p x hx).1) (fun x hx => ⟨fun e => h.gk p x e (List.mem_filter.1 hx).1,(tK p x hx).2⟩)
  ·have e:j≠i:=fun e => by subst e;simp [plEnd] at hjf
   have hj2:pl j = .fr:=by unfold plEnd at hjf;rwa [if_neg e] at hjf
   have hjG:j ∉ G:=fun e2 => by have:=((h.gmem j).1 e2).2;rw [hj2] at this;cases this
   rw [push_far l3 cp j hj e (fun h0 => ?_),hS3,sl_put_ne _ l2 i j _ hi hj (Ne.symm e),sf j hj hj2]
   ·exact h.bareF j hj hj2
   ·have hL:G≠[]:=fun e2 => h0 ((rG3.empty h.gthr).2 e2)
    have hm:=rG3.last_mem hL
    obtain ⟨p,hp,n,hnn,h1,h2⟩:=rG3.around hm
    exact ⟨fun e2 => hjG (e2 ▸ hm),fun e2 => hjG (by rw [e2,h2.1];exact hnn)⟩
 ·rw [eE]
  obtain ⟨a,b,c,e⟩:=sc3 j hj
  unfold cor
  rw [e]
  by_cases e2:j=i
  ·subst e2;simp
  ·rw [if_neg e2];simp [e2]
end
end Fr
end
end Go.Proofs.YtimhglmfckfclaaGreatDoor
