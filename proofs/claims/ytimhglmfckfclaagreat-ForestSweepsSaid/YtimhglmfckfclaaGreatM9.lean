/- Several texts in one: what each proves its own first comment says. -/
import Derived.Test.YtimhglmfckfclaaGreatM8
import Derived.Great.BuildSlice
import Derived.Deep.MidRow
import Derived.Deep.AppendLies
import Derived.WalkKit
import Derived.Laws.NewBlocks
import Derived.Test.YtimhglmfckfclaaGreatM1
import Derived.Laws.Rows
import Derived.StillTail
import Derived.StillTactics
import Derived.StillTailTactics
import Derived.Test.YtimhglmfckfclaaGreatProg
set_option linter.unusedVariables false
set_option linter.unusedSimpArgs false
namespace Go.Proofs.YtimhglmfckfclaaGreat
namespace Fr
open Vw (Sess)
open Ex (Ent itm wo)
open Hp (ahd)
theorem IsN.unit {st:FS} {A:List Sess} (h:IsN st A):(st.garb = -1∧unitF st=some (st,none)) ∨
  ∃ st' f,st.garb≠-1∧unitF st=some (st',some f)∧IsN st' A∧st'.clock=st.clock∧st'.births=st.births∧st'.exp=st.exp∧st'.free=f :: st.free:=by
 obtain ⟨R,G,K,pl,hw,hp,hm⟩:=h
 by_cases hg:st.garb = -1
 ·exact .inl ⟨hg,by unfold unitF;rw [if_pos hg]⟩
 ·right
  have hG:G≠[]:=fun e => hg ((hw.sh.rG.empty hw.sh.gthr).2 e)
  obtain ⟨f,g,hfg⟩:∃ f g,G=f :: g:=by
   cases G with
   | nil => exact absurd rfl hG
   | cons f g => exact ⟨f,g,rfl⟩
  have hG2:=hfg
  subst hG2
  obtain ⟨c1,c2,c3,c4,S1,g1,⟨eS,eg⟩,c5,c6,c7,c8⟩:=hw.sh.freed rfl
  have pf:=((hw.sh.gmem f).1 (by simp)).2
  refine ⟨{ st with S:=put (dropS S1 f) f bare,free:=f :: st.free,garb:=dropL S1 g1 f },f,hg,?_,⟨R,g ++ K f,_,plFree pl f,⟨c7,?_,hw.clk⟩,hp,fun s => ?_⟩,rfl,rfl,rfl,rfl⟩
  ·unfold unitF
   rw [if_neg hg]
   simp only
   rw [c2,c1,c3]
   have hc:((sl st.S f).kids == -1 || canSplice st.S st.garb (sl st.S f).kids)=true:=by
    rcases c5 with e | e
    ·rw [e];rfl
    ·rw [e];simp
   have hcf:st.free.contains f=false:=by simpa using c4
   rw [← eS,← eg,hc,c6,hcf]
   rfl
  ·refine (hw.co.free c3 pf).congr (fun j hj => ?_)
   by_cases e:j=f
   ·subst e
    rw [if_pos rfl]
    unfold cor
    rw [c7.bareF j hj (by simp [plFree])];rfl
   ·rw [if_neg e];exact c8 j hj e
  ·rw [hm s]
   constructor
   ·rintro ⟨i,i1,i2,rfl⟩
    have e:i≠f:=fun e => by subst e;exact i2.nf.2 pf
    have:=congrArg (·.2.2) (c8 i i1 e)
    exact ⟨i,i1,(lv_free pf i).2 i2,this⟩
   ·rintro ⟨i,i1,i2,rfl⟩
    have i3:=(lv_free pf i).1 i2
    have e:i≠f:=fun e => by subst e;exact i3.nf.2 pf
    have:=congrArg (·.2.2) (c8 i i1 e)
    exact ⟨i,i1,i3,this.symm⟩
theorem Is.unit {st:FS} {A:List Sess} (h:Is st A):(st.garb = -1∧unitF st=some (st,none)) ∨
  ∃ st' f,st.garb≠-1∧unitF st=some (st',some f)∧Is st' A∧st'.clock=st.clock∧st'.births=st.births∧st'.exp=st.exp∧st'.free=f :: st.free:=by
 rcases h.1.unit with h1 | ⟨st',f,h1,h2,h3,h4,h5,h6,h7⟩
 ·exact .inl h1
 ·exact .inr ⟨st',f,h1,h2,⟨h3,by rw [h6,h4];exact h.2⟩,h4,h5,h6,h7⟩
theorem IsN.lay {st:FS} {A:List Sess} (h:IsN st A) {s:Sess} {births':Int} (hm:mayS s=true) (hf:s.slot ∈ st.free) (hu:s.us=0∧s.ub=0∨∃ p ∈ A,p.slot=s.us∧p.birth=s.ub∧belowB s p=true) (hb:s.birth≤births') (hb2:st.births≤births') (hb3:births'≤1048576)
  (hn:∀ i,thr i=true→(sl st.S i).used=true→(sl st.S i).s.birth<s.birth) :
  ∃ st',layF st s=some (st',0)∧IsN { st' with births:=births' } (A ++ [s])∧st'.clock=st.clock∧st'.births=st.births∧st'.free=st.free.erase s.slot∧st'.exp=Ex.put (wo st.exp s.slot) (s.slot,s.birth,s.dl)∧st'.garb=st.garb∧(∀ i,thr i=true→(sl st'.S i).used=true→(sl st'.S i).s.birth≤s.birth):=by
 obtain ⟨R,G,K,pl,hw,hp,hma⟩:=h
 obtain ⟨ti,pi⟩:=(hw.sh.fmem s.slot).1 hf
 have hn2:∀ j,thr j=true→pl j≠.fr→(cor st.S j).2.2.birth<s.birth:=fun j hj hnf => hn j hj ((hw.co.used j hj).2 hnf)
 obtain ⟨x,hx,hxs⟩:∃ x:Pl,(x = .rt∧s.us=0∧s.ub=0∨∃ p,x = .kd p∧thr p=true∧Lv pl p∧s.us=p∧s.ub=(cor st.S p).2.2.birth∧belowB s (cor st.S p).2.2=true)∧(x = .rt∨∃ p,x = .kd p∧p≠s.slot∧Lv pl p):=by
  rcases hu with ⟨h1,h2⟩ | ⟨p,hpA,h1,h2,h3⟩
  ·exact ⟨.rt,.inl ⟨rfl,h1,h2⟩,.inl rfl⟩
  ·obtain ⟨j,j1,j2,rfl⟩:=(hma p).1 hpA
   have e1:(sl st.S j).s.slot=j:=(hw.co.may j j1 j2.nf.1).2.1
   exact ⟨.kd j,.inr ⟨j,rfl,j1,j2,by rw [← h1,e1],h2.symm,h3⟩,.inr ⟨j,rfl,fun e => by subst e;exact j2.nf.1 pi,j2⟩⟩
 have hx2:x = .rt∧s.us=0∧s.ub=0∨∃ p,x = .kd p∧thr p=true∧pl p≠.fr∧s.ub≠0∧s.us=p:=by
  rcases hx with h1 | ⟨p,h1,h2,h3,h4,h5,h6⟩
  ·exact .inl h1
  ·have h7:1≤(sl st.S p).s.birth:=hw.co.birth1 h2 h3.nf.1
   have h5':s.ub=(sl st.S p).s.birth:=h5
   exact .inr ⟨p,h1,h2,h3.nf.1,by omega,h4⟩
 obtain ⟨c1,c2,c3⟩:=hw.sh.laid ti pi hx2
 have hc0:=hw.co.lay (births':=births') ti pi hm rfl hb hb2 hb3 hx hn2
 have hcor:Core (cor (layS st.S st.roots s)) (plLay pl s.slot x) births' (Ex.put (wo st.exp s.slot) (s.slot,s.birth,s.dl)):=hc0.congr (fun j hj => c3 j hj)
 have hcon:st.free.contains s.slot=true:=by simpa using hf
 have l0:(put st.S s.slot (newSlt s)).length=32:=by rw [put_len,hw.sh.len]
 have self0:sl (put st.S s.slot (newSlt s)) s.slot=newSlt s:=sl_put_same _ hw.sh.len _ _ ti
 have hup:upOk (put st.S s.slot (newSlt s)) s.us s.ub=true∧(s.ub == 0 || s.us != s.slot)=true:=by
  unfold upOk
  rcases hx with ⟨_,_,h2⟩ | ⟨p,h1,h2,h3,h4,h5,h6⟩
  ·rw [h2];exact ⟨rfl,rfl⟩
  ·have e:p≠s.slot:=fun e => by subst e;exact h3.nf.1 pi
   have ku:(sl st.S p).used=true:=(hw.co.used p h2).2 h3.nf.1
   have h5':s.ub=(sl st.S p).s.birth:=h5
   rw [h4,sl_put_ne _ hw.sh.len s.slot p _ ti h2 (Ne.symm e),h2,ku,h5']
   simp [e]
 have cp:canPush (put st.S s.slot (newSlt s)) (ringOf { st with free:=st.free.erase s.slot,S:=put st.S s.slot (newSlt s) } s.us s.ub) s.slot=true:=c1
 have eadd:addF { st with free:=st.free.erase s.slot,S:=put st.S s.slot (newSlt s) } s.slot s.us s.ub=some { st with free:=st.free.erase s.slot,S:=layS st.S st.roots s,roots:=if s.ub=0 then s.slot else st.roots }:=by
  unfold addF
  simp only
  have hcond:(thr s.slot && ((sl (put st.S s.slot (newSlt s)) s.slot).used && (upOk (put st.S s.slot (newSlt s)) s.us s.ub && ((s.ub == 0 || s.us != s.slot) && canPush (put st.S s.slot (newSlt s)) (ringOf { st with free:=st.free.erase s.slot,S:=put st.S s.slot (newSlt s) } s.us s.ub) s.slot))))=true:=by
   rw [ti,self0,hup.1,hup.2,cp];rfl
  rw [if_pos hcond]
  unfold turn layS ringOf
  by_cases hb0:s.ub=0
  ·simp only [if_pos hb0]
  ·simp only [if_neg hb0]
 have elay:layF st s=some ({ st with free:=st.free.erase s.slot,S:=layS st.S st.roots s,roots:=if s.ub=0 then s.slot else st.roots,exp:=Ex.put (wo st.exp s.slot) (s.slot,s.birth,s.dl) },0):=by
  unfold layF
  rw [if_pos hcon]
  have:=eadd
  unfold newSlt at this
  rw [this];rfl
 have hsA:∀ a ∈ A,a.birth<s.birth:=fun a ha => by
  obtain ⟨j,j1,j2,rfl⟩:=(hma a).1 ha
  exact hn2 j j1 j2.nf.1
 refine ⟨_,elay,⟨_,_,_,_,⟨c2,hcor,hw.clk⟩,?_,fun y => ?_⟩,rfl,rfl,rfl,rfl,rfl,fun j hj hju => ?_⟩
 ·refine List.pairwise_append.2 ⟨hp,by simp,fun a ha b hb => ?_⟩
  rw [List.mem_singleton.1 hb];exact hsA a ha
 ·have old:∀ j,thr j=true→j≠s.slot→(sl (layS st.S st.roots s) j).s=(sl st.S j).s:=fun j hj e => by
   have:=congrArg (·.2.2) (c3 j hj)
   rw [if_neg e] at this;exact this
  have new:(sl (layS st.S st.roots s) s.slot).s=s:=by
   have:=congrArg (·.2.2) (c3 s.slot ti)
   rw [if_pos rfl] at this;exact this
  rw [List.mem_append,List.mem_singleton,hma y]
  constructor
  ·rintro (⟨j,j1,j2,rfl⟩ | rfl)
   ·have e:j≠s.slot:=fun e => by subst e;exact j2.nf.1 pi
    exact ⟨j,j1,(lv_lay hw.co pi hxs j j1).2 (.inr j2),old j j1 e⟩
   ·exact ⟨y.slot,ti,(lv_lay hw.co pi hxs y.slot ti).2 (.inl rfl),new⟩
  ·rintro ⟨j,j1,j2,rfl⟩
   rcases (lv_lay hw.co pi hxs j j1).1 j2 with e | j3
   ·right
    subst e
    exact new
   ·have e:j≠s.slot:=fun e => by subst e;exact j3.nf.1 pi
    exact .inl ⟨j,j1,j3,(old j j1 e).symm⟩
 ·have h3:=c3 j hj
  by_cases e:j=s.slot
  ·rw [if_pos e] at h3
   have:(sl (layS st.S st.roots s) j).s=s:=congrArg (·.2.2) h3
   show (sl (layS st.S st.roots s) j).s.birth≤_
   rw [this];omega
  ·rw [if_neg e] at h3
   have e1:(sl (layS st.S st.roots s) j).s=(sl st.S j).s:=congrArg (·.2.2) h3
   have e2:(sl (layS st.S st.roots s) j).used=(sl st.S j).used:=congrArg (·.1) h3
   have hju2:(sl (layS st.S st.roots s) j).used=true:=hju
   show (sl (layS st.S st.roots s) j).s.birth≤_
   rw [e1]
   exact Int.le_of_lt (hn j hj (by rw [← e2];exact hju2))
theorem IsN.used_birth {st:FS} {A:List Sess} (h:IsN st A) (i:Int) (hi:thr i=true) (hu:(sl st.S i).used=true):(sl st.S i).s.birth≤st.births:=by
 obtain ⟨R,G,K,pl,hw,hp,hm⟩:=h
 exact (hw.co.may i hi ((hw.co.used i hi).1 hu)).2.2
theorem IsN.tm {st:FS} {A:List Sess} (h:IsN st A):Go.Proofs.YtimhglmfckfclaaGreat.tm st.clock=true∧0≤st.births∧st.births≤1048576:=by
 obtain ⟨R,G,K,pl,hw,hp,hm⟩:=h
 exact ⟨hw.clk,hw.co.bir⟩
theorem IsN.mayF_zero {st:FS} {A:List Sess} (h:IsN st A) (s:Sess):mayF st s=0↔(s.us=0∧s.ub=0∨∃ p ∈ A,p.slot=s.us∧p.birth=s.ub∧belowB s p=true):=by
 unfold mayF
 by_cases h0:s.us=0∧s.ub=0
 ·rw [if_pos h0];simp [h0]
 ·rw [if_neg h0]
  by_cases h1:lives st.S s.us s.ub=false
  ·rw [if_pos h1]
   refine ⟨fun e => absurd e (by decide),?_⟩
   rintro (h2 | ⟨p,hp,h3,h4,_⟩)
   ·exact absurd h2 h0
   ·rw [(h.lives_iff _ _).2 ⟨p,hp,h3,h4⟩] at h1;cases h1
  ·rw [if_neg h1]
   obtain ⟨p,hp,h3,h4⟩:=(h.lives_iff _ _).1 (by simpa using h1)
   have e:(sl st.S s.us).s=p:=by rw [← h3];exact (h.may hp).2.2.2.1
   rw [e]
   by_cases h5:belowB s p=false
   ·rw [if_pos h5]
    refine ⟨fun e => absurd e (by decide),?_⟩
    rintro (h2 | ⟨q,hq,h6,h7,h8⟩)
    ·exact absurd h2 h0
    ·have:q=p:=h.birth_inj hq hp (by rw [h7,h4])
     subst this;rw [h8] at h5;cases h5
   ·rw [if_neg h5]
    exact ⟨fun _ => .inr ⟨p,hp,h3,h4,by simpa using h5⟩,fun _ => rfl⟩
theorem Is.born {st:FS} {A:List Sess} (h:Is st A) (s:Sess) :
  (∃ no,bornF st s=some (st,no)∧no≠0∧¬ (mayS s=true∧s.born=st.clock∧s.birth=st.births+1∧mayF st s=0∧s.slot ∈ st.free)) ∨
  ∃ st',bornF st s=some (st',0)∧(mayS s=true∧s.born=st.clock∧s.birth=st.births+1∧mayF st s=0∧s.slot ∈ st.free)∧Is st' (A ++ [s])∧st'.clock=st.clock∧st'.births=st.births+1∧st'.free=st.free.erase s.slot∧st'.garb=st.garb:=by
 unfold bornF
 by_cases h1:mayS s=false∨s.born≠st.clock
 ·rw [if_pos h1]
  refine .inl ⟨1,rfl,by decide,fun h2 => ?_⟩
  rcases h1 with h3 | h3
  ·rw [h2.1] at h3;cases h3
  ·exact h3 h2.2.1
 rw [if_neg h1]
 by_cases h2:s.birth≠st.births+1
 ·rw [if_pos h2];exact .inl ⟨18,rfl,by decide,fun h3 => h2 h3.2.2.1⟩
 rw [if_neg h2]
 by_cases h3:mayF st s≠0
 ·rw [if_pos h3];exact .inl ⟨_,rfl,h3,fun h4 => h3 h4.2.2.2.1⟩
 rw [if_neg h3]
 have hm:mayS s=true:=by cases hq:mayS s with
  | true => rfl
  | false => exact absurd (.inl hq) h1
 have hb:s.born=st.clock:=Decidable.byContradiction fun e => h1 (.inr e)
 have hbi:s.birth=st.births+1:=Decidable.byContradiction h2
 have hmf:mayF st s=0:=Decidable.byContradiction h3
 by_cases hf:s.slot ∈ st.free
 ·right
  have hbb:=h.1.tm.2
  have hmb:=(mayS_iff.1 hm).2.1
  obtain ⟨st',e,hi,k1,k2,k3,k4,k5,_⟩:=h.1.lay (births':=st.births+1) hm hf ((h.1.mayF_zero s).1 hmf) (by omega) (by omega) (by omega) (fun i hi hu => by have:=h.1.used_birth i hi hu;omega)
  refine ⟨{ st' with births:=st'.births+1 },by rw [e];rfl,⟨hm,hb,hbi,hmf,hf⟩,⟨by rw [k2];exact hi,fun x hx => ?_⟩,k1,by show st'.births+1=_;rw [k2],k3,k5⟩
  have hx':x ∈ st'.exp:=hx
  rw [k4] at hx'
  show st'.clock<_
  rw [k1]
  rcases put_mem.1 hx' with rfl | hx'
  ·have:=(mayS_iff.1 hm).2.2.2.2.2.1
   show st.clock<s.dl
   omega
  ·exact h.2 x (wo_mem.1 hx').1
 ·left
  refine ⟨9,?_,by decide,fun h4 => hf h4.2.2.2.2⟩
  have hcon:st.free.contains s.slot=false:=by simpa using hf
  unfold layF
  rw [hcon];rfl
theorem Is.revoke {st:FS} {A:List Sess} (h:Is st A) (us ub:Int) :
  (lives st.S us ub=false∧revokeF st us ub=some (st,16)) ∨
  ∃ st' s,s ∈ A∧s.slot=us∧s.birth=ub∧revokeF st us ub=some (st',0)∧Is st' (cutA A ub)∧st'.clock=st.clock∧st'.births=st.births∧st'.free=st.free:=by
 unfold revokeF
 by_cases hl:lives st.S us ub=true
 ·right
  rw [if_pos hl]
  obtain ⟨s,hs,h1,h2⟩:=(h.1.lives_iff us ub).1 hl
  obtain ⟨st',e,hi,k1,k2,k3,k4⟩:=h.1.ended hs
  rw [h1] at e
  refine ⟨st',s,hs,h1,h2,by rw [e];rfl,⟨by rw [← h2];exact hi,fun x hx => ?_⟩,k1,k2,k3⟩
  rw [k4] at hx
  rw [k1]
  exact h.2 x (wo_mem.1 hx).1
 ·exact .inl ⟨by simpa using hl,by rw [if_neg hl]⟩
end Fr
end Go.Proofs.YtimhglmfckfclaaGreat
namespace Go.Proofs.YtimhglmfckfclaaGreat
namespace Fr
open Vw (Sess)
open Ex (Ent itm wo)
open Hp (ahd)
theorem Is.units:∀ (n:Nat) {st:FS} {A:List Sess},Is st A→∃ st',unitsN n st=some st'∧Is st' A∧st'.clock=st.clock∧st'.births=st.births∧st'.free.length=st.free.length+min n (32-st.free.length-A.length)∧(32-st.free.length-A.length<n→st'.garb = -1)
 | 0,st,A,h => ⟨st,rfl,h,rfl,rfl,by omega,by omega⟩
 | n+1,st,A,h => by
  obtain ⟨c1,c2,c3⟩:=h.1.count
  unfold unitsN
  rcases h.unit with ⟨h1,h2⟩ | ⟨st1,f,h1,h2,h3,h4,h5,h6,h7⟩
  ·rw [h2]
   have:=c2 h1
   exact ⟨st,rfl,h,rfl,rfl,by omega,fun _ => h1⟩
  ·rw [h2]
   obtain ⟨st2,e,k1,k2,k3,k4,k5⟩:=Is.units n h3
   have:=c3 h1
   rw [h7,List.length_cons] at k4 k5
   exact ⟨st2,by simpa using e,k1,by rw [k2,h4],by rw [k3,h5],by omega,fun hn => k5 (by omega)⟩
theorem Is.sweep {st:FS} {A:List Sess} (h:Is st A) (n:Int):((n<0∨65536<n)∧sweepF st n=some (st,20)) ∨
  ∃ st',(0≤n∧n≤65536)∧sweepF st n=some (st',0)∧Is st' A∧st'.clock=st.clock∧st'.births=st.births∧st'.free.length=st.free.length+min n.toNat (32-st.free.length-A.length)∧(32-st.free.length-A.length<n.toNat→st'.garb = -1):=by
 unfold sweepF
 by_cases hc:n<0∨65536<n
 ·rw [if_pos hc];exact .inl ⟨hc,rfl⟩
 ·rw [if_neg hc]
  obtain ⟨st',e,h1⟩:=h.units n.toNat
  exact .inr ⟨st',by omega,by rw [e];rfl,h1⟩
theorem within_self (a:Nat):within a a=true:=by
 unfold within
 have e:bits .andNot .u64 (a:Int) (a:Int)=0:=by
  show IntKind.u64.wrap ((BitVec.ofInt 64 (a:Int) &&& ~~~BitVec.ofInt 64 (a:Int)).toNat:Int)=0
  rw [BitVec.and_not_self];rfl
 rw [e];rfl
theorem unt_iff {now life most:Int}:unt now life most=true↔tm now=true∧tm most=true∧(1≤life∧life≤1073741824)∧now<most:=by
 unfold unt
 simp only [Bool.and_eq_true,decide_eq_true_eq,and_assoc]
theorem tm_iff {n:Int}:tm n=true↔0≤n∧n≤1099511627776:=by unfold tm;simp
theorem untV_le (now life most:Int):untV now life most≤most∧untV now life most≤now+life:=by unfold untV;split <;> omega
theorem untV_gt {now life most:Int} (h:unt now life most=true):now+1≤untV now life most∧untV now life most≤1099511627776:=by
 obtain ⟨h1,h2,h3,h4⟩:=unt_iff.1 h
 have:=tm_iff.1 h2
 unfold untV;split <;> omega
theorem Is.granted {st:FS} {A:List Sess} (h:Is st A) {kind us ub:Int} {r:Req} (hk:0≤kind∧kind≤2) (hg:(grantF st kind us ub r).2=0) {i:Int} (hi:thr i=true) :
  full st=false∧(grantF st kind us ub r).1.birth=st.births+1∧mayS { (grantF st kind us ub r).1 with slot:=i }=true∧(grantF st kind us ub r).1.born=st.clock ∧
  (kind=0∧(grantF st kind us ub r).1.us=0∧(grantF st kind us ub r).1.ub=0∨kind≠0∧∃ p ∈ A,p.slot=us∧p.birth=ub∧(grantF st kind us ub r).1.us=us∧(grantF st kind us ub r).1.ub=ub∧belowB { (grantF st kind us ub r).1 with slot:=i } p=true):=by
 have ti:=thr_iff.1 hi
 obtain ⟨ht,hb⟩:=h.1.tm
 have ht2:=tm_iff.1 ht
 unfold grantF at hg ⊢
 by_cases k0:kind=0
 ·rw [if_pos k0] at hg
  rw [if_pos k0]
  unfold loginS at hg ⊢
  split at hg
  ·cases hg
  split at hg
  ·cases hg
  split at hg
  ·cases hg
  split at hg
  ·cases hg
  split at hg
  ·cases hg
  rename_i a1 a2 a3 a4 a5
  rw [if_neg a1,if_neg a2,if_neg a3,if_neg a4,if_neg a5]
  have hu:unt st.clock r.life 1099511627776=true:=by simpa using a3
  have hv:=untV_gt hu
  refine ⟨by simpa using a5,rfl,?_,rfl,.inl ⟨k0,rfl,rfl⟩⟩
  refine mayS_iff.2 ⟨by show 0≤i∧i≤31;omega,by show 1≤st.births+1∧st.births+1≤1048576;omega,by simpa using a1,by show 0≤r.level∧r.level≤2;omega,ht2,hv,.inl ⟨rfl,⟨rfl,rfl⟩,rfl,rfl⟩⟩
 ·rw [if_neg k0] at hg
  rw [if_neg k0]
  by_cases hl:lives st.S us ub=false
  ·rw [if_pos hl] at hg;cases hg
  rw [if_neg hl] at hg
  rw [if_neg hl]
  obtain ⟨p,hp,e1,e2⟩:=(h.1.lives_iff us ub).1 (by simpa using hl)
  have hps:(sl st.S us).s=p:=by rw [← e1];exact (h.1.may hp).2.2.2.1
  obtain ⟨pm,pb,-,-,pt⟩:=h.1.may hp
  have pm2:=mayS_iff.1 pm
  rw [hps] at hg ⊢
  have pd:0≤p.depth∧p.depth≤6:=by
   rcases pm2.2.2.2.2.2.2 with ⟨_,_,_,h⟩ | ⟨_,_,_,_,_,_,h⟩ <;> omega
  by_cases k1:kind=1
  ·rw [if_pos k1] at hg
   rw [if_pos k1]
   unfold childS at hg ⊢
   split at hg
   ·cases hg
   split at hg
   ·cases hg
   split at hg
   ·cases hg
   split at hg
   ·cases hg
   split at hg
   ·cases hg
   split at hg
   ·cases hg
   rename_i a1 a2 a3 a4 a5 a6
   rw [if_neg a1,if_neg a2,if_neg a3,if_neg a4,if_neg a5,if_neg a6]
   have hu:unt st.clock r.life p.dl=true:=by simpa using a2
   have hv:=untV_gt hu
   have hd:(1:Int)≤p.depth+1∧p.depth+1≤6:=by omega
   refine ⟨by simpa using a6,rfl,?_,rfl,.inr ⟨k0,p,hp,e1,e2,e1,e2,?_⟩⟩
   ·refine mayS_iff.2 ⟨by show 0≤i∧i≤31;omega,by show 1≤st.births+1∧st.births+1≤1048576;omega,pm2.2.2.1,pm2.2.2.2.1,ht2,hv,.inr ⟨by show (1:Int)≠0;decide,.inl rfl,fun e => by have h9:(1:Int)=2:=e.1;omega,pm2.1,?_,by simpa using a1,hd⟩⟩
    show 1≤p.birth∧p.birth≤st.births+1-1
    have:=pm2.2.1;omega
   ·refine belowB_iff.2 ⟨(wrap_small (n:=p.depth+1) (by omega) (by omega)).symm,rfl,(untV_le _ _ _).1,by simpa using a4,?_⟩
    show p.level<p.level↔(1:Int)=2
    omega
  ·rw [if_neg k1] at hg
   rw [if_neg k1]
   unfold raisedS at hg ⊢
   split at hg
   ·cases hg
   split at hg
   ·cases hg
   split at hg
   ·cases hg
   split at hg
   ·cases hg
   split at hg
   ·cases hg
   split at hg
   ·cases hg
   split at hg
   ·cases hg
   rename_i a1 a2 a3 a4 a5 a6 a7
   rw [if_neg a1,if_neg a2,if_neg a3,if_neg a4,if_neg a5,if_neg a6,if_neg a7]
   have hu:unt st.clock r.life p.dl=true:=by simpa using a2
   have hv:=untV_gt hu
   have hv2:=(untV_le st.clock r.life p.dl).2
   have hd:(1:Int)≤p.depth+1∧p.depth+1≤6:=by omega
   have hcr:p.level<r.level∧0≤r.level∧r.level≤2:=by
    have:canRaise p.level r.level=true:=by simpa using a5
    unfold canRaise at this
    simp only [Bool.or_eq_true,decide_eq_true_eq] at this
    omega
   refine ⟨by simpa using a7,rfl,?_,rfl,.inr ⟨k0,p,hp,e1,e2,e1,e2,?_⟩⟩
   ·refine mayS_iff.2 ⟨by show 0≤i∧i≤31;omega,by show 1≤st.births+1∧st.births+1≤1048576;omega,pm2.2.2.1,⟨hcr.2.1,hcr.2.2⟩,ht2,hv,.inr ⟨by show (2:Int)≠0;decide,.inr rfl,fun e => ?_,pm2.1,?_,by simpa using a1,hd⟩⟩
    ·have:300<untV st.clock r.life p.dl-st.clock:=e.2
     omega
    ·show 1≤p.birth∧p.birth≤st.births+1-1
     have:=pm2.2.1;omega
   ·refine belowB_iff.2 ⟨(wrap_small (n:=p.depth+1) (by omega) (by omega)).symm,rfl,(untV_le _ _ _).1,within_self _,?_⟩
    show p.level<r.level↔(2:Int)=2
    simp [hcr.1]
theorem Is.plan {st:FS} {A:List Sess} (h:Is st A) (kind us ub:Int) (r:Req) :
  (∃ no,no≠0∧planF st kind us ub r=some (st,s0,no)∧(kind<0∨2<kind∨(grantF st kind us ub r).2=no)) ∨
  ∃ st' s,planF st kind us ub r=some (st',s,0)∧(0≤kind∧kind≤2)∧(grantF st kind us ub r).2=0∧s={ (grantF st kind us ub r).1 with slot:=s.slot }∧Is st' A∧st'.clock=st.clock∧st'.births=st.births∧s.slot ∈ st'.free ∧
   mayS s=true∧s.born=st'.clock∧s.birth=st'.births+1∧mayF st' s=0∧(kind=0∧s.us=0∧s.ub=0∨kind≠0∧∃ p ∈ A,p.slot=us∧p.birth=ub∧s.us=us∧s.ub=ub∧belowB s p=true):=by
 unfold planF
 by_cases hk:kind<0∨2<kind
 ·rw [if_pos hk];exact .inl ⟨1,by decide,rfl,by omega⟩
 rw [if_neg hk]
 by_cases hg:(grantF st kind us ub r).2≠0
 ·rw [if_pos hg];exact .inl ⟨_,hg,rfl,.inr (.inr rfl)⟩
 rw [if_neg hg]
 have hg0:(grantF st kind us ub r).2=0:=Decidable.byContradiction hg
 have hk2:0≤kind∧kind≤2:=by omega
 right
 -- the forest behind a unit of work,if one is wanted
 obtain ⟨s1,i,t,e1,e2,h1,h2,h3⟩:∃ s1 i t,(if st.free.isEmpty then (unitF st).map Prod.fst else some st)=some s1∧s1.free=i :: t∧Is s1 A∧s1.clock=st.clock∧s1.births=st.births:=by
  cases hf:st.free with
  | nil =>
   have hfl:=(h.granted hk2 hg0 (i:=0) (by decide)).1
   unfold full at hfl
   rw [hf] at hfl
   rcases h.unit with ⟨k1,_⟩ | ⟨st',f,k1,k2,k3,k4,k5,k6,k7⟩
   ·rw [k1] at hfl;cases hfl
   ·exact ⟨st',f,st.free,by rw [k2];rfl,k7,k3,k4,k5⟩
  | cons i t => exact ⟨st,i,t,rfl,hf,h,rfl,rfl⟩
 rw [e1,Option.map_some,e2]
 have ti:thr i=true:=by
  obtain ⟨R,G,K,pl,hw,_,_⟩:=h1.1
  exact ((hw.sh.fmem i).1 (by rw [e2];simp)).1
 obtain ⟨_,g2,g3,g4,g5⟩:=h.granted hk2 hg0 ti
 refine ⟨s1,_,rfl,hk2,hg0,rfl,h1,h2,h3,by rw [e2];simp,g3,by rw [h2];exact g4,by rw [h3];exact g2,?_,g5⟩
 refine (h1.1.mayF_zero _).2 ?_
 rcases g5 with ⟨_,a1,a2⟩ | ⟨_,p,hp,a1,a2,a3,a4,a5⟩
 ·exact .inl ⟨a1,a2⟩
 ·exact .inr ⟨p,hp,by rw [a1];exact a3.symm,by rw [a2];exact a4.symm,a5⟩
end Fr
end Go.Proofs.YtimhglmfckfclaaGreat
namespace Go.Proofs.YtimhglmfckfclaaGreat
namespace Fr
open Vw (Sess)
open Ex (Ent itm wo)
open Hp (ahd)
theorem goes_path {S:List Slt} {last:Int}:∀ (t:List Int) (x:Int) (n:Nat),Path S (x :: t)→(x :: t).getLast? = some last→(x :: t).Nodup→(∀ y ∈ x :: t,thr y=true)→(x :: t).length≤n→goes S last n x=x :: t
 | [],x,n,_,hl,_,ht,hn => by
  obtain ⟨m,rfl⟩:∃ m,n=m+1:=⟨n-1,by simp at hn;omega⟩
  have e:x=last:=by simpa using hl
  unfold goes
  rw [if_pos (ht x (by simp)),if_pos e]
 | y :: t,x,n,hp,hl,hd,ht,hn => by
  obtain ⟨m,rfl⟩:∃ m,n=m+1:=⟨n-1,by simp at hn;omega⟩
  have hl2:(y :: t).getLast? = some last:=by simpa using hl
  have hne:x≠last:=fun e => (List.nodup_cons.1 hd).1 (by subst e;exact List.mem_of_getLast? hl2)
  unfold goes
  rw [if_pos (ht x (by simp)),if_neg hne,hp.1.1,goes_path t y m hp.2 hl2 (List.nodup_cons.1 hd).2 (fun z hz => ht z (List.mem_cons_of_mem _ hz)) (by simp at hn ⊢;omega)]
theorem RingAt.all {S:List Slt} {last:Int} {L:List Int} (h:RingAt S last L) (ht:∀ x ∈ L,thr x=true) (hd:L.Nodup):allL S last=L:=by
 unfold allL
 rcases h with ⟨rfl,rfl⟩ | ⟨r,e,h⟩
 ·rfl
 ·have hl:thr last=true:=ht last (by rw [e];simp)
  rw [if_pos hl]
  obtain ⟨f,t,hf⟩:∃ f t,L=f :: t:=by rw [e];cases r <;> simp
  have hlast:L.getLast? = some last:=by rw [e];simp
  have hlen:L.length≤32:=by
   have:=nodup_le (m:=ids) hd (fun x hx => mem_ids.2 (ht x hx))
   rw [ids_len] at this;exact this
  rw [hf] at h hlast hd ht hlen ⊢
  rw [h.1.1]
  exact goes_path t f 32 h.2 hlast hd ht hlen
section
variable {st:FS} {R G:List Int} {K:Int→List Int} {pl:Int→Pl}
def far (st:FS) (i:Int):Nat:=(7-(sl st.S i).s.depth).toNat
theorem Wf.far_pos (hw:Wf st R G K pl) {i:Int} (ti:thr i=true) (hf:pl i≠.fr):1≤far st i:=by
 have:(sl st.S i).s.depth≤6:=(hw.co.depth ti hf).2
 unfold far;omega
theorem Wf.far_kid (hw:Wf st R G K pl) {i k:Int} (hk:k ∈ K i):thr k=true∧pl k≠.fr∧far st i=far st k+1:=by
 obtain ⟨tk,pk⟩:=(hw.sh.kmem i k).1 hk
 have hd:(sl st.S k).s.depth=(sl st.S i).s.depth+1:=hw.co.kid_depth tk pk
 have nf:pl k≠.fr:=by rw [pk];simp
 have h2:(sl st.S k).s.depth≤6:=(hw.co.depth tk nf).2
 exact ⟨tk,nf,by unfold far;omega⟩
end
end Fr
end Go.Proofs.YtimhglmfckfclaaGreat
namespace Go.Proofs.YtimhglmfckfclaaGreat
open Go.RowKit
namespace Ag
theorem fill_one (ie:TypeInfo) (z:Value) (cs:List Value) (hn:cs.length=ie.size) (h0:0<ie.size):Instr.fill (fun i => some (i * ie.size,ie.size)) ((Array.range (1 * ie.size)).map (z.cells[· % z.cells.size]!)) [(0,.agg cs.toArray)]=some cs.toArray:=by
 have h:=Go.Great.fill_whole (s:=ie.size) h0 [Value.agg cs.toArray] ((Array.range (1 * ie.size)).map (z.cells[· % z.cells.size]!)) (by simp [Value.cells,hn]) (by simp)
 simpa [Value.cells] using h
theorem wpList_one {P:Program} {ops:Array Oper} {rest:List Oper} {o:Oper} {a:Act} {w:World} {Q:Exit→Act→World→Prop} (hg:o.guard=none) (t e:TypeId) (x:Operand) (ho:o.op = .buildSlice t 1 #[(0,x)])
  (cs:List Value) (hx:a.eval x = .agg cs.toArray) (ie:TypeInfo) (z:Value) (hu:P.underlying t=some (.slice e)) (hie:P.info? e=some ie) (hz:ie.zero=some z) (hn:cs.length=ie.size) (h0:0<ie.size) (hs:ie.size≤16777216)
  (h:wpList P ops Q rest (a.put o.dst (.slice (some ⟨w.heap.size,0,none⟩) 1 1)) (w.alloc (.cells cs.toArray e))):wpList P ops Q (o :: rest) a w:=by
 refine Go.wpList_buildSlice hg t e 1 #[(0,x)] ho cs.toArray ie z hu hie hz (by omega) (by omega) ?_ h
 have h:=fill_one ie z cs hn h0
 simpa [hx] using h
def put (Z:Array Value):Nat→List Value→Array Value
 | _,[] => Z
 | o,v :: r => put (Z.setIfInBounds o v) (o+1) r
theorem put_size:∀ (vs:List Value) (o:Nat) (Z:Array Value),(put Z o vs).size=Z.size
 | [],_,_ => rfl
 | v :: r,o,Z => by rw [put,put_size r];simp
theorem put_at:∀ (vs:List Value) (o:Nat) (Z:Array Value) (i:Nat),(put Z o vs)[i]? = if o≤i∧i<o+vs.length∧i<Z.size then vs[i-o]? else Z[i]?
 | [],o,Z,i => by rw [if_neg (by simp;omega)];rfl
 | v :: r,o,Z,i => by
  rw [put,put_at r]
  by_cases h1:o=i
  ·subst h1
   rw [if_neg (by omega)]
   by_cases h2:o<Z.size
   ·rw [if_pos (by simp;omega)];simp [h2]
   ·rw [if_neg (by simp;omega)];simp [h2]
  ·by_cases h2:o+1≤i∧i<o+1+r.length∧i<Z.size
   ·rw [if_pos (by simpa using h2),if_pos (by simp;omega),show i-o=(i-(o+1))+1 by omega,List.getElem?_cons_succ]
   ·rw [if_neg (by simpa using h2),if_neg (by simp;omega),Array.getElem?_setIfInBounds,if_neg h1]
theorem put_all {Z:Array Value} {cs:List Value} (h:Z.size=cs.length):put Z 0 cs=cs.toArray:=by
 apply Array.ext_getElem?
 intro i
 rw [put_at]
 by_cases h1:i<cs.length
 ·rw [if_pos (by omega)];simp
 ·rw [if_neg (by omega)]
  simp [h1,h]
theorem setCells_new (w:World) (t:TypeId):∀ (vs:List Value) (o:Nat) (Z:Array Value),(w.alloc (.cells Z t)).setCells w.heap.size o vs=w.alloc (.cells (put Z o vs) t)
 | [],_,_ => rfl
 | v :: r,o,Z => by
  rw [World.setCells,World.setCell_alloc_at (hn:=rfl),setCells_new w t r];rfl
theorem there_new (w:World) (t:TypeId) (Z:Array Value) (n:Nat) (h:n≤Z.size):(w.alloc (.cells Z t)).there w.heap.size 0 n:=fun j hj => by
 refine ⟨?_,World.frozen?_alloc_new w Z t _⟩
 rw [cell_of_row _ _ _ _ _ _ (Ut.alloc_at w (.cells Z t)),Nat.zero_add]
 have h2:j<Z.size:=by omega
 simp [h2]
theorem wpList_store_new {P:Program} {ops:Array Oper} {rest:List Oper} {o:Oper} {a:Act} {w:World} {Q:Exit→Act→World→Prop} {t:TypeId} {Z:Array Value} (hg:o.guard=none) (ty:TypeId) (x y:Operand) (ho:o.op = .store ty x y) (cs:List Value)
  (hx:a.eval x = .pointer (some ⟨w.heap.size,0,none⟩)) (hy:a.eval y = .agg cs.toArray) (hi:(P.info? ty).map (·.size)=some cs.length) (hZ:Z.size=cs.length) (h1:∀ v ∈ cs,v.oneCell'=true)
  (h:wpList P ops Q rest (a.put o.dst undef) (w.alloc (.cells cs.toArray t))):wpList P ops Q (o :: rest) a (w.alloc (.cells Z t)):=by
 refine wpList_store_mid hg ty x y ho w.heap.size 0 cs.toArray hx hy (there_new w t Z _ (by simp [hZ])) (by simpa using hi) (all_oneCell_toArray h1) ?_
 rw [setCells_new,List.toList_toArray,put_all hZ]
 exact h
theorem setCells_row (b:Nat) (t:TypeId):∀ (vs:List Value) (o:Nat) (Z:Array Value) (w:World),w.heap[b]? = some (.cells Z t (0,0))→(w.setCells b o vs).heap[b]? = some (.cells (put Z o vs) t (0,0))
 | [],_,_,_,h => h
 | v :: r,o,Z,w,h => by
  rw [World.setCells,put]
  exact setCells_row b t r _ _ _ (heap_setCell_same w b o _ _ v h)
theorem there_row {w:World} {b:Nat} {t:TypeId} {Z:Array Value} (h:w.heap[b]? = some (.cells Z t (0,0))) (n:Nat) (hn:n≤Z.size):w.there b 0 n:=fun j hj => by
 refine ⟨?_,by unfold World.frozen?;rw [h];rfl⟩
 rw [cell_of_row _ _ _ _ _ _ h,Nat.zero_add]
 have h2:j<Z.size:=by omega
 simp [h2]
theorem below_setCells {B:Nat} {a:World} {b:Nat} (hb:B≤b):∀ (vs:List Value) (o:Nat) (w:World),Below B a w→Below B a (w.setCells b o vs)
 | [],_,_,h => h
 | v :: r,o,w,h => by
  rw [World.setCells]
  exact below_setCells hb r _ _ (h.setCell (p:=⟨b,o,none⟩) hb v)
end Ag
end Go.Proofs.YtimhglmfckfclaaGreat
namespace Go.Proofs.YtimhglmfckfclaaGreat
open Go.RowKit
namespace Fr
open Vw (Sess)
def Slt.cells (x:Slt):List Value:=[.bool x.used,.bool x.dead,.int .i64 x.kids,.int .i64 x.prev,.int .i64 x.next,.int .i64 x.s.slot,.int .i64 x.s.birth,.int .i64 x.s.us,.int .i64 x.s.ub,.int .i64 x.s.kind,.string x.s.user,.string x.s.label,.int .u64 (x.s.scopes:Int),.int .i64 x.s.level,.int .i64 x.s.born,.int .i64 x.s.dl,.int .i64 x.s.depth]
theorem Slt.cells_eq (x:Slt):x.cells=[.bool x.used,.bool x.dead,.int .i64 x.kids,.int .i64 x.prev,.int .i64 x.next] ++ x.s.cells:=rfl
theorem Slt.cells_len (x:Slt):x.cells.length=17:=rfl
theorem Slt.one (x:Slt):∀ u ∈ x.cells,u.oneCell'=true:=by
 intro u hu
 simp only [Slt.cells,List.mem_cons,List.not_mem_nil,or_false] at hu
 rcases hu with rfl | rfl | rfl | rfl | rfl | rfl | rfl | rfl | rfl | rfl | rfl | rfl | rfl | rfl | rfl | rfl | rfl <;> rfl
def allS (S:List Slt):List Value:=S.flatMap Slt.cells
theorem allS_len (S:List Slt):(allS S).length=S.length * 17:=by
 unfold allS
 induction S with
 | nil => rfl
 | cons s r ih => rw [List.flatMap_cons,List.length_append,ih,List.length_cons,Slt.cells_len];omega
theorem allS_at:∀ (S:List Slt) {k j:Nat} (hk:k<S.length) (hj:j<17),(allS S)[k * 17+j]? = S[k].cells[j]?
 | [],k,j,hk,_ => absurd hk (Nat.not_lt_zero _)
 | s :: r,0,j,hk,hj => by
  show (s.cells ++ allS r)[0 * 17+j]? = s.cells[j]?
  rw [List.getElem?_append_left (by rw [Slt.cells_len];omega),Nat.zero_mul,Nat.zero_add]
 | s :: r,k+1,j,hk,hj => by
  show (s.cells ++ allS r)[(k+1) * 17+j]? = _
  rw [List.getElem?_append_right (by rw [Slt.cells_len];omega),Slt.cells_len,show (k+1) * 17+j-17=k * 17+j by omega,allS_at r (by simpa using hk) hj]
  rfl
def arCells (S:List Slt) (nx:List Int) (fi:Int) (wr:Nat):List Value:=allS S ++ (nx.map (Value.int .i64) ++ [.int .i64 fi,.int .i64 (wr:Int)])
structure ArW (a:Nat) (S:List Slt) (nx:List Int) (fi:Int) (wr:Nat) (w:World):Prop where
 row:w.heap[a]? = some (.cells (arCells S nx fi wr).toArray 110 (0,0))
 ls:S.length=32
 ln:nx.length=32
section
variable {a:Nat} {S:List Slt} {nx:List Int} {fi:Int} {wr:Nat} {w:World}
theorem ArW.lt (h:ArW a S nx fi wr w):a<w.heap.size:=(Array.getElem?_eq_some_iff.1 h.row).1
theorem ArW.keep {w':World} (h:ArW a S nx fi wr w) (e:w'.heap[a]? = w.heap[a]?):ArW a S nx fi wr w':=⟨e.trans h.row,h.ls,h.ln⟩
theorem ArW.below {w':World} (h:ArW a S nx fi wr w) (hb:Below w.heap.size w w'):ArW a S nx fi wr w':=h.keep (hb.block a h.lt)
theorem ArW.len (h:ArW a S nx fi wr w):(arCells S nx fi wr).length=578:=by
 unfold arCells
 simp only [List.length_append,allS_len,List.length_map,h.ls,h.ln,List.length_cons,List.length_nil]
theorem ArW.slot (h:ArW a S nx fi wr w) {k:Nat} (hk:k<32):w.rangeAt a (k * 17) (sl S (k:Int)).cells:=fun j u hu => by
 rw [cell_of_row _ _ _ _ _ _ h.row,List.getElem?_toArray]
 have hj:j<17:=(List.getElem?_eq_some_iff.1 hu).1
 unfold arCells
 have hk2:k<S.length:=by rw [h.ls];exact hk
 have e:sl S (k:Int)=S[k]:=by
  unfold sl
  rw [List.getD_eq_getElem?_getD,Int.toNat_natCast,List.getElem?_eq_getElem hk2];rfl
 rw [List.getElem?_append_left (by rw [allS_len,h.ls];omega),allS_at S hk2 hj,← hu,e]
theorem ArW.next (h:ArW a S nx fi wr w) {k:Nat} (hk:k<32):w.cell? ⟨a,544+k,none⟩=some (.int .i64 (nx.getD k 0)):=by
 rw [cell_of_row _ _ _ _ _ _ h.row,List.getElem?_toArray]
 unfold arCells
 rw [List.getElem?_append_right (by rw [allS_len,h.ls];omega),allS_len,h.ls,show 544+k-32 * 17=k by omega,List.getElem?_append_left (by rw [List.length_map,h.ln];exact hk),List.getElem?_map,List.getD_eq_getElem?_getD,List.getElem?_eq_getElem (by rw [h.ln];exact hk)];rfl
theorem ArW.first (h:ArW a S nx fi wr w):w.cell? ⟨a,576,none⟩=some (.int .i64 fi):=by
 rw [cell_of_row _ _ _ _ _ _ h.row,List.getElem?_toArray]
 unfold arCells
 rw [List.getElem?_append_right (by rw [allS_len,h.ls];omega),allS_len,h.ls,List.getElem?_append_right (by rw [List.length_map,h.ln];omega),List.length_map,h.ln];rfl
theorem ArW.writes (h:ArW a S nx fi wr w):w.cell? ⟨a,577,none⟩=some (.int .i64 (wr:Int)):=by
 rw [cell_of_row _ _ _ _ _ _ h.row,List.getElem?_toArray]
 unfold arCells
 rw [List.getElem?_append_right (by rw [allS_len,h.ls];omega),allS_len,h.ls,List.getElem?_append_right (by rw [List.length_map,h.ln];omega),List.length_map,h.ln];rfl
theorem ArW.free (h:ArW a S nx fi wr w) (o:Nat):w.frozen? ⟨a,o,none⟩=false:=by unfold World.frozen?;rw [h.row];rfl
theorem ArW.there (h:ArW a S nx fi wr w) {k:Nat} (hk:k<32):w.there a (k * 17) 17:=fun j hj => by
 refine ⟨?_,h.free _⟩
 rw [cell_of_row _ _ _ _ _ _ h.row,List.getElem?_toArray,List.getElem?_eq_getElem (by rw [h.len];omega)];rfl
theorem put_cells {S:List Slt} {k:Nat} (hk:k<S.length) (x:Slt) (t:List Value):Ag.put (allS S ++ t).toArray (k * 17) x.cells=(allS (put S (k:Int) x) ++ t).toArray:=by
 apply Array.ext_getElem?
 intro i
 have hx:x.cells.length=17:=rfl
 have hl:(allS (put S (k:Int) x)).length=S.length * 17:=by rw [allS_len,put_len]
 rw [Ag.put_at,hx,List.size_toArray,List.length_append,allS_len,List.getElem?_toArray,List.getElem?_toArray]
 by_cases hi:i<S.length * 17
 ·rw [List.getElem?_append_left (by rw [allS_len];exact hi),List.getElem?_append_left (by rw [hl];exact hi)]
  have e:i=i / 17 * 17+i % 17:=by omega
  have h1:i / 17<S.length:=by omega
  have h2:i / 17<(put S (k:Int) x).length:=by rw [put_len];exact h1
  have hm:i % 17<17:=by omega
  have e1:(allS (put S (k:Int) x))[i]? = (put S (k:Int) x)[i / 17].cells[i % 17]?:=by
   conv => lhs;rw [e]
   exact allS_at _ h2 hm
  have e2:(allS S)[i]? = S[i / 17].cells[i % 17]?:=by
   conv => lhs;rw [e]
   exact allS_at _ h1 hm
  have e5:(put S (k:Int) x)[i / 17]=if k=i / 17 then x else S[i / 17]:=by
   have:=List.getElem_set (l:=S) (i:=(k:Int).toNat) (j:=i / 17) (a:=x) (h:=by rw [List.length_set];exact h1)
   rw [show (put S (k:Int) x)[i / 17]=(S.set (k:Int).toNat x)[i / 17]'(by rw [List.length_set];exact h1) from rfl,this,Int.toNat_natCast]
  rw [e1,e2,e5]
  by_cases hb:k=i / 17
  ·have e3:i-k * 17=i % 17:=by omega
   rw [if_pos (by omega),if_pos hb,e3]
  ·rw [if_neg (by omega),if_neg hb]
 ·rw [if_neg (by omega),List.getElem?_append_right (by rw [allS_len];omega),List.getElem?_append_right (by rw [hl];omega),allS_len,hl]
theorem ArW.put (h:ArW a S nx fi wr w) {k:Nat} (hk:k<32) (x:Slt):ArW a (Fr.put S (k:Int) x) nx fi wr (w.setCells a (k * 17) x.cells):=by
 refine ⟨?_,by rw [put_len,h.ls],h.ln⟩
 rw [Ag.setCells_row a _ x.cells (k * 17) _ w h.row]
 unfold arCells
 rw [put_cells (by rw [h.ls];exact hk)]
theorem ar3 (X Y:List Value) (p q:Value) (hx:X.length=544) (hy:Y.length=32) (i:Nat):(X ++ (Y ++ [p,q]))[i]? = if i<544 then X[i]? else if i<576 then Y[i-544]? else if i=576 then some p else if i=577 then some q else none:=by
 by_cases h1:i<544
 ·rw [if_pos h1,List.getElem?_append_left (by omega)]
 ·rw [if_neg h1,List.getElem?_append_right (by omega),hx]
  by_cases h2:i<576
  ·rw [if_pos h2,List.getElem?_append_left (by omega)]
  ·rw [if_neg h2,List.getElem?_append_right (by omega),hy]
   by_cases h3:i=576
   ·subst h3;rw [if_pos rfl];rfl
   ·rw [if_neg h3]
    by_cases h4:i=577
    ·subst h4;rw [if_pos rfl];rfl
    ·rw [if_neg h4]
     exact List.getElem?_eq_none (by simp;omega)
theorem ArW.l1 (h:ArW a S nx fi wr w):(allS S).length=544∧(nx.map (Value.int .i64)).length=32:=⟨by rw [allS_len,h.ls],by rw [List.length_map,h.ln]⟩
theorem ArW.setW (h:ArW a S nx fi wr w) (n:Nat):ArW a S nx fi n (w.setCell ⟨a,577,none⟩ (.int .i64 (n:Int))):=by
 refine ⟨?_,h.ls,h.ln⟩
 rw [heap_setCell_same _ _ _ _ _ _ h.row]
 congr 2
 apply Array.ext_getElem?
 intro i
 rw [Array.getElem?_setIfInBounds,List.getElem?_toArray,List.getElem?_toArray,List.size_toArray,h.len]
 unfold arCells
 rw [ar3 _ _ _ _ h.l1.1 h.l1.2,ar3 _ _ _ _ h.l1.1 h.l1.2]
 by_cases h1:i=577
 ·subst h1;simp
 ·rw [if_neg (by omega)]
  simp only [if_neg h1]
theorem ArW.setF (h:ArW a S nx fi wr w) (n:Int):ArW a S nx n wr (w.setCell ⟨a,576,none⟩ (.int .i64 n)):=by
 refine ⟨?_,h.ls,h.ln⟩
 rw [heap_setCell_same _ _ _ _ _ _ h.row]
 congr 2
 apply Array.ext_getElem?
 intro i
 rw [Array.getElem?_setIfInBounds,List.getElem?_toArray,List.getElem?_toArray,List.size_toArray,h.len]
 unfold arCells
 rw [ar3 _ _ _ _ h.l1.1 h.l1.2,ar3 _ _ _ _ h.l1.1 h.l1.2]
 by_cases h1:i=576
 ·subst h1;simp
 ·rw [if_neg (by omega)]
  simp only [if_neg h1]
theorem ArW.setN (h:ArW a S nx fi wr w) {k:Nat} (hk:k<32) (n:Int):ArW a S (nx.set k n) fi wr (w.setCell ⟨a,544+k,none⟩ (.int .i64 n)):=by
 refine ⟨?_,h.ls,by rw [List.length_set,h.ln]⟩
 rw [heap_setCell_same _ _ _ _ _ _ h.row]
 congr 2
 apply Array.ext_getElem?
 intro i
 rw [Array.getElem?_setIfInBounds,List.getElem?_toArray,List.getElem?_toArray,List.size_toArray,h.len]
 unfold arCells
 rw [ar3 _ _ _ _ h.l1.1 h.l1.2,ar3 _ _ _ _ h.l1.1 (by rw [List.length_map,List.length_set,h.ln])]
 by_cases h1:544+k=i
 ·subst h1
  rw [if_pos rfl,if_pos (by omega),if_neg (by omega),if_pos (by omega),List.getElem?_map,List.getElem?_set,h.ln,if_pos (by omega),if_pos (by omega)];rfl
 ·rw [if_neg h1]
  by_cases h2:i<544
  ·rw [if_pos h2,if_pos h2]
  ·rw [if_neg h2,if_neg h2]
   by_cases h3:i<576
   ·rw [if_pos h3,if_pos h3,List.getElem?_map,List.getElem?_map,List.getElem?_set,if_neg (by omega)]
   ·rw [if_neg h3,if_neg h3]
end
theorem results_cell_tmp {P:Program} {fn:Func} {p q:Tmp} {ty:TypeId} (h:fn.results=#[.cell p ty,.tmp q]) (tmps:Array Value) (w:World) (g:Nat) (t:TypeId) (cs:Array Value) (fr:Nat × Nat) (d:TypeDesc)
  (hp:tmps.getD p undef = .pointer (some ⟨g,0,none⟩)) (hg:w.heap[g]? = some (.cells cs t fr)) (hu:P.underlying ty=some d) (hd:(match d with | .struct _ | .array _ _ => true | _ => false)=true) (hi:(P.info? ty).map (·.size)=some cs.size) :
  (results fn tmps).run P w = .ok (.tuple #[.agg cs,tmps.getD q undef]) w:=by
 have hp':tmps[p]?.getD undef = .pointer (some ⟨g,0,none⟩):=by simpa using hp
 simp [results,h,hp',asAddr,run_loadVar_row w g t ty cs fr d hg hu hd hi]
end Fr
end Go.Proofs.YtimhglmfckfclaaGreat
namespace Go.Proofs.YtimhglmfckfclaaGreat
open Go.RowKit
namespace St
theorem value {P:Program} {ops:Array Oper} {w:World} {Q:Act→Prop} {a:Act} {o:Oper} {rest:List Oper} (v:Value) (hw:Region.wanted o (yielded ops a.tmps)=true) (hv:(execOp a.eval o).run P w = .ok (.value v) w)
  (h:wpStill P ops w Q rest (a.put o.dst v)):wpStill P ops w Q (o :: rest) a :=
 wpStill_step fun K hK => by
  rw [if_pos hw]
  unfold Oper.still
  rw [hv]
  exact ⟨rfl,hK _ h⟩
theorem load {P:Program} {ops:Array Oper} {w:World} {Q:Act→Prop} {a:Act} {o:Oper} {rest:List Oper} (hw:Region.wanted o (yielded ops a.tmps)=true) (ty:TypeId) (x:Operand) (ho:o.op = .load ty x)
  (b k:Nat) (hx:a.eval x = .pointer (some ⟨b,k,none⟩)) (cs:List Value) (d:TypeDesc) (hc:w.rangeAt b k cs) (hu:P.underlying ty=some d) (hd:d.isRow=true) (hi:(P.info? ty).map (·.size)=some cs.length)
  (h:wpStill P ops w Q rest (a.put o.dst (.agg cs.toArray))):wpStill P ops w Q (o :: rest) a :=
 value _ hw (by
  unfold execOp
  simp only [ho,hx,Instr.loadAt,Instr.sureAddr,Sem.run_bind,Sem.run_pure,Result.andThen_ok,run_loadVar_mid w b k ty cs d hc hu hd hi]) h
theorem exec_load {P:Program} {w:World} {o:Oper} {ev:Operand→Value} (ty:TypeId) (x:Operand) (ho:o.op = .load ty x) (b k:Nat) (hx:ev x = .pointer (some ⟨b,k,none⟩)) (cs:List Value) (d:TypeDesc) (hc:w.rangeAt b k cs) (hu:P.underlying ty=some d) (hd:d.isRow=true)
  (hi:(P.info? ty).map (·.size)=some cs.length):(execOp ev o).run P w = .ok (.value (.agg cs.toArray)) w:=by
 unfold execOp
 simp only [ho,hx,Instr.loadAt,Instr.sureAddr,Sem.run_bind,Sem.run_pure,Result.andThen_ok,run_loadVar_mid w b k ty cs d hc hu hd hi]
theorem call {P:Program} {ops:Array Oper} {w:World} {Q:Act→Prop} {a:Act} {o:Oper} {rest:List Oper} (v:Value) (hw:Region.wanted o (yielded ops a.tmps)=true) (f:Nat) (args:Array Value) (he:(execOp a.eval o).run P w = .ok (.enter f args) w)
  (hc:Calls P f args w fun e w' => e = .returned v∧w'=w) (h:wpStill P ops w Q rest (a.put o.dst v)):wpStill P ops w Q (o :: rest) a :=
 wpStill_step fun K hK => by
  rw [if_pos hw]
  unfold Oper.still
  rw [he]
  exact ⟨rfl,v,hc,hK _ h⟩
end St
end Go.Proofs.YtimhglmfckfclaaGreat
