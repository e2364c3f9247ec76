/- Parts of the proof. -/
import Derived.Test.YtimhglmfckfclaaGreatDoorM10
set_option linter.unusedVariables false
set_option linter.unusedSimpArgs false
set_option maxRecDepth 100000
set_option maxHeartbeats 16000000
namespace Go.Proofs.YtimhglmfckfclaaGreatDoor
section
namespace Fr
open Vw (Sess)
open Ex (Ent itm wo)
open Hp (ahd)
theorem IsN.unit {st:FS} {A:List Sess} (h:IsN st A):(st.garb = -1/\unitF st=some (st,none)) \/
  ∃ st' f,st.garb≠-1/\unitF st=some (st',some f)/\IsN st' A/\st'.clock=st.clock/\st'.births=st.births/\st'.exp=st.exp/\st'.free=f :: st.free:=by
 obtain ⟨R,G,K,pl,hw,hp,hm⟩:=h
 by_cases hg:st.garb = -1
 ·exact .inl ⟨hg,by unfold unitF;rw [if_pos hg]⟩
 ·right
  have hG:G≠[]:=fun e => hg ((hw.sh.rG.empty hw.sh.gthr).2 e)
  obtain ⟨f,g,hfg⟩:∃ f g,G=f :: g:=by
   cases G with
   | nil => exact absurd rfl hG
   | cons f g => exact ⟨f,g,rfl⟩
  have hG2:=hfg
  subst hG2
  obtain ⟨c1,c2,c3,c4,S1,g1,⟨eS,eg⟩,c5,c6,c7,c8⟩:=hw.sh.freed rfl
  have pf:=((hw.sh.gmem f).1 (by simp)).2
  refine ⟨{ st with S:=put (dropS S1 f) f bare,free:=f :: st.free,garb:=dropL S1 g1 f },f,hg,?_,⟨R,g ++ K f,_,plFree pl f,⟨c7,?_,hw.clk⟩,hp,fun s => ?_⟩,rfl,rfl,rfl,rfl⟩
  ·unfold unitF
   rw [if_neg hg]
   simp only
   rw [c2,c1,c3]
   have hc:((sl st.S f).kids == -1 || canSplice st.S st.garb (sl st.S f).kids)=true:=by
    rcases c5 with e | e
    ·rw [e];rfl
    ·rw [e];simp
   have hcf:st.free.contains f=false:=by simpa using c4
   rw [<- eS,<- eg,hc,c6,hcf]
   rfl
  ·refine (hw.co.free c3 pf).congr (fun j hj => ?_)
   by_cases e:j=f
   ·subst e
    rw [if_pos rfl]
    unfold cor
    rw [c7.bareF j hj (by simp [plFree])];rfl
   ·rw [if_neg e];exact c8 j hj e
  ·rw [hm s]
   constructor
   ·rintro ⟨i,i1,i2,rfl⟩
    have e:i≠f:=fun e => by subst e;exact i2.nf.2 pf
    have:=congrArg (·.2.2) (c8 i i1 e)
    exact ⟨i,i1,(lv_free pf i).2 i2,this⟩
   ·rintro ⟨i,i1,i2,rfl⟩
    have i3:=(lv_free pf i).1 i2
    have e:i≠f:=fun e => by subst e;exact i3.nf.2 pf
    have:=congrArg (·.2.2) (c8 i i1 e)
    exact ⟨i,i1,i3,this.symm⟩
theorem Is.unit {st:FS} {A:List Sess} (h:Is st A):(st.garb = -1/\unitF st=some (st,none)) \/
  ∃ st' f,st.garb≠-1/\unitF st=some (st',some f)/\Is st' A/\st'.clock=st.clock/\st'.births=st.births/\st'.exp=st.exp/\st'.free=f :: st.free:=by
 rcases h.1.unit with h1 | ⟨st',f,h1,h2,h3,h4,h5,h6,h7⟩
 ·exact .inl h1
 ·exact .inr ⟨st',f,h1,h2,⟨h3,by rw [h6,h4];exact h.2⟩,h4,h5,h6,h7⟩
theorem IsN.lay {st:FS} {A:List Sess} (h:IsN st A) {s:Sess} {births':Int} (hm:mayS s=true) (hf:s.slot ∈ st.free) (hu:s.us=0/\s.ub=0\/∃ p ∈ A,p.slot=s.us/\p.birth=s.ub/\belowB s p=true) (hb:s.birth<=births') (hb2:st.births<=births') (hb3:births'<=1048576)
  (hn:∀ i,thr i=true->(sl st.S i).used=true->(sl st.S i).s.birth<s.birth) :
  ∃ st',layF st s=some (st',0)/\IsN { st' with births:=births' } (A ++ [s])/\st'.clock=st.clock/\st'.births=st.births/\st'.free=st.free.erase s.slot/\st'.exp=Ex.put (wo st.exp s.slot) (s.slot,s.birth,s.dl)/\st'.garb=st.garb/\(∀ i,thr i=true->(sl st'.S i).used=true->(sl st'.S i).s.birth<=s.birth):=by
 obtain ⟨R,G,K,pl,hw,hp,hma⟩:=h
 obtain ⟨ti,pi⟩:=(hw.sh.fmem s.slot).1 hf
 have hn2:∀ j,thr j=true->pl j≠.fr->(cor st.S j).2.2.birth<s.birth:=fun j hj hnf => hn j hj ((hw.co.used j hj).2 hnf)
 obtain ⟨x,hx,hxs⟩:∃ x:Pl,(x = .rt/\s.us=0/\s.ub=0\/∃ p,x = .kd p/\thr p=true/\Lv pl p/\s.us=p/\s.ub=(cor st.S p).2.2.birth/\belowB s (cor st.S p).2.2=true)/\(x = .rt\/∃ p,x = .kd p/\p≠s.slot/\Lv pl p):=by
  rcases hu with ⟨h1,h2⟩ | ⟨p,hpA,h1,h2,h3⟩
  ·exact ⟨.rt,.inl ⟨rfl,h1,h2⟩,.inl rfl⟩
  ·obtain ⟨j,j1,j2,rfl⟩:=(hma p).1 hpA
   have e1:(sl st.S j).s.slot=j:=(hw.co.may j j1 j2.nf.1).2.1
   exact ⟨.kd j,.inr ⟨j,rfl,j1,j2,by rw [<- h1,e1],h2.symm,h3⟩,.inr ⟨j,rfl,fun e => by subst e;exact j2.nf.1 pi,j2⟩⟩
 have hx2:x = .rt/\s.us=0/\s.ub=0\/∃ p,x = .kd p/\thr p=true/\pl p≠.fr/\s.ub≠0/\s.us=p:=by
  rcases hx with h1 | ⟨p,h1,h2,h3,h4,h5,h6⟩
  ·exact .inl h1
  ·have h7:1<=(sl st.S p).s.birth:=hw.co.birth1 h2 h3.nf.1
   have h5':s.ub=(sl st.S p).s.birth:=h5
   exact .inr ⟨p,h1,h2,h3.nf.1,by omega,h4⟩
 obtain ⟨c1,c2,c3⟩:=hw.sh.laid ti pi hx2
 have hc0:=hw.co.lay (births':=births') ti pi hm rfl hb hb2 hb3 hx hn2
 have hcor:Core (cor (layS st.S st.roots s)) (plLay pl s.slot x) births' (Ex.put (wo st.exp s.slot) (s.slot,s.birth,s.dl)):=hc0.congr (fun j hj => c3 j hj)
 have hcon:st.free.contains s.slot=true:=by simpa using hf
 have l0:(put st.S s.slot (newSlt s)).length=32:=by rw [put_len,hw.sh.len]
 have self0:sl (put st.S s.slot (newSlt s)) s.slot=newSlt s:=sl_put_same _ hw.sh.len _ _ ti
 have hup:upOk (put st.S s.slot (newSlt s)) s.us s.ub=true/\(s.ub == 0 || s.us != s.slot)=true:=by
  unfold upOk
  rcases hx with ⟨_,_,h2⟩ | ⟨p,h1,h2,h3,h4,h5,h6⟩
  ·rw [h2];exact ⟨rfl,rfl⟩
  ·have e:p≠s.slot:=fun e => by subst e;exact h3.nf.1 pi
   have ku:(sl st.S p).used=true:=(hw.co.used p h2).2 h3.nf.1
   have h5':s.ub=(sl st.S p).s.birth:=h5
   rw [h4,sl_put_ne _ hw.sh.len s.slot p _ ti h2 (Ne.symm e),h2,ku,h5']
   simp [e]
 have cp:canPush (put st.S s.slot (newSlt s)) (ringOf { st with free:=st.free.erase s.slot,S:=put st.S s.slot (newSlt s) } s.us s.ub) s.slot=true:=c1
 have eadd:addF { st with free:=st.free.erase s.slot,S:=put st.S s.slot (newSlt s) } s.slot s.us s.ub=some { st with free:=st.free.erase s.slot,S:=layS st.S st.roots s,roots:=if s.ub=0 then s.slot else st.roots }:=by
  unfold addF
  simp only
  have hcond:(thr s.slot && ((sl (put st.S s.slot (newSlt s)) s.slot).used && (upOk (put st.S s.slot (newSlt s)) s.us s.ub && ((s.ub == 0 || s.us != s.slot) && canPush (put st.S s.slot (newSlt s)) (ringOf { st with free:=st.free.erase s.slot,S:=put st.S s.slot (newSlt s) } s.us s.ub) s.slot))))=true:=by
   rw [ti,self0,hup.1,hup.2,cp];rfl
  rw [if_pos hcond]
  unfold turn layS ringOf
  by_cases hb0:s.ub=0
  ·simp only [if_pos hb0]
  ·simp only [if_neg hb0]
 have elay:layF st s=some ({ st with free:=st.free.erase s.slot,S:=layS st.S st.roots s,roots:=if s.ub=0 then s.slot else st.roots,exp:=Ex.put (wo st.exp s.slot) (s.slot,s.birth,s.dl) },0):=by
  unfold layF
  rw [if_pos hcon]
  have:=eadd
  unfold newSlt at this
  rw [this];rfl
 have hsA:∀ a ∈ A,a.birth<s.birth:=fun a ha => by
  obtain ⟨j,j1,j2,rfl⟩:=(hma a).1 ha
  exact hn2 j j1 j2.nf.1
 refine ⟨_,elay,⟨_,_,_,_,⟨c2,hcor,hw.clk⟩,?_,fun y => ?_⟩,rfl,rfl,rfl,rfl,rfl,fun j hj hju => ?_⟩
 ·refine List.pairwise_append.2 ⟨hp,by simp,fun a ha b hb => ?_⟩
  rw [List.mem_singleton.1 hb];exact hsA a ha
 ·have old:∀ j,thr j=true->j≠s.slot->(sl (layS st.S st.roots s) j).s=(sl st.S j).s:=fun j hj e => by
   have:=congrArg (·.2.2) (c3 j hj)
   rw [if_neg e] at this;exact this
  have new:(sl (layS st.S st.roots s) s.slot).s=s:=by
   have:=congrArg (·.2.2) (c3 s.slot ti)
   rw [if_pos rfl] at this;exact this
  rw [List.mem_append,List.mem_singleton,hma y]
  constructor
  ·rintro (⟨j,j1,j2,rfl⟩ | rfl)
   ·have e:j≠s.slot:=fun e => by subst e;exact j2.nf.1 pi
    exact ⟨j,j1,(lv_lay hw.co pi hxs j j1).2 (.inr j2),old j j1 e⟩
   ·exact ⟨y.slot,ti,(lv_lay hw.co pi hxs y.slot ti).2 (.inl rfl),new⟩
  ·rintro ⟨j,j1,j2,rfl⟩
   rcases (lv_lay hw.co pi hxs j j1).1 j2 with e | j3
   ·right
    subst e
    exact new
   ·have e:j≠s.slot:=fun e => by subst e;exact j3.nf.1 pi
    exact .inl ⟨j,j1,j3,(old j j1 e).symm⟩
 ·have h3:=c3 j hj
  by_cases e:j=s.slot
  ·rw [if_pos e] at h3
   have:(sl (layS st.S st.roots s) j).s=s:=congrArg (·.2.2) h3
   show (sl (layS st.S st.roots s) j).s.birth<=_
   rw [this];omega
  ·rw [if_neg e] at h3
   have e1:(sl (layS st.S st.roots s) j).s=(sl st.S j).s:=congrArg (·.2.2) h3
   have e2:(sl (layS st.S st.roots s) j).used=(sl st.S j).used:=congrArg (·.1) h3
   have hju2:(sl (layS st.S st.roots s) j).used=true:=hju
   show (sl (layS st.S st.roots s) j).s.birth<=_
   rw [e1]
   exact Int.le_of_lt (hn j hj (by rw [<- e2];exact hju2))
theorem IsN.used_birth {st:FS} {A:List Sess} (h:IsN st A) (i:Int) (hi:thr i=true) (hu:(sl st.S i).used=true):(sl st.S i).s.birth<=st.births:=by
 obtain ⟨R,G,K,pl,hw,hp,hm⟩:=h
 exact (hw.co.may i hi ((hw.co.used i hi).1 hu)).2.2
theorem IsN.tm {st:FS} {A:List Sess} (h:IsN st A):Go.Proofs.YtimhglmfckfclaaGreatDoor.tm st.clock=true/\0<=st.births/\st.births<=1048576:=by
 obtain ⟨R,G,K,pl,hw,hp,hm⟩:=h
 exact ⟨hw.clk,hw.co.bir⟩
theorem IsN.mayF_zero {st:FS} {A:List Sess} (h:IsN st A) (s:Sess):mayF st s=0↔(s.us=0/\s.ub=0\/∃ p ∈ A,p.slot=s.us/\p.birth=s.ub/\belowB s p=true):=by
 unfold mayF
 by_cases h0:s.us=0/\s.ub=0
 ·rw [if_pos h0];simp [h0]
 ·rw [if_neg h0]
  by_cases h1:lives st.S s.us s.ub=false
  ·rw [if_pos h1]
   refine ⟨fun e => absurd e (by decide),?_⟩
   rintro (h2 | ⟨p,hp,h3,h4,_⟩)
   ·exact absurd h2 h0
   ·rw [(h.lives_iff _ _).2 ⟨p,hp,h3,h4⟩] at h1;cases h1
  ·rw [if_neg h1]
   obtain ⟨p,hp,h3,h4⟩:=(h.lives_iff _ _).1 (by simpa using h1)
   have e:(sl st.S s.us).s=p:=by rw [<- h3];exact (h.may hp).2.2.2.1
   rw [e]
   by_cases h5:belowB s p=false
   ·rw [if_pos h5]
    refine ⟨fun e => absurd e (by decide),?_⟩
    rintro (h2 | ⟨q,hq,h6,h7,h8⟩)
    ·exact absurd h2 h0
    ·have:q=p:=h.birth_inj hq hp (by rw [h7,h4])
     subst this;rw [h8] at h5;cases h5
   ·rw [if_neg h5]
    exact ⟨fun _ => .inr ⟨p,hp,h3,h4,by simpa using h5⟩,fun _ => rfl⟩
theorem Is.born {st:FS} {A:List Sess} (h:Is st A) (s:Sess) :
  (∃ no,bornF st s=some (st,no)/\no≠0/\¬ (mayS s=true/\s.born=st.clock/\s.birth=st.births+1/\mayF st s=0/\s.slot ∈ st.free)) \/
  ∃ st',bornF st s=some (st',0)/\(mayS s=true/\s.born=st.clock/\s.birth=st.births+1/\mayF st s=0/\s.slot ∈ st.free)/\Is st' (A ++ [s])/\st'.clock=st.clock/\st'.births=st.births+1/\st'.free=st.free.erase s.slot/\st'.garb=st.garb:=by
 unfold bornF
 by_cases h1:mayS s=false\/s.born≠st.clock
 ·rw [if_pos h1]
  refine .inl ⟨1,rfl,by decide,fun h2 => ?_⟩
  rcases h1 with h3 | h3
  ·rw [h2.1] at h3;cases h3
  ·exact h3 h2.2.1
 rw [if_neg h1]
 by_cases h2:s.birth≠st.births+1
 ·rw [if_pos h2];exact .inl ⟨18,rfl,by decide,fun h3 => h2 h3.2.2.1⟩
 rw [if_neg h2]
 by_cases h3:mayF st s≠0
 ·rw [if_pos h3];exact .inl ⟨_,rfl,h3,fun h4 => h3 h4.2.2.2.1⟩
 rw [if_neg h3]
 have hm:mayS s=true:=by cases hq:mayS s with
  | true => rfl
  | false => exact absurd (.inl hq) h1
 have hb:s.born=st.clock:=Decidable.byContradiction fun e => h1 (.inr e)
 have hbi:s.birth=st.births+1:=Decidable.byContradiction h2
 have hmf:mayF st s=0:=Decidable.byContradiction h3
 by_cases hf:s.slot ∈ st.free
 ·right
  have hbb:=h.1.tm.2
  have hmb:=(mayS_iff.1 hm).2.1
  obtain ⟨st',e,hi,k1,k2,k3,k4,k5,_⟩:=h.1.lay (births':=st.births+1) hm hf ((h.1.mayF_zero s).1 hmf) (by omega) (by omega) (by omega) (fun i hi hu => by have:=h.1.used_birth i hi hu;omega)
  refine ⟨{ st' with births:=st'.births+1 },by rw [e];rfl,⟨hm,hb,hbi,hmf,hf⟩,⟨by rw [k2];exact hi,fun x hx => ?_⟩,k1,by show st'.births+1=_;rw [k2],k3,k5⟩
  have hx':x ∈ st'.exp:=hx
  rw [k4] at hx'
  show st'.clock<_
  rw [k1]
  rcases put_mem.1 hx' with rfl | hx'
  ·have:=(mayS_iff.1 hm).2.2.2.2.2.1
   show st.clock<s.dl
   omega
  ·exact h.2 x (wo_mem.1 hx').1
 ·left
  refine ⟨9,?_,by decide,fun h4 => hf h4.2.2.2.2⟩
  have hcon:st.free.contains s.slot=false:=by simpa using hf
  unfold layF
  rw [hcon];rfl
theorem Is.revoke {st:FS} {A:List Sess} (h:Is st A) (us ub:Int) :
  (lives st.S us ub=false/\revokeF st us ub=some (st,16)) \/
  ∃ st' s,s ∈ A/\s.slot=us/\s.birth=ub/\revokeF st us ub=some (st',0)/\Is st' (cutA A ub)/\st'.clock=st.clock/\st'.births=st.births/\st'.free=st.free:=by
 unfold revokeF
 by_cases hl:lives st.S us ub=true
 ·right
  rw [if_pos hl]
  obtain ⟨s,hs,h1,h2⟩:=(h.1.lives_iff us ub).1 hl
  obtain ⟨st',e,hi,k1,k2,k3,k4⟩:=h.1.ended hs
  rw [h1] at e
  refine ⟨st',s,hs,h1,h2,by rw [e];rfl,⟨by rw [<- h2];exact hi,fun x hx => ?_⟩,k1,k2,k3⟩
  rw [k4] at hx
  rw [k1]
  exact h.2 x (wo_mem.1 hx).1
 ·exact .inl ⟨by simpa using hl,by rw [if_neg hl]⟩
theorem IsN.anc_dl {st:FS} {A:List Sess} (h:IsN st A) {a x:Sess} (ha:a ∈ A) (hx:Anc A a.birth x):x.dl<=a.dl:=by
 induction hx with
 | self h1 h2 => rw [h.birth_inj h1 ha h2];omega
 | step h1 h2 h3 _ ih =>
  rename_i x p _
  obtain ⟨R,G,K,pl,hw,hp,hm⟩:=h
  obtain ⟨i,i1,i2,rfl⟩:=(hm x).1 h1
  obtain ⟨j,j1,j2,rfl⟩:=(hm p).1 h2
  cases i2 with
  | root hr =>
   have h4:(sl st.S i).s.ub=0:=(hw.co.root i i1 hr).2.1
   have h5:1<=(sl st.S j).s.birth:=hw.co.birth1 j1 j2.nf.1
   omega
  | kid hk hl =>
   rename_i q
   obtain ⟨k1,k2,k3,k4,k5,k6⟩:=hw.co.kid i q i1 hk
   have k4':(sl st.S i).s.ub=(sl st.S q).s.birth:=k4
   have e:q=j:=hw.co.inj q j k1 j1 k2 j2.nf.1 (k4'.symm.trans h3)
   subst e
   have:=(belowB_iff.1 k6).2.2.1
   have h8:(sl st.S i).s.dl<=(sl st.S q).s.dl:=this
   omega
theorem turn_exp (st:FS) (x:List Ent) (us ub last:Int):turn { st with exp:=x } us ub last={ turn st us ub last with exp:=x }:=by
 unfold turn;split <;> rfl
theorem cutF_exp (st:FS) (x:List Ent) (i:Int):cutF { st with exp:=x } i=(cutF st i).map fun t => { t with exp:=x }:=by
 unfold cutF
 simp only
 show (if (thr i && ((sl st.S i).used && (upOk st.S (sl st.S i).s.us (sl st.S i).s.ub && canDrop st.S (ringOf st (sl st.S i).s.us (sl st.S i).s.ub) i)))=true then _ else _)=_
 split
 ·rw [Option.map_some,<- turn_exp];rfl
 ·rfl
theorem addG_exp (st:FS) (x:List Ent) (i:Int):addG { st with exp:=x } i=(addG st i).map fun t => { t with exp:=x }:=by
 unfold addG
 simp only
 split <;> rfl
theorem endF_exp (st:FS) (x:List Ent) (i:Int):endF { st with exp:=x } i=(endF st i).map fun t => { t with exp:=wo x i }:=by
 unfold endF
 rw [cutF_exp]
 cases hc:cutF st i with
 | none => rfl
 | some s1 =>
  simp only [Option.map_some,Option.bind_some]
  exact (addG_exp { s1 with S:=put s1.S i { sl s1.S i with dead:=true },exp:=wo s1.exp i } (wo x i) i)
theorem IsN.dues:∀ (n:Nat) {st:FS} {A:List Sess},IsN st A->st.exp.length<=n->∃ st' B,dueN n st=some st'/\Is st' B/\(∀ s,s ∈ B↔s ∈ A/\st.clock<s.dl)/\st'.clock=st.clock/\st'.births=st.births/\st'.free=st.free
 | 0,st,A,h,hn => by
  have he:st.exp=[]:=List.eq_nil_of_length_eq_zero (by omega)
  have hA:A=[]:=by
   cases A with
   | nil => rfl
   | cons a t => have:=(h.may (s:=a) (by simp)).2.2.1;rw [he] at this;cases this
  subst hA
  exact ⟨st,[],rfl,⟨h,fun e hx => by rw [he] at hx;cases hx⟩,fun s => by simp,rfl,rfl,rfl⟩
 | n+1,st,A,h,hn => by
  unfold dueN
  cases he:st.exp with
  | nil =>
   have hA:A=[]:=by
    cases A with
    | nil => rfl
    | cons a t => have:=(h.may (s:=a) (by simp)).2.2.1;rw [he] at this;cases this
   subst hA
   exact ⟨st,[],rfl,⟨h,fun e hx => by rw [he] at hx;cases hx⟩,fun s => by simp,rfl,rfl,rfl⟩
  | cons e t =>
   have hsort:st.exp.Pairwise fun x y => ahd (itm y) (itm x)=false:=by
    obtain ⟨R,G,K,pl,hw,hp,hm⟩:=h;exact hw.co.exo
   simp only
   by_cases hd:st.clock<e.2.2
   ·rw [if_pos hd]
    have hall:∀ x ∈ st.exp,st.clock<x.2.2:=fun x hx => by
     rw [he] at hx hsort
     rcases List.mem_cons.1 hx with rfl | hx
     ·exact hd
     ·have:=ahd_no.1 ((List.pairwise_cons.1 hsort).1 x hx)
      have h2:¬ (x.2.2<e.2.2\/_):=this
      omega
    exact ⟨st,A,rfl,⟨h,hall⟩,fun s => ⟨fun hs => ⟨hs,hall _ (h.may hs).2.2.1⟩,fun hs => hs.1⟩,rfl,rfl,rfl⟩
   ·rw [if_neg hd]
    have hlen:(wo st.exp e.1).length<=n:=by
     unfold Ex.wo
     rw [he,List.filter_cons_of_neg (by simp)]
     have:=List.length_filter_le (fun x => x.1 != e.1) t
     rw [he,List.length_cons] at hn
     omega
    have heq:wo (e :: t) e.1=wo st.exp e.1:=by rw [he]
    rw [heq]
    have hnd:(st.exp.map (·.1)).Nodup:=by
     obtain ⟨R,G,K,pl,hw,hp,hm⟩:=h;exact hw.co.exn
    have hem:e ∈ st.exp:=by rw [he];simp
    unfold revokeF
    by_cases hl:lives st.S e.1 e.2.1=true
    ·rw [if_pos hl]
     obtain ⟨s,hs,h1,h2⟩:=(h.lives_iff _ _).1 hl
     -- the entry is the session's
     have hse:(s.slot,s.birth,s.dl)=e:=by
      have hm1:=(h.may hs).2.2.1
      rw [he] at hm1 hnd
      have hn1:=List.nodup_cons.1 hnd
      rcases List.mem_cons.1 hm1 with h5 | h5
      ·exact h5
      ·exfalso
       refine hn1.1 (List.mem_map.2 ⟨_,h5,h1⟩)
     have hsd:s.dl=e.2.2:=by rw [<- hse]
     obtain ⟨st1,e1,hi1,k1,k2,k3,k4⟩:=h.ended hs
     -- ending forgets the slot: it makes no difference that it was forgotten ahead
     have e2:endF { st with exp:=wo st.exp e.1 } e.1=some st1:=by
      rw [h1] at e1 k4
      rw [endF_exp,e1,Option.map_some]
      have ww:wo (wo st.exp e.1) e.1=wo st.exp e.1:=by
       unfold Ex.wo;rw [List.filter_filter];simp
      rw [ww,<- k4]
     rw [e2]
     obtain ⟨st2,B,f1,f2,f3,f4,f5,f6⟩:=IsN.dues n hi1 (by rw [k4,h1];exact hlen)
     refine ⟨st2,B,by simpa using f1,f2,fun x => ?_,by rw [f4,k1],by rw [f5,k2],by rw [f6,k3]⟩
     rw [f3,mem_cutA,k1]
     constructor
     ·rintro ⟨⟨g1,g2⟩,g3⟩;exact ⟨g1,g3⟩
     ·rintro ⟨g1,g3⟩
      refine ⟨⟨g1,fun ha => ?_⟩,g3⟩
      have:=h.anc_dl hs ha
      omega
    ·rw [if_neg hl]
     have hi1:IsN { st with exp:=wo st.exp e.1 } A:=by
      obtain ⟨R,G,K,pl,hw,hp,hm⟩:=h
      refine ⟨R,G,K,pl,⟨hw.sh,hw.co.forget (fun hv => hl ?_),hw.clk⟩,hp,hm⟩
      have te:=(hw.co.exd e hem).1
      refine (hw.co.lives_iff _ _).2 ⟨te,hv,?_⟩
      have hm1:=hw.co.exs e.1 te hv
      rw [he] at hm1 hnd
      have hn1:=List.nodup_cons.1 hnd
      rcases List.mem_cons.1 hm1 with h5 | h5
      ·exact congrArg (·.2.1) h5
      ·exact absurd (List.mem_map.2 ⟨_,h5,rfl⟩) hn1.1
     obtain ⟨st2,B,f1,f2,f3,f4,f5,f6⟩:=IsN.dues n hi1 hlen
     exact ⟨st2,B,by simpa using f1,f2,f3,f4,f5,f6⟩
end Fr
end
section
namespace Fr
open Vw (Sess)
open Ex (Ent itm wo)
open Hp (ahd)
theorem Is.tick {st:FS} {A:List Sess} (h:Is st A) (n:Int) :
  ((n<0\/1073741824<n\/tm (st.clock+n)=false)/\tickF st n=some (st,12)) \/
  ∃ st' B,(0<=n/\n<=1073741824/\tm (st.clock+n)=true)/\tickF st n=some (st',0)/\Is st' B/\(∀ s,s ∈ B↔s ∈ A/\st.clock+n<s.dl)/\st'.clock=st.clock+n/\st'.births=st.births/\st'.free=st.free:=by
 unfold tickF
 have ht:=h.1.tm.1
 by_cases hc:tm st.clock=false\/n<0\/1073741824<n\/tm (st.clock+n)=false
 ·left
  rw [if_pos hc]
  refine ⟨?_,rfl⟩
  rcases hc with h1 | h1
  ·rw [ht] at h1;cases h1
  ·exact h1
 ·right
  rw [if_neg hc]
  have g1:tm (st.clock+n)=true:=by
   cases hq:tm (st.clock+n) with
   | true => rfl
   | false => exact absurd (.inr (.inr (.inr hq))) hc
  have g2:0<=n:=Decidable.byContradiction fun e => hc (.inr (.inl (by omega)))
  have g3:n<=1073741824:=Decidable.byContradiction fun e => hc (.inr (.inr (.inl (by omega))))
  have hi:IsN { st with clock:=st.clock+n } A:=by
   obtain ⟨R,G,K,pl,hw,hp,hm⟩:=h.1
   exact ⟨R,G,K,pl,⟨hw.sh,hw.co,g1⟩,hp,hm⟩
  obtain ⟨st',B,e,h1,h2,h3,h4,h5⟩:=hi.dues st.exp.length (Nat.le_refl _)
  exact ⟨st',B,⟨g2,g3,g1⟩,by rw [e];rfl,h1,h2,h3,h4,h5⟩
theorem Is.units:∀ (n:Nat) {st:FS} {A:List Sess},Is st A->∃ st',unitsN n st=some st'/\Is st' A/\st'.clock=st.clock/\st'.births=st.births/\st'.free.length=st.free.length+min n (32-st.free.length-A.length)/\(32-st.free.length-A.length<n->st'.garb = -1)
 | 0,st,A,h => ⟨st,rfl,h,rfl,rfl,by omega,by omega⟩
 | n+1,st,A,h => by
  obtain ⟨c1,c2,c3⟩:=h.1.count
  unfold unitsN
  rcases h.unit with ⟨h1,h2⟩ | ⟨st1,f,h1,h2,h3,h4,h5,h6,h7⟩
  ·rw [h2]
   have:=c2 h1
   exact ⟨st,rfl,h,rfl,rfl,by omega,fun _ => h1⟩
  ·rw [h2]
   obtain ⟨st2,e,k1,k2,k3,k4,k5⟩:=Is.units n h3
   have:=c3 h1
   rw [h7,List.length_cons] at k4 k5
   exact ⟨st2,by simpa using e,k1,by rw [k2,h4],by rw [k3,h5],by omega,fun hn => k5 (by omega)⟩
theorem Is.sweep {st:FS} {A:List Sess} (h:Is st A) (n:Int):((n<0\/65536<n)/\sweepF st n=some (st,20)) \/
  ∃ st',(0<=n/\n<=65536)/\sweepF st n=some (st',0)/\Is st' A/\st'.clock=st.clock/\st'.births=st.births/\st'.free.length=st.free.length+min n.toNat (32-st.free.length-A.length)/\(32-st.free.length-A.length<n.toNat->st'.garb = -1):=by
 unfold sweepF
 by_cases hc:n<0\/65536<n
 ·rw [if_pos hc];exact .inl ⟨hc,rfl⟩
 ·rw [if_neg hc]
  obtain ⟨st',e,h1⟩:=h.units n.toNat
  exact .inr ⟨st',by omega,by rw [e];rfl,h1⟩
theorem within_self (a:Nat):within a a=true:=by
 unfold within
 have e:bits .andNot .u64 (a:Int) (a:Int)=0:=by
  show IntKind.u64.wrap ((BitVec.ofInt 64 (a:Int) &&& ~~~BitVec.ofInt 64 (a:Int)).toNat:Int)=0
  rw [BitVec.and_not_self];rfl
 rw [e];rfl
theorem unt_iff {now life most:Int}:unt now life most=true↔tm now=true/\tm most=true/\(1<=life/\life<=1073741824)/\now<most:=by
 unfold unt
 simp only [Bool.and_eq_true,decide_eq_true_eq,and_assoc]
theorem tm_iff {n:Int}:tm n=true↔0<=n/\n<=1099511627776:=by unfold tm;simp
theorem untV_le (now life most:Int):untV now life most<=most/\untV now life most<=now+life:=by unfold untV;split <;> omega
theorem untV_gt {now life most:Int} (h:unt now life most=true):now+1<=untV now life most/\untV now life most<=1099511627776:=by
 obtain ⟨h1,h2,h3,h4⟩:=unt_iff.1 h
 have:=tm_iff.1 h2
 unfold untV;split <;> omega
theorem Is.granted {st:FS} {A:List Sess} (h:Is st A) {kind us ub:Int} {r:Req} (hk:0<=kind/\kind<=2) (hg:(grantF st kind us ub r).2=0) {i:Int} (hi:thr i=true) :
  full st=false/\(grantF st kind us ub r).1.birth=st.births+1/\mayS { (grantF st kind us ub r).1 with slot:=i }=true/\(grantF st kind us ub r).1.born=st.clock /\
  (kind=0/\(grantF st kind us ub r).1.us=0/\(grantF st kind us ub r).1.ub=0\/kind≠0/\∃ p ∈ A,p.slot=us/\p.birth=ub/\(grantF st kind us ub r).1.us=us/\(grantF st kind us ub r).1.ub=ub/\belowB { (grantF st kind us ub r).1 with slot:=i } p=true):=by
 have ti:=thr_iff.1 hi
 obtain ⟨ht,hb⟩:=h.1.tm
 have ht2:=tm_iff.1 ht
 unfold grantF at hg ⊢
 by_cases k0:kind=0
 ·rw [if_pos k0] at hg
  rw [if_pos k0]
  unfold loginS at hg ⊢
  split at hg
  ·cases hg
  split at hg
  ·cases hg
  split at hg
  ·cases hg
  split at hg
  ·cases hg
  split at hg
  ·cases hg
  rename_i a1 a2 a3 a4 a5
  rw [if_neg a1,if_neg a2,if_neg a3,if_neg a4,if_neg a5]
  have hu:unt st.clock r.life 1099511627776=true:=by simpa using a3
  have hv:=untV_gt hu
  refine ⟨by simpa using a5,rfl,?_,rfl,.inl ⟨k0,rfl,rfl⟩⟩
  refine mayS_iff.2 ⟨by show 0<=i/\i<=31;omega,by show 1<=st.births+1/\st.births+1<=1048576;omega,by simpa using a1,by show 0<=r.level/\r.level<=2;omega,ht2,hv,.inl ⟨rfl,⟨rfl,rfl⟩,rfl,rfl⟩⟩
 ·rw [if_neg k0] at hg
  rw [if_neg k0]
  by_cases hl:lives st.S us ub=false
  ·rw [if_pos hl] at hg;cases hg
  rw [if_neg hl] at hg
  rw [if_neg hl]
  obtain ⟨p,hp,e1,e2⟩:=(h.1.lives_iff us ub).1 (by simpa using hl)
  have hps:(sl st.S us).s=p:=by rw [<- e1];exact (h.1.may hp).2.2.2.1
  obtain ⟨pm,pb,-,-,pt⟩:=h.1.may hp
  have pm2:=mayS_iff.1 pm
  rw [hps] at hg ⊢
  have pd:0<=p.depth/\p.depth<=6:=by
   rcases pm2.2.2.2.2.2.2 with ⟨_,_,_,h⟩ | ⟨_,_,_,_,_,_,h⟩ <;> omega
  by_cases k1:kind=1
  ·rw [if_pos k1] at hg
   rw [if_pos k1]
   unfold childS at hg ⊢
   split at hg
   ·cases hg
   split at hg
   ·cases hg
   split at hg
   ·cases hg
   split at hg
   ·cases hg
   split at hg
   ·cases hg
   split at hg
   ·cases hg
   rename_i a1 a2 a3 a4 a5 a6
   rw [if_neg a1,if_neg a2,if_neg a3,if_neg a4,if_neg a5,if_neg a6]
   have hu:unt st.clock r.life p.dl=true:=by simpa using a2
   have hv:=untV_gt hu
   have hd:(1:Int)<=p.depth+1/\p.depth+1<=6:=by omega
   refine ⟨by simpa using a6,rfl,?_,rfl,.inr ⟨k0,p,hp,e1,e2,e1,e2,?_⟩⟩
   ·refine mayS_iff.2 ⟨by show 0<=i/\i<=31;omega,by show 1<=st.births+1/\st.births+1<=1048576;omega,pm2.2.2.1,pm2.2.2.2.1,ht2,hv,.inr ⟨by show (1:Int)≠0;decide,.inl rfl,fun e => by have h9:(1:Int)=2:=e.1;omega,pm2.1,?_,by simpa using a1,hd⟩⟩
    show 1<=p.birth/\p.birth<=st.births+1-1
    have:=pm2.2.1;omega
   ·refine belowB_iff.2 ⟨(wrap_small (n:=p.depth+1) (by omega) (by omega)).symm,rfl,(untV_le _ _ _).1,by simpa using a4,?_⟩
    show p.level<p.level↔(1:Int)=2
    omega
  ·rw [if_neg k1] at hg
   rw [if_neg k1]
   unfold raisedS at hg ⊢
   split at hg
   ·cases hg
   split at hg
   ·cases hg
   split at hg
   ·cases hg
   split at hg
   ·cases hg
   split at hg
   ·cases hg
   split at hg
   ·cases hg
   split at hg
   ·cases hg
   rename_i a1 a2 a3 a4 a5 a6 a7
   rw [if_neg a1,if_neg a2,if_neg a3,if_neg a4,if_neg a5,if_neg a6,if_neg a7]
   have hu:unt st.clock r.life p.dl=true:=by simpa using a2
   have hv:=untV_gt hu
   have hv2:=(untV_le st.clock r.life p.dl).2
   have hd:(1:Int)<=p.depth+1/\p.depth+1<=6:=by omega
   have hcr:p.level<r.level/\0<=r.level/\r.level<=2:=by
    have:canRaise p.level r.level=true:=by simpa using a5
    unfold canRaise at this
    simp only [Bool.or_eq_true,decide_eq_true_eq] at this
    omega
   refine ⟨by simpa using a7,rfl,?_,rfl,.inr ⟨k0,p,hp,e1,e2,e1,e2,?_⟩⟩
   ·refine mayS_iff.2 ⟨by show 0<=i/\i<=31;omega,by show 1<=st.births+1/\st.births+1<=1048576;omega,pm2.2.2.1,⟨hcr.2.1,hcr.2.2⟩,ht2,hv,.inr ⟨by show (2:Int)≠0;decide,.inr rfl,fun e => ?_,pm2.1,?_,by simpa using a1,hd⟩⟩
    ·have:300<untV st.clock r.life p.dl-st.clock:=e.2
     omega
    ·show 1<=p.birth/\p.birth<=st.births+1-1
     have:=pm2.2.1;omega
   ·refine belowB_iff.2 ⟨(wrap_small (n:=p.depth+1) (by omega) (by omega)).symm,rfl,(untV_le _ _ _).1,within_self _,?_⟩
    show p.level<r.level↔(2:Int)=2
    simp [hcr.1]
theorem Is.plan {st:FS} {A:List Sess} (h:Is st A) (kind us ub:Int) (r:Req) :
  (∃ no,no≠0/\planF st kind us ub r=some (st,s0,no)/\(kind<0\/2<kind\/(grantF st kind us ub r).2=no)) \/
  ∃ st' s,planF st kind us ub r=some (st',s,0)/\(0<=kind/\kind<=2)/\(grantF st kind us ub r).2=0/\s={ (grantF st kind us ub r).1 with slot:=s.slot }/\Is st' A/\st'.clock=st.clock/\st'.births=st.births/\s.slot ∈ st'.free /\
   mayS s=true/\s.born=st'.clock/\s.birth=st'.births+1/\mayF st' s=0/\(kind=0/\s.us=0/\s.ub=0\/kind≠0/\∃ p ∈ A,p.slot=us/\p.birth=ub/\s.us=us/\s.ub=ub/\belowB s p=true):=by
 unfold planF
 by_cases hk:kind<0\/2<kind
 ·rw [if_pos hk];exact .inl ⟨1,by decide,rfl,by omega⟩
 rw [if_neg hk]
 by_cases hg:(grantF st kind us ub r).2≠0
 ·rw [if_pos hg];exact .inl ⟨_,hg,rfl,.inr (.inr rfl)⟩
 rw [if_neg hg]
 have hg0:(grantF st kind us ub r).2=0:=Decidable.byContradiction hg
 have hk2:0<=kind/\kind<=2:=by omega
 right
 -- the forest behind a unit of work,if one is wanted
 obtain ⟨s1,i,t,e1,e2,h1,h2,h3⟩:∃ s1 i t,(if st.free.isEmpty then (unitF st).map Prod.fst else some st)=some s1/\s1.free=i :: t/\Is s1 A/\s1.clock=st.clock/\s1.births=st.births:=by
  cases hf:st.free with
  | nil =>
   have hfl:=(h.granted hk2 hg0 (i:=0) (by decide)).1
   unfold full at hfl
   rw [hf] at hfl
   rcases h.unit with ⟨k1,_⟩ | ⟨st',f,k1,k2,k3,k4,k5,k6,k7⟩
   ·rw [k1] at hfl;cases hfl
   ·exact ⟨st',f,st.free,by rw [k2];rfl,k7,k3,k4,k5⟩
  | cons i t => exact ⟨st,i,t,rfl,hf,h,rfl,rfl⟩
 rw [e1,Option.map_some,e2]
 have ti:thr i=true:=by
  obtain ⟨R,G,K,pl,hw,_,_⟩:=h1.1
  exact ((hw.sh.fmem i).1 (by rw [e2];simp)).1
 obtain ⟨_,g2,g3,g4,g5⟩:=h.granted hk2 hg0 ti
 refine ⟨s1,_,rfl,hk2,hg0,rfl,h1,h2,h3,by rw [e2];simp,g3,by rw [h2];exact g4,by rw [h3];exact g2,?_,g5⟩
 refine (h1.1.mayF_zero _).2 ?_
 rcases g5 with ⟨_,a1,a2⟩ | ⟨_,p,hp,a1,a2,a3,a4,a5⟩
 ·exact .inl ⟨a1,a2⟩
 ·exact .inr ⟨p,hp,by rw [a1];exact a3.symm,by rw [a2];exact a4.symm,a5⟩
end Fr
end
section
namespace Fr
open Vw (Sess)
open Ex (Ent itm wo)
open Hp (ahd)
theorem goes_path {S:List Slt} {last:Int}:∀ (t:List Int) (x:Int) (n:Nat),Path S (x :: t)->(x :: t).getLast? = some last->(x :: t).Nodup->(∀ y ∈ x :: t,thr y=true)->(x :: t).length<=n->goes S last n x=x :: t
 | [],x,n,_,hl,_,ht,hn => by
  obtain ⟨m,rfl⟩:∃ m,n=m+1:=⟨n-1,by simp at hn;omega⟩
  have e:x=last:=by simpa using hl
  unfold goes
  rw [if_pos (ht x (by simp)),if_pos e]
 | y :: t,x,n,hp,hl,hd,ht,hn => by
  obtain ⟨m,rfl⟩:∃ m,n=m+1:=⟨n-1,by simp at hn;omega⟩
  have hl2:(y :: t).getLast? = some last:=by simpa using hl
  have hne:x≠last:=fun e => (List.nodup_cons.1 hd).1 (by subst e;exact List.mem_of_getLast? hl2)
  unfold goes
  rw [if_pos (ht x (by simp)),if_neg hne,hp.1.1,goes_path t y m hp.2 hl2 (List.nodup_cons.1 hd).2 (fun z hz => ht z (List.mem_cons_of_mem _ hz)) (by simp at hn ⊢;omega)]
theorem RingAt.all {S:List Slt} {last:Int} {L:List Int} (h:RingAt S last L) (ht:∀ x ∈ L,thr x=true) (hd:L.Nodup):allL S last=L:=by
 unfold allL
 rcases h with ⟨rfl,rfl⟩ | ⟨r,e,h⟩
 ·rfl
 ·have hl:thr last=true:=ht last (by rw [e];simp)
  rw [if_pos hl]
  obtain ⟨f,t,hf⟩:∃ f t,L=f :: t:=by rw [e];cases r <;> simp
  have hlast:L.getLast? = some last:=by rw [e];simp
  have hlen:L.length<=32:=by
   have:=nodup_le (m:=ids) hd (fun x hx => mem_ids.2 (ht x hx))
   rw [ids_len] at this;exact this
  rw [hf] at h hlast hd ht hlen ⊢
  rw [h.1.1]
  exact goes_path t f 32 h.2 hlast hd ht hlen
def preN (K:Int->List Int):Nat->Int->List Int
 | 0,_ => []
 | n+1,i => i :: (K i).flatMap (preN K n)
section
variable {st:FS} {R G:List Int} {K:Int->List Int} {pl:Int->Pl}
theorem Wf.sub_top (hw:Wf st R G K pl) {i j:Int} (hs:Sub pl i j) (tj:thr j=true):i=j\/∃ k,k ∈ K i/\Sub pl k j:=by
 induction hs with
 | refl => exact .inl rfl
 | step hk h ih =>
  rename_i j p
  have tp:=(hw.co.kid j p tj hk).1
  rcases ih tp with e | ⟨k,k1,k2⟩
  ·subst e;exact .inr ⟨j,(hw.sh.kmem _ _).2 ⟨tj,hk⟩,.refl⟩
  ·exact .inr ⟨k,k1,.step hk k2⟩
def far (st:FS) (i:Int):Nat:=(7-(sl st.S i).s.depth).toNat
theorem Wf.far_pos (hw:Wf st R G K pl) {i:Int} (ti:thr i=true) (hf:pl i≠.fr):1<=far st i:=by
 have:(sl st.S i).s.depth<=6:=(hw.co.depth ti hf).2
 unfold far;omega
theorem Wf.far_kid (hw:Wf st R G K pl) {i k:Int} (hk:k ∈ K i):thr k=true/\pl k≠.fr/\far st i=far st k+1:=by
 obtain ⟨tk,pk⟩:=(hw.sh.kmem i k).1 hk
 have hd:(sl st.S k).s.depth=(sl st.S i).s.depth+1:=hw.co.kid_depth tk pk
 have nf:pl k≠.fr:=by rw [pk];simp
 have h2:(sl st.S k).s.depth<=6:=(hw.co.depth tk nf).2
 exact ⟨tk,nf,by unfold far;omega⟩
theorem Wf.mem_pre (hw:Wf st R G K pl):∀ (n:Nat) (i:Int),thr i=true->pl i≠.fr->far st i<=n->∀ j,j ∈ preN K n i↔thr j=true/\Sub pl i j
 | 0,i,ti,hf,hn,j => by have:=hw.far_pos ti hf;omega
 | n+1,i,ti,hf,hn,j => by
  unfold preN
  rw [List.mem_cons,List.mem_flatMap]
  constructor
  ·rintro (rfl | ⟨k,hk,hj⟩)
   ·exact ⟨ti,.refl⟩
   ·obtain ⟨tk,nf,hfar⟩:=hw.far_kid hk
    obtain ⟨h1,h2⟩:=(Wf.mem_pre hw n k tk nf (by omega) j).1 hj
    exact ⟨h1,Sub.trans (.step ((hw.sh.kmem i k).1 hk).2 .refl) h2⟩
  ·rintro ⟨tj,hs⟩
   rcases hw.sub_top hs tj with e | ⟨k,hk,h2⟩
   ·exact .inl e.symm
   ·obtain ⟨tk,nf,hfar⟩:=hw.far_kid hk
    exact .inr ⟨k,hk,(Wf.mem_pre hw n k tk nf (by omega) j).2 ⟨tj,h2⟩⟩
theorem Wf.apart (hw:Wf st R G K pl) {i k l j:Int} (hk:k ∈ K i) (hl:l ∈ K i) (hn:k≠l) (tj:thr j=true) (h1:Sub pl k j) (h2:Sub pl l j):False:=by
 obtain ⟨tk,pk⟩:=(hw.sh.kmem i k).1 hk
 obtain ⟨tl,pL⟩:=(hw.sh.kmem i l).1 hl
 have key:∀ a b:Int,thr a=true->thr b=true->pl a = .kd i->pl b = .kd i->a≠b->¬ Sub pl a b:=fun a b ta tb pa pb hab hs => by
  cases hs with
  | refl => exact hab rfl
  | step h3 h4 =>
   rw [pb] at h3;injection h3 with h3;subst h3
   have t1:=(hw.co.kid b _ tb pb).1
   have e1:=hw.co.later ta pa
   rcases hw.co.sub_birth h4 t1 with e | e
   ·subst e;omega
   ·omega
 rcases Sub.line h1 h2 with h3 | h3
 ·exact key k l tk tl pk pL hn h3
 ·exact key l k tl tk pL pk (Ne.symm hn) h3
theorem Wf.pre_nd (hw:Wf st R G K pl):∀ (n:Nat) (i:Int),thr i=true->pl i≠.fr->far st i<=n->(preN K n i).Nodup
 | 0,i,ti,hf,hn => List.nodup_nil
 | n+1,i,ti,hf,hn => by
  unfold preN
  refine List.nodup_cons.2 ⟨fun hm => ?_,?_⟩
  ·obtain ⟨k,hk,hj⟩:=List.mem_flatMap.1 hm
   obtain ⟨tk,nf,hfar⟩:=hw.far_kid hk
   have h2:=((hw.mem_pre n k tk nf (by omega) i).1 hj).2
   have h3:=hw.co.later tk ((hw.sh.kmem i k).1 hk).2
   rcases hw.co.sub_birth h2 ti with e | e
   ·subst e;omega
   ·omega
  ·have:∀ l:List Int,l.Nodup->(∀ k ∈ l,k ∈ K i)->(l.flatMap (preN K n)).Nodup:=by
    intro l
    induction l with
    | nil => intro _ _;exact List.nodup_nil
    | cons k t ih =>
     intro hd hk
     rw [List.flatMap_cons]
     obtain ⟨tk,nf,hfar⟩:=hw.far_kid (hk k (by simp))
     refine List.nodup_append.2 ⟨Wf.pre_nd hw n k tk nf (by omega),ih (List.nodup_cons.1 hd).2 (fun x hx => hk x (List.mem_cons_of_mem _ hx)),fun x hx y hy e => ?_⟩
     subst e
     obtain ⟨l,hl,hj⟩:=List.mem_flatMap.1 hy
     obtain ⟨tl,nfl,hfarl⟩:=hw.far_kid (hk l (List.mem_cons_of_mem _ hl))
     obtain ⟨tx,s1⟩:=(hw.mem_pre n k tk nf (by omega) x).1 hx
     obtain ⟨_,s2⟩:=(hw.mem_pre n l tl nfl (by omega) x).1 hj
     exact hw.apart (hk k (by simp)) (hk l (List.mem_cons_of_mem _ hl)) (fun e => (List.nodup_cons.1 hd).1 (by rw [e];exact hl)) tx s1 s2
   exact this (K i) (hw.sh.knd i) (fun k hk => hk)
theorem Wf.below (hw:Wf st R G K pl):∀ (n:Nat) (i:Int) (seen:List Int),thr i=true->pl i≠.fr->far st i<=n->(∀ j,thr j=true->Sub pl i j->j ∉ seen)->belowN st.S n i seen=seen ++ preN K n i
 | 0,i,seen,ti,hf,hn,_ => by have:=hw.far_pos ti hf;omega
 | n+1,i,seen,ti,hf,hn,hs => by
  unfold belowN
  have hc:seen.contains i=false:=by simpa using hs i ti .refl
  rw [hc,(hw.sh.rK i ti hf).all (hw.sh.kthr i) (hw.sh.knd i)]
  simp only [Bool.false_eq_true,if_false]
  have key:∀ (l:List Int) (acc:List Int),l.Nodup->(∀ k ∈ l,k ∈ K i)->(∀ k ∈ l,∀ j,thr j=true->Sub pl k j->j ∉ acc)->l.foldl (fun sn k => belowN st.S n k sn) acc=acc ++ l.flatMap (preN K n):=by
   intro l
   induction l with
   | nil => intro acc _ _ _;simp
   | cons k t ih =>
    intro acc hd hk ha
    obtain ⟨tk,nf,hfar⟩:=hw.far_kid (hk k (by simp))
    rw [List.foldl_cons,Wf.below hw n k acc tk nf (by omega) (ha k (by simp)),ih _ (List.nodup_cons.1 hd).2 (fun x hx => hk x (List.mem_cons_of_mem _ hx)),List.flatMap_cons,List.append_assoc]
    intro l hl j tj h2 hm
    rcases List.mem_append.1 hm with hm | hm
    ·exact ha l (List.mem_cons_of_mem _ hl) j tj h2 hm
    ·have h1:=((hw.mem_pre n k tk nf (by omega) j).1 hm).2
     exact hw.apart (hk k (by simp)) (hk l (List.mem_cons_of_mem _ hl)) (fun e => (List.nodup_cons.1 hd).1 (by rw [e];exact hl)) tj h1 h2
  rw [key (K i) _ (hw.sh.knd i) (fun k hk => hk) (fun k hk j tj h2 hm => ?_)]
  ·unfold preN;simp
  ·rcases List.mem_append.1 hm with hm | hm
   ·exact hs j tj (Sub.trans (.step ((hw.sh.kmem i k).1 hk).2 .refl) h2) hm
   ·rw [List.mem_singleton.1 hm] at h2
    have h3:=hw.co.later ((hw.sh.kmem i k).1 hk).1 ((hw.sh.kmem i k).1 hk).2
    rcases hw.co.sub_birth h2 ti with e | e
    ·subst e;omega
    ·omega
theorem Wf.under (hw:Wf st R G K pl) {i:Int} (ti:thr i=true) (hf:pl i≠.fr):underI st.S i=preN K 33 i:=by
 unfold underI
 rw [if_pos ti,hw.below 33 i [] ti hf (by have:0<=(sl st.S i).s.depth:=(hw.co.depth ti hf).1;unfold far;omega) (fun j _ _ => by simp)]
 rfl
theorem Wf.mem_under (hw:Wf st R G K pl) {i:Int} (ti:thr i=true) (hf:pl i≠.fr) (j:Int):j ∈ underI st.S i↔thr j=true/\Sub pl i j:=by
 rw [hw.under ti hf]
 exact hw.mem_pre 33 i ti hf (by have:0<=(sl st.S i).s.depth:=(hw.co.depth ti hf).1;unfold far;omega) j
theorem Wf.under_nd (hw:Wf st R G K pl) {i:Int} (ti:thr i=true) (hf:pl i≠.fr):(underI st.S i).Nodup:=by
 rw [hw.under ti hf]
 exact hw.pre_nd 33 i ti hf (by have:0<=(sl st.S i).s.depth:=(hw.co.depth ti hf).1;unfold far;omega)
end
theorem IsN.mem_underF {st:FS} {A:List Sess} (h:IsN st A) {s:Sess} (hs:s ∈ A) (x:Sess):x ∈ underF st s.slot s.birth↔Anc A s.birth x:=by
 unfold underF
 rw [if_pos ((h.lives_iff _ _).2 ⟨s,hs,rfl,rfl⟩)]
 obtain ⟨R,G,K,pl,hw,hp,hm⟩:=h
 obtain ⟨i,i1,i2,rfl⟩:=(hm s).1 hs
 have e:(sl st.S i).s.slot=i:=(hw.co.may i i1 i2.nf.1).2.1
 rw [e,List.mem_map]
 constructor
 ·rintro ⟨j,hj,rfl⟩
  obtain ⟨tj,h2⟩:=(hw.mem_under i1 i2.nf.1 j).1 hj
  exact (anc_sub hw hm i1 i2 tj (i2.down h2)).2 h2
 ·intro ha
  obtain ⟨j,j1,j2,rfl⟩:=(hm x).1 ha.mem
  exact ⟨j,(hw.mem_under i1 i2.nf.1 j).2 ⟨j1,(anc_sub hw hm i1 i2 j1 j2).1 ha⟩,rfl⟩
theorem insB_mem (x:Sess):∀ (l:List Sess) (y:Sess),y ∈ insB x l↔y=x\/y ∈ l
 | [],y => by simp [insB]
 | z :: r,y => by
  unfold insB
  split
  ·simp
  ·rw [List.mem_cons,insB_mem x r y,List.mem_cons]
   constructor
   ·rintro (h | h | h) <;> simp [h]
   ·rintro (h | h | h) <;> simp [h]
theorem insB_sorted (x:Sess):∀ (l:List Sess),(l.Pairwise fun a b => a.birth<b.birth)->(∀ y ∈ l,y.birth≠x.birth)->(insB x l).Pairwise fun a b => a.birth<b.birth
 | [],_,_ => by simp [insB]
 | z :: r,h,hn => by
  have h1:=List.pairwise_cons.1 h
  unfold insB
  split
  ·rename_i hlt
   refine List.pairwise_cons.2 ⟨fun y hy => ?_,h⟩
   rcases List.mem_cons.1 hy with rfl | hy
   ·exact hlt
   ·have:=h1.1 y hy;omega
  ·rename_i hge
   have hz:=hn z (by simp)
   refine List.pairwise_cons.2 ⟨fun y hy => ?_,insB_sorted x r h1.2 (fun y hy => hn y (List.mem_cons_of_mem _ hy))⟩
   rcases (insB_mem x r y).1 hy with rfl | hy
   ·omega
   ·exact h1.1 y hy
theorem sortB_spec (l:List Sess) (hd:l.Pairwise fun a b => a.birth≠b.birth):(∀ y,y ∈ sortB l↔y ∈ l)/\(sortB l).Pairwise fun a b => a.birth<b.birth:=by
 have key:∀ (l acc:List Sess),(acc.Pairwise fun a b => a.birth<b.birth)->(l.Pairwise fun a b => a.birth≠b.birth)->(∀ x ∈ l,∀ y ∈ acc,y.birth≠x.birth)->(∀ y,y ∈ l.foldl (fun a x => insB x a) acc↔y ∈ l\/y ∈ acc)/\(l.foldl (fun a x => insB x a) acc).Pairwise fun a b => a.birth<b.birth:=by
  intro l
  induction l with
  | nil => intro acc h _ _;exact ⟨fun y => by simp,h⟩
  | cons x t ih =>
   intro acc h h2 h3
   have h4:=List.pairwise_cons.1 h2
   rw [List.foldl_cons]
   obtain ⟨k1,k2⟩:=ih (insB x acc) (insB_sorted x acc h (h3 x (by simp))) h4.2 (fun z hz y hy => by
    rcases (insB_mem x acc y).1 hy with rfl | hy
    ·exact h4.1 z hz
    ·exact h3 z (List.mem_cons_of_mem _ hz) y hy)
   refine ⟨fun y => ?_,k2⟩
   rw [k1,insB_mem,List.mem_cons]
   constructor
   ·rintro (h | h | h) <;> simp [h]
   ·rintro ((h | h) | h) <;> simp [h]
 obtain ⟨k1,k2⟩:=key l [] List.Pairwise.nil hd (fun _ _ _ hy => by cases hy)
 exact ⟨fun y => by rw [show sortB l=l.foldl (fun a x => insB x a) [] from rfl,k1];simp,k2⟩
def rawState (st:FS):List Sess:=(allL st.S st.roots).flatMap fun i => underF st (sl st.S i).s.slot (sl st.S i).s.birth
theorem IsN.raw {st:FS} {A:List Sess} (h:IsN st A):(∀ s,s ∈ rawState st↔s ∈ A)/\(rawState st).Pairwise fun a b => a.birth≠b.birth:=by
 have hmu:=fun (s:Sess) (hs:s ∈ A) x => h.mem_underF hs x
 have hl:=h.lives_iff
 obtain ⟨R,G,K,pl,hw,hp,hm⟩:=h
 unfold rawState
 rw [hw.sh.rR.all hw.sh.rthr hw.sh.rnd]
 have hroot:∀ i ∈ R,thr i=true/\Lv pl i/\(sl st.S i).s ∈ A/\(sl st.S i).s.slot=i:=fun i hi => by
  obtain ⟨t1,t2⟩:=(hw.sh.rmem i).1 hi
  have lv:Lv pl i:=.root t2
  exact ⟨t1,lv,(hm _).2 ⟨i,t1,lv,rfl⟩,(hw.co.may i t1 lv.nf.1).2.1⟩
 have hund:∀ i ∈ R,underF st (sl st.S i).s.slot (sl st.S i).s.birth=(underI st.S i).map fun j => (sl st.S j).s:=fun i hi => by
  obtain ⟨t1,t2,t3,t4⟩:=hroot i hi
  unfold underF
  rw [if_pos ((hl _ _).2 ⟨_,t3,rfl,rfl⟩),t4]
 constructor
 ·intro s
  rw [List.mem_flatMap]
  constructor
  ·rintro ⟨i,hi,hs⟩
   obtain ⟨t1,t2,t3,t4⟩:=hroot i hi
   exact ((hmu _ t3 s).1 hs).mem
  ·intro hs
   obtain ⟨j,j1,j2,rfl⟩:=(hm s).1 hs
   have:∃ i ∈ R,Sub pl i j:=by
    clear hs
    induction j2 with
    | root h => rename_i j;exact ⟨j,(hw.sh.rmem j).2 ⟨j1,h⟩,.refl⟩
    | kid h _ ih =>
     obtain ⟨i,hi,h2⟩:=ih (hw.co.kid _ _ j1 h).1
     exact ⟨i,hi,.step h h2⟩
   obtain ⟨i,hi,h2⟩:=this
   obtain ⟨t1,t2,t3,t4⟩:=hroot i hi
   exact ⟨i,hi,(hmu _ t3 _).2 ((anc_sub hw hm t1 t2 j1 j2).2 h2)⟩
 ·have key:∀ l:List Int,l.Nodup->(∀ i ∈ l,i ∈ R)->(l.flatMap fun i => underF st (sl st.S i).s.slot (sl st.S i).s.birth).Pairwise fun a b => a.birth≠b.birth:=by
   intro l
   induction l with
   | nil => intro _ _;exact List.Pairwise.nil
   | cons i t ih =>
    intro hd hk
    have hi:=hk i (by simp)
    obtain ⟨t1,t2,t3,t4⟩:=hroot i hi
    rw [List.flatMap_cons]
    refine List.pairwise_append.2 ⟨?_,ih (List.nodup_cons.1 hd).2 (fun x hx => hk x (List.mem_cons_of_mem _ hx)),fun a ha b hb e => ?_⟩
    ·rw [hund i hi,List.pairwise_map]
     have h2:=List.Pairwise.and_mem.1 (List.nodup_iff_pairwise_ne.1 (hw.under_nd t1 t2.nf.1))
     refine h2.imp (fun {x y} ⟨hx,hy,hxy⟩ e => hxy ?_)
     obtain ⟨x1,x2⟩:=(hw.mem_under t1 t2.nf.1 x).1 hx
     obtain ⟨y1,y2⟩:=(hw.mem_under t1 t2.nf.1 y).1 hy
     exact hw.co.inj x y x1 y1 (t2.down x2).nf.1 (t2.down y2).nf.1 e
    ·rw [hund i hi] at ha
     obtain ⟨l,hl2,hb⟩:=List.mem_flatMap.1 hb
     have hlR:=hk l (List.mem_cons_of_mem _ hl2)
     obtain ⟨l1,l2,l3,l4⟩:=hroot l hlR
     rw [hund l hlR] at hb
     obtain ⟨x,hx,rfl⟩:=List.mem_map.1 ha
     obtain ⟨y,hy,rfl⟩:=List.mem_map.1 hb
     obtain ⟨x1,x2⟩:=(hw.mem_under t1 t2.nf.1 x).1 hx
     obtain ⟨y1,y2⟩:=(hw.mem_under l1 l2.nf.1 y).1 hy
     have exy:=hw.co.inj x y x1 y1 (t2.down x2).nf.1 (l2.down y2).nf.1 e
     subst exy
     have hne:i≠l:=fun e => (List.nodup_cons.1 hd).1 (by rw [e];exact hl2)
     have pr1:=((hw.sh.rmem i).1 hi).2
     have pr2:=((hw.sh.rmem l).1 hlR).2
     rcases Sub.line x2 y2 with h3 | h3
     ·cases h3 with
      | refl => exact hne rfl
      | step h4 _ => rw [pr2] at h4;cases h4
     ·cases h3 with
      | refl => exact hne rfl
      | step h4 _ => rw [pr1] at h4;cases h4
  exact key R hw.sh.rnd (fun i hi => hi)
end Fr
end
end Go.Proofs.YtimhglmfckfclaaGreatDoor
