/- Parts of the proof. -/
import Derived.Test.YtimhglmfckfclaaGreatM39
import Derived.Test.YtimhglmfckfclaaGreatM40
import Derived.Shelf.SlGeneric
import Derived.Shelf.SlSortCmp.NoneTotal
import Derived.Ground.SlsfProg
import Derived.Sort.Grow
set_option linter.unusedVariables false
set_option linter.unusedSimpArgs false
set_option maxRecDepth 100000
set_option maxHeartbeats 16000000
namespace Go.Proofs.YtimhglmfckfclaaGreat
section
open Go.RowKit Go.Maps Go.Shelf
namespace Fr
open Vw (Sess)
open Ex (Ent wo ExpAt)
attribute [local go_sem] Oper.semAt_some
theorem name_le {l:List UInt8} (h:nameB l=true):l.length<=32:=by
 unfold nameB at h
 rw [Bool.and_eq_true] at h
 exact (of_decide_eq_true h.1).2
theorem may_size {s:Sess} (h:mayS s=true):s.user.size<=32/\s.label.size<=32:=by
 have hm:=mayS_iff.1 h
 refine ⟨by have:=name_le hm.2.2.1;rwa [<- Lib.size_eq] at this,?_⟩
 rcases hm.2.2.2.2.2.2 with h1 | h1
 ·have:s.label.size=0:=by simp_all
  omega
 ·have h2:nameB s.label.data.toList=true:=by simp_all
  have:=name_le h2;rwa [<- Lib.size_eq] at this
end Fr
end
section
namespace Fr
open Vw (Sess)
theorem login_scopes (r:Req) (now births:Int) (f:Bool):((loginS r now births f).2=0->(loginS r now births f).1.scopes=r.scopes)/\((loginS r now births f).2=19->f=true):=by
 unfold loginS
 repeat' split
 all_goals (refine ⟨fun h => ?_,fun h => ?_⟩ <;> first | rfl | assumption | (exfalso;exact absurd h (by simp)))
theorem child_scopes (p:Sess) (r:Req) (now births:Int) (f:Bool):((childS p r now births f).2=0->(childS p r now births f).1.scopes=r.scopes)/\((childS p r now births f).2=19->f=true):=by
 unfold childS
 repeat' split
 all_goals (refine ⟨fun h => ?_,fun h => ?_⟩ <;> first | rfl | assumption | (exfalso;exact absurd h (by simp)))
theorem raised_scopes (p:Sess) (r:Req) (now births:Int) (f:Bool):((raisedS p r now births f).2=0->(raisedS p r now births f).1.scopes=p.scopes)/\((raisedS p r now births f).2=19->f=true):=by
 unfold raisedS
 repeat' split
 all_goals (refine ⟨fun h => ?_,fun h => ?_⟩ <;> first | rfl | assumption | (exfalso;exact absurd h (by simp)))
theorem grant_full {st:FS} {kind us ub:Int} {r:Req} (h:(grantF st kind us ub r).2=19):full st=true:=by
 unfold grantF at h
 split at h
 ·exact (login_scopes _ _ _ _).2 h
 ·split at h
  ·exact absurd h (by decide)
  ·split at h
   ·exact (child_scopes _ _ _ _ _).2 h
   ·exact (raised_scopes _ _ _ _ _).2 h
theorem grant_scopes {st:FS} {A:List Sess} (h:Is st A) {kind us ub:Int} {r:Req} (hg:(grantF st kind us ub r).2=0):(grantF st kind us ub r).1.scopes=r.scopes\/∃ p ∈ A,(grantF st kind us ub r).1.scopes=p.scopes:=by
 have hp:lives st.S us ub=true->(sl st.S us).s ∈ A:=fun hl => by
  obtain ⟨s,hs,h1,h2⟩:=(h.1.lives_iff us ub).1 hl
  have:=(h.1.may hs).2.2.2.1
  rw [h1] at this
  rw [this];exact hs
 unfold grantF at hg ⊢
 by_cases h0:kind=0
 ·rw [if_pos h0] at hg ⊢
  exact .inl ((login_scopes _ _ _ _).1 hg)
 ·rw [if_neg h0] at hg ⊢
  by_cases h1:lives st.S us ub=false
  ·rw [if_pos h1] at hg;exact absurd hg (by decide)
  ·rw [if_neg h1] at hg ⊢
   by_cases h2:kind=1
   ·rw [if_pos h2] at hg ⊢
    exact .inl ((child_scopes _ _ _ _ _).1 hg)
   ·rw [if_neg h2] at hg ⊢
    exact .inr ⟨_,hp (by simpa using h1),(raised_scopes _ _ _ _ _).1 hg⟩
def NoOk (n:Int):Prop:=n=0\/1<=n/\n<=24
theorem login_no_ok (r:Req) (now births:Int) (f:Bool):NoOk (loginS r now births f).2:=by
 unfold loginS
 repeat' split
 all_goals (unfold NoOk;simp)
theorem child_no_ok (p:Sess) (r:Req) (now births:Int) (f:Bool):NoOk (childS p r now births f).2:=by
 unfold childS
 repeat' split
 all_goals (unfold NoOk;simp)
theorem raised_no_ok (p:Sess) (r:Req) (now births:Int) (f:Bool):NoOk (raisedS p r now births f).2:=by
 unfold raisedS
 repeat' split
 all_goals (unfold NoOk;simp)
theorem grant_no (st:FS) (kind us ub:Int) (r:Req):NoOk (grantF st kind us ub r).2:=by
 unfold grantF
 split
 ·exact login_no_ok _ _ _ _
 ·split
  ·exact .inr (by decide)
  ·split
   ·exact child_no_ok _ _ _ _ _
   ·exact raised_no_ok _ _ _ _ _
theorem SeenK.plan {st:FS} {A:List Sess} {l:List Kn} (h:SeenK st A l) {kind us ub:Int} {r:Req} {at_:Int} (hk:0<=kind/\kind<=2)
  (hu:(at_<0\/kind=0)/\us=0/\ub=0\/kind≠0/\∃ j:Nat,at_=j/\j<l.length/\us=(kat l j).slot/\ub=(kat l j).birth) :
  (∃ no,no≠0/\planF st kind us ub r=some (st,s0,no)/\(no=19->32<=A.length)/\1<=no/\no<=24) \/
  ∃ st' s st2,planF st kind us ub r=some (st',s,0)/\A.length<32/\bornF st' s=some (st2,0)/\(kind≠0->∃ j:Nat,at_=j/\j<l.length/\liveK l j st.clock=true) /\
   SeenK st2 (A ++ [s]) (l ++ [⟨s.slot,s.birth,if kind=0 then -1 else at_,s.dl,false⟩])/\st2.clock=st.clock/\mayS s=true/\(s.scopes=r.scopes\/∃ p ∈ A,s.scopes=p.scopes)/\Is st' A:=by
 rcases h.is.plan kind us ub r with ⟨no,h1,h2,h3⟩ | ⟨st',s,h1,h2,h3,h4,h5,h6,h7,h8,h9,h10,h11,h12,h13⟩
 ·have hg:(grantF st kind us ub r).2=no:=by
   rcases h3 with h3 | h3 | h3
   ·omega
   ·omega
   ·exact h3
  refine .inl ⟨no,h1,h2,fun e => h.is.1.full_iff.1 (grant_full (hg.trans e)),?_⟩
  have:=grant_no st kind us ub r
  rw [hg] at this
  unfold NoOk at this
  omega
 ·right
  have hlt:A.length<32:=by
   have hf:=(h.is.granted hk h3 (i:=0) (by decide)).1
   refine Nat.lt_of_not_le fun hc => ?_
   rw [h.is.1.full_iff.2 hc] at hf;cases hf
  rcases h5.born s with ⟨no,k1,k2,k3⟩ | ⟨st2,k1,k2,k3,k4,k5,k6,k7⟩
  ·exact absurd ⟨h9,h10,h11,h12,h8⟩ k3
  have hpar:kind≠0->∃ j:Nat,at_=j/\j<l.length/\liveK l j st.clock=true/\s.ub=(j:Int)+1:=by
   intro hk0
   rcases h13 with ⟨e,_⟩ | ⟨_,p,hp,e1,e2,e3,e4,_⟩
   ·exact absurd e hk0
   rcases hu with ⟨_,_,e5⟩ | ⟨_,j,e5,e6,e7,e8⟩
   ·have:=(mayS_iff.1 (h.is.1.may hp).1).2.1
    omega
   ·have hj:=(h.ups j e6).2
    have:=(h.idx hp e6 (by rw [e2,e8,hj])).2
    exact ⟨j,e5,e6,this,by rw [e4,e8,hj]⟩
  refine ⟨st',s,st2,h1,hlt,k1,fun hk0 => ?_,?_,k4.trans h6,h9,by have e:=congrArg Sess.scopes h4;simp only at e;rw [e];exact grant_scopes h.is h3,h5⟩
  ·obtain ⟨j,j1,j2,j3,_⟩:=hpar hk0
   exact ⟨j,j1,j2,j3⟩
  ·have hS:=h.same h5 h6 h7
   have hc:=mayS_iff.1 h9
   refine hS.born k3 k4 k5 ⟨rfl,rfl,rfl,fun hlt0 => ?_,fun hge => ?_⟩ ?_ rfl ?_ ?_
   ·by_cases hk0:kind=0
    ·rcases h13 with ⟨_,_,e⟩ | ⟨e,_⟩
     ·exact e
     ·exact absurd hk0 e
    ·obtain ⟨j,j1,j2,j3,j4⟩:=hpar hk0
     have hlt0':(if kind=0 then (-1:Int) else at_)<0:=hlt0
     rw [if_neg hk0] at hlt0'
     omega
   ·have hge':0<=(if kind=0 then (-1:Int) else at_):=hge
    by_cases hk0:kind=0
    ·rw [if_pos hk0] at hge';omega
    ·obtain ⟨j,j1,j2,j3,j4⟩:=hpar hk0
     show s.ub=(if kind=0 then (-1:Int) else at_)+1
     rw [if_neg hk0,j4,j1]
   ·show s.birth=(l.length:Int)+1
    rw [h11,h7,h.bir]
   ·show st'.clock<s.dl
    have:=hc.2.2.2.2.2.1
    omega
   ·by_cases hk0:kind=0
    ·exact .inl (by show (if kind=0 then (-1:Int) else at_)<0;rw [if_pos hk0];decide)
    ·obtain ⟨j,j1,j2,j3,j4⟩:=hpar hk0
     exact .inr ⟨j,by show (if kind=0 then (-1:Int) else at_)=j;rw [if_neg hk0];exact j1,j2,by rw [h6];exact j3⟩
theorem SeenK.cut {st:FS} {A:List Sess} {l:List Kn} (h:SeenK st A l) {i:Nat} (hi:i<l.length) :
  (liveK l i st.clock=false/\revokeF st (kat l i).slot (kat l i).birth=some (st,16)) \/
  ∃ st2 A2,liveK l i st.clock=true/\revokeF st (kat l i).slot (kat l i).birth=some (st2,0)/\SeenK st2 A2 (endK l i)/\st2.clock=st.clock/\∀ s ∈ A2,s ∈ A:=by
 have hl:=h.lvs hi
 rcases h.is.revoke (kat l i).slot (kat l i).birth with ⟨h1,h2⟩ | ⟨st2,s,h1,h2,h3,h4,h5,h6,h7,h8⟩
 ·exact .inl ⟨by rw [<- hl];exact h1,h2⟩
 ·exact .inr ⟨st2,_,by rw [<- hl];exact (h.is.1.lives_iff _ _).2 ⟨s,h1,h2,h3⟩,h4,h.revoke hi h5 h6 h7,h6,fun s hs => (mem_cutA.1 hs).1⟩
theorem SeenK.time {st:FS} {A:List Sess} {l:List Kn} (h:SeenK st A l) (n:Int) :
  tickF st n=some (st,12)\/∃ st2 A2,tickF st n=some (st2,0)/\SeenK st2 A2 l/\st2.clock=st.clock+n/\0<=n/\n<=1073741824/\tm (st.clock+n)=true/\(∀ s,s ∈ A2↔s ∈ A/\st.clock+n<s.dl):=by
 rcases h.is.tick n with ⟨_,h1⟩ | ⟨st2,B,h1,h2,h3,h4,h5,h6,h7⟩
 ·exact .inl h1
 ·exact .inr ⟨st2,B,h2,h.tick h1.1 h3 h4 h5 h6,h5,h1.1,h1.2.1,h1.2.2,h4⟩
theorem SeenK.work {st:FS} {A:List Sess} {l:List Kn} (h:SeenK st A l) (n:Int) :
  ∃ st2 no,sweepF st n=some (st2,no)/\SeenK st2 A l/\st2.clock=st.clock:=by
 rcases h.is.sweep n with ⟨_,h1⟩ | ⟨st2,h1,h2,h3,h4,h5,h6,h7⟩
 ·exact ⟨st,20,h1,h,rfl⟩
 ·exact ⟨st2,0,h2,h.same h3 h4 h5,h4⟩
theorem IsN.used_free {st:FS} {A:List Sess} (h:IsN st A):(st.S.filter (·.used)).length+st.free.length=32:=by
 obtain ⟨R,G,K,pl,hw,_,_⟩:=h
 have hlen:=hw.sh.len
 have hn2:(ids.filter fun i => (sl st.S i).used).Nodup:=ids_nd.sublist List.filter_sublist
 have hmem:∀ i,i ∈ ids.filter (fun i => (sl st.S i).used)↔thr i=true/\pl i≠.fr:=fun i => by
  rw [List.mem_filter,mem_ids]
  constructor
  ·rintro ⟨h1,h2⟩;exact ⟨h1,(hw.co.used i h1).1 h2⟩
  ·rintro ⟨h1,h2⟩;exact ⟨h1,(hw.co.used i h1).2 h2⟩
 have hnd:(ids.filter (fun i => (sl st.S i).used) ++ st.free).Nodup:=List.nodup_append.2 ⟨hn2,hw.sh.fnd,fun x hx y hy e => by
  subst e
  exact ((hmem x).1 hx).2 ((hw.sh.fmem x).1 hy).2⟩
 have h1:=nodup_le hnd (m:=ids) (fun x hx => by
  rcases List.mem_append.1 hx with hx | hx
  ·exact mem_ids.2 ((hmem x).1 hx).1
  ·exact mem_ids.2 ((hw.sh.fmem x).1 hx).1)
 have h2:=nodup_le ids_nd (m:=ids.filter (fun i => (sl st.S i).used) ++ st.free) (fun x hx => by
  have ht:=mem_ids.1 hx
  by_cases hf:pl x = .fr
  ·exact List.mem_append.2 (.inr ((hw.sh.fmem x).2 ⟨ht,hf⟩))
  ·exact List.mem_append.2 (.inl ((hmem x).2 ⟨ht,hf⟩)))
 rw [List.length_append,ids_len] at h1 h2
 have e:(st.S.filter (·.used)).length=(ids.filter fun i => (sl st.S i).used).length:=by
  have e1:st.S=ids.map fun i => sl st.S i:=by
   refine List.ext_getElem (by rw [List.length_map,ids_len,hlen]) (fun k k1 k2 => ?_)
   rw [List.getElem_map]
   have:ids[k]'(by rw [ids_len];omega)=(k:Int):=by
    unfold ids
    rw [List.getElem_map,List.getElem_range];rfl
   rw [this]
   unfold sl
   simp [k1]
  conv => lhs;rw [e1,List.filter_map,List.length_map]
  rfl
 omega
end Fr
end
end Go.Proofs.YtimhglmfckfclaaGreat
namespace Go.Proofs
open Go.Shelf
def Tryz.sortSess_ren:Go.Shelf.Ren:=⟨fun | 6 => 46 | 15 => 77 | 14 => 76 | 28 => 131 | 29 => 132 | 20 => 123 | 21 => 124 | 22 => 125 | 23 => 126 | 24 => 127 | 25 => 128 | 26 => 129 | 27 => 130 | 46 => 149 | 47 => 150 | 48 => 151 | 49 => 152 | 50 => 153 | 57 => 163 | n => n,fun | 22 => 62 | 24 => 35 | 25 => 102 | 3 => 3 | 39 => 145 | 0 => 0 | 53 => 210 | 55 => 32 | 4 => 4 | 46 => 204 | 45 => 203 | 50 => 86 | 5 => 5 | 9 => 9 | 66 => 233 | 70 => 195 | 76 => 249 | 77 => 250 | n => n,fun | n => n⟩
theorem Tryz.sortSess:Go.Proofs.SlLaysF0.n6 Tryz.prog Tryz.sortSess_ren:={
 mixed:=by kernel_rfl
 f6:=⟨Tryz.f46.name,by decide,Tryz.func46.trans (congrArg some (by kernel_rfl))⟩
 f14:=⟨Tryz.f76.name,by decide,Tryz.func76.trans (congrArg some (by kernel_rfl))⟩
 f15:=Tryz.func77.trans (congrArg some (by kernel_rfl))
 f20:=⟨Tryz.f123.name,by decide,Tryz.func123.trans (congrArg some (by kernel_rfl))⟩
 f21:=⟨Tryz.f124.name,by decide,Tryz.func124.trans (congrArg some (by kernel_rfl))⟩
 f22:=⟨Tryz.f125.name,by decide,Tryz.func125.trans (congrArg some (by kernel_rfl))⟩
 f23:=⟨Tryz.f126.name,by decide,Tryz.func126.trans (congrArg some (by kernel_rfl))⟩
 f24:=⟨Tryz.f127.name,by decide,Tryz.func127.trans (congrArg some (by kernel_rfl))⟩
 f25:=⟨Tryz.f128.name,by decide,Tryz.func128.trans (congrArg some (by kernel_rfl))⟩
 f26:=⟨Tryz.f129.name,by decide,Tryz.func129.trans (congrArg some (by kernel_rfl))⟩
 f27:=⟨Tryz.f130.name,by decide,Tryz.func130.trans (congrArg some (by kernel_rfl))⟩
 f28:=Tryz.func131.trans (congrArg some (by kernel_rfl))
 f29:=Tryz.func132.trans (congrArg some (by kernel_rfl))
 f46:=⟨Tryz.f149.name,by decide,Tryz.func149.trans (congrArg some (by kernel_rfl))⟩
 f47:=Tryz.func150.trans (congrArg some (by kernel_rfl))
 f48:=Tryz.func151.trans (congrArg some (by kernel_rfl))
 f49:=⟨Tryz.f152.name,by decide,Tryz.func152.trans (congrArg some (by kernel_rfl))⟩
 f50:=⟨Tryz.f153.name,by decide,Tryz.func153.trans (congrArg some (by kernel_rfl))⟩
 f57:=⟨Tryz.f163.name,by decide,Tryz.func163.trans (congrArg some (by kernel_rfl))⟩
 t0:=Tryz.underlying0
 a0:=Tryz.isAgg0
 z0:=Tryz.sizeOf0
 v0:=Tryz.zeroValue0
 t3:=Tryz.underlying3
 a3:=Tryz.isAgg3
 z3:=Tryz.sizeOf3
 v3:=Tryz.zeroValue3
 t4:=Tryz.underlying4
 a4:=Tryz.isAgg4
 z4:=Tryz.sizeOf4
 v4:=Tryz.zeroValue4
 t5:=Tryz.underlying5
 a5:=Tryz.isAgg5
 z5:=Tryz.sizeOf5
 v5:=Tryz.zeroValue5
 t9:=Tryz.underlying9
 a9:=Tryz.isAgg9
 z9:=Tryz.sizeOf9
 v9:=Tryz.zeroValue9
 t22:=Tryz.underlying62
 a22:=Tryz.isAgg62
 z22:=Tryz.sizeOf62
 v22:=Tryz.zeroValue62
 t25:=Tryz.underlying102
 a25:=Tryz.isAgg102
 z25:=Tryz.sizeOf102
 v25:=Tryz.zeroValue102
 t39:=Tryz.underlying145
 a39:=Tryz.isAgg145
 z39:=Tryz.sizeOf145
 v39:=Tryz.zeroValue145
 t45:=Tryz.underlying203
 a45:=Tryz.isAgg203
 z45:=Tryz.sizeOf203
 v45:=Tryz.zeroValue203
 t46:=Tryz.underlying204
 a46:=Tryz.isAgg204
 z46:=Tryz.sizeOf204
 v46:=Tryz.zeroValue204
 t50:=Tryz.underlying86
 a50:=Tryz.isAgg86
 z50:=Tryz.sizeOf86
 v50:=Tryz.zeroValue86
 t53:=Tryz.underlying210
 a53:=Tryz.isAgg210
 z53:=Tryz.sizeOf210
 v53:=Tryz.zeroValue210
 t55:=Tryz.underlying32
 a55:=Tryz.isAgg32
 z55:=Tryz.sizeOf32
 v55:=Tryz.zeroValue32
 t66:=Tryz.underlying233
 a66:=Tryz.isAgg233
 z66:=Tryz.sizeOf233
 v66:=Tryz.zeroValue233
 t70:=Tryz.underlying195
 a70:=Tryz.isAgg195
 z70:=Tryz.sizeOf195
 v70:=Tryz.zeroValue195
 t76:=Tryz.underlying249
 a76:=Tryz.isAgg249
 z76:=Tryz.sizeOf249
 v76:=Tryz.zeroValue249
 t77:=Tryz.underlying250
 a77:=Tryz.isAgg250
 z77:=Tryz.sizeOf250
 v77:=Tryz.zeroValue250 }
end Go.Proofs
namespace Go.Proofs.YtimhglmfckfclaaGreat
section
open Go.RowKit Go.Sort Go.Shelf Go.Lib
namespace Fr
open Vw (Sess)
attribute [local go_sem] Oper.semAt_some
def cfB (x y:Int):Int:=if x<y then -1 else if y<x then 1 else 0
def ltB (x y:Int):Bool:=decide (x<y)
theorem lt_cfB:ltOf cfB=ltB:=by
 funext x y
 unfold ltOf cfB ltB
 by_cases h:x<y
 ·rw [if_pos h];simp [h]
 ·rw [if_neg h]
  split <;> simp [h]
theorem ltB_swo:SWO (ltOf cfB):=by
 rw [lt_cfB]
 refine ⟨fun x => by simp [ltB],fun x y z h k => ?_,fun x y z h k => ?_⟩
 ·simp only [ltB,decide_eq_true_eq] at *;omega
 ·simp only [ltB,decide_eq_false_iff_not] at *;omega
theorem ltB_tot:∀ x y,(ltOf cfB) x y=false->(ltOf cfB) y x=false->x=y:=by
 rw [lt_cfB]
 intro x y h k
 simp only [ltB,decide_eq_false_iff_not] at *
 omega
def pickB (L:List Sess) (b:Int):Sess:=(L.find? fun s => s.birth == b).getD { s0 with birth:=b }
theorem pick_birth (L:List Sess) (b:Int):(pickB L b).birth=b:=by
 unfold pickB
 cases h:L.find? (fun s => s.birth == b) with
 | none => rfl
 | some s => have:=List.find?_some h;simpa using this
theorem pick_mem {L:List Sess} (hd:L.Pairwise fun a b => a.birth≠b.birth) {s:Sess} (hs:s ∈ L):pickB L s.birth=s:=by
 unfold pickB
 induction L with
 | nil => cases hs
 | cons a r ih =>
  have hp:=List.pairwise_cons.1 hd
  rw [List.find?_cons]
  rcases List.mem_cons.1 hs with rfl | hs
  ·simp
  ·have:(a.birth == s.birth)=false:=by rw [beq_eq_false_iff_ne];exact hp.1 s hs
   rw [this]
   exact ih hp.2 hs
def encB (L:List Sess) (b:Int):List Value:=(pickB L b).cells
theorem encB_len (L:List Sess) (b:Int):(encB L b).length=12:=rfl
def srtB (L:List Sess):List Int:=(L.map (·.birth)).mergeSort fun x y => !(ltOf cfB) y x
theorem srtB_eq {L:List Sess} (hd:L.Pairwise fun a b => a.birth≠b.birth):srtB L=(sortB L).map (·.birth):=by
 obtain ⟨h1,h2⟩:=sortB_spec L hd
 have hM:(srtB L).Perm (L.map (·.birth)):=List.mergeSort_perm _ _
 have hn:L.Nodup:=hd.imp (fun h e => h (by rw [e]))
 have hn2:(sortB L).Nodup:=h2.imp (fun h e => by rw [e] at h;omega)
 have hB:(sortB L).Perm L:=(List.perm_ext_iff_of_nodup hn2 hn).2 h1
 have hs1:(srtB L).Pairwise fun x y => (ltOf cfB) y x=false:=by
  have h:=List.pairwise_mergeSort (le:=fun x y => !(ltOf cfB) y x) (l:=L.map (·.birth)) (by
   intro a b c h1 h2
   rw [lt_cfB] at *
   simp only [ltB,Bool.not_eq_true',decide_eq_false_iff_not] at *
   omega) (by
   intro a b
   rw [lt_cfB]
   simp only [ltB,Bool.or_eq_true,Bool.not_eq_true',decide_eq_false_iff_not]
   omega)
  exact h.imp fun {a b} hab => by simpa using hab
 have hs2:((sortB L).map (·.birth)).Pairwise fun x y => (ltOf cfB) y x=false:=by
  rw [List.pairwise_map]
  refine h2.imp fun {a b} h => ?_
  rw [lt_cfB]
  simp only [ltB,decide_eq_false_iff_not]
  omega
 exact List.Perm.eq_of_pairwise (le:=fun x y => (ltOf cfB) y x=false) (fun a b _ _ h1 h2 => ltB_tot a b h2 h1) hs1 hs2 (hM.trans (hB.map _).symm)
theorem flat_enc {L M:List Sess} (h:∀ s ∈ M,pickB L s.birth=s):(M.map (·.birth)).flatMap (encB L)=allC M:=by
 unfold allC
 rw [List.flatMap_map]
 induction M with
 | nil => rfl
 | cons a r ih =>
  rw [List.flatMap_cons,List.flatMap_cons,ih (fun s hs => h s (List.mem_cons_of_mem _ hs))]
  unfold encB
  rw [h a (List.mem_cons_self ..)]
theorem sortB_len {L:List Sess} (hd:L.Pairwise fun a b => a.birth≠b.birth):(sortB L).length=L.length:=by
 have h1:=congrArg List.length (srtB_eq hd)
 unfold srtB at h1
 rw [List.length_mergeSort,List.length_map,List.length_map] at h1
 omega
theorem nan_int (x:Int) (w:World):Calls Tryz.prog 78 #[.int .i64 x] w fun e w' => e = .returned (.bool false)/\w=w':=by
 have hq:(x != x)=false:=by simp
 go_enter Tryz.func78,Tryz.ntmps78
 go_wp2
 go_ret
 exact ⟨rfl,rfl⟩
theorem cmp_int (x y:Int) (w:World):Calls Tryz.prog 48 #[.int .i64 x,.int .i64 y] w fun e w' => e = .returned (.int .i64 (cfB x y))/\w=w':=by
 by_cases h1:x<y
 ·have hc:cfB x y = -1:=if_pos h1
  rw [hc]
  clear hc
  go_enter Tryz.func48,Tryz.ntmps48
  go_wp2_with (go_at_call 78;(with_reducible refine (nan_int _ _).mono ?_);rintro e w' ⟨rfl,rfl⟩)
  go_ret
  exact ⟨rfl,rfl⟩
 ·by_cases h2:y<x
  ·have hc:cfB x y=1:=(if_neg h1).trans (if_pos h2)
   have hd:decide (x<y)=false:=decide_eq_false h1
   rw [hc]
   clear hc h1
   go_enter Tryz.func48,Tryz.ntmps48
   go_wp2_with (go_at_call 78;(with_reducible refine (nan_int _ _).mono ?_);rintro e w' ⟨rfl,rfl⟩)
   go_ret
   exact ⟨rfl,rfl⟩
  ·have hc:cfB x y=0:=(if_neg h1).trans (if_neg h2)
   have hd:decide (x<y)=false:=decide_eq_false h1
   have hd2:decide (y<x)=false:=decide_eq_false h2
   have h3:x=y:=by omega
   rw [hc]
   clear hc h1 h2 h3
   go_enter Tryz.func48,Tryz.ntmps48
   go_wp2_with (go_at_call 78;(with_reducible refine (nan_int _ _).mono ?_);rintro e w' ⟨rfl,rfl⟩)
   go_ret
   exact ⟨rfl,rfl⟩
theorem scmp_any (cs ds:List Value) (x y:Int) (hcl:cs.length=12) (hdl:ds.length=12) (hc:cs[1]? = some (.int .i64 x)) (hd:ds[1]? = some (.int .i64 y)) (W:World) :
  Calls Tryz.prog 47 #[.agg cs.toArray,.agg ds.toArray] W fun e w' => e = .returned (.int .i64 (cfB x y))/\∃ q os',w'=grow (W.drewN q) os':=by
 obtain ⟨W2,hW2⟩:∃ W2,W2=(W.alloc (.cells cs.toArray 35)).alloc (.cells ds.toArray 35):=⟨_,rfl⟩
 have HG:Hid (∃ q os',W2=grow (W.drewN q) os'):=⟨0,#[.cells cs.toArray 35,.cells ds.toArray 35],by rw [hW2,alloc_eq_grow,alloc_eq_grow,grow_grow];rfl⟩
 have k1:W2.heap[W.heap.size]? = some (.cells cs.toArray 35 (0,0)):=by
  rw [hW2,Below.heap_alloc _ _ _ (by simp)];exact World.alloc_heap_new _ _
 have k2:W2.heap[W.heap.size+1]? = some (.cells ds.toArray 35 (0,0)):=by
  have:=World.alloc_heap_new (W.alloc (.cells cs.toArray 35)) (.cells ds.toArray 35)
  rw [World.size_alloc] at this
  rw [hW2];exact this
 have c1:W2.cell? ⟨W.heap.size,1,none⟩=some (.int .i64 x):=by rw [zc k1];simpa using hc
 have c2:W2.cell? ⟨W.heap.size+1,1,none⟩=some (.int .i64 y):=by rw [zc k2];simpa using hd
 have HW2:=zh hW2
 clear k1 k2 hW2 hc hd
 have HCL:=zh hcl;have HDL:=zh hdl
 clear hcl hdl
 go_enter Tryz.func47,Tryz.ntmps47
 go_upto_region 1 with (first
  | (refine wpList_box_agg (by rfl) 35 (.tmp 0) (by rfl) cs (by rfl) ?_)
  | (refine wpList_box_agg (by rfl) 35 (.tmp 1) (by rfl) ds (by rfl) ?_))
 rw [<- HW2.out]
 go_wp2_with (go_at_call 48;(with_reducible refine (cmp_int _ _ _).mono ?_);rintro e w' ⟨rfl,rfl⟩)
 go_ret
 exact ⟨rfl,HG.out⟩
theorem ses_agg:∀ w,(isAgg 35).run Tryz.prog w = .ok true w:=Tryz.isAgg35
theorem ses_size:∀ w,(Go.sizeOf 35).run Tryz.prog w = .ok 12 w:=Tryz.sizeOf35
theorem flat_list (enc:Int->List Value) (k:Nat) (hk0:0<k) (hk:∀ x,(enc x).length=k) (d:List Int):(flatK enc k d.toArray).toList=d.flatMap enc:=by
 have hlen:∀ d:List Int,(d.flatMap enc).length=d.length * k:=fun d => by
  induction d with
  | nil => simp
  | cons a r ih => rw [List.flatMap_cons,List.length_append,ih,hk,List.length_cons];rw [Nat.add_mul];omega
 have hcell:∀ (d:List Int) (j c:Nat) (hj:j<d.length),c<k->(d.flatMap enc)[j * k+c]? = (enc d[j])[c]?:=fun d => by
  induction d with
  | nil => intro j c hj;simp at hj
  | cons a r ih =>
   intro j c hj hc
   rw [List.flatMap_cons]
   cases j with
   | zero => rw [List.getElem?_append_left (by rw [hk];omega)];simp
   | succ j =>
    rw [List.getElem?_append_right (by rw [hk,Nat.add_mul];omega),hk,show (j+1) * k+c-k=j * k+c by rw [Nat.add_mul];omega]
    exact ih j c (by simpa using hj) hc
 refine List.ext_getElem (by rw [hlen];simp) fun t h1 h2 => ?_
 have ht:t<d.toArray.size * k:=by simpa using h1
 have hg:=get_flatK enc k d.toArray t ht
 have hj:t / k<d.length:=by
  have:t<d.length * k:=by simpa using ht
  exact Nat.div_lt_of_lt_mul (by rw [Nat.mul_comm];exact this)
 have hc:t % k<k:=Nat.mod_lt _ hk0
 have h3:=hcell d (t / k) (t % k) hj hc
 rw [Nat.mul_comm,Nat.div_add_mod] at h3
 rw [List.getElem?_eq_getElem h2] at h3
 have e1:(flatK enc k d.toArray).toList[t]=(flatK enc k d.toArray)[t]!:=by
  rw [getElem!_pos _ t (by simpa using h1)];simp
 rw [e1,hg]
 have e2:d.toArray[t / k]! = d[t / k]:=by rw [getElem!_pos _ _ (by simpa using hj)];simp
 rw [e2]
 have h4:t % k<(enc d[t / k]).length:=by rw [hk];exact hc
 rw [getElem!_pos (enc d[t / k]) (t % k) h4]
 rw [List.getElem?_eq_getElem h4] at h3
 exact (Option.some.inj h3).symm
theorem only_sort' (enc:Int->List Value) (k:Nat) (w:World) (blk off m:Nat) (dk:Array Int) (os:Array Obj):Only (fun i => i=blk) w (sortWorldK enc k w blk off m dk os):=by
 refine ⟨rfl,rfl,rfl,size_sortWorldK_c enc k w blk off m dk os,fun i hi hF => ?_⟩
 unfold sortWorldK
 rw [heap_grow_old _ _ (by rw [size_putRowK];exact hi)]
 unfold putRowK putRow mapBlock
 simp only [Array.getElem?_modify]
 rw [if_neg (fun e => hF e.symm)]
 rfl
theorem block_sort (enc:Int->List Value) (k:Nat) (w:World) (blk m:Nat) (dk:Array Int) (os:Array Obj) {cur:Array Value} {t:TypeId} (h:w.heap[blk]? = some (.cells cur t (0,0))) :
  (sortWorldK enc k w blk 0 m dk os).heap[blk]? = some (.cells (putCells id 0 (flatK enc k dk) cur) t (0,0)):=by
 have hl:=(zx h)
 unfold sortWorldK
 rw [heap_grow_old _ _ (by rw [size_putRowK];exact hl)]
 unfold putRowK putRow mapBlock
 simp only [Array.getElem?_modify,if_pos]
 show (w.heap[blk]?).map _=_
 rw [h]
 rfl
theorem ssort_any (lo:Nat) (v:Value) (L:List Sess) (W:World) (hrow:W.ownsRow lo 35 12 v L.length (allC L)) (hl:L.length<=65536) (hd:L.Pairwise fun a b => a.birth≠b.birth) :
  Calls Tryz.prog 46 #[v,.func (.func 47) #[] #[]] W fun e W' =>
   e = .returned (.tuple #[])/\W'.ownsRow lo 35 12 v L.length (allC (sortB L))/\Only (fun i => v.ownBlock=some i) W W':=by
 have hlen:=sortB_len hd
 have hmem:∀ s ∈ sortB L,pickB L s.birth=s:=fun s hs => pick_mem hd (((sortB_spec L hd).1 s).1 hs)
 rcases hrow.2 with ⟨rfl,h0⟩ | ⟨gg,cap,cur,rfl,hlo,hb,hcap,hmx,hsz,htk⟩
 ·have e:L=[]:=List.length_eq_zero_iff.1 h0
  subst e
  refine (AnyF.slices_SortFunc_none Tryz.sortSess none 0 _ W).mono fun e W' ⟨he,hw⟩ => ?_
  rw [hw]
  exact ⟨he,hrow,Only.refl _ _⟩
 ·have hblk:gg<W.heap.size:=(zx hb)
  obtain ⟨d,hdd⟩:∃ d:List Int,d=L.map (·.birth):=⟨_,rfl⟩
  have hds:d.toArray.size=L.length:=by rw [hdd];simp
  have hfl:(flatK (encB L) 12 d.toArray).toList=allC L:=by
   rw [flat_list (encB L) 12 (by decide) (encB_len L),hdd]
   exact flat_enc (fun s hs => pick_mem hd hs)
  have hH:HoldsK (encB L) 12 W gg 0 d.toArray:=by
   intro j hj
   have hj2:j<L.length * 12:=by rw [size_flatK,hds] at hj;exact hj
   rw [Nat.zero_add,zc hb]
   refine ⟨?_,by simp [World.frozen?,hb]⟩
   have e1:(flatK (encB L) 12 d.toArray)[j]! = (flatK (encB L) 12 d.toArray)[j]:=getElem!_pos _ j hj
   rw [e1]
   have e2:(allC L)[j]? = some ((flatK (encB L) 12 d.toArray)[j]):=by
    rw [<- hfl];simp [hj]
   rw [<- htk,List.getElem?_take,if_pos hj2] at e2
   simpa using e2
  have hc:=AnyQ.slices_SortFunc_total Tryz.sortSess 12 ses_agg ses_size (encB L) (fun _ => rfl) (fun x => sess_one' _) cfB ltB_swo 47 #[] gg 0 cap d.toArray W
   (enters_of Tryz.func47 (by kernel_rfl) rfl) (fun m os dk _ x y => scmp_any (encB L x) (encB L y) x y rfl rfl (by show some (Value.int .i64 (pickB L x).birth)=_;rw [pick_birth]) (by show some (Value.int .i64 (pickB L y).birth)=_;rw [pick_birth]) _) hH hblk (by rw [hds];omega) ltB_tot
  rw [hds] at hc
  refine hc.mono fun e W' ⟨he,m,os,hw⟩ => ?_
  have hM:(d.toArray.toList.mergeSort fun x y => !(ltOf cfB) y x)=(sortB L).map (·.birth):=by rw [hdd,List.toList_toArray];exact srtB_eq hd
  rw [hM] at hw
  have hb2:=block_sort (encB L) 12 W gg m ((sortB L).map (·.birth)).toArray os hb
  rw [<- hw] at hb2
  have hfl2:(flatK (encB L) 12 ((sortB L).map (·.birth)).toArray).toList=allC (sortB L):=by
   rw [flat_list (encB L) 12 (by decide) (encB_len L)]
   exact flat_enc hmem
  have hfs:(flatK (encB L) 12 ((sortB L).map (·.birth)).toArray).size=L.length * 12:=by simp [hlen]
  refine ⟨he,⟨by rw [allC_len,hlen],.inr ⟨gg,cap,_,rfl,hlo,hb2,hcap,hmx,by unfold putCells;simp [hsz],?_⟩⟩,?_⟩
  ·rw [<- hfl2]
   refine List.ext_getElem ?_ fun t h1 h2 => ?_
   ·have e1:(putCells id 0 (flatK (encB L) 12 ((sortB L).map (·.birth)).toArray) cur).toList.length=cap * 12:=by unfold putCells;simp [hsz]
    have e2:(flatK (encB L) 12 ((sortB L).map (·.birth)).toArray).toList.length=L.length * 12:=hfs
    rw [List.length_take,e1,e2]
    have:=Nat.mul_le_mul_right 12 hcap
    omega
   ·rw [List.getElem_take]
    unfold putCells
    simp only [Array.getElem_toList,Array.getElem_mapIdx,Nat.zero_add,Nat.zero_le,true_and,Nat.sub_zero,id_eq]
    have ht:t<(flatK (encB L) 12 ((sortB L).map (·.birth)).toArray).size:=by simpa using h2
    rw [if_pos ht,getElem!_pos _ t ht]
  ·rw [hw]
   exact (only_sort' (encB L) 12 W gg 0 m _ os).mono (fun i _ e => by rw [e];rfl)
end Fr
end
section
open Go.RowKit
namespace Fo
variable {F:Fence} {n:Nat} {P:Program}
theorem range_foot_own_sl {α:Type} {g:Operand} {ps:Array Tmp} {assign body:Code} {Q:Exit->Act->World->Prop} {a:Act} {w w0:World}
  (hro:F.round=none) (h1:1<=n) {gf:Nat} {lb:Array Value} (hg:a.eval g = .func (.func gf) #[] lb) (hFg:F.fn gf) (eg:∀ args w,(callFunc gf args).run P w = .ok (.enter gf args) w)
  {encs:α->Array Value} {S Sp:List α->Prop} {C:Nat->Prop} (hseq:SeqF F (n-1) P gf lb encs S Sp C w0) (hps:∀ x,(encs x).size=ps.size) (hC:∀ b,C b->b<w.heap.size/\w.heap[b]? = w0.heap[b]?)
  (U:List α->(Nat->Prop)->World->Prop) (Ux:Code->List α->(Nat->Prop)->World->Prop) (Fp0:Nat->Prop) (hFp0:∀ b,Fp0 b->b<w.heap.size/\¬ C b)
  (hU:∀ pre Fp A A' row,U pre Fp A->w.heap.size<=A.heap.size->A.grownBy A' row->(∀ r,row=some r->w.heap.size<=r/\¬ Fp r)->U pre Fp A')
  (hUx:∀ c pre Fp A A' row,Ux c pre Fp A->w.heap.size<=A.heap.size->A.grownBy A' row->(∀ r,row=some r->w.heap.size<=r/\¬ Fp r)->Ux c pre Fp A')
  (h0:U [] Fp0 w) (sl:Array Value->α->Array Value)
  (hassign:∀ (l:Nat) (x:α) (W:World) (K:Act->World->Prop),K { tmps:=sl a.tmps x,defers:=[] } W->assign.wpIn (F.inRound l) (n-1-1) P (Exit.then K (fun _ _ _ => False)) { tmps:=(ps.zip (encs x)).foldl (fun t (p,v) => t.setIfInBounds p v) a.tmps,defers:=[] } W)
  (hbody:∀ (l:Nat) (pre:List α) (x:α) (Fp:Nat->Prop) (W:World),U pre Fp W->w.heap.size<=W.heap.size->Sp (pre ++ [x])->(w.heap.size<=l/\¬ Fp l/\∃ r,W.heap[l]? = some (.loop r))->body.wpIn (F.inRound l) (n-1-1) P (Left Fp U Ux (pre ++ [x]) W) { tmps:=sl a.tmps x,defers:=[] } W)
  (hdone:∀ (d:Nat) (xs:List α) (Fp:Nat->Prop) (W:World),S xs->w.heap.size<=d->U xs Fp W->¬ Fp d->W.heap[d]? = some (.deferred (some []))->Q .normal { a with defers:={ target:=.collected d,args:=#[] } :: a.defers } W)
  (hstop:∀ (d:Nat) (c:Code) (pre:List α) (Fp:Nat->Prop) (W:World),Sp pre->w.heap.size<=d->Ux c pre Fp W->¬ Fp d->W.heap[d]? = some (.deferred (some []))->c.wpIn F n P Q { a with defers:={ target:=.collected d,args:=#[] } :: a.defers } W) :
  (Code.rangeFunc g ps assign body).wpIn F n P Q a w:=by
 refine wpIn_rangeFunc fun fn hfn => ?_
 rw [hro]
 let rec_:LoopState->Option Code->Loop:=fun st pe => { state:=st,pending:=pe,fn,tmps:=a.tmps,params:=ps,assign,body,defers:=w.heap.size }
 have hrs:∀ st pe,(rec_ st pe).state=st:=fun _ _ => rfl
 have hrp:∀ st pe,(rec_ st pe).params=ps:=fun _ _ => rfl
 have hrb:∀ st pe st' pe',{ rec_ st pe with state:=st',pending:=pe' }=rec_ st' pe':=fun _ _ _ _ => rfl
 have hrb2:∀ st pe st',{ rec_ st pe with state:=st' }=rec_ st' pe:=fun _ _ _ => rfl
 have hrf:∀ st pe,(rec_ st pe).fn=fn/\(rec_ st pe).assign=assign/\(rec_ st pe).body=body/\(rec_ st pe).tmps=a.tmps/\(rec_ st pe).pending=pe:=fun _ _ => ⟨rfl,rfl,rfl,rfl,rfl⟩
 have hent:(Instr.enterLoop fn a.tmps ps assign body none).run P w = .ok (w.heap.size+1,[{ target:=.collected w.heap.size,args:=#[] }]) ((w.alloc (.deferred (some []))).alloc (.loop (rec_ .ready none))):=run_enterLoop_outer fn a.tmps ps assign body
 let Bk:Loop->World->Prop:=fun r W => W.heap[w.heap.size+1]? = some (.loop r)/\W.heap[w.heap.size]? = some (.deferred (some []))
 have hBk:∀ r W,Bk r W↔(W.heap[w.heap.size+1]? = some (.loop r)/\W.heap[w.heap.size]? = some (.deferred (some []))):=fun _ _ => Iff.rfl
 generalize hW1:(w.alloc (.deferred (some []))).alloc (.loop (rec_ .ready none))=W1 at hent
 have hs1:W1.heap.size=w.heap.size+2:=by subst hW1;rw [World.size_alloc,World.size_alloc]
 have hB1:Bk (rec_ .ready none) W1:=by
  subst hW1
  refine ⟨?_,(Below.heap_alloc _ _ _ (by simp)).trans (World.alloc_heap_new w _)⟩
  have:=World.alloc_heap_new (w.alloc (.deferred (some []))) (.loop (rec_ .ready none))
  rwa [World.size_alloc] at this
 have hg1:w.grownBy W1 none:=by subst hW1;exact ⟨rfl,rfl,rfl,by simp;omega,fun k hk _ => by rw [Below.heap_alloc _ _ _ (by simp;omega),Below.heap_alloc _ _ _ hk]⟩
 have hU1:U [] Fp0 W1:=hU _ _ _ _ _ h0 (Nat.le_refl _) hg1 (fun r e => by cases e)
 have hC1:∀ b,C b->b<W1.heap.size/\W1.heap[b]? = w0.heap[b]?:=fun b hb => by
  obtain ⟨h1,h2⟩:=hC b hb
  exact ⟨by omega,by rw [hg1.block b h1 (fun e => by cases e)];exact h2⟩
 clear_value Bk rec_
 have keep:∀ {r A B} {Fp:Nat->Prop},Only Fp A B->¬ Fp w.heap.size->¬ Fp (w.heap.size+1)->Bk r A->Bk r B:=fun hk f0 f1 hb => by
  rw [hBk] at hb ⊢
  exact ⟨(hk.block _ (zx hb.1) f1).trans hb.1,(hk.block _ (zx hb.2) f0).trans hb.2⟩
 have big:∀ {r A},Bk r A->w.heap.size+1<A.heap.size:=fun hb => by rw [hBk] at hb;exact (zx hb.1)
 have turn:∀ {r A} (r':Loop),Bk r A->Bk r' (A.putObj (w.heap.size+1) (.loop r')):=fun r' hb => by
  have h:=big hb
  rw [hBk] at hb ⊢
  exact ⟨World.putObj_heap_same h,(World.putObj_heap_other (by omega)).trans hb.2⟩
 refine ⟨w.heap.size+1,[{ target:=.collected w.heap.size,args:=#[] }],W1,{ target:=.fn (.func gf) lb,args:=#[.func (.yield (w.heap.size+1)) #[] #[]] },W1,gf,#[.func (.yield (w.heap.size+1)) #[] #[]] ++ lb,W1,hent,?_,?_,?_,fun _ => h1,?_⟩
 ·simp only [resolve,hg]
  simp [go_sem]
 ·intro f' hf';simp [Target.leads] at hf';subst hf';exact hFg
 ·simp [invoke,go_sem,eg]
 refine (hseq (w.heap.size+1) (fun pre Fp' A => ∃ Fp,(∀ b,Fp' b↔Fp b\/b=w.heap.size+1)/\U pre Fp A/\Bk (rec_ .ready none) A/\¬ Fp w.heap.size/\¬ Fp (w.heap.size+1)) (fun pre Fp' A => ∃ Fp c,(∀ b,Fp' b↔Fp b\/b=w.heap.size+1)/\Ux c pre Fp A/\Bk (rec_ .done (some c)) A/\¬ Fp w.heap.size/\¬ Fp (w.heap.size+1)) W1 (fun b => Fp0 b\/b=w.heap.size+1) hC1 ?_ ?_ ?_ ?_ ?_).mono ?_
 ·rintro b (hb | rfl)
  ·exact ⟨by have:=(hFp0 b hb).1;omega,(hFp0 b hb).2⟩
  ·exact ⟨by omega,fun hc => by have:=(hC _ hc).1;omega⟩
 ·rintro pre Fp' A A' row ⟨Fp,hF,hu,hb,f0,f1⟩ hsz hg hrow
  have hnl:∀ r,row=some r->w.heap.size<=r/\¬ Fp r:=fun r e => ⟨by have:=(hrow r e).1;omega,fun hf => (hrow r e).2 ((hF r).2 (.inl hf))⟩
  refine ⟨Fp,hF,hU _ _ _ _ _ hu (by omega) hg hnl,?_,f0,f1⟩
  rw [hBk] at hb ⊢
  exact ⟨(hg.block _ (zx hb.1) (fun e => by have:=(hrow _ e.symm).1;omega)).trans hb.1,(hg.block _ (zx hb.2) (fun e => by have:=(hrow _ e.symm).1;omega)).trans hb.2⟩
 ·rintro pre Fp' A A' row ⟨Fp,c,hF,hu,hb,f0,f1⟩ hsz hg hrow
  have hnl:∀ r,row=some r->w.heap.size<=r/\¬ Fp r:=fun r e => ⟨by have:=(hrow r e).1;omega,fun hf => (hrow r e).2 ((hF r).2 (.inl hf))⟩
  refine ⟨Fp,c,hF,hUx _ _ _ _ _ _ hu (by omega) hg hnl,?_,f0,f1⟩
  rw [hBk] at hb ⊢
  exact ⟨(hg.block _ (zx hb.1) (fun e => by have:=(hrow _ e.symm).1;omega)).trans hb.1,(hg.block _ (zx hb.2) (fun e => by have:=(hrow _ e.symm).1;omega)).trans hb.2⟩
 ·rintro pre x Fp' A ⟨Fp,hF,hu,hb,f0,f1⟩ hsz hlen
  have hl0:=((hBk _ _).1 hb).1
  have hy:=run_yield (P:=P) (args:=encs x) hl0 (by rw [hrp];exact hps x)
  obtain ⟨e1,e2,e3,e4,e5⟩:=hrf .ready none
  rw [e1,e2,e3,e4,hrp] at hy
  have hub:U pre Fp (A.putObj (w.heap.size+1) (.loop (rec_ .busy none))):=hU _ _ _ _ _ hu (by omega) (grownBy_putObj' A (w.heap.size+1) _) (fun r e => by cases e;exact ⟨Nat.le_succ _,f1⟩)
  have hbb:Bk (rec_ .busy none) (A.putObj (w.heap.size+1) (.loop (rec_ .busy none))):=turn _ hb
  have hsb:(A.putObj (w.heap.size+1) (.loop (rec_ .busy none))).heap.size=A.heap.size:=by simp
  refine ⟨fn,_,assign,body,hy,roundIn_of_wpIn hfn (hassign _ x A _ ⟨_,by have:=run_beginRound (P:=P) hl0 (hrs _ _);rw [hrb2] at this;exact this,?_⟩)⟩
  refine wpIn_mono (hbody _ pre x Fp _ hub (by rw [hsb];omega) hlen ⟨Nat.le_succ _,f1,_,((hBk _ _).1 hbb).1⟩) ?_
  have fin:∀ (jump:Option Code) (W3:World),Only Fp (A.putObj (w.heap.size+1) (.loop (rec_ .busy none))) W3 ->
    (Instr.endRound (w.heap.size+1) jump).run P W3 = .ok (.bool jump.isNone) (W3.putObj (w.heap.size+1) (.loop (rec_ (if jump.isNone then .ready else .done) jump))) /\
    W3.heap[w.heap.size+1]? = some (.loop (rec_ .busy none))/\Bk (rec_ (if jump.isNone then .ready else .done) jump) (W3.putObj (w.heap.size+1) (.loop (rec_ (if jump.isNone then .ready else .done) jump))):=fun jump W3 hk3 => by
   have hb3:=keep hk3 f0 f1 hbb
   have hl3:=((hBk _ _).1 hb3).1
   have:=run_endRound (P:=P) jump hl3
   rw [hrb] at this
   exact ⟨this,hl3,turn _ hb3⟩
  have hbs:=big hb
  have grow_:∀ (W3:World) (Fp2:Nat->Prop) (jump:Option Code),Only Fp (A.putObj (w.heap.size+1) (.loop (rec_ .busy none))) W3->(∀ b,Fp2 b->Fp b\/(A.putObj (w.heap.size+1) (.loop (rec_ .busy none))).heap.size<=b)->¬ Fp2 w.heap.size/\¬ Fp2 (w.heap.size+1) /\
    Only Fp' A (W3.putObj (w.heap.size+1) (.loop (rec_ (if jump.isNone then .ready else .done) jump)))/\∀ b,(Fp2 b\/b=w.heap.size+1)->Fp' b\/A.heap.size<=b:=fun W3 Fp2 jump ho2 hn2 => by
   rw [hsb] at hn2
   refine ⟨fun h => ?_,fun h => ?_,?_,?_⟩
   ·rcases hn2 _ h with h | h
    ·exact f0 h
    ·omega
   ·rcases hn2 _ h with h | h
    ·exact f1 h
    ·omega
   ·have s0:W3.heap.size=(W3.putObj (w.heap.size+1) (.loop (rec_ (if jump.isNone then .ready else .done) jump))).heap.size:=by simp
    refine ⟨ho2.os,ho2.tape,ho2.output,?_,fun k hk hnf => ?_⟩
    ·have:=ho2.size;rw [hsb] at this;rw [<- s0];exact this
    ·have hk1:k≠w.heap.size+1:=fun e => hnf ((hF k).2 (.inr e))
     have hk2:¬ Fp k:=fun h => hnf ((hF k).2 (.inl h))
     rw [World.putObj_heap_other hk1,ho2.block k (by rw [hsb];exact hk) hk2,World.putObj_heap_other hk1]
   ·rintro b (hb5 | rfl)
    ·rcases hn2 b hb5 with h | h
     ·exact .inl ((hF b).2 (.inl h))
     ·exact .inr h
    ·exact .inl ((hF _).2 (.inr rfl))
  rintro e a3 W3 hp
  cases e with
  | normal =>
   obtain ⟨Fp2,hu2,ho2,hn2⟩:=hp
   obtain ⟨hr,hl3,hb4⟩:=fin none W3 ho2
   obtain ⟨g0,g1,k1,k2⟩:=grow_ W3 Fp2 none ho2 hn2
   exact ⟨_,_,hr,.inl ⟨rfl,fun b => Fp2 b\/b=w.heap.size+1,⟨Fp2,fun b => Iff.rfl,hU _ _ _ _ _ hu2 (by have:=ho2.size;rw [hsb] at this;omega) (grownBy_putObj' W3 (w.heap.size+1) _) (fun r e => by cases e;exact ⟨Nat.le_succ _,g1⟩),hb4,g0,g1⟩,k1,k2⟩⟩
  | ret =>
   obtain ⟨Fp2,hu2,ho2,hn2⟩:=hp
   obtain ⟨hr,hl3,hb4⟩:=fin (some .ret) W3 ho2
   obtain ⟨g0,g1,k1,k2⟩:=grow_ W3 Fp2 (some .ret) ho2 hn2
   exact ⟨_,_,hr,.inr ⟨rfl,fun b => Fp2 b\/b=w.heap.size+1,⟨Fp2,.ret,fun b => Iff.rfl,hUx _ _ _ _ _ _ hu2 (by have:=ho2.size;rw [hsb] at this;omega) (grownBy_putObj' W3 (w.heap.size+1) _) (fun r e => by cases e;exact ⟨Nat.le_succ _,g1⟩),hb4,g0,g1⟩,k1,k2⟩⟩
  | exit id =>
   obtain ⟨Fp2,hu2,ho2,hn2⟩:=hp
   obtain ⟨hr,hl3,hb4⟩:=fin (some (.exit id)) W3 ho2
   obtain ⟨g0,g1,k1,k2⟩:=grow_ W3 Fp2 (some (.exit id)) ho2 hn2
   exact ⟨_,_,hr,.inr ⟨rfl,fun b => Fp2 b\/b=w.heap.size+1,⟨Fp2,(.exit id),fun b => Iff.rfl,hUx _ _ _ _ _ _ hu2 (by have:=ho2.size;rw [hsb] at this;omega) (grownBy_putObj' W3 (w.heap.size+1) _) (fun r e => by cases e;exact ⟨Nat.le_succ _,g1⟩),hb4,g0,g1⟩,k1,k2⟩⟩
  | goto t =>
   obtain ⟨Fp2,hu2,ho2,hn2⟩:=hp
   obtain ⟨hr,hl3,hb4⟩:=fin (some (.goto t)) W3 ho2
   obtain ⟨g0,g1,k1,k2⟩:=grow_ W3 Fp2 (some (.goto t)) ho2 hn2
   exact ⟨_,_,hr,.inr ⟨rfl,fun b => Fp2 b\/b=w.heap.size+1,⟨Fp2,(.goto t),fun b => Iff.rfl,hUx _ _ _ _ _ _ hu2 (by have:=ho2.size;rw [hsb] at this;omega) (grownBy_putObj' W3 (w.heap.size+1) _) (fun r e => by cases e;exact ⟨Nat.le_succ _,g1⟩),hb4,g0,g1⟩,k1,k2⟩⟩
  | panic ch => exact hp.elim
  | outgrown => exact hp.elim
 ·exact ⟨Fp0,fun b => Iff.rfl,hU1,hB1,fun h => by have:=(hFp0 _ h).1;omega,fun h => by have:=(hFp0 _ h).1;omega⟩
 ·rintro e W2 ⟨⟨v,rfl⟩,(⟨pre,Fp',hS,Fp,hF,hd,hb,f0,f1⟩ | ⟨pre,Fp',hSp,Fp,c,hF,hx,hb,f0,f1⟩)⟩
  ·have hb2:=(hBk _ _).1 hb
   have hbs:=big hb
   exact ⟨none,_,by have:=run_endLoop (P:=P) hb2.1 (by rw [hrs];simp);rw [(hrf .ready none).2.2.2.2] at this;exact this,hdone _ pre Fp _ hS (Nat.le_refl _) (hU _ _ _ _ _ hd (by omega) (grownBy_putObj' W2 (w.heap.size+1) _) (fun r e => by cases e;exact ⟨Nat.le_succ _,f1⟩)) f0 ((World.putObj_heap_other (by omega)).trans hb2.2)⟩
  ·have hb2:=(hBk _ _).1 hb
   have hbs:=big hb
   exact ⟨some c,_,by have:=run_endLoop (P:=P) hb2.1 (by rw [hrs];simp);rw [(hrf .done (some c)).2.2.2.2] at this;exact this,hstop _ c pre Fp _ hSp (Nat.le_refl _) (hUx _ _ _ _ _ _ hx (by omega) (grownBy_putObj' W2 (w.heap.size+1) _) (fun r e => by cases e;exact ⟨Nat.le_succ _,f1⟩)) f0 ((World.putObj_heap_other (by omega)).trans hb2.2)⟩
theorem SeqF.inRound' {α:Type} {g:Nat} {lb:Array Value} {encs:α->Array Value} {S Sp:List α->Prop} {C:Nat->Prop} {w:World} (l:Nat) (h:SeqF F n P g lb encs S Sp C w):SeqF (F.inRound l) n P g lb encs S Sp C w:=h
end Fo
end
section
open Go.RowKit
namespace Fo
variable {F:Fence} {n:Nat} {P:Program}
end Fo
end
end Go.Proofs.YtimhglmfckfclaaGreat
