/- Parts of the proof. -/
import Derived.Test.YtimhglmfckfclaaGreatDoorM33
import Derived.RangeFuncLeaves
import Derived.RangeFuncNested
import Derived.Shelf.RegionOpen
set_option linter.unusedVariables false
set_option linter.unusedSimpArgs false
set_option maxRecDepth 100000
set_option maxHeartbeats 16000000
namespace Go.Proofs.YtimhglmfckfclaaGreatDoor
section
open Go.RowKit Go.Maps Go.Shelf
namespace Fr
open Vw (Sess)
open Ex (Ent wo ExpAt)
section
variable {lo:Nat} {P:Pa} {st st1 st2:FS} {nw c d:Nat} {Fe:Nat->Prop} {w w' w'':World}
theorem fplan (h:ForAt lo P st nw Fe w) (hw:nw+8<=4611686018427387904) (kind us ub:Int) (r:Req) (h1:r.user.size<=9223372036854775807) (h2:r.label.size<=9223372036854775807) (out:Sess) (no:Int) (hc:planF st kind us ub r=some (st2,out,no)) :
  Calls Tryz.prog 21 (planArgs P kind us ub r) w fun e w' => e = .returned (.tuple #[.agg out.cells.toArray,erV no])/\FoTo lo P st2 8 nw Fe w w':=by
 unfold planF at hc
 by_cases hk:kind<0\/2<kind
 ·rw [if_pos hk] at hc
  cases hc
  refine (plan_arg kind us ub hk r w).mono ?_
  rintro e w' ⟨rfl,hb⟩
  exact ⟨rfl,FoTo.of_below h hb⟩
 ·rw [if_neg hk] at hc
  have hk0:0<=kind:=by omega
  have hk2:kind<=2:=by omega
  have hgr:∀ W,Below w.heap.size w W->Calls Tryz.prog 63 (planArgs P kind us ub r) W fun e w' => e = .returned (.tuple #[.agg (grantF st kind us ub r).1.cells.toArray,erV (grantF st kind us ub r).2])/\Below W.heap.size W w':=fun W hb => fgranted (h.below hb) kind us ub ⟨hk0,hk2⟩ r h1 h2
  by_cases hg:(grantF st kind us ub r).2≠0
  ·rw [if_pos hg] at hc
   cases hc
   refine (plan_err kind us ub hk0 hk2 r _ hg _ hgr).mono ?_
   rintro e w' ⟨rfl,hb⟩
   exact ⟨rfl,FoTo.of_below h hb⟩
  ·rw [if_neg hg] at hc
   have hg0:(grantF st kind us ub r).2=0:=Decidable.byContradiction hg
   rw [hg0] at hgr
   obtain ⟨s1,hs1,hs2⟩:=Option.map_eq_some_iff.1 hc
   have e1:(st2,out,no)=(match s1.free with | i :: _ => (s1,{ (grantF st kind us ub r).1 with slot:=i },0) | [] => (s1,s0,19)):=hs2.symm
   have e2:st2=s1/\(out,no)=(match s1.free with | i :: _ => ({ (grantF st kind us ub r).1 with slot:=i },0) | [] => (s0,19)):=by
    cases hfr:s1.free with
    | nil => rw [hfr] at e1;exact ⟨(Prod.mk.inj e1).1,(Prod.mk.inj e1).2⟩
    | cons i t => rw [hfr] at e1;exact ⟨(Prod.mk.inj e1).1,(Prod.mk.inj e1).2⟩
   obtain ⟨rfl,e3⟩:=e2
   refine plan_go h hw kind us ub hk0 hk2 r _ st2 out no _ rfl hgr ?_ e3
   cases hfe:st.free.isEmpty with
   | true =>
    rw [hfe,if_pos rfl] at hs1
    obtain ⟨⟨a,o⟩,ha,hb⟩:=Option.map_eq_some_iff.1 hs1
    cases hb
    rw [if_pos rfl]
    exact ⟨o,ha⟩
   | false =>
    rw [hfe,if_neg (by decide)] at hs1
    rw [if_neg (by decide)]
    exact (Option.some.inj hs1).symm
theorem fsweep (h:ForAt lo P st nw Fe w) (n no:Int) (hw:nw+8 * 65536<=4611686018427387904) (hc:sweepF st n=some (st2,no)) :
  Calls Tryz.prog 27 #[.pointer (some ⟨P.f,0,none⟩),.int .i64 n] w fun e w' => e = .returned (erV no)/\FoTo lo P st2 (8 * 65536) nw Fe w w':=by
 unfold sweepF at hc
 by_cases hn:n<0\/65536<n
 ·rw [if_pos hn] at hc
  cases hc
  have HE:Hid (FoTo lo P st (8 * 65536) nw Fe w w):=h.mono
  clear h hw
  by_cases h0:n<0
  ·clear hn
   go_enter Tryz.func27,Tryz.ntmps27
   go_wp2
   go_ret
   exact ⟨rfl,HE.out⟩
  ·have h1:0<=n:=by omega
   have h2:65536<n:=by omega
   clear hn h0
   go_enter Tryz.func27,Tryz.ntmps27
   go_wp2
   go_ret
   exact ⟨rfl,HE.out⟩
 ·rw [if_neg hn] at hc
  have h0:0<=n:=by omega
  have h1:n<=65536:=by omega
  obtain ⟨s2,hs,hs2⟩:=Option.map_eq_some_iff.1 hc
  have e1:s2=st2:=(Prod.mk.inj hs2).1
  have e2:no=0:=(Prod.mk.inj hs2).2.symm
  subst e1 e2
  obtain ⟨N,rfl⟩:=Int.eq_ofNat_of_zero_le h0
  rw [Int.toNat_natCast] at hs
  have HH:=zh h;have HS:=zh hs;have HW:=zh hw
  have HN:Hid (N<=65536):=by show _<=_;omega
  clear h hc hs hs2 hn hw
  go_enter Tryz.func27,Tryz.ntmps27
  go_wp2
  go_loopw [15] (fun x wr => ∃ (k:Nat) (s:FS),k<=N/\x = .int .i64 (k:Int)/\unitsN (N-k) s=some s2/\FoTo lo P s (8 * k) nw Fe w wr) (fun x _ => N-(intOf x).toNat)
  case atStart => exact ⟨0,st,Nat.zero_le _,rfl,HS.out,HH.out.mono⟩
  case round =>
   obtain ⟨k,s,hk,rfl,hu,hf⟩:=hrel
   have b0:(0:Int)<=(k:Int):=by omega
   have b2:(k:Int)<=65536:=by have:=HN.out;omega
   by_cases hlt:k<N
   ·have b1:(k:Int)<(N:Int):=by omega
    obtain ⟨m,hm⟩:∃ m,N-k=m+1:=⟨N-k-1,by omega⟩
    rw [hm] at hu
    obtain ⟨⟨s1,o⟩,hu1,hu2⟩:=Option.bind_eq_some_iff.1 hu
    obtain ⟨n5,F5,q1,q2,h5,q3,q4⟩:=hf
    have c4:=h5.ptrs.2.2.1
    have HU:=zh (funit h5 (by have:=HW.out;have:=HN.out;omega) o hu1)
    have HQ:=zh (And.intro q1 (And.intro q2 (And.intro q3 q4)))
    have HLT:=zh hlt;have HM:=zh hm;have HU2:=zh hu2
    clear hu hu1 hu2 q1 q2 h5 q3 q4 hlt hm hk
    go_wp2_with fail
    refine HU.out.mono ?_
    rintro e w6 ⟨rfl,h6⟩
    have hf6:FoTo lo P s1 (8 * k+8) nw Fe w w6:=FoTo.after HQ.out.1 HQ.out.2.1 HQ.out.2.2.1 HQ.out.2.2.2 h6
    have HF6:=zh hf6
    clear h6 hf6 c4
    cases o with
    | none =>
     have HE:Hid (FoTo lo P s2 (8 * 65536) nw Fe w w6):=by
      have e:s1=s2:=by
       have:=HU2.out
       simp only at this
       exact Option.some.inj this
      rw [<- e]
      exact HF6.out.cast (by have:=HLT.out;have:=HN.out;omega)
     simp only [Option.isSome_none,Option.getD_none]
     go_wp2
     go_ret
     exact ⟨rfl,HE.out⟩
    | some x =>
     have HR:Hid (∃ (k':Nat) (s':FS),k'=k+1/\unitsN (N-k') s'=some s2/\FoTo lo P s' (8 * k') nw Fe w w6):=⟨k+1,s1,rfl,by
      have:=HU2.out
      simp only at this
      rw [show N-(k+1)=m by have:=HM.out;omega];exact this,HF6.out.cast (by omega)⟩
     simp only [Option.isSome_some,Option.getD_some]
     go_wp2
     go_roundw
     case rel => obtain ⟨k',s',rfl,t1,t2⟩:=HR.out;exact ⟨k+1,s',HLT.out,by go_num,t1,t2⟩
     case measure => have:=HLT.out;simp [intOf];omega
   ·have b1:(N:Int)<=(k:Int):=by omega
    have HE:Hid (FoTo lo P s2 (8 * 65536) nw Fe w wr):=by
     have e:N-k=0:=by omega
     rw [e] at hu
     have e2:s=s2:=Option.some.inj hu
     rw [<- e2]
     exact hf.cast (by have:=HN.out;omega)
    clear hu hf hlt hk
    go_wp2
    go_ret
    exact ⟨rfl,HE.out⟩
end
end Fr
end
section
open Go.RowKit Go.Shelf
namespace Hp
attribute [local go_sem] Oper.semAt_some
end Hp
end
section
open Go.RowKit Go.Shelf
namespace Hp
attribute [local go_sem] Oper.semAt_some
end Hp
end
section
open Go.RowKit Go.Maps Go.Shelf
namespace Ex
open Hp (It ahd without HeapAt)
attribute [local go_sem] Oper.semAt_some
theorem edue_any (E:Nat) (now:Int) (w:World):Calls Tryz.prog 68 #[.pointer (some ⟨E,0,none⟩),.int .i64 now] w fun e w' =>
  e = .returned (.func (.func 135) #[] #[.pointer (some ⟨w.heap.size,0,none⟩),.pointer (some ⟨w.heap.size+1,0,none⟩)]) /\
  w'=(w.alloc (.cells #[.pointer (some ⟨E,0,none⟩)] 105)).alloc (.cells #[.int .i64 now] 3):=by
 go_enter Tryz.func68,Tryz.ntmps68
 go_wp2
 go_ret
 exact ⟨rfl,rfl⟩
abbrev St:=List Ent × (Nat->Prop) × Nat
def DueI (lo E bE bN:Nat) (now:Int) (s:St) (A:World):Prop :=
 ExpAt lo E s.2.2 s.1 s.2.1 A/\A.cell? ⟨bE,0,none⟩=some (.pointer (some ⟨E,0,none⟩))/\A.cell? ⟨bN,0,none⟩=some (.int .i64 now)/\¬ s.2.1 bE/\¬ s.2.1 bN/\lo<=A.heap.size
def DueStep (lo E:Nat) (now:Int) (s:St) (x:It) (A B:World):Prop :=
 ∃ at_ r,s.1=(x.1,x.2,at_) :: r/\at_<=now/\∃ F',ExpAt lo E s.2.2 (wo s.1 x.1) F' B/\Only s.2.1 A B/\∀ k,F' k->s.2.1 k\/A.heap.size<=k
def DueFin (now:Int) (s:St) (A B:World):Prop:=(s.1=[]\/∃ e r,s.1=e :: r/\now<e.2.2)/\Below A.heap.size A B
theorem head_least {L T:List It} {y:It} {i k:Int} {b:Bool} (hs:(y :: T).Pairwise fun x y => ahd y x=false) (hp:L.Perm (y :: T)) (h:Hp.LeastIs L i k b):i=y.1/\k=y.2/\b=true:=by
 have hy:y ∈ L:=hp.mem_iff.2 List.mem_cons_self
 rcases h with ⟨h1,-⟩ | ⟨h1,h2,h3⟩
 ·rw [h1] at hy;cases hy
 ·have e:y=(i,k):=by
   rcases List.mem_cons.1 (hp.mem_iff.1 h2) with e | e
   ·exact e.symm
   ·exact Hp.eq_of_no (h3 _ hy) ((List.pairwise_cons.1 hs).1 _ e)
  exact ⟨by rw [e],by rw [e],h1⟩
theorem due_seq (n:Nat) (hn:3<=n) (lo E bE bN:Nat) (now:Int) (M:Nat) :
  Mu.Seq Fence.wide n Tryz.prog 135 #[.pointer (some ⟨bE,0,none⟩),.pointer (some ⟨bN,0,none⟩)] (fun x:It => #[.agg #[.int .i64 x.1,.int .i64 x.2]]) (DueI lo E bE bN now) (DueStep lo E now) (DueFin now) M:=by
 intro l J Jx Done W hJ h0
 refine callsIn_of_wp Tryz.func135 rfl trivial ?_ rfl
 simp only [Tryz.ntmps135,List.size_toArray,List.length_cons,List.length_nil,Nat.reduceAdd,Nat.reduceSub,Array.replicate_succ,Array.replicate_zero,List.push_toArray,List.append_toArray,List.nil_append,List.cons_append]
 have HJ:=zh hJ
 clear hJ
 gi_wp2
 gi_loopg [4] (M+1) (fun g _ wr => ∃ pre,g=M+1-pre.length/\J pre wr)
 case atStart => exact ⟨[],by simp,h0⟩
 case round =>
  obtain ⟨pre,rfl,hj⟩:=hrel
  obtain ⟨⟨S,F,N⟩,⟨hx,cE,cN,nE,nN,hlo⟩,hlen,hst,hfin⟩:=HJ.out pre wr hj
  simp only at hx nE nN
  have HX:=zh hx;have HST:=zh hst;have HFI:=zh hfin
  obtain ⟨H,bm,m,D,L,Fh,k1,k2,k3,k4,k5,k6,k7,k8,k9,k10,k11,k12⟩:=hx
  have c0:wr.cell? ⟨E,0,none⟩=some (.pointer (some ⟨H,0,none⟩)):=zl k1 rfl
  have c1:wr.cell? ⟨E,1,none⟩=some (.map (some bm)):=zl k1 rfl
  have HLS:=zh (Hp.least_any lo H 32 L Fh wr k3)
  have HK4:=zh k4;have HK5:=zh k5;have HK6:=zh k6;have HK9:=zh k9;have HLO:=zh hlo
  have hEl:E<wr.heap.size:=(zx k1)
  have HEL:=zh hEl
  have HC0:=zh c0;have HC1:=zh c1;have HCE:=zh cE;have HCN:=zh cN
  clear hst hfin k1 k2 k3 k4 k5 k6 k7 k8 k9 k10 k11 k12 hj hEl
  cases S with
  | nil =>
   have HL:Hid (L=[]):=List.perm_nil.1 HK4.out
   clear c1 nE nN hlo hlen
   gi_wp2_with fail
   refine ⟨trivial,fun _ => by omega,(callsIn_wide.2 HLS.out).mono ?_⟩
   rintro e w2 ⟨⟨i,k,b,rfl,hl⟩,hb⟩
   obtain ⟨rfl,rfl,rfl⟩:i=0/\k=0/\b=false:=by
    rcases hl with ⟨-,h1,h2,h3⟩ | ⟨-,h1,-⟩
    ·exact ⟨h1,h2,h3⟩
    ·rw [HL.out] at h1;cases h1
   have HD:=zh (HFI.out w2 ⟨.inl rfl,hb⟩)
   clear hl hb c0 cE cN
   gi_wp2
   refine bodyPost_ret (results_none rfl _ _ _) rfl ?_
   exact ⟨⟨_,rfl⟩,.inl ⟨pre,HD.out⟩⟩
  | cons x r =>
   have htl:∀ (i k:Int) (b:Bool),Hp.LeastIs L i k b->i=x.1/\k=x.2.2/\b=true:=fun i k b h => head_least (y:=itm x) (T:=items r) HK5.out.sorted HK4.out h
   have HTL:=zh htl
   clear htl
   by_cases hdue:now<x.2.2
   ·have HDUE:=zh hdue
    have cN2:=HCN.out
    clear c1 nE nN hlo hlen cN
    gi_wp2_with fail
    refine ⟨trivial,fun _ => by omega,(callsIn_wide.2 HLS.out).mono ?_⟩
    rintro e w2 ⟨⟨i,k,b,rfl,hl⟩,hb⟩
    obtain ⟨rfl,rfl,rfl⟩:=HTL.out _ _ _ hl
    have HD:=zh (HFI.out w2 ⟨.inr ⟨x,r,rfl,HDUE.out⟩,hb⟩)
    have cN3:w2.cell? ⟨bN,0,none⟩=some (.int .i64 now):=(hb.cell (p:=⟨bN,0,none⟩) (World.block_lt_of_cell? wr _ HCN.out)).trans HCN.out
    clear hl hb c0 cE cN2
    gi_wp2
    refine bodyPost_ret (results_none rfl _ _ _) rfl ?_
    exact ⟨⟨_,rfl⟩,.inl ⟨pre,HD.out⟩⟩
   ·have hdue2:x.2.2<=now:=by omega
    have HDUE:=zh hdue2
    have HLEN:=zh hlen;have HNE:=zh nE;have HNN:=zh nN
    have hs1:=(HK5.out.good.range (itm x) (by simp [items]))
    have HKEY:=zh (keyOf_int_mk (P:=Tryz.prog) (k:=3) Tryz.underlying3 (WalkArith.wf_i64 (n:=x.1) (by have h:(itm x).1=x.1:=rfl;omega)))
    have HWF:Hid ((Lit.int .i64 x.1).wf=true):=WalkArith.wf_i64 (by have h:(itm x).1=x.1:=rfl;omega)
    have hbirth:birthOf (x :: r) x.1=some x.2.1:=by rw [birthOf_cons,if_pos rfl]
    have hat0:=(HK9.out.2 x.1).2
    rw [hbirth] at hat0
    have HAT:=zh hat0
    clear c1 nE nN hlo hlen cN hdue hs1 hbirth hat0
    gi_wp2_with fail
    refine ⟨trivial,fun _ => by omega,(callsIn_wide.2 HLS.out).mono ?_⟩
    rintro e w2 ⟨⟨i,k,b,rfl,hl⟩,hb⟩
    obtain ⟨rfl,rfl,rfl⟩:=HTL.out _ _ _ hl
    have cN3:w2.cell? ⟨bN,0,none⟩=some (.int .i64 now):=(hb.cell (p:=⟨bN,0,none⟩) (World.block_lt_of_cell? wr _ HCN.out)).trans HCN.out
    have cE3:w2.cell? ⟨bE,0,none⟩=some (.pointer (some ⟨E,0,none⟩)):=(hb.cell (p:=⟨bE,0,none⟩) (World.block_lt_of_cell? wr _ HCE.out)).trans HCE.out
    have c13:w2.cell? ⟨E,1,none⟩=some (.map (some bm)):=(hb.cell (p:=⟨E,1,none⟩) HEL.out).trans HC1.out
    have hmap2:=map_only HK6.out (Only.of_below (F:=fun _ => False) hb) (fun h => h)
    obtain ⟨cc,hrun,hat,-⟩:=hmap2.lookup_int intLaw mapT Tryz.underlying3 (zeroI _) HKEY.out
    have hcc:cc=x.2.1:=by
     have:=hat.symm.trans HAT.out
     injection this with this
     injection this
    subst hcc
    have hx2:=HX.out.below hb
    obtain ⟨wb,hwb⟩:∃ wb,wb=w2.alloc (.cells #[.int .i64 x.1,.int .i64 x.2.1] 26):=⟨_,rfl⟩
    have hbb:Below w2.heap.size w2 wb:=by rw [hwb];exact (Below.refl _ _).alloc (Nat.le_refl _) _
    have hbw:Below wr.heap.size wr wb:=hb.trans (hbb.mono hb.size)
    have HFO:=zh (eforget_any lo E N (x :: r) F wb (hx2.below hbb) (Nat.le_trans HLO.out hbw.size) x.1 HWF.out)
    have cEb:wb.cell? ⟨bE,0,none⟩=some (.pointer (some ⟨E,0,none⟩)):=(hbb.cell (p:=⟨bE,0,none⟩) (World.block_lt_of_cell? w2 _ cE3)).trans cE3
    have l0:wb.cell? ⟨w2.heap.size,0,none⟩=some (.int .i64 x.1):=by rw [hwb];simp
    have l1:wb.cell? ⟨w2.heap.size,1,none⟩=some (.int .i64 x.2.1):=by rw [hwb];simp
    have hl2:w2.heap.size<wb.heap.size:=by rw [hwb];simp
    have HBW:=zh hbw;have HL2:=zh hl2;have HBS:=zh hb.size
    have HL0:=zh l0;have HL1:=zh l1
    rw [hwb] at cEb
    clear hl hb c0 cE hat hmap2 hx2 hbb hbw l0 l1 hl2
    gi_wp2_with fail
    rw [<- hwb]
    refine ⟨trivial,fun _ => by omega,(callsIn_wide.2 HFO.out).mono ?_⟩
    rintro e w3 ⟨rfl,F',hx3,ho3,hn3⟩
    have hstep:DueStep lo E now (x :: r,F,N) (x.1,x.2.1) wr w3:=⟨x.2.2,r,rfl,HDUE.out,F',hx3,(Only.of_below (F:=F) HBW.out).trans ho3 (fun _ _ h => h),fun k hk => by
     rcases hn3 k hk with h | h
     ·exact .inl h
     ·right;have:=HBW.out.size;omega⟩
    have hFl:¬ F w2.heap.size:=fun hf => by have:=(HX.out.lt _ hf).2;have:=HBS.out;omega
    have l03:w3.cell? ⟨w2.heap.size,0,none⟩=some (.int .i64 x.1):=(ho3.cell (p:=⟨w2.heap.size,0,none⟩) HL2.out hFl).trans HL0.out
    have l13:w3.cell? ⟨w2.heap.size,1,none⟩=some (.int .i64 x.2.1):=(ho3.cell (p:=⟨w2.heap.size,1,none⟩) HL2.out hFl).trans HL1.out
    obtain ⟨fn,tmps,assign,body,hy,hR⟩:=HST.out (x.1,x.2.1) w3 hstep
    have HR:=zh hR
    clear hx3 ho3 hn3 hstep hFl hR hwb cEb cE3 cN3 c13 hrun
    gi_wp2
    refine ⟨fun _ => by omega,HR.out.mono ?_⟩
    rintro e W3 (⟨rfl,hJ3⟩ | ⟨rfl,hJx3⟩)
    ·gi_wp2
     gi_roundg (M+1-(pre ++ [(x.1,x.2.1)]).length)
     case rel => exact ⟨_,rfl,hJ3⟩
     case measure => have:=HLEN.out;simp;omega
    ·gi_wp2
     refine bodyPost_ret (results_none rfl _ _ _) rfl ?_
     exact ⟨⟨_,rfl⟩,.inr ⟨_,hJx3⟩⟩
end Ex
end
section
open Go.RowKit Go.Maps Go.Shelf
namespace Fr
open Vw (Sess)
open Ex (Ent wo ExpAt)
attribute [local go_sem] Oper.semAt_some
section
variable {lo:Nat} {P:Pa} {st st1 st2:FS} {nw c d:Nat} {Fe:Nat->Prop} {w w' w'':World}
theorem ForAt.exps {F':Nat->Prop} {S':List Ent} (h:ForAt lo P st nw Fe w) (h1:ExpAt lo P.E nw S' F' w') (h2:Only Fe w w') (h3:∀ k,F' k->Fe k\/w.heap.size<=k):ForAt lo P { st with exp:=S' } nw F' w':=by
 have hF:∀ k,(k=P.f\/k=P.a\/k=P.t\/k=P.g)->¬ Fe k/\k<w.heap.size:=fun k hk => by
  rcases hk with rfl | rfl | rfl | rfl
  ·exact ⟨h.nf.1,(h.lt (.inl rfl)).2⟩
  ·exact ⟨h.nf.2.1,(h.lt (.inr (.inl rfl))).2⟩
  ·exact ⟨h.nf.2.2.1,(h.lt (.inr (.inr (.inl rfl)))).2⟩
  ·exact ⟨h.nf.2.2.2,(h.lt (.inr (.inr (.inr (.inl rfl))))).2⟩
 have hk:∀ k,(k=P.f\/k=P.a\/k=P.t\/k=P.g)->w'.heap[k]? = w.heap[k]?:=fun k hk => h2.block k (hF k hk).2 (hF k hk).1
 have hn:∀ k,(k=P.f\/k=P.a\/k=P.t\/k=P.g)->¬ F' k:=fun k hk hf => by
  rcases h3 k hf with h4 | h4
  ·exact (hF k hk).1 h4
  ·have:=(hF k hk).2;omega
 exact ⟨(hk _ (.inl rfl)).trans h.row,h.ar.keep (hk _ (.inr (.inl rfl))),h.tr.keep (hk _ (.inr (.inr (.inl rfl)))),(hk _ (.inr (.inr (.inr rfl)))).trans h.gb,h1,h.ne,⟨hn _ (.inl rfl),hn _ (.inr (.inl rfl)),hn _ (.inr (.inr (.inl rfl))),hn _ (.inr (.inr (.inr rfl)))⟩,h.lo4,Nat.le_trans h.los h2.size⟩
def TkAt (lo:Nat) (P:Pa) (nw c:Nat) (Fe:Nat->Prop) (W5:World) (now:Int) (s:FS) (A:World):Prop :=
 s.clock=now/\FoTo lo P s c nw Fe W5 A
theorem Fo.new {F':Nat->Prop} {W5:World} (h:∀ k,F' k->Fe k\/W5.heap.size<=k) {b:Nat} (hb:¬ Fo P Fe b) (hl:b<W5.heap.size):¬ Fo P F' b:=fun hf => by
 rcases hf with hf | hf | hf | hf | hf
 ·exact hb (.inl hf)
 ·exact hb (.inr (.inl hf))
 ·exact hb (.inr (.inr (.inl hf)))
 ·exact hb (.inr (.inr (.inr (.inl hf))))
 ·rcases h b hf with h1 | h1
  ·exact hb (.inr (.inr (.inr (.inr h1))))
  ·omega
theorem ForAt.own {row:Option Nat} (h:ForAt lo P st nw Fe w) (hg:w.grownBy w' row) (hr:∀ r,row=some r->¬ Fo P Fe r):ForAt lo P st nw Fe w' :=
 h.only (G:=fun k => row=some k) (((Only.refl (fun k => row=some k) w).grown hg (fun k _ e => e))) (fun k hk e => hr k e hk)
theorem ForAt.nocell {B r:Nat} {o:Obj} (h:ForAt lo P st nw Fe w) (hB:P.f<B/\P.a<B/\P.t<B/\P.g<B/\P.E<B) (hr:B<=r) (ho:w.heap[r]? = some o) (hc:o.isCells=false):¬ Fo P Fe r:=fun hf => by
 rcases hf with hf | hf | hf | hf | hf
 ·omega
 ·omega
 ·omega
 ·omega
 ·obtain ⟨o2,h1,h2⟩:=h.ex.isCells hf (by omega)
  rw [ho] at h1;cases h1;rw [hc] at h2;cases h2
theorem FoTo.own {B:Nat} {row:Option Nat} (h:FoTo lo P st1 c nw Fe w w') (hB:P.f<B/\P.a<B/\P.t<B/\P.g<B/\P.E<B) (hw:w.heap.size<=B) (hg:w'.grownBy w'' row) (hr:∀ r,row=some r->B<=r/\∃ o:Obj,w'.heap[r]? = some o/\o.isCells=false):FoTo lo P st1 c nw Fe w w'':=by
 obtain ⟨n1,F1,h1,h2,h3,h4,h5⟩:=h
 refine ⟨n1,F1,h1,h2,h3.own hg (fun r e => ?_),h4.grown hg (fun k hk e => ?_),h5⟩
 ·obtain ⟨k1,o,k2,k3⟩:=hr r e
  exact h3.nocell hB k1 k2 k3
 ·have:=(hr k e).1;omega
theorem keeps_fo {B:Nat} (h:ForAt lo P st nw Fe w) (hB:P.f<B/\P.a<B/\P.t<B/\P.g<B/\P.E<B) (ho:Only (Fo P Fe) w w'):KeepsFrom B w w' :=
 ⟨ho.size,fun k o hk h1 h2 => (ho.block k (zx h1) (h.nocell hB hk h1 h2)).trans h1⟩
theorem dueN_cons {n:Nat} {s s2:FS} (h:dueN (n+1) s=some s2) {e:Ent} {r:List Ent} (he:s.exp=e :: r) (hd:e.2.2<=s.clock):∃ s1 no,revokeF { s with exp:=wo s.exp e.1 } e.1 e.2.1=some (s1,no)/\dueN n s1=some s2:=by
 unfold dueN at h
 rw [he] at h
 simp only at h
 rw [if_neg (by omega),<- he] at h
 obtain ⟨⟨s1,no⟩,h1,h2⟩:=Option.bind_eq_some_iff.1 h
 exact ⟨s1,no,h1,h2⟩
theorem dueN_done {n:Nat} {s s2:FS} (h:dueN n s=some s2) (hd:s.exp=[]\/∃ e r,s.exp=e :: r/\s.clock<e.2.2):s=s2:=by
 cases n with
 | zero => exact Option.some.inj h
 | succ n =>
  unfold dueN at h
  rcases hd with he | ⟨e,r,he,hl⟩
  ·rw [he] at h;exact Option.some.inj h
  ·rw [he] at h
   simp only at h
   rw [if_pos hl] at h
   exact Option.some.inj h
theorem endF_clock {i:Int} (h:endF st i=some st1):st1.clock=st.clock:=by
 unfold endF at h
 obtain ⟨s1,h1,h2⟩:=Option.bind_eq_some_iff.1 h
 have e1:s1.clock=st.clock:=by
  unfold cutF at h1
  simp only at h1
  split at h1
  ·cases h1;exact (turn_keep _ _ _ _).2
  ·cases h1
 unfold addG at h2
 split at h2
 ·cases h2;exact e1
 ·cases h2
theorem revokeF_clock {us ub no:Int} (h:revokeF st us ub=some (st1,no)):st1.clock=st.clock:=by
 unfold revokeF at h
 split at h
 ·obtain ⟨s1,h1,h2⟩:=Option.map_eq_some_iff.1 h
  cases h2
  exact endF_clock h1
 ·cases h;rfl
theorem endF_expw {i:Int} (h:endF st i=some st1):st1.exp=wo st.exp i:=by
 unfold endF at h
 obtain ⟨s1,h1,h2⟩:=Option.bind_eq_some_iff.1 h
 have e1:s1.exp=st.exp:=by
  unfold cutF at h1
  simp only at h1
  split at h1
  ·cases h1;rw [turn_eq]
  ·cases h1
 unfold addG at h2
 split at h2
 ·cases h2;show wo s1.exp i=_;rw [e1]
 ·cases h2
theorem revokeF_exp {us ub no:Int} (h:revokeF st us ub=some (st1,no)):st1.exp.length<=st.exp.length:=by
 unfold revokeF at h
 split at h
 ·obtain ⟨s1,h1,h2⟩:=Option.map_eq_some_iff.1 h
  cases h2
  rw [endF_expw h1]
  unfold Ex.wo
  exact List.length_filter_le _ _
 ·cases h;exact Nat.le_refl _
theorem wo_less {l r:List Ent} {e:Ent} (h:l=e :: r):(wo l e.1).length+1<=l.length:=by
 rw [h]
 unfold Ex.wo
 rw [List.filter_cons_of_neg (by simp),List.length_cons]
 exact Nat.succ_le_succ (List.length_filter_le _ _)
def TkU (lo:Nat) (P:Pa) (nw:Nat) (Fe:Nat->Prop) (W5:World) (now:Int) (K:Nat) (s2:FS) (pre:List Hp.It) (A:World):Prop :=
 ∃ s,pre.length<=K/\s.exp.length<=K-pre.length/\dueN (K-pre.length) s=some s2/\TkAt lo P nw (8 * pre.length) Fe W5 now s A
def TkM (lo:Nat) (P:Pa) (nw:Nat) (Fe:Nat->Prop) (W5:World) (now:Int) (K:Nat) (s2:FS) (p:List Hp.It × Hp.It) (A:World):Prop :=
 ∃ s s1 no,p.1.length<K/\s.exp.length+1<=K-p.1.length/\revokeF s p.2.1 p.2.2=some (s1,no)/\dueN (K-p.1.length-1) s1=some s2/\TkAt lo P nw (8 * p.1.length) Fe W5 now s A
def TkM2 (lo:Nat) (P:Pa) (nw:Nat) (Fe:Nat->Prop) (W5:World) (now:Int) (K:Nat) (s2:FS) (p:List Hp.It × Hp.It × Nat) (A:World):Prop :=
 (∃ s s1 no n' F',p.1.length<K/\s.exp.length+1<=K-p.1.length/\revokeF s p.2.1.1 p.2.1.2=some (s1,no)/\dueN (K-p.1.length-1) s1=some s2/\s.clock=now/\nw<=n'/\n'<=nw+8 * p.1.length/\ForAt lo P s n' F' A/\Only (Fo P Fe) W5 A/\(∀ k,F' k->Fe k\/W5.heap.size<=k)/\¬ Fo P F' p.2.2) /\
  A.heap[p.2.2]? = some (.cells #[.int .i64 p.2.1.1,.int .i64 p.2.1.2] 26 (0,0))/\W5.heap.size<=p.2.2
theorem ftick_no (h:ForAt lo P st nw Fe w) (n:Int) (hn:aft st.clock n=false) :
  Calls Tryz.prog 25 #[.pointer (some ⟨P.f,0,none⟩),.int .i64 n] w fun e w' => e = .returned (erV 12)/\Below w.heap.size w w':=by
 have hb:Below w.heap.size w (w.alloc (.cells #[.pointer (some ⟨P.f,0,none⟩)] 35)):=(Below.refl _ _).alloc (Nat.le_refl _) _
 have c0:=(h.below hb).nums.1
 have HAF:=zh (fun w => after_no st.clock n hn w)
 have HB:=zh hb
 clear h hn hb
 go_enter Tryz.func25,Tryz.ntmps25
 go_wp2_with (go_at_call 67;(with_reducible refine (HAF.out _).mono ?_);rintro e w' ⟨rfl,rfl⟩)
 go_ret
 exact ⟨rfl,HB.out⟩
theorem ftick_yes (h:ForAt lo P st nw Fe w) (hw:nw+8 * 32<=4611686018427387904) (hl:st.exp.length<=32) (n:Int) (hn:aft st.clock n=true) (hc:dueN st.exp.length { st with clock:=st.clock+n }=some st2) :
  Calls Tryz.prog 25 #[.pointer (some ⟨P.f,0,none⟩),.int .i64 n] w fun e w' => e = .returned .nilIface/\FoTo lo P st2 (8 * 32) nw Fe w w':=by
 obtain ⟨K,hK⟩:∃ K,K=st.exp.length:=⟨_,rfl⟩
 obtain ⟨now,hnow⟩:∃ now,now=st.clock+n:=⟨_,rfl⟩
 obtain ⟨W1,hW1⟩:∃ W1,W1=w.alloc (.cells #[.pointer (some ⟨P.f,0,none⟩)] 35):=⟨_,rfl⟩
 have hb1:Below w.heap.size w W1:=by rw [hW1];exact (Below.refl _ _).alloc (Nat.le_refl _) _
 have hx1:Boxed W1 w.heap.size 35 (.pointer (some ⟨P.f,0,none⟩)):=by rw [hW1];exact Boxed.new _ _ _
 have hf1:=h.below hb1
 have hf2:=hf1.setClock now
 obtain ⟨W2,hW2⟩:∃ W2,W2=W1.setCell ⟨P.f,0,none⟩ (.int .i64 now):=⟨_,rfl⟩
 rw [<- hW2] at hf2
 have hpf:P.f<w.heap.size:=(h.lt (.inl rfl)).2
 have ho2:Only (Fo P Fe) W1 W2:=by rw [hW2];exact (Only.refl (Fo P Fe) W1).setCell (p:=⟨P.f,0,none⟩) (fun _ => .inl rfl) _
 have hnb:¬ Fo P Fe w.heap.size:=fun hf => by have:=(h.lt hf).2;omega
 have hx2:Boxed W2 w.heap.size 35 (.pointer (some ⟨P.f,0,none⟩)):=(ho2.block _ hx1.lt hnb).trans hx1
 have c0:=hf1.nums.1
 have f0:=hf1.free 0
 have b0:=hx1.cell
 have b1:=hx2.cell
 have c5:=hf2.ptrs.2.2.2
 have hs1:W1.heap.size=w.heap.size+1:=by rw [hW1,World.size_alloc]
 have hs2:W2.heap.size=w.heap.size+1:=by rw [hW2,<- hs1];simp [World.setCell]
 obtain ⟨W5,hW5⟩:∃ W5,W5=(W2.alloc (.cells #[.pointer (some ⟨P.E,0,none⟩)] 105)).alloc (.cells #[.int .i64 now] 3):=⟨_,rfl⟩
 have hb5:Below W2.heap.size W2 W5:=by rw [hW5];exact ((Below.refl _ _).alloc (Nat.le_refl _) _).alloc (by simp) _
 have hf5:=hf2.below hb5
 have hs5:W5.heap.size=w.heap.size+3:=by rw [hW5,World.size_alloc,World.size_alloc,hs2]
 have hE5:Boxed W5 (w.heap.size+1) 105 (.pointer (some ⟨P.E,0,none⟩)):=by rw [hW5,<- hs2];exact (Boxed.new _ _ _).alloc _
 have hN5:Boxed W5 (w.heap.size+2) 3 (.int .i64 now):=by
  have:=Boxed.new (W2.alloc (.cells #[.pointer (some ⟨P.E,0,none⟩)] 105)) 3 (.int .i64 now)
  rw [World.size_alloc,hs2] at this
  rw [hW5];exact this
 have hx5:Boxed W5 w.heap.size 35 (.pointer (some ⟨P.f,0,none⟩)):=(hb5.block _ hx2.lt).trans hx2
 have hlo:∀ k,Fo P Fe k->k<w.heap.size:=fun k hk => (h.lt hk).2
 have HPL:Hid (P.f<W5.heap.size/\P.a<W5.heap.size/\P.t<W5.heap.size/\P.g<W5.heap.size/\P.E<W5.heap.size):=by
  have e1:=hlo P.f (.inl rfl);have e2:=hlo P.a (.inr (.inl rfl));have e3:=hlo P.t (.inr (.inr (.inl rfl)));have e4:=hlo P.g (.inr (.inr (.inr (.inl rfl))))
  have e5:P.E<w.heap.size:=by
   obtain ⟨H,bm,m,D,L,Fh,k1,-⟩:=h.ex
   exact (zx k1)
  show _/\_
  omega
 have hT0:TkAt lo P nw 0 Fe W5 now { st with clock:=now } W5:=⟨rfl,hf5.mono⟩
 have HT0:=zh hT0;have HL:=zh hl;have HW:=zh hw
 have HC:Hid (dueN K { st with clock:=now }=some st2):=by show _=_;rw [hK,hnow];exact hc
 have HX5:=zh hx5;have HE5:=zh hE5;have HN5:=zh hN5;have HS5:=zh hs5
 have HKL:Hid (K<=32/\({ st with clock:=now }:FS).exp.length=K):=by show _/\_;rw [hK];exact ⟨hl,rfl⟩
 have HNB:Hid (∀ b,w.heap.size<=b->¬ Fo P Fe b):=fun b hb hf => by have:=hlo b hf;omega
 have HFIN:Hid (∀ A c,FoTo lo P st2 c nw Fe W5 A->c<=8 * 32->FoTo lo P st2 (8 * 32) nw Fe w A):=fun A c hh hcc => by
  obtain ⟨n1,F1,p1,p2,p3,p4,p5⟩:=hh
  refine ⟨n1,F1,p1,by omega,p3,?_,fun k hk => (p5 k hk).imp id (fun h => by have:=hs5;omega)⟩
  have o1:Only (Fo P Fe) w W5:=((Only.of_below (F:=Fo P Fe) hb1).trans ho2 (fun _ _ h => h)).trans (Only.of_below (F:=Fo P Fe) hb5) (fun _ _ h => h)
  exact o1.trans p4 (fun _ _ h => h)
 have HAF:=zh (fun w => after_yes st.clock n hn w)
 have HDU:=zh (Ex.edue_any P.E now W2)
 have HW1:=zh hW1;have HW2:=zh hW2;have HW5:=zh hW5;have HS2:=zh hs2
 rw [<- hnow] at HAF
 rw [hW1] at b0 c0 f0
 clear h hw hl hn hc hK hnow hW1 hb1 hx1 hf1 hf2 hW2 hpf ho2 hnb hx2 hs1 hs2 hW5 hb5 hf5 hs5 hE5 hN5 hx5 hlo hT0
 refine (callsIn_wide (n:=9)).1 ?_
 refine callsIn_of_wp_marks Tryz.func25 rfl trivial ?_ rfl
 simp only [Tryz.ntmps25,List.size_toArray,List.length_cons,List.length_nil,Nat.reduceAdd,Nat.reduceSub,Array.replicate_succ,Array.replicate_zero,List.push_toArray,List.append_toArray,List.nil_append,List.cons_append]
 refine wpIn_wide.2 ?_
 go_upto_region 5 with (go_at_call 67;(with_reducible refine (HAF.out _).mono ?_);rintro e w' ⟨rfl,rfl⟩)
 rw [<- HW1.out,<- HW2.out]
 clear b0 c0 f0
 go_wp2_with fail
 refine HDU.out.mono ?_
 rintro e w5 ⟨rfl,hw5⟩
 rw [<- HW5.out] at hw5
 rw [hw5,HS2.out]
 clear hw5 w5 b1 c5
 go_wp2_with fail
 refine (wpIn_wide (n:=9)).1 ?_
 refine Mu.range_mut_sl (F:=Fence.wide) (n:=9) rfl (by omega) (gf:=135) (lb:=#[.pointer (some ⟨w.heap.size+1,0,none⟩),.pointer (some ⟨w.heap.size+2,0,none⟩)]) rfl trivial (enters_of Tryz.func135 (by kernel_rfl) rfl)
  (Ex.due_seq 8 (by omega) lo P.E (w.heap.size+1) (w.heap.size+2) now K) (fun _ => rfl)
  (TkU lo P nw Fe W5 now K st2) (TkM lo P nw Fe W5 now K st2) (TkM2 lo P nw Fe W5 now K st2) (fun pre A => ∃ c,c<=8 * 32/\FoTo lo P st2 c nw Fe W5 A) (fun c pre A => False)
  ?hU ?hM ?hD (fun _ _ _ _ _ h _ _ => h) ?hstep ⟨_,Nat.zero_le _,by rw [HKL.out.2];exact Nat.le_refl _,HC.out,HT0.out⟩
  (fun T x b => (T.setIfInBounds 30 (.agg #[.int .i64 x.1,.int .i64 x.2])).setIfInBounds 7 (.pointer (some ⟨b,0,none⟩))) (fun x W => W.alloc (.cells #[.int .i64 x.1,.int .i64 x.2] 26)) ?hM1 ?assign ?body ?done (fun _ _ _ _ _ h _ => h.elim)
 case hU =>
  rintro pre A A' row ⟨s,h1,h2,h3,h4,h5⟩ hg hr
  exact ⟨s,h1,h2,h3,h4,h5.own HPL.out (Nat.le_refl _) hg hr⟩
 case hM =>
  rintro p A A' row ⟨⟨s,s1,no,n',F',h1,h2,h3,h4,h5,h6,h7,h8,h9,h10,h11⟩,h12,h13⟩ hg hr
  refine ⟨⟨s,s1,no,n',F',h1,h2,h3,h4,h5,h6,h7,h8.own hg (fun r e => ?_),h9.grown hg (fun k hk e => by have:=(hr k e).1;omega),h10,h11⟩,(hg.block _ (zx h12) (fun e => ?_)).trans h12,h13⟩
  ·obtain ⟨k1,o,k2,k3⟩:=hr r e
   exact h8.nocell HPL.out k1 k2 k3
  ·obtain ⟨k1,o,k2,k3⟩:=hr _ e.symm
   rw [h12] at k2;cases k2;cases k3
 case hD =>
  rintro pre A A' row ⟨c,h1,h2⟩ hg hr
  exact ⟨c,h1,h2.own HPL.out (Nat.le_refl _) hg hr⟩
 case hstep =>
  rintro pre A ⟨s,h1,h2,h3,h4,n1,F1,p1,p2,p3,p4,p5⟩ hsz
  have hnb:∀ b,w.heap.size<=b->b<W5.heap.size->¬ Fo P F1 b:=fun b hb hlt => Fo.new p5 (HNB.out b hb) hlt
  have hs5:=HS5.out
  have cE:A.cell? ⟨w.heap.size+1,0,none⟩=some (.pointer (some ⟨P.E,0,none⟩)):=Boxed.cell (t:=105) ((p4.block _ HE5.out.lt (HNB.out _ (by omega))).trans HE5.out)
  have cN:A.cell? ⟨w.heap.size+2,0,none⟩=some (.int .i64 now):=Boxed.cell (t:=3) ((p4.block _ HN5.out.lt (HNB.out _ (by omega))).trans HN5.out)
  refine ⟨(s.exp,F1,n1),⟨p3.ex,cE,cN,fun hf => hnb _ (by omega) (by omega) (.inr (.inr (.inr (.inr hf)))),fun hf => hnb _ (by omega) (by omega) (.inr (.inr (.inr (.inr hf)))),p3.los⟩,h1,?_,?_⟩
  ·rintro x B ⟨at_,r,e1,e2,F',q1,q2,q3⟩
   have hlen:s.exp.length=r.length+1:=by rw [show s.exp=_ from e1];rfl
   have hlt:pre.length<K:=by omega
   obtain ⟨m,hm⟩:∃ m,K-pre.length=m+1:=⟨K-pre.length-1,by omega⟩
   rw [hm] at h3
   obtain ⟨s1,no,g1,g2⟩:=dueN_cons h3 (show s.exp=_ from e1) (by rw [h4];exact e2)
   have hfB:=p3.exps q1 q2 q3
   have hoB:Only (Fo P F1) A B:=q2.mono (fun _ _ hk => .inr (.inr (.inr (.inr hk))))
   refine ⟨⟨{ s with exp:=wo s.exp x.1 },s1,no,hlt,?_,g1,by rw [hm];exact g2,h4,?_⟩,keeps_fo p3 HPL.out hoB⟩
   ·have:=wo_less (show s.exp=_ from e1)
    show (wo s.exp x.1).length+1<=_
    exact Nat.le_trans this h2
   ·have:=FoTo.after (d:=0) p1 p2 p4 p5 ⟨n1,F',Nat.le_refl _,Nat.le_refl _,hfB,hoB,q3⟩
    exact this
  ·rintro B ⟨q1,q2⟩
   have e:=dueN_done h3 (q1.imp id (fun ⟨e,r,k1,k2⟩ => ⟨e,r,k1,by rw [h4];exact k2⟩))
   subst e
   exact ⟨⟨8 * pre.length,by have:=HKL.out.1;omega,FoTo.below ⟨n1,F1,p1,p2,p3,p4,p5⟩ q2⟩,⟨q2.size,fun k o hk h1 h2 => (q2.block k (zx h1)).trans h1⟩⟩
 case hM1 =>
  rintro pre x W ⟨s,s1,no,h1,h2,h3,h4,h5,n1,F1,p1,p2,p3,p4,p5⟩
  have hb:Below W.heap.size W (W.alloc (.cells #[.int .i64 x.1,.int .i64 x.2] 26)):=(Below.refl _ _).alloc (Nat.le_refl _) _
  exact ⟨⟨⟨s,s1,no,n1,F1,h1,h2,h3,h4,h5,p1,p2,p3.below hb,p4.alloc _,p5,p3.block (Nat.le_refl _)⟩,World.alloc_heap_new _ _,p4.size⟩,⟨hb.size,fun k o hk h1 h2 => (hb.block k (zx h1)).trans h1⟩⟩
 case assign =>
  intro l2 x A K2 hK
  gi_wp2
  exact hK
 case body =>
  rintro l2 pre x b A ⟨⟨s,s1,no,n1,F1,h1,h2,h3,h4,h5,p1,p2,p3,p4,p5,p6⟩,h12,h13⟩
  simp only at h1 h2 h3 h4 p2 p6 h12 h13
  have hs5:=HS5.out
  have cF:A.cell? ⟨w.heap.size,0,none⟩=some (.pointer (some ⟨P.f,0,none⟩)):=Boxed.cell (t:=35) ((p4.block _ HX5.out.lt (HNB.out _ (Nat.le_refl _))).trans HX5.out)
  have l0:A.cell? ⟨b,0,none⟩=some (.int .i64 x.1):=zl h12 rfl
  have l1:A.cell? ⟨b,1,none⟩=some (.int .i64 x.2):=zl h12 rfl
  have HREV:=zh (frevoke p3 (by have:=HW.out;have:=HKL.out.1;omega) x.1 x.2 no h3)
  have HE:Hid (∀ A',FoTo lo P s1 8 n1 F1 A A'->KeepsFrom W5.heap.size A A'/\TkU lo P nw Fe W5 now K st2 (pre ++ [x]) A'):=fun A' hh => by
   obtain ⟨n2,F2,k1,k2,k3,k4,k5⟩:=hh
   refine ⟨keeps_fo p3 HPL.out k4,s1,by rw [List.length_append];exact h1,?_,?_,by rw [revokeF_clock h3];exact h5,?_⟩
   ·rw [List.length_append,List.length_singleton]
    have:=revokeF_exp h3
    omega
   ·rw [List.length_append,List.length_singleton,show K-(pre.length+1)=K-pre.length-1 by omega];exact h4
   ·have:=FoTo.after p1 p2 p4 p5 ⟨n2,F2,k1,k2,k3,k4,k5⟩
    rw [List.length_append,List.length_singleton,show 8 * (pre.length+1)=8 * pre.length+8 by omega];exact this
  clear h1 h2 h3 h4 h5 p1 p2 p3 p4 p5 p6 h12 h13 hs5
  by_cases hz:no=0
  ·have hev:erV no = .nilIface:=by rw [hz];rfl
   rw [hev] at HREV
   clear hz hev
   gi_wp2_with fail
   refine ⟨trivial,(CallsIn.inRound _ (callsIn_wide.2 HREV.out)).mono ?_⟩
   rintro e w6 ⟨rfl,h6⟩
   have HE6:=zh (HE.out w6 h6)
   clear h6 l0 l1 cF
   gi_wp2
   exact HE6.out
  ·have hev:erV no = .iface 101 (.int .i64 no):=if_neg hz
   rw [hev] at HREV
   clear hz hev
   gi_wp2_with fail
   refine ⟨trivial,(CallsIn.inRound _ (callsIn_wide.2 HREV.out)).mono ?_⟩
   rintro e w6 ⟨rfl,h6⟩
   have HE6:=zh (HE.out w6 h6)
   clear h6 l0 l1 cF
   gi_wp2
   exact HE6.out
 case done =>
  rintro D2 xs A hD ⟨c,h1,h2⟩ hK
  have HK:=zh hK
  have h3:=h2.own (w'':=A.putObj D2 (.deferred none)) HPL.out (Nat.le_refl _) (grownBy_putObj' A D2 (.deferred none)) (fun r e => by cases e;exact ⟨hD,_,hK,rfl⟩)
  have HE:=zh (HFIN.out _ c h3 h1)
  clear hK h1 h2 h3
  gi_wp2
  go_wp2_with fail
  refine ⟨by simp,.inl ⟨_,_,rfl,run_takeDeferred (show _=_ from HK.out),?_⟩⟩
  exact ⟨_,results_tmp rfl _ _ _,rfl,HE.out⟩
theorem ftick (h:ForAt lo P st nw Fe w) (hw:nw+8 * 32<=4611686018427387904) (n no:Int) (hc:tickF st n=some (st2,no)) :
  Calls Tryz.prog 25 #[.pointer (some ⟨P.f,0,none⟩),.int .i64 n] w fun e w' => e = .returned (erV no)/\FoTo lo P st2 (8 * 32) nw Fe w w':=by
 unfold tickF at hc
 have haf:aft st.clock n=true↔¬ (tm st.clock=false\/n<0\/1073741824<n\/tm (st.clock+n)=false):=by
  unfold aft
  cases tm st.clock <;> cases tm (st.clock+n) <;> simp <;> omega
 split at hc
 ·rename_i hcc
  cases hc
  have hn:aft st.clock n=false:=by
   cases ha:aft st.clock n with
   | false => rfl
   | true => exact absurd hcc (haf.1 ha)
  refine (ftick_no h n hn).mono ?_
  rintro e w' ⟨rfl,hb⟩
  exact ⟨rfl,FoTo.of_below h hb⟩
 ·rename_i hcc
  obtain ⟨s1,h1,h2⟩:=Option.map_eq_some_iff.1 hc
  have e1:s1=st2:=(Prod.mk.inj h2).1
  have e2:no=0:=(Prod.mk.inj h2).2.symm
  subst e1 e2
  exact ftick_yes h hw h.ex.inv.len n (haf.2 hcc) h1
end
end Fr
end
section
namespace Fr
open Vw (Sess)
structure Kn where
 slot:Int
 birth:Int
 up:Int
 til:Int
 ended:Bool
def kn0:Kn:=⟨0,0,0,0,false⟩
def kat (l:List Kn) (i:Int):Kn:=l.getD i.toNat kn0
def liveN (l:List Kn) (now:Int):Nat->Int->Bool
 | 0,_ => false
 | n+1,i => if (kat l i).ended=true\/(kat l i).til<=now then false else if (kat l i).up<0 then true else liveN l now n (kat l i).up
def liveK (l:List Kn) (i now:Int):Bool:=liveN l now (l.length+1) i
def UpK (l:List Kn):Prop:=∀ i:Nat,i<l.length->(kat l i).up<i/\(kat l i).birth=i+1
theorem kat_lt {l:List Kn} {i:Nat} (h:i<l.length):kat l i=l[i]:=by
 unfold kat
 rw [Int.toNat_natCast,List.getD_eq_getElem?_getD,List.getElem?_eq_getElem h];rfl
theorem liveN_more {l:List Kn} (hu:UpK l) (now:Int):∀ (n m i:Nat),i<n->i<m->i<l.length->liveN l now n i=liveN l now m i
 | 0,_,_,h,_,_ => by omega
 | _,0,_,_,h,_ => by omega
 | n+1,m+1,i,h1,h2,h3 => by
  unfold liveN
  by_cases hc:(kat l i).ended=true\/(kat l i).til<=now
  ·rw [if_pos hc,if_pos hc]
  ·rw [if_neg hc,if_neg hc]
   by_cases hp:(kat l i).up<0
   ·rw [if_pos hp,if_pos hp]
   ·rw [if_neg hp,if_neg hp]
    have h4:=(hu i h3).1
    have e:(kat l i).up=((kat l i).up.toNat:Int):=by omega
    rw [e]
    exact liveN_more hu now n m _ (by omega) (by omega) (by omega)
theorem liveK_eq {l:List Kn} (hu:UpK l) {i:Nat} (h:i<l.length) (now:Int) :
  liveK l i now=if (kat l i).ended=true\/(kat l i).til<=now then false else if (kat l i).up<0 then true else liveK l (kat l i).up now:=by
 have h1:liveK l i now=liveN l now (l.length+1) i:=rfl
 rw [h1]
 unfold liveN
 by_cases hc:(kat l i).ended=true\/(kat l i).til<=now
 ·rw [if_pos hc,if_pos hc]
 ·rw [if_neg hc,if_neg hc]
  by_cases hp:(kat l i).up<0
  ·rw [if_pos hp,if_pos hp]
  ·rw [if_neg hp,if_neg hp]
   have h4:=(hu i h).1
   have e:(kat l i).up=((kat l i).up.toNat:Int):=by omega
   rw [e]
   exact liveN_more hu now _ _ _ (by omega) (by omega) (by omega)
structure LinkK (s:Sess) (k:Kn):Prop where
 birth:s.birth=k.birth
 slot:s.slot=k.slot
 til:s.dl=k.til
 top:k.up<0->s.ub=0
 up:0<=k.up->s.ub=k.up+1
structure SeenK (st:FS) (A:List Sess) (l:List Kn):Prop where
 is:Is st A
 bir:st.births=l.length
 ups:UpK l
 from_:∀ s ∈ A,∃ i:Nat,i<l.length/\liveK l i st.clock=true/\LinkK s (kat l i)
 to_:∀ i:Nat,i<l.length->liveK l i st.clock=true->∃ s ∈ A,LinkK s (kat l i)
theorem kat_app {l:List Kn} {k:Kn} {i:Nat} (h:i<l.length):kat (l ++ [k]) i=kat l i:=by
 rw [kat_lt h,kat_lt (by simp;omega),List.getElem_append_left h]
theorem kat_last {l:List Kn} {k:Kn}:kat (l ++ [k]) l.length=k:=by
 rw [kat_lt (by simp)];simp
theorem UpK.app {l:List Kn} {k:Kn} (h:UpK l) (h1:k.up<l.length) (h2:k.birth=l.length+1):UpK (l ++ [k]):=by
 intro i hi
 rw [List.length_append,List.length_singleton] at hi
 by_cases h3:i<l.length
 ·rw [kat_app h3];exact h i h3
 ·have e:i=l.length:=by omega
  subst e
  rw [kat_last];exact ⟨h1,h2⟩
theorem liveK_app {l:List Kn} {k:Kn} (h:UpK l) (h1:k.up<l.length) (h2:k.birth=l.length+1) (now:Int):∀ (n i:Nat),i<=n->i<l.length->liveK (l ++ [k]) i now=liveK l i now:=by
 intro n
 induction n with
 | zero =>
  intro i hn hi
  rw [liveK_eq h hi,liveK_eq (h.app h1 h2) (by simp;omega),kat_app hi]
  have:=(h i hi).1
  split
  ·rfl
  ·rw [if_pos (by omega),if_pos (by omega)]
 | succ n ih =>
  intro i hn hi
  rw [liveK_eq h hi,liveK_eq (h.app h1 h2) (by simp;omega),kat_app hi]
  have h4:=(h i hi).1
  split
  ·rfl
  ·by_cases hp:(kat l i).up<0
   ·rw [if_pos hp,if_pos hp]
   ·rw [if_neg hp,if_neg hp]
    have e:(kat l i).up=((kat l i).up.toNat:Int):=by omega
    rw [e]
    exact ih _ (by omega) (by omega)
theorem SeenK.born {st st':FS} {A:List Sess} {l:List Kn} (h:SeenK st A l) {s:Sess} {k:Kn} (hi:Is st' (A ++ [s])) (hc:st'.clock=st.clock) (hb:st'.births=st.births+1) (hl:LinkK s k) (hk:k.birth=l.length+1)
  (he:k.ended=false) (ht:st.clock<k.til) (hu:k.up<0\/∃ j:Nat,k.up=j/\j<l.length/\liveK l j st.clock=true):SeenK st' (A ++ [s]) (l ++ [k]):=by
 have hup:k.up<l.length:=by
  rcases hu with hu | ⟨j,h1,h2,_⟩ <;> omega
 have hU:=h.ups.app hup hk
 have hnew:liveK (l ++ [k]) l.length st.clock=true:=by
  rw [liveK_eq hU (by simp),kat_last,if_neg (by rw [he];simp;omega)]
  rcases hu with hu | ⟨j,h1,h2,h3⟩
  ·rw [if_pos hu]
  ·rw [if_neg (by omega),h1,liveK_app h.ups hup hk st.clock j j (Nat.le_refl _) h2];exact h3
 refine ⟨hi,by rw [hb,h.bir];simp,hU,fun x hx => ?_,fun i hi2 hl2 => ?_⟩
 ·rw [hc]
  rcases List.mem_append.1 hx with hx | hx
  ·obtain ⟨i,i1,i2,i3⟩:=h.from_ x hx
   exact ⟨i,by simp;omega,by rw [liveK_app h.ups hup hk st.clock i i (Nat.le_refl _) i1];exact i2,by rw [kat_app i1];exact i3⟩
  ·rw [List.mem_singleton] at hx
   subst hx
   exact ⟨l.length,by simp,hnew,by rw [kat_last];exact hl⟩
 ·rw [hc] at hl2
  rw [List.length_append,List.length_singleton] at hi2
  by_cases h3:i<l.length
  ·rw [liveK_app h.ups hup hk st.clock i i (Nat.le_refl _) h3] at hl2
   obtain ⟨x,hx,kx⟩:=h.to_ i h3 hl2
   exact ⟨x,by simp [hx],by rw [kat_app h3];exact kx⟩
  ·have e:i=l.length:=by omega
   subst e
   exact ⟨s,by simp,by rw [kat_last];exact hl⟩
theorem seen_new:SeenK newF [] []:=⟨is_new,rfl,fun i hi => absurd hi (by simp),fun s hs => (by cases hs),fun i hi => absurd hi (by simp)⟩
end Fr
end
end Go.Proofs.YtimhglmfckfclaaGreatDoor
