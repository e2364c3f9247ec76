/- Several texts in one: what each proves its own first comment says. -/
import Derived.Test.YtimhglmfckfclaaGreatQr
import Derived.Test.YtimhglmfckfclaaGreatM38
import Derived.Test.YtimhglmfckfclaaGreatM1
import Derived.Test.YtimhglmfckfclaaGreatM6
import Derived.Test.YtimhglmfckfclaaGreatM39
set_option linter.unusedVariables false
set_option linter.unusedSimpArgs false
namespace Go.Proofs.YtimhglmfckfclaaGreat
open Go.RowKit Go.Maps Go.Shelf
namespace Fr
open Vw (Sess)
open Ex (Ent wo ExpAt)
attribute [local go_sem] Oper.semAt_some
theorem finfo_known:(Tryz.prog.info? 31).map (fun i => (i.zero,i.size,i.bytes))=some (some (.agg #[.int .i64 0,.int .i64 0,.int .i64 0,.int .i64 0,.bool false]),5,40):=by kernel_rfl
theorem LawAt.cell {w0:World} {lo:Nat} {P:Pa} {st:FS} {nw:Nat} {F:Nat→Prop} {v:Value} {l:List Kn} {xs:List Vr} {W:World} (h:LawAt w0 lo P st nw F v l xs W) {b:Nat} {cs:Array Value} {t:TypeId} (hx:(b,cs,t) ∈ xs) (k:Nat):W.cell? ⟨b,k,none⟩=cs[k]?:=cell_of_row _ _ _ _ _ _ (h.vrs _ hx).1
theorem name_le {l:List UInt8} (h:nameB l=true):l.length≤32:=by
 unfold nameB at h
 rw [Bool.and_eq_true] at h
 exact (of_decide_eq_true h.1).2
theorem may_size {s:Sess} (h:mayS s=true):s.user.size≤32∧s.label.size≤32:=by
 have hm:=mayS_iff.1 h
 refine ⟨by have:=name_le hm.2.2.1;rwa [← Lib.size_eq] at this,?_⟩
 rcases hm.2.2.2.2.2.2 with h1 | h1
 ·have:s.label.size=0:=by simp_all
  omega
 ·have h2:nameB s.label.data.toList=true:=by simp_all
  have:=name_le h2;rwa [← Lib.size_eq] at this
theorem plan_call {lo:Nat} {P:Pa} {st:FS} {kind us ub no:Int} {s:Sess} (hp:planF st kind us ub (askR 1 100)=some (st,s,no)) (nw:Nat) (F:Nat→Prop) (W:World) (hn:nw≤1099511620000) (h:ForAt lo P st nw F W) :
  Calls Tryz.prog 8 #[.pointer (some ⟨P.f,0,none⟩),.int .i64 kind,.agg #[.int .i64 us,.int .i64 ub],.agg #[.string ⟨#[97,110,110]⟩,.string ⟨#[116,118]⟩,.int .u64 7,.int .i64 1,.int .i64 100]] W fun e w' => e = .returned (.tuple #[.agg s.cells.toArray,erV no])∧FoTo lo P st 8 nw F W w' :=
 fplan h (by omega) kind us ub (askR 1 100) (by decide) (by decide) s no hp
theorem born_call {lo:Nat} {P:Pa} {st st2:FS} {A:List Sess} {s:Sess} (hI:IsN st A) (hc:bornF st s=some (st2,0)) (h7:s.scopes=7) (nw:Nat) (F:Nat→Prop) (W:World) (hn:nw≤1099511620000) (h:ForAt lo P st nw F W) :
  Calls Tryz.prog 11 #[.pointer (some ⟨P.f,0,none⟩),.agg s.cells.toArray] W fun e w' => e = .returned .nilIface∧FoTo lo P st2 6 nw F W w':=by
 have hm:mayS s=true:=by
  cases hq:mayS s with
  | true => rfl
  | false =>
   unfold bornF at hc
   rw [if_pos (.inl hq)] at hc
   have:=congrArg (fun x => x.map Prod.snd) hc
   simp at this
 obtain ⟨hu,hl⟩:=may_size hm
 exact fborn h hI.deep hI.tm.2 (by omega) s (by omega) (by omega) (by rw [h7];decide) 0 hc
theorem dump_free (c b g r:Int) (v1 v2:Value) (w:World):(Instr.field 47 (.agg #[.int .i64 c,.int .i64 b,v1,v2,.int .i64 g,.int .i64 r]) 3).run Tryz.prog w = .ok v2 w:=by kernel_rfl
theorem dump_garb (c b g r:Int) (v1 v2:Value) (w:World):(Instr.field 47 (.agg #[.int .i64 c,.int .i64 b,v1,v2,.int .i64 g,.int .i64 r]) 4).run Tryz.prog w = .ok (.int .i64 g) w:=by kernel_rfl
theorem swb {n m i:Nat} (h:n≤2000+524288 * i) (h2:m≤n+8 * 65536):m≤2000+524288 * (i+1):=by
 rw [Nat.mul_add,Nat.mul_one]
 generalize 524288 * i=x at h ⊢
 rw [← Nat.add_assoc]
 exact Nat.le_trans h2 (Nat.add_le_add_right h _)
theorem ldump {lo:Nat} {P:Pa} {st:FS} {nw:Nat} {F:Nat→Prop} {W:World} (h:ForAt lo P st nw F W) (fl:Nat) (hfl:st.free.length=fl) (gb:Int) (hgb:st.garb=gb) :
  Calls Tryz.prog 12 #[.pointer (some ⟨P.f,0,none⟩)] W fun e w' => (∃ c b v1 q r ro,e = .returned (.agg #[.int .i64 c,.int .i64 b,v1,.slice q fl r,.int .i64 gb,.int .i64 ro]))∧Below W.heap.size W w' :=
 (fdump h).mono fun e w' ⟨⟨v1,v2,he,h1,h2,_⟩,hb⟩ => by
  obtain ⟨q,r,rfl,-⟩:=own_shape h2
  exact ⟨⟨_,_,v1,q,r,_,by rw [he,hfl,← hgb];rfl⟩,hb⟩
set_option maxRecDepth 100000 in
set_option maxHeartbeats 16000000 in
theorem forestSweeps_core (vp:Value) (ps:List Int) (hps:(ps.length:Int)≤9223372036854775807) (which:Int) (w:World) (hp:In.IntArg w vp ps) :
  Calls Tryz.prog 3 #[vp,.int .i64 which] w fun e w' => e = .returned (.bool true)∧Below w.heap.size w w':=by
 obtain ⟨q0,c0,rfl,-⟩:=id hp
 obtain ⟨i0,hi,hz0,hz1,hz2⟩:=info_parts finfo_known
 have HPS:=Lib.hid (fun (w':World) (hb:Below w.heap.size w w') => hp.below hb)
 have HAS:=Lib.hid (fun W => lask_any 1 100 W)
 have HWK:=Lib.hid (lworks_any w)
 have HNW:=Lib.hid (fun W => fnew_any W)
 have HLEN:=Lib.hid hps
 clear hp hps
 go_enter Tryz.func3,Tryz.ntmps3
 go_wp2_with fail
 refine HWK.out.mono ?_
 rintro e w1 ⟨rfl,hb1⟩
 have HB1:=Lib.hid hb1
 clear hb1
 go_wp2_with fail
 refine (HNW.out _).mono ?_
 rintro e w2 ⟨P,F0,rfl,hf2,hb2⟩
 obtain ⟨lo,hlo⟩:∃ lo,lo=w1.heap.size:=⟨_,rfl⟩
 rw [← hlo] at hf2
 have hL0:LawAt w lo P newF 0 F0 (.slice none 0 0) [] [] w2:=⟨hf2,World.ownsRow_nil _ _ _ _,fun b e => (by cases e),HB1.out.trans (hb2.mono HB1.out.size),by rw [hlo];exact HB1.out.size,fun x hx => (by cases hx)⟩
 have HL0:=Lib.hid hL0
 clear hf2 hb2 hlo hL0 HB1
 go_wp2
 go_loopw [6,7] (fun a b wr => ∃ (i:Nat) (st:FS) (A:List Sess) (l:List Kn),i≤32∧i≤ps.length+1∧b = .int .i64 (i:Int)∧l.length=i∧Sw st A l∧(i=0→st=newF∧A=[])∧∃ nw F,nw≤32 * i∧LawAt w lo P st nw F a l [] wr) (fun _ b _ => 33-(intOf b).toNat)
 case atStart => exact ⟨0,newF,[],[],by omega,by omega,rfl,rfl,sw_new,fun _ => ⟨rfl,rfl⟩,0,F0,Nat.le_refl _,HL0.out⟩
 case round =>
  obtain ⟨i,st,A,l,hi32,hips,rfl,hli,hsw,hi0,nw,F,hnw,hL⟩:=hrel
  obtain ⟨qv,rv,rfl,-⟩:=own_shape hL.row
  have b0:(0:Int)≤(i:Int):=by omega
  have b2:(i:Int)≤32:=by omega
  by_cases hc:i≤ps.length∧i<32
  ·have b1:(i:Int)≤(ps.length:Int):=by omega
   have b3:(i:Int)<32:=by omega
   have HSWI:=Lib.hid hsw;have HLI:=Lib.hid hli;have HIC:=Lib.hid hc
   obtain ⟨NB,hNB⟩:∃ NB,NB=32 * i:=⟨_,rfl⟩
   rw [← hNB] at hnw
   have HNBQ:=Lib.hid hNB
   by_cases hz:i=0
   ·obtain ⟨rfl,rfl⟩:=hi0 hz
    have hl0:l=[]:=List.eq_nil_of_length_eq_zero (by omega)
    obtain ⟨us,hus⟩:∃ us:Int,us=0:=⟨_,rfl⟩
    obtain ⟨ub,hub⟩:∃ ub:Int,ub=0:=⟨_,rfl⟩
    obtain ⟨st,hst⟩:∃ st,st=newF:=⟨_,rfl⟩
    obtain ⟨A,hA⟩:∃ A:List Sess,A=[]:=⟨_,rfl⟩
    obtain ⟨s,hs⟩:∃ s,s=top1:=⟨_,rfl⟩
    rw [← hst] at hL
    rw [← hst,← hA] at hsw
    have hpl:planF st 0 us ub (askR 1 100)=some (st,s,0):=by rw [hst,hus,hub,hs];exact plan_top
    have hs7:s.scopes=7:=by rw [hs];rfl
    have hs100:s.dl=100:=by rw [hs];rfl
    obtain ⟨st2,hbo,hsw2,hbi⟩:=hsw.grow (up:=-1) (by omega) hpl hs7 hs100 (.inl ⟨rfl,rfl,hl0,by rw [hs];rfl⟩)
    obtain ⟨b9,hb9⟩:∃ b9,b9=wr.heap.size:=⟨_,rfl⟩
    obtain ⟨W9,hW9⟩:∃ W9,W9=wr.alloc (.cells #[.int .i64 us,.int .i64 ub] 28):=⟨_,rfl⟩
    have hL9:LawAt w lo P st nw F (.slice qv l.length rv) l [(b9,#[.int .i64 us,.int .i64 ub],28)] W9:=by rw [hW9,hb9];exact hL.alloc _ _
    have HSL:Hid (∀ n F xs W,LawAt w lo P st n F (.slice qv l.length rv) l xs W→(b9,(#[.int .i64 us,.int .i64 ub]:Array Value),(28:TypeId)) ∈ xs→W.cell? ⟨b9,0,none⟩=some (.int .i64 us)∧W.cell? ⟨b9,1,none⟩=some (.int .i64 ub)):=fun n F xs W h hx => ⟨by rw [h.cell hx];rfl,by rw [h.cell hx];rfl⟩
    have HL9:=Lib.hid hL9;have HNB:=Lib.hid hnw
    have HB9:=Lib.hid hb9;have HW9:=Lib.hid hW9
    clear hL9 hnw hL hb9 hW9
    obtain ⟨cs,hcs⟩:∃ cs,cs=s.cells:=⟨_,rfl⟩
    have HCL:Hid (cs.length=12):=by show _=_;rw [hcs];rfl
    have HC1:Hid (∀ u ∈ cs,u.oneCell'=true):=by show ∀ _,_;rw [hcs];exact sess_one _
    have HPL:Hid (∀ (n:Nat) (F:Nat→Prop) (W:World),n≤NB→ForAt lo P st n F W→Calls Tryz.prog 8 #[.pointer (some ⟨P.f,0,none⟩),.int .i64 0,.agg #[.int .i64 us,.int .i64 ub],.agg #[.string ⟨#[97,110,110]⟩,.string ⟨#[116,118]⟩,.int .u64 7,.int .i64 1,.int .i64 100]] W fun e w' => e = .returned (.tuple #[.agg cs.toArray,.nilIface])∧FoTo lo P st 8 n F W w'):=fun n F W hn h => by
     rw [hcs]
     exact plan_call hpl n F W (by have:=HNBQ.out;have:=HIC.out;omega) h
    have HIS:=Lib.hid hsw.seen.is.1
    obtain ⟨sl0,hsl0⟩:∃ x,x=s.slot:=⟨_,rfl⟩
    obtain ⟨bi0,hbi0⟩:∃ x,x=s.birth:=⟨_,rfl⟩
    obtain ⟨kn,hkn⟩:∃ k:Kn,k=⟨sl0,bi0,-1,100,false⟩:=⟨_,rfl⟩
    have HSW2:Hid (Sw st2 (A ++ [s]) (l ++ [kn])):=by
     show Sw _ _ _
     rw [hkn,hsl0,hbi0,← hs100];exact hsw2
    obtain ⟨ks,hks⟩:∃ ks,ks=kn.cells:=⟨_,rfl⟩
    have HKL:Hid (ks.length=5):=by show _=_;rw [hks];rfl
    have HK1:Hid (∀ u ∈ ks,u.oneCell'=true):=by show ∀ _,_;rw [hks];exact kn_one _
    have HKS:Hid (ks=[.int .i64 sl0,.int .i64 bi0,.int .i64 (-1),.int .i64 100,.bool false]):=by show _=_;rw [hks,hkn];rfl
    have HKQ:Hid (ks=kn.cells):=hks
    have HC0:Hid (cs.toArray[0]? = some (.int .i64 sl0)):=by show _=_;rw [hcs,hsl0];rfl
    have HCB:Hid (cs.toArray[1]? = some (.int .i64 bi0)):=by show _=_;rw [hcs,hbi0];rfl
    have HBRN:Hid (∀ (n:Nat) (F:Nat→Prop) (W:World),n≤NB+16→ForAt lo P st n F W→Calls Tryz.prog 11 #[.pointer (some ⟨P.f,0,none⟩),.agg cs.toArray] W fun e w' => e = .returned .nilIface∧FoTo lo P st2 6 n F W w'):=fun n F W hn h => by
     rw [hcs]
     exact born_call HIS.out hbo hs7 n F W (by have:=HNBQ.out;have:=HIC.out;omega) h
    clear hsl0 hbi0 hkn hks hbo hsw2 hs7 hs100 hcs
    have b5:(i:Int)≤0:=by omega
    have hd0:decide (0<i)=false:=decide_eq_false (by omega)
    have HW9z:Hid (W9=wr.alloc (.cells #[.int .i64 0,.int .i64 0] 28)):=by show _=_;rw [HW9.out,hus,hub]
    clear hsw hli hi32 hips hc hi0 hst hs hpl hbi hl0 hus hub hz hNB hA
    go_upto_region 15 with fail
    rw [← HW9z.out,← HB9.out]
    go_cut [11,12] from 46 to 53 (fun t11 t12 wc => ∃ b,t11 = .pointer (some ⟨b,0,none⟩)∧t12 = .nilIface∧∃ n2 F2,n2≤NB+8∧LawAt w lo P st n2 F2 (.slice qv l.length rv) l [(b,cs.toArray,35)] wc)
    case first =>
     refine wp_region_held_drew (S:=fun W => W.cell? ⟨b9,0,none⟩=some (.int .i64 us)∧W.cell? ⟨b9,1,none⟩=some (.int .i64 ub)) (by kernel_rfl) (HSL.out _ _ _ _ (HL9.out.below ((Below.refl _ _).drew)) (by simp)) (fun _ => ?_)
     have hL:=HL9.out.below ((Below.refl _ _).drew)
     have hn:=HNB.out
     generalize W9.drew=wd at hL ⊢
     refine tq 0 rfl (.pointer (some ⟨P.f,0,none⟩)) (HSL.out _ _ _ _ hL (by simp)) ?_
     (try simp only [Act.put,zq1,zq2,zq3,zq4,zq5,zq6])
     refine tq 1 rfl (.int .i64 0) (HSL.out _ _ _ _ hL (by simp)) ?_
     (try simp only [Act.put,zq1,zq2,zq3,zq4,zq5,zq6])
     refine tq 2 rfl (.agg #[.int .i64 us,.int .i64 ub]) (HSL.out _ _ _ _ hL (by simp)) ?_
     (try simp only [Act.put,zq1,zq2,zq3,zq4,zq5,zq6])
     refine wpAnyH_ready (rs:=[3,8]) (by kernel_rfl) (by simp) (AllReadyH.cons rfl (fun K hK => ?_) (AllReadyH.cons rfl (fun K hK => ?_) AllReadyH.nil))
     ·go_simp
      refine (HAS.out _).mono ?_
      rintro e wa ⟨rfl,hb⟩
      replace hL:=hL.below hb
      clear hb
      refine hK.out _ _ (HSL.out _ _ _ _ hL (by simp)) (fun _ => ?_)
      clear hK K
      (try simp only [Act.put,zq1,zq2,zq3,zq4,zq5,zq6])
      refine wpAnyH_ready (rs:=[4,8]) (by kernel_rfl) (by simp) (AllReadyH.cons rfl (fun K hK => ?_) (AllReadyH.cons rfl (fun K hK => ?_) AllReadyH.nil))
      ·go_simp
       refine (HPL.out _ _ _ hn hL.fa).mono ?_
       rintro e wp ⟨rfl,hf⟩
       obtain ⟨n2,F2,a2,-,hL2⟩:=hL.to hf
       have hn2:=Nat.le_trans a2 (Nat.add_le_add_right hn 8)
       clear a2 hL hf
       have hL:=hL2
       clear hL2
       refine hK.out _ _ (HSL.out _ _ _ _ hL (by simp)) (fun _ => ?_)
       clear hK K
       (try simp only [Act.put,zq1,zq2,zq3,zq4,zq5,zq6])
       refine tq 5 rfl (.tuple #[.agg cs.toArray,.nilIface]) (HSL.out _ _ _ _ hL (by simp)) ?_
       (try simp only [Act.put,zq1,zq2,zq3,zq4,zq5,zq6])
       refine tq 6 rfl (.agg cs.toArray) (HSL.out _ _ _ _ hL (by simp)) ?_
       (try simp only [Act.put,zq1,zq2,zq3,zq4,zq5,zq6])
       refine tq 7 rfl .nilIface (HSL.out _ _ _ _ hL (by simp)) ?_
       (try simp only [Act.put,zq1,zq2,zq3,zq4,zq5,zq6])
       refine wpAnyH_ready (rs:=[8]) (by kernel_rfl) (by simp) (AllReadyH.cons rfl (fun K hK => ?_) AllReadyH.nil)
       go_simp
       have hL2:=hL.alloc #[.int .i64 0,.int .i64 0,.int .i64 0,.int .i64 0,.int .i64 0,.string ⟨#[]⟩,.string ⟨#[]⟩,.int .u64 0,.int .i64 0,.int .i64 0,.int .i64 0,.int .i64 0] 35
       have hne:b9≠(wp).heap.size:=Nat.ne_of_lt (Array.getElem?_eq_some_iff.1 (hL.vrs (b9,#[.int .i64 us,.int .i64 ub],28) (by simp)).1).1
       clear hL
       have hL:=hL2
       clear hL2
       refine hK.out _ _ (HSL.out _ _ _ _ hL (by simp)) (fun _ => ?_)
       clear hK K
       (try simp only [Act.put,zq1,zq2,zq3,zq4,zq5,zq6])
       generalize World.alloc wp (.cells #[.int .i64 0,.int .i64 0,.int .i64 0,.int .i64 0,.int .i64 0,.string ⟨#[]⟩,.string ⟨#[]⟩,.int .u64 0,.int .i64 0,.int .i64 0,.int .i64 0,.int .i64 0] 35)=wz at hL ⊢
       generalize hbq:(wp).heap.size=b at hL hne ⊢
       clear hbq
       refine wpAnyH_ready (rs:=[9]) (by kernel_rfl) (by simp) (AllReadyH.cons rfl (fun K hK => ?_) AllReadyH.nil)
       rw [if_pos (by rfl)]
       refine wp_store_mid 35 (.tmp 11) (.tmp 52) (by rfl) b 0 cs.toArray (by rfl) (by rfl) (Ag.there_row (hL.vrs _ (List.mem_cons_self ..)).1 _ (by rw [List.size_toArray,HCL.out];show 12≤12;decide)) (by rw [List.size_toArray,HCL.out];kernel_rfl) (all_oneCell_toArray HC1.out) ?_
       rw [List.toList_toArray]
       have hL2:=hL.set cs (by rw [HCL.out];rfl) (by intro x hx;simp at hx;subst hx;exact hne)
       clear hL
       have hL:=hL2
       clear hL2
       generalize World.setCells wz b 0 cs=ws at hL ⊢
       refine hK.out _ _ (HSL.out _ _ _ _ hL (by simp)) (fun _ => ?_)
       clear hK K
       (try simp only [Act.put,zq1,zq2,zq3,zq4,zq5,zq6])
       refine tq 10 rfl .nilIface (HSL.out _ _ _ _ hL (by simp)) ?_
       (try simp only [Act.put,zq1,zq2,zq3,zq4,zq5,zq6])
       refine wpAnyH_done (by kernel_rfl) ?_ _
       (try simp only [Act.put,zq1,zq2,zq3,zq4,zq5,zq6])
       go_wp2_with fail
       go_meet
       case rel => exact ⟨_,rfl,rfl,_,_,hn2,hL.sub (by simp)⟩
      ·go_simp
       have hL2:=hL.alloc #[.int .i64 0,.int .i64 0,.int .i64 0,.int .i64 0,.int .i64 0,.string ⟨#[]⟩,.string ⟨#[]⟩,.int .u64 0,.int .i64 0,.int .i64 0,.int .i64 0,.int .i64 0] 35
       have hne:b9≠(wa).heap.size:=Nat.ne_of_lt (Array.getElem?_eq_some_iff.1 (hL.vrs (b9,#[.int .i64 us,.int .i64 ub],28) (by simp)).1).1
       clear hL
       have hL:=hL2
       clear hL2
       refine hK.out _ _ (HSL.out _ _ _ _ hL (by simp)) (fun _ => ?_)
       clear hK K
       (try simp only [Act.put,zq1,zq2,zq3,zq4,zq5,zq6])
       generalize World.alloc wa (.cells #[.int .i64 0,.int .i64 0,.int .i64 0,.int .i64 0,.int .i64 0,.string ⟨#[]⟩,.string ⟨#[]⟩,.int .u64 0,.int .i64 0,.int .i64 0,.int .i64 0,.int .i64 0] 35)=wz at hL ⊢
       generalize hbq:(wa).heap.size=b at hL hne ⊢
       clear hbq
       refine wpAnyH_ready (rs:=[4]) (by kernel_rfl) (by simp) (AllReadyH.cons rfl (fun K hK => ?_) AllReadyH.nil)
       go_simp
       refine (HPL.out _ _ _ hn hL.fa).mono ?_
       rintro e wp ⟨rfl,hf⟩
       obtain ⟨n2,F2,a2,-,hL2⟩:=hL.to hf
       have hn2:=Nat.le_trans a2 (Nat.add_le_add_right hn 8)
       clear a2 hL hf
       have hL:=hL2
       clear hL2
       refine hK.out _ _ (HSL.out _ _ _ _ hL (by simp)) (fun _ => ?_)
       clear hK K
       (try simp only [Act.put,zq1,zq2,zq3,zq4,zq5,zq6])
       refine tq 5 rfl (.tuple #[.agg cs.toArray,.nilIface]) (HSL.out _ _ _ _ hL (by simp)) ?_
       (try simp only [Act.put,zq1,zq2,zq3,zq4,zq5,zq6])
       refine tq 6 rfl (.agg cs.toArray) (HSL.out _ _ _ _ hL (by simp)) ?_
       (try simp only [Act.put,zq1,zq2,zq3,zq4,zq5,zq6])
       refine tq 7 rfl .nilIface (HSL.out _ _ _ _ hL (by simp)) ?_
       (try simp only [Act.put,zq1,zq2,zq3,zq4,zq5,zq6])
       refine wpAnyH_ready (rs:=[9]) (by kernel_rfl) (by simp) (AllReadyH.cons rfl (fun K hK => ?_) AllReadyH.nil)
       rw [if_pos (by rfl)]
       refine wp_store_mid 35 (.tmp 11) (.tmp 52) (by rfl) b 0 cs.toArray (by rfl) (by rfl) (Ag.there_row (hL.vrs _ (List.mem_cons_self ..)).1 _ (by rw [List.size_toArray,HCL.out];show 12≤12;decide)) (by rw [List.size_toArray,HCL.out];kernel_rfl) (all_oneCell_toArray HC1.out) ?_
       rw [List.toList_toArray]
       have hL2:=hL.set cs (by rw [HCL.out];rfl) (by intro x hx;simp at hx;subst hx;exact hne)
       clear hL
       have hL:=hL2
       clear hL2
       generalize World.setCells wp b 0 cs=ws at hL ⊢
       refine hK.out _ _ (HSL.out _ _ _ _ hL (by simp)) (fun _ => ?_)
       clear hK K
       (try simp only [Act.put,zq1,zq2,zq3,zq4,zq5,zq6])
       refine tq 10 rfl .nilIface (HSL.out _ _ _ _ hL (by simp)) ?_
       (try simp only [Act.put,zq1,zq2,zq3,zq4,zq5,zq6])
       refine wpAnyH_done (by kernel_rfl) ?_ _
       (try simp only [Act.put,zq1,zq2,zq3,zq4,zq5,zq6])
       go_wp2_with fail
       go_meet
       case rel => exact ⟨_,rfl,rfl,_,_,hn2,hL.sub (by simp)⟩
     ·go_simp
      have hL2:=hL.alloc #[.int .i64 0,.int .i64 0,.int .i64 0,.int .i64 0,.int .i64 0,.string ⟨#[]⟩,.string ⟨#[]⟩,.int .u64 0,.int .i64 0,.int .i64 0,.int .i64 0,.int .i64 0] 35
      have hne:b9≠(wd).heap.size:=Nat.ne_of_lt (Array.getElem?_eq_some_iff.1 (hL.vrs (b9,#[.int .i64 us,.int .i64 ub],28) (by simp)).1).1
      clear hL
      have hL:=hL2
      clear hL2
      refine hK.out _ _ (HSL.out _ _ _ _ hL (by simp)) (fun _ => ?_)
      clear hK K
      (try simp only [Act.put,zq1,zq2,zq3,zq4,zq5,zq6])
      generalize World.alloc wd (.cells #[.int .i64 0,.int .i64 0,.int .i64 0,.int .i64 0,.int .i64 0,.string ⟨#[]⟩,.string ⟨#[]⟩,.int .u64 0,.int .i64 0,.int .i64 0,.int .i64 0,.int .i64 0] 35)=wz at hL ⊢
      generalize hbq:(wd).heap.size=b at hL hne ⊢
      clear hbq
      refine wpAnyH_ready (rs:=[3]) (by kernel_rfl) (by simp) (AllReadyH.cons rfl (fun K hK => ?_) AllReadyH.nil)
      go_simp
      refine (HAS.out _).mono ?_
      rintro e wa ⟨rfl,hb⟩
      replace hL:=hL.below hb
      clear hb
      refine hK.out _ _ (HSL.out _ _ _ _ hL (by simp)) (fun _ => ?_)
      clear hK K
      (try simp only [Act.put,zq1,zq2,zq3,zq4,zq5,zq6])
      refine wpAnyH_ready (rs:=[4]) (by kernel_rfl) (by simp) (AllReadyH.cons rfl (fun K hK => ?_) AllReadyH.nil)
      go_simp
      refine (HPL.out _ _ _ hn hL.fa).mono ?_
      rintro e wp ⟨rfl,hf⟩
      obtain ⟨n2,F2,a2,-,hL2⟩:=hL.to hf
      have hn2:=Nat.le_trans a2 (Nat.add_le_add_right hn 8)
      clear a2 hL hf
      have hL:=hL2
      clear hL2
      refine hK.out _ _ (HSL.out _ _ _ _ hL (by simp)) (fun _ => ?_)
      clear hK K
      (try simp only [Act.put,zq1,zq2,zq3,zq4,zq5,zq6])
      refine tq 5 rfl (.tuple #[.agg cs.toArray,.nilIface]) (HSL.out _ _ _ _ hL (by simp)) ?_
      (try simp only [Act.put,zq1,zq2,zq3,zq4,zq5,zq6])
      refine tq 6 rfl (.agg cs.toArray) (HSL.out _ _ _ _ hL (by simp)) ?_
      (try simp only [Act.put,zq1,zq2,zq3,zq4,zq5,zq6])
      refine tq 7 rfl .nilIface (HSL.out _ _ _ _ hL (by simp)) ?_
      (try simp only [Act.put,zq1,zq2,zq3,zq4,zq5,zq6])
      refine wpAnyH_ready (rs:=[9]) (by kernel_rfl) (by simp) (AllReadyH.cons rfl (fun K hK => ?_) AllReadyH.nil)
      rw [if_pos (by rfl)]
      refine wp_store_mid 35 (.tmp 11) (.tmp 52) (by rfl) b 0 cs.toArray (by rfl) (by rfl) (Ag.there_row (hL.vrs _ (List.mem_cons_self ..)).1 _ (by rw [List.size_toArray,HCL.out];show 12≤12;decide)) (by rw [List.size_toArray,HCL.out];kernel_rfl) (all_oneCell_toArray HC1.out) ?_
      rw [List.toList_toArray]
      have hL2:=hL.set cs (by rw [HCL.out];rfl) (by intro x hx;simp at hx;subst hx;exact hne)
      clear hL
      have hL:=hL2
      clear hL2
      generalize World.setCells wp b 0 cs=ws at hL ⊢
      refine hK.out _ _ (HSL.out _ _ _ _ hL (by simp)) (fun _ => ?_)
      clear hK K
      (try simp only [Act.put,zq1,zq2,zq3,zq4,zq5,zq6])
      refine tq 10 rfl .nilIface (HSL.out _ _ _ _ hL (by simp)) ?_
      (try simp only [Act.put,zq1,zq2,zq3,zq4,zq5,zq6])
      refine wpAnyH_done (by kernel_rfl) ?_ _
      (try simp only [Act.put,zq1,zq2,zq3,zq4,zq5,zq6])
      go_wp2_with fail
      go_meet
      case rel => exact ⟨_,rfl,rfl,_,_,hn2,hL.sub (by simp)⟩
    case rest =>
     obtain ⟨b,rfl,rfl,n2,F2,hn2,hL2⟩:=hcut
     obtain ⟨wb,rfl⟩:∃ x:World,x=wc:=⟨_,rfl⟩
     have HLB:=Lib.hid hL2
     have HNB2:Hid (n2≤NB+16):=by show _≤_;omega
     clear hL2 hn2
     go_upto_region 19 with (go_at_call 10;refine (num_nil _).mono ?_;rintro e w' ⟨rfl,rfl⟩)
     go_upto_region 21 with (first
      | (refine Gd.load_row (by kernel_rfl) 35 (.tmp 11) rfl _ (by rfl) _ _ _ _ (HLB.out.vrs _ (List.mem_cons_self ..)).1 Tryz.underlying35 rfl (by rw [List.size_toArray,HCL.out];kernel_rfl) ?_)
      | (go_at_call 11;refine (HBRN.out _ _ _ HNB2.out HLB.out.fa).mono ?_;rintro e w5 ⟨rfl,h5⟩;obtain ⟨n5,F5,a5,-,hL5⟩:=HLB.out.to h5;(have x1:w5.cell? ⟨b,0,none⟩=some (.int .i64 sl0):=by rw [hL5.cell (List.mem_cons_self ..)];exact HC0.out);(have x2:w5.cell? ⟨b,1,none⟩=some (.int .i64 bi0):=by rw [hL5.cell (List.mem_cons_self ..)];exact HCB.out);have HL5:=Lib.hid hL5;have HA5:=Lib.hid a5;clear h5 hL5 a5))
     have am1:l.length+1≤maxLen:=by unfold maxLen;have:=HLI.out;have:=HIC.out;omega
     have am3:(l.length+1) * 40≤140737488355328:=by have:=HLI.out;have:=HIC.out;omega
     have k3:w.heap.size≤(w5.alloc (.cells ks.toArray 31)).heap.size:=by have:=HL5.out.bel.size;simp;omega
     go_wp2_with (first
      | (refine Ag.wpList_one (by rfl) 26 31 _ (by rfl) ks (by rw [HKS.out];rfl) i0 _ Tryz.underlying26 hi hz0 (by rw [hz1];exact HKL.out) (by rw [hz1];decide) (by rw [hz1];decide) ?_)
      | (at_builtin;(refine wpList_append_own_at _ rfl _ _ 26 rfl w.heap.size 31 i0 (.agg #[.int .i64 0,.int .i64 0,.int .i64 0,.int .i64 0,.bool false]) 5 40 Tryz.underlying26 hi hz0 hz1 hz2 rfl (by decide) _ _ _ rfl (HL5.out.row.alloc _) ⟨w5.heap.size,0,none⟩ 1 1 ks rfl HKL.out (World.news_of_block (Ut.alloc_at _ _)) HK1.out am1 am3 k3 ?_);(intro v1 w1 hown' hgrow hnil hat;(have HN:=Lib.hid (HL5.out.push (k:=kn) (by rw [← HKQ.out];exact hown') hgrow hat));clear hown' hgrow hat hnil)))
     have f1:=HIC.out;have f2:=HLI.out;have f3:=HNBQ.out;have f4:=HA5.out;have f5:=HNB2.out
     refine ⟨⟨i+1,st2,_,l ++ [kn],by omega,by omega,by go_num,by rw [List.length_append,List.length_singleton];omega,HSW2.out,fun h => absurd h (by omega),n5,F5,by omega,HN.out.sub (by simp)⟩,by simp [intOf];omega⟩
   ·obtain ⟨m,hm⟩:∃ m,i=m+1:=⟨i-1,by omega⟩
    have hpi:=HPS.out wr hL.bel
    obtain ⟨q0',c0',e0,hpi⟩:=hpi
    cases e0
    obtain ⟨g0,o0,rfl,hg0,xp0⟩:=hpi m (by omega)
    obtain ⟨X,hX⟩:∃ X,X=ps[m]'(by omega):=⟨_,rfl⟩
    rw [← hX] at xp0
    obtain ⟨pn,hpn⟩:∃ pn:Nat,X % (i:Int)=pn:=⟨(X % (i:Int)).toNat,by have:=Int.emod_nonneg X (show (i:Int)≠0 by omega);omega⟩
    have hpl:pn<l.length:=by have:=Int.emod_lt_of_pos X (show (0:Int)<(i:Int) by omega);omega
    have HPK:Hid (∀ W,Calls Tryz.prog 7 #[.int .i64 X,.int .i64 (i:Int)] W fun e w' => e = .returned (.int .i64 (pn:Int))∧W=w'):=fun W => by
     rw [← hpn];exact Pk.pick_any X i (by omega) (by omega) W
    obtain ⟨b9,hb9⟩:∃ b9,b9=wr.heap.size:=⟨_,rfl⟩
    obtain ⟨Wz,hWz⟩:∃ Wz,Wz=wr.alloc (.cells #[.int .i64 0,.int .i64 0] 28):=⟨_,rfl⟩
    have hbz:Below wr.heap.size wr Wz:=by rw [hWz];exact (Below.refl _ _).alloc (Nat.le_refl _) _
    have xp:Wz.cell? ⟨g0,o0+m,none⟩=some (.int .i64 X):=(hbz.cell (p:=⟨g0,o0+m,none⟩) hg0).trans xp0
    have hLz:LawAt w lo P st nw F (.slice qv l.length rv) l [(b9,#[.int .i64 0,.int .i64 0],28)] Wz:=by rw [hWz,hb9];exact hL.alloc _ _
    obtain ⟨g,o,rfl,hg,x0,x1,-,-,-⟩:=hLz.in_.at hpl
    obtain ⟨us,hus⟩:∃ us,us=(kat l pn).slot:=⟨_,rfl⟩
    obtain ⟨ub,hub⟩:∃ ub,ub=(kat l pn).birth:=⟨_,rfl⟩
    rw [← hus] at x0;rw [← hub] at x1
    obtain ⟨W9,hW9⟩:∃ W9,W9=World.setCells Wz b9 0 [.int .i64 us,.int .i64 ub]:=⟨_,rfl⟩
    have hL9:LawAt w lo P st nw F (.slice (some ⟨g,o,none⟩) l.length rv) l [(b9,#[.int .i64 us,.int .i64 ub],28)] W9:=by rw [hW9];exact hLz.set _ rfl (fun x hx => (by cases hx))
    have HTH:Hid (Wz.there b9 0 2):=Ag.there_row (hLz.vrs _ (List.mem_cons_self ..)).1 _ (by show 2≤2;decide)
    have HSL:Hid (∀ n F xs W,LawAt w lo P st n F (.slice (some ⟨g,o,none⟩) l.length rv) l xs W→(b9,(#[.int .i64 us,.int .i64 ub]:Array Value),(28:TypeId)) ∈ xs→W.cell? ⟨b9,0,none⟩=some (.int .i64 us)∧W.cell? ⟨b9,1,none⟩=some (.int .i64 ub)):=fun n F xs W h hx => ⟨by rw [h.cell hx];rfl,by rw [h.cell hx];rfl⟩
    have HOL:Hid (∀ u ∈ [Value.int .i64 us,Value.int .i64 ub],u.oneCell'=true):=by
     intro u hu
     simp only [List.mem_cons,List.not_mem_nil,or_false] at hu
     rcases hu with rfl | rfl <;> rfl
    have HL9:=Lib.hid hL9;have HNB:=Lib.hid hnw
    have HB9:=Lib.hid hb9;have HW9:=Lib.hid hW9;have HWz:=Lib.hid hWz
    have wr1:IntKind.i64.wrap ((i:Int)-1)=(m:Int):=by rw [IntWalk.i64_in _ (by omega)];omega
    have b5:(0:Int)<(i:Int):=by omega
    have hd0:decide (0<i)=true:=decide_eq_true (by omega)
    have b6:(0:Int)≤(m:Int):=by omega
    have b7:(m:Int)<(ps.length:Int):=by omega
    have b8:(0:Int)≤(pn:Int):=by omega
    have b9':(pn:Int)<(l.length:Int):=by omega
    have HPNL:=Lib.hid hpl
    obtain ⟨p,hpA,kp⟩:=hsw.at_ hpl
    have hn32:l.length<32:=by omega
    clear hpi hg0 xp0 hX hpn hL hbz hLz hL9 hnw hb9 hW9 hWz hg hi0 hz hm hNB hpl
    by_cases hdp:p.depth<6
    ·obtain ⟨s,st2,hpl,hbo,hsw2,hs100,hbi⟩:=hsw.child hpA hn32 hdp HPNL.out kp
     have hs7:s.scopes=7:=(hsw2.all s (by simp)).1
     rw [← hus,← hub] at hpl
     obtain ⟨cs,hcs⟩:∃ cs,cs=s.cells:=⟨_,rfl⟩
     have HCL:Hid (cs.length=12):=by show _=_;rw [hcs];rfl
     have HC1:Hid (∀ u ∈ cs,u.oneCell'=true):=by show ∀ _,_;rw [hcs];exact sess_one _
     have HPL:Hid (∀ (n:Nat) (F:Nat→Prop) (W:World),n≤NB→ForAt lo P st n F W→Calls Tryz.prog 8 #[.pointer (some ⟨P.f,0,none⟩),.int .i64 1,.agg #[.int .i64 us,.int .i64 ub],.agg #[.string ⟨#[97,110,110]⟩,.string ⟨#[116,118]⟩,.int .u64 7,.int .i64 1,.int .i64 100]] W fun e w' => e = .returned (.tuple #[.agg cs.toArray,.nilIface])∧FoTo lo P st 8 n F W w'):=fun n F W hn h => by
      rw [hcs]
      exact plan_call hpl n F W (by have:=HNBQ.out;have:=HIC.out;omega) h
     have HIS:=Lib.hid hsw.seen.is.1
     obtain ⟨sl0,hsl0⟩:∃ x,x=s.slot:=⟨_,rfl⟩
     obtain ⟨bi0,hbi0⟩:∃ x,x=s.birth:=⟨_,rfl⟩
     obtain ⟨kn,hkn⟩:∃ k:Kn,k=⟨sl0,bi0,(pn:Int),100,false⟩:=⟨_,rfl⟩
     have HSW2:Hid (Sw st2 (A ++ [s]) (l ++ [kn])):=by
      show Sw _ _ _
      rw [hkn,hsl0,hbi0,← hs100];exact hsw2
     obtain ⟨ks,hks⟩:∃ ks,ks=kn.cells:=⟨_,rfl⟩
     have HKL:Hid (ks.length=5):=by show _=_;rw [hks];rfl
     have HK1:Hid (∀ u ∈ ks,u.oneCell'=true):=by show ∀ _,_;rw [hks];exact kn_one _
     have HKS:Hid (ks=[.int .i64 sl0,.int .i64 bi0,.int .i64 ((pn:Int)),.int .i64 100,.bool false]):=by show _=_;rw [hks,hkn];rfl
     have HKQ:Hid (ks=kn.cells):=hks
     have HC0:Hid (cs.toArray[0]? = some (.int .i64 sl0)):=by show _=_;rw [hcs,hsl0];rfl
     have HCB:Hid (cs.toArray[1]? = some (.int .i64 bi0)):=by show _=_;rw [hcs,hbi0];rfl
     have HBRN:Hid (∀ (n:Nat) (F:Nat→Prop) (W:World),n≤NB+16→ForAt lo P st n F W→Calls Tryz.prog 11 #[.pointer (some ⟨P.f,0,none⟩),.agg cs.toArray] W fun e w' => e = .returned .nilIface∧FoTo lo P st2 6 n F W w'):=fun n F W hn h => by
      rw [hcs]
      exact born_call HIS.out hbo hs7 n F W (by have:=HNBQ.out;have:=HIC.out;omega) h
     clear hsl0 hbi0 hkn hks hbo hsw2 hs7 hs100 hcs
     clear hsw hli hi32 hips hc hpl hbi hus hub hpA kp hdp hn32
     go_upto_region 11 with fail
     rw [← HWz.out,← HB9.out]
     go_upto_region 15 with (first
      | (go_at_call 7;refine (HPK.out _).mono ?_;rintro e w' ⟨rfl,rfl⟩)
      | (refine wpList_store_mid (by rfl) 28 (.tmp 9) (.tmp 45) (by rfl) b9 0 #[.int .i64 us,.int .i64 ub] (by rfl) (by rfl) HTH.out (by kernel_rfl) (all_oneCell_toArray HOL.out) ?_;rw [List.toList_toArray,← HW9.out]))
     (try simp only [Act.put,zq1,zq2,zq3,zq4,zq5,zq6])
     go_cut [11,12] from 46 to 53 (fun t11 t12 wc => ∃ b,t11 = .pointer (some ⟨b,0,none⟩)∧t12 = .nilIface∧∃ n2 F2,n2≤NB+8∧LawAt w lo P st n2 F2 (.slice (some ⟨g,o,none⟩) l.length rv) l [(b,cs.toArray,35)] wc)
     case first =>
      refine wp_region_held_drew (S:=fun W => W.cell? ⟨b9,0,none⟩=some (.int .i64 us)∧W.cell? ⟨b9,1,none⟩=some (.int .i64 ub)) (by kernel_rfl) (HSL.out _ _ _ _ (HL9.out.below ((Below.refl _ _).drew)) (by simp)) (fun _ => ?_)
      have hL:=HL9.out.below ((Below.refl _ _).drew)
      have hn:=HNB.out
      generalize W9.drew=wd at hL ⊢
      refine tq 0 rfl (.pointer (some ⟨P.f,0,none⟩)) (HSL.out _ _ _ _ hL (by simp)) ?_
      (try simp only [Act.put,zq1,zq2,zq3,zq4,zq5,zq6])
      refine tq 1 rfl (.int .i64 1) (HSL.out _ _ _ _ hL (by simp)) ?_
      (try simp only [Act.put,zq1,zq2,zq3,zq4,zq5,zq6])
      refine tq 2 rfl (.agg #[.int .i64 us,.int .i64 ub]) (HSL.out _ _ _ _ hL (by simp)) ?_
      (try simp only [Act.put,zq1,zq2,zq3,zq4,zq5,zq6])
      refine wpAnyH_ready (rs:=[3,8]) (by kernel_rfl) (by simp) (AllReadyH.cons rfl (fun K hK => ?_) (AllReadyH.cons rfl (fun K hK => ?_) AllReadyH.nil))
      ·go_simp
       refine (HAS.out _).mono ?_
       rintro e wa ⟨rfl,hb⟩
       replace hL:=hL.below hb
       clear hb
       refine hK.out _ _ (HSL.out _ _ _ _ hL (by simp)) (fun _ => ?_)
       clear hK K
       (try simp only [Act.put,zq1,zq2,zq3,zq4,zq5,zq6])
       refine wpAnyH_ready (rs:=[4,8]) (by kernel_rfl) (by simp) (AllReadyH.cons rfl (fun K hK => ?_) (AllReadyH.cons rfl (fun K hK => ?_) AllReadyH.nil))
       ·go_simp
        refine (HPL.out _ _ _ hn hL.fa).mono ?_
        rintro e wp ⟨rfl,hf⟩
        obtain ⟨n2,F2,a2,-,hL2⟩:=hL.to hf
        have hn2:=Nat.le_trans a2 (Nat.add_le_add_right hn 8)
        clear a2 hL hf
        have hL:=hL2
        clear hL2
        refine hK.out _ _ (HSL.out _ _ _ _ hL (by simp)) (fun _ => ?_)
        clear hK K
        (try simp only [Act.put,zq1,zq2,zq3,zq4,zq5,zq6])
        refine tq 5 rfl (.tuple #[.agg cs.toArray,.nilIface]) (HSL.out _ _ _ _ hL (by simp)) ?_
        (try simp only [Act.put,zq1,zq2,zq3,zq4,zq5,zq6])
        refine tq 6 rfl (.agg cs.toArray) (HSL.out _ _ _ _ hL (by simp)) ?_
        (try simp only [Act.put,zq1,zq2,zq3,zq4,zq5,zq6])
        refine tq 7 rfl .nilIface (HSL.out _ _ _ _ hL (by simp)) ?_
        (try simp only [Act.put,zq1,zq2,zq3,zq4,zq5,zq6])
        refine wpAnyH_ready (rs:=[8]) (by kernel_rfl) (by simp) (AllReadyH.cons rfl (fun K hK => ?_) AllReadyH.nil)
        go_simp
        have hL2:=hL.alloc #[.int .i64 0,.int .i64 0,.int .i64 0,.int .i64 0,.int .i64 0,.string ⟨#[]⟩,.string ⟨#[]⟩,.int .u64 0,.int .i64 0,.int .i64 0,.int .i64 0,.int .i64 0] 35
        have hne:b9≠(wp).heap.size:=Nat.ne_of_lt (Array.getElem?_eq_some_iff.1 (hL.vrs (b9,#[.int .i64 us,.int .i64 ub],28) (by simp)).1).1
        clear hL
        have hL:=hL2
        clear hL2
        refine hK.out _ _ (HSL.out _ _ _ _ hL (by simp)) (fun _ => ?_)
        clear hK K
        (try simp only [Act.put,zq1,zq2,zq3,zq4,zq5,zq6])
        generalize World.alloc wp (.cells #[.int .i64 0,.int .i64 0,.int .i64 0,.int .i64 0,.int .i64 0,.string ⟨#[]⟩,.string ⟨#[]⟩,.int .u64 0,.int .i64 0,.int .i64 0,.int .i64 0,.int .i64 0] 35)=wz at hL ⊢
        generalize hbq:(wp).heap.size=b at hL hne ⊢
        clear hbq
        refine wpAnyH_ready (rs:=[9]) (by kernel_rfl) (by simp) (AllReadyH.cons rfl (fun K hK => ?_) AllReadyH.nil)
        rw [if_pos (by rfl)]
        refine wp_store_mid 35 (.tmp 11) (.tmp 52) (by rfl) b 0 cs.toArray (by rfl) (by rfl) (Ag.there_row (hL.vrs _ (List.mem_cons_self ..)).1 _ (by rw [List.size_toArray,HCL.out];show 12≤12;decide)) (by rw [List.size_toArray,HCL.out];kernel_rfl) (all_oneCell_toArray HC1.out) ?_
        rw [List.toList_toArray]
        have hL2:=hL.set cs (by rw [HCL.out];rfl) (by intro x hx;simp at hx;subst hx;exact hne)
        clear hL
        have hL:=hL2
        clear hL2
        generalize World.setCells wz b 0 cs=ws at hL ⊢
        refine hK.out _ _ (HSL.out _ _ _ _ hL (by simp)) (fun _ => ?_)
        clear hK K
        (try simp only [Act.put,zq1,zq2,zq3,zq4,zq5,zq6])
        refine tq 10 rfl .nilIface (HSL.out _ _ _ _ hL (by simp)) ?_
        (try simp only [Act.put,zq1,zq2,zq3,zq4,zq5,zq6])
        refine wpAnyH_done (by kernel_rfl) ?_ _
        (try simp only [Act.put,zq1,zq2,zq3,zq4,zq5,zq6])
        go_wp2_with fail
        go_meet
        case rel => exact ⟨_,rfl,rfl,_,_,hn2,hL.sub (by simp)⟩
       ·go_simp
        have hL2:=hL.alloc #[.int .i64 0,.int .i64 0,.int .i64 0,.int .i64 0,.int .i64 0,.string ⟨#[]⟩,.string ⟨#[]⟩,.int .u64 0,.int .i64 0,.int .i64 0,.int .i64 0,.int .i64 0] 35
        have hne:b9≠(wa).heap.size:=Nat.ne_of_lt (Array.getElem?_eq_some_iff.1 (hL.vrs (b9,#[.int .i64 us,.int .i64 ub],28) (by simp)).1).1
        clear hL
        have hL:=hL2
        clear hL2
        refine hK.out _ _ (HSL.out _ _ _ _ hL (by simp)) (fun _ => ?_)
        clear hK K
        (try simp only [Act.put,zq1,zq2,zq3,zq4,zq5,zq6])
        generalize World.alloc wa (.cells #[.int .i64 0,.int .i64 0,.int .i64 0,.int .i64 0,.int .i64 0,.string ⟨#[]⟩,.string ⟨#[]⟩,.int .u64 0,.int .i64 0,.int .i64 0,.int .i64 0,.int .i64 0] 35)=wz at hL ⊢
        generalize hbq:(wa).heap.size=b at hL hne ⊢
        clear hbq
        refine wpAnyH_ready (rs:=[4]) (by kernel_rfl) (by simp) (AllReadyH.cons rfl (fun K hK => ?_) AllReadyH.nil)
        go_simp
        refine (HPL.out _ _ _ hn hL.fa).mono ?_
        rintro e wp ⟨rfl,hf⟩
        obtain ⟨n2,F2,a2,-,hL2⟩:=hL.to hf
        have hn2:=Nat.le_trans a2 (Nat.add_le_add_right hn 8)
        clear a2 hL hf
        have hL:=hL2
        clear hL2
        refine hK.out _ _ (HSL.out _ _ _ _ hL (by simp)) (fun _ => ?_)
        clear hK K
        (try simp only [Act.put,zq1,zq2,zq3,zq4,zq5,zq6])
        refine tq 5 rfl (.tuple #[.agg cs.toArray,.nilIface]) (HSL.out _ _ _ _ hL (by simp)) ?_
        (try simp only [Act.put,zq1,zq2,zq3,zq4,zq5,zq6])
        refine tq 6 rfl (.agg cs.toArray) (HSL.out _ _ _ _ hL (by simp)) ?_
        (try simp only [Act.put,zq1,zq2,zq3,zq4,zq5,zq6])
        refine tq 7 rfl .nilIface (HSL.out _ _ _ _ hL (by simp)) ?_
        (try simp only [Act.put,zq1,zq2,zq3,zq4,zq5,zq6])
        refine wpAnyH_ready (rs:=[9]) (by kernel_rfl) (by simp) (AllReadyH.cons rfl (fun K hK => ?_) AllReadyH.nil)
        rw [if_pos (by rfl)]
        refine wp_store_mid 35 (.tmp 11) (.tmp 52) (by rfl) b 0 cs.toArray (by rfl) (by rfl) (Ag.there_row (hL.vrs _ (List.mem_cons_self ..)).1 _ (by rw [List.size_toArray,HCL.out];show 12≤12;decide)) (by rw [List.size_toArray,HCL.out];kernel_rfl) (all_oneCell_toArray HC1.out) ?_
        rw [List.toList_toArray]
        have hL2:=hL.set cs (by rw [HCL.out];rfl) (by intro x hx;simp at hx;subst hx;exact hne)
        clear hL
        have hL:=hL2
        clear hL2
        generalize World.setCells wp b 0 cs=ws at hL ⊢
        refine hK.out _ _ (HSL.out _ _ _ _ hL (by simp)) (fun _ => ?_)
        clear hK K
        (try simp only [Act.put,zq1,zq2,zq3,zq4,zq5,zq6])
        refine tq 10 rfl .nilIface (HSL.out _ _ _ _ hL (by simp)) ?_
        (try simp only [Act.put,zq1,zq2,zq3,zq4,zq5,zq6])
        refine wpAnyH_done (by kernel_rfl) ?_ _
        (try simp only [Act.put,zq1,zq2,zq3,zq4,zq5,zq6])
        go_wp2_with fail
        go_meet
        case rel => exact ⟨_,rfl,rfl,_,_,hn2,hL.sub (by simp)⟩
      ·go_simp
       have hL2:=hL.alloc #[.int .i64 0,.int .i64 0,.int .i64 0,.int .i64 0,.int .i64 0,.string ⟨#[]⟩,.string ⟨#[]⟩,.int .u64 0,.int .i64 0,.int .i64 0,.int .i64 0,.int .i64 0] 35
       have hne:b9≠(wd).heap.size:=Nat.ne_of_lt (Array.getElem?_eq_some_iff.1 (hL.vrs (b9,#[.int .i64 us,.int .i64 ub],28) (by simp)).1).1
       clear hL
       have hL:=hL2
       clear hL2
       refine hK.out _ _ (HSL.out _ _ _ _ hL (by simp)) (fun _ => ?_)
       clear hK K
       (try simp only [Act.put,zq1,zq2,zq3,zq4,zq5,zq6])
       generalize World.alloc wd (.cells #[.int .i64 0,.int .i64 0,.int .i64 0,.int .i64 0,.int .i64 0,.string ⟨#[]⟩,.string ⟨#[]⟩,.int .u64 0,.int .i64 0,.int .i64 0,.int .i64 0,.int .i64 0] 35)=wz at hL ⊢
       generalize hbq:(wd).heap.size=b at hL hne ⊢
       clear hbq
       refine wpAnyH_ready (rs:=[3]) (by kernel_rfl) (by simp) (AllReadyH.cons rfl (fun K hK => ?_) AllReadyH.nil)
       go_simp
       refine (HAS.out _).mono ?_
       rintro e wa ⟨rfl,hb⟩
       replace hL:=hL.below hb
       clear hb
       refine hK.out _ _ (HSL.out _ _ _ _ hL (by simp)) (fun _ => ?_)
       clear hK K
       (try simp only [Act.put,zq1,zq2,zq3,zq4,zq5,zq6])
       refine wpAnyH_ready (rs:=[4]) (by kernel_rfl) (by simp) (AllReadyH.cons rfl (fun K hK => ?_) AllReadyH.nil)
       go_simp
       refine (HPL.out _ _ _ hn hL.fa).mono ?_
       rintro e wp ⟨rfl,hf⟩
       obtain ⟨n2,F2,a2,-,hL2⟩:=hL.to hf
       have hn2:=Nat.le_trans a2 (Nat.add_le_add_right hn 8)
       clear a2 hL hf
       have hL:=hL2
       clear hL2
       refine hK.out _ _ (HSL.out _ _ _ _ hL (by simp)) (fun _ => ?_)
       clear hK K
       (try simp only [Act.put,zq1,zq2,zq3,zq4,zq5,zq6])
       refine tq 5 rfl (.tuple #[.agg cs.toArray,.nilIface]) (HSL.out _ _ _ _ hL (by simp)) ?_
       (try simp only [Act.put,zq1,zq2,zq3,zq4,zq5,zq6])
       refine tq 6 rfl (.agg cs.toArray) (HSL.out _ _ _ _ hL (by simp)) ?_
       (try simp only [Act.put,zq1,zq2,zq3,zq4,zq5,zq6])
       refine tq 7 rfl .nilIface (HSL.out _ _ _ _ hL (by simp)) ?_
       (try simp only [Act.put,zq1,zq2,zq3,zq4,zq5,zq6])
       refine wpAnyH_ready (rs:=[9]) (by kernel_rfl) (by simp) (AllReadyH.cons rfl (fun K hK => ?_) AllReadyH.nil)
       rw [if_pos (by rfl)]
       refine wp_store_mid 35 (.tmp 11) (.tmp 52) (by rfl) b 0 cs.toArray (by rfl) (by rfl) (Ag.there_row (hL.vrs _ (List.mem_cons_self ..)).1 _ (by rw [List.size_toArray,HCL.out];show 12≤12;decide)) (by rw [List.size_toArray,HCL.out];kernel_rfl) (all_oneCell_toArray HC1.out) ?_
       rw [List.toList_toArray]
       have hL2:=hL.set cs (by rw [HCL.out];rfl) (by intro x hx;simp at hx;subst hx;exact hne)
       clear hL
       have hL:=hL2
       clear hL2
       generalize World.setCells wp b 0 cs=ws at hL ⊢
       refine hK.out _ _ (HSL.out _ _ _ _ hL (by simp)) (fun _ => ?_)
       clear hK K
       (try simp only [Act.put,zq1,zq2,zq3,zq4,zq5,zq6])
       refine tq 10 rfl .nilIface (HSL.out _ _ _ _ hL (by simp)) ?_
       (try simp only [Act.put,zq1,zq2,zq3,zq4,zq5,zq6])
       refine wpAnyH_done (by kernel_rfl) ?_ _
       (try simp only [Act.put,zq1,zq2,zq3,zq4,zq5,zq6])
       go_wp2_with fail
       go_meet
       case rel => exact ⟨_,rfl,rfl,_,_,hn2,hL.sub (by simp)⟩
     case rest =>
      obtain ⟨b,rfl,rfl,n2,F2,hn2,hL2⟩:=hcut
      obtain ⟨wb,rfl⟩:∃ x:World,x=wc:=⟨_,rfl⟩
      have HLB:=Lib.hid hL2
      have HNB2:Hid (n2≤NB+16):=by show _≤_;omega
      clear hL2 hn2
      go_upto_region 19 with (go_at_call 10;refine (num_nil _).mono ?_;rintro e w' ⟨rfl,rfl⟩)
      go_upto_region 21 with (first
       | (refine Gd.load_row (by kernel_rfl) 35 (.tmp 11) rfl _ (by rfl) _ _ _ _ (HLB.out.vrs _ (List.mem_cons_self ..)).1 Tryz.underlying35 rfl (by rw [List.size_toArray,HCL.out];kernel_rfl) ?_)
       | (go_at_call 11;refine (HBRN.out _ _ _ HNB2.out HLB.out.fa).mono ?_;rintro e w5 ⟨rfl,h5⟩;obtain ⟨n5,F5,a5,-,hL5⟩:=HLB.out.to h5;(have x1:w5.cell? ⟨b,0,none⟩=some (.int .i64 sl0):=by rw [hL5.cell (List.mem_cons_self ..)];exact HC0.out);(have x2:w5.cell? ⟨b,1,none⟩=some (.int .i64 bi0):=by rw [hL5.cell (List.mem_cons_self ..)];exact HCB.out);have HL5:=Lib.hid hL5;have HA5:=Lib.hid a5;clear h5 hL5 a5))
      have am1:l.length+1≤maxLen:=by unfold maxLen;have:=HLI.out;have:=HIC.out;omega
      have am3:(l.length+1) * 40≤140737488355328:=by have:=HLI.out;have:=HIC.out;omega
      have k3:w.heap.size≤(w5.alloc (.cells ks.toArray 31)).heap.size:=by have:=HL5.out.bel.size;simp;omega
      go_wp2_with (first
       | (refine Ag.wpList_one (by rfl) 26 31 _ (by rfl) ks (by rw [HKS.out];rfl) i0 _ Tryz.underlying26 hi hz0 (by rw [hz1];exact HKL.out) (by rw [hz1];decide) (by rw [hz1];decide) ?_)
       | (at_builtin;(refine wpList_append_own_at _ rfl _ _ 26 rfl w.heap.size 31 i0 (.agg #[.int .i64 0,.int .i64 0,.int .i64 0,.int .i64 0,.bool false]) 5 40 Tryz.underlying26 hi hz0 hz1 hz2 rfl (by decide) _ _ _ rfl (HL5.out.row.alloc _) ⟨w5.heap.size,0,none⟩ 1 1 ks rfl HKL.out (World.news_of_block (Ut.alloc_at _ _)) HK1.out am1 am3 k3 ?_);(intro v1 w1 hown' hgrow hnil hat;(have HN:=Lib.hid (HL5.out.push (k:=kn) (by rw [← HKQ.out];exact hown') hgrow hat));clear hown' hgrow hat hnil)))
      have f1:=HIC.out;have f2:=HLI.out;have f3:=HNBQ.out;have f4:=HA5.out;have f5:=HNB2.out
      refine ⟨⟨i+1,st2,_,l ++ [kn],by omega,by omega,by go_num,by rw [List.length_append,List.length_singleton];omega,HSW2.out,fun h => absurd h (by omega),n5,F5,by omega,HN.out.sub (by simp)⟩,by simp [intOf];omega⟩
    ·obtain ⟨p1,hp1,k1,hd1⟩:=hsw.one_ (show 0<l.length by omega)
     obtain ⟨s,st2,hpl,hbo,hsw2,hs100,hbi⟩:=hsw.child hp1 hn32 (by omega) (show 0<l.length by omega) k1
     have hs7:s.scopes=7:=(hsw2.all s (by simp)).1
     have hpd:planF st 1 us ub (askR 1 100)=some (st,s0,17):=by rw [hus,hub,← kp.slot,← kp.birth];exact hsw.deep hpA hn32 (by omega)
     obtain ⟨u1,hu1⟩:∃ u1,u1=(kat l 0).slot:=⟨_,rfl⟩
     obtain ⟨v1,hv1⟩:∃ v1,v1=(kat l 0).birth:=⟨_,rfl⟩
     rw [show ((0:Nat):Int)=0 from rfl,← hu1,← hv1] at hpl
     obtain ⟨cd,hcd⟩:∃ cd,cd=s0.cells:=⟨_,rfl⟩
     have HDL:Hid (cd.length=12):=by show _=_;rw [hcd];rfl
     have HD1:Hid (∀ u ∈ cd,u.oneCell'=true):=by show ∀ _,_;rw [hcd];exact sess_one _
     have HPD:Hid (∀ (n:Nat) (F:Nat→Prop) (W:World),n≤NB→ForAt lo P st n F W→Calls Tryz.prog 8 #[.pointer (some ⟨P.f,0,none⟩),.int .i64 1,.agg #[.int .i64 us,.int .i64 ub],.agg #[.string ⟨#[97,110,110]⟩,.string ⟨#[116,118]⟩,.int .u64 7,.int .i64 1,.int .i64 100]] W fun e w' => e = .returned (.tuple #[.agg cd.toArray,.iface 83 (.int .i64 17)])∧FoTo lo P st 8 n F W w'):=fun n F W hn h => by
      rw [hcd]
      have:=plan_call hpd n F W (by have:=HNBQ.out;have:=HIC.out;omega) h
      rw [show erV 17 = .iface 83 (.int .i64 17) from if_neg (by decide)] at this
      exact this
     obtain ⟨cs,hcs⟩:∃ cs,cs=s.cells:=⟨_,rfl⟩
     have HCL:Hid (cs.length=12):=by show _=_;rw [hcs];rfl
     have HC1:Hid (∀ u ∈ cs,u.oneCell'=true):=by show ∀ _,_;rw [hcs];exact sess_one _
     have HPL:Hid (∀ (n:Nat) (F:Nat→Prop) (W:World),n≤NB+8→ForAt lo P st n F W→Calls Tryz.prog 8 #[.pointer (some ⟨P.f,0,none⟩),.int .i64 1,.agg #[.int .i64 u1,.int .i64 v1],.agg #[.string ⟨#[97,110,110]⟩,.string ⟨#[116,118]⟩,.int .u64 7,.int .i64 1,.int .i64 100]] W fun e w' => e = .returned (.tuple #[.agg cs.toArray,.nilIface])∧FoTo lo P st 8 n F W w'):=fun n F W hn h => by
      rw [hcs]
      exact plan_call hpl n F W (by have:=HNBQ.out;have:=HIC.out;omega) h
     have HIS:=Lib.hid hsw.seen.is.1
     obtain ⟨sl0,hsl0⟩:∃ x,x=s.slot:=⟨_,rfl⟩
     obtain ⟨bi0,hbi0⟩:∃ x,x=s.birth:=⟨_,rfl⟩
     obtain ⟨kn,hkn⟩:∃ k:Kn,k=⟨sl0,bi0,0,100,false⟩:=⟨_,rfl⟩
     have HSW2:Hid (Sw st2 (A ++ [s]) (l ++ [kn])):=by
      show Sw _ _ _
      rw [hkn,hsl0,hbi0,← hs100];exact hsw2
     obtain ⟨ks,hks⟩:∃ ks,ks=kn.cells:=⟨_,rfl⟩
     have HKL:Hid (ks.length=5):=by show _=_;rw [hks];rfl
     have HK1:Hid (∀ u ∈ ks,u.oneCell'=true):=by show ∀ _,_;rw [hks];exact kn_one _
     have HKS:Hid (ks=[.int .i64 sl0,.int .i64 bi0,.int .i64 (0),.int .i64 100,.bool false]):=by show _=_;rw [hks,hkn];rfl
     have HKQ:Hid (ks=kn.cells):=hks
     have HC0:Hid (cs.toArray[0]? = some (.int .i64 sl0)):=by show _=_;rw [hcs,hsl0];rfl
     have HCB:Hid (cs.toArray[1]? = some (.int .i64 bi0)):=by show _=_;rw [hcs,hbi0];rfl
     have HBRN:Hid (∀ (n:Nat) (F:Nat→Prop) (W:World),n≤NB+16→ForAt lo P st n F W→Calls Tryz.prog 11 #[.pointer (some ⟨P.f,0,none⟩),.agg cs.toArray] W fun e w' => e = .returned .nilIface∧FoTo lo P st2 6 n F W w'):=fun n F W hn h => by
      rw [hcs]
      exact born_call HIS.out hbo hs7 n F W (by have:=HNBQ.out;have:=HIC.out;omega) h
     clear hsl0 hbi0 hkn hks hbo hsw2 hs7 hs100 hcs
     have HSL2:Hid (∀ n F xs W,LawAt w lo P st n F (.slice (some ⟨g,o,none⟩) l.length rv) l xs W→W.cell? ⟨g,o,none⟩=some (.int .i64 u1)∧W.cell? ⟨g,o+1,none⟩=some (.int .i64 v1)):=fun n F xs W h => by
      obtain ⟨g',o',e,-,y0,y1,-⟩:=h.in_.at (show 0<l.length by omega)
      cases e
      rw [hu1,hv1]
      exact ⟨by simpa using y0,by simpa using y1⟩
     have b10:(0:Int)<(l.length:Int):=by omega
     have b11:0<l.length:=by omega
     clear hsw hli hi32 hips hc hpl hbi hus hub hpA kp hdp hn32 hpd hp1 k1 hd1 hu1 hv1 hcd
     go_upto_region 11 with fail
     rw [← HWz.out,← HB9.out]
     go_upto_region 15 with (first
      | (go_at_call 7;refine (HPK.out _).mono ?_;rintro e w' ⟨rfl,rfl⟩)
      | (refine wpList_store_mid (by rfl) 28 (.tmp 9) (.tmp 45) (by rfl) b9 0 #[.int .i64 us,.int .i64 ub] (by rfl) (by rfl) HTH.out (by kernel_rfl) (all_oneCell_toArray HOL.out) ?_;rw [List.toList_toArray,← HW9.out]))
     (try simp only [Act.put,zq1,zq2,zq3,zq4,zq5,zq6])
     go_cut [11,12] from 46 to 53 (fun t11 t12 wc => ∃ b,t11 = .pointer (some ⟨b,0,none⟩)∧t12 = .iface 83 (.int .i64 17)∧∃ n2 F2,n2≤NB+8∧LawAt w lo P st n2 F2 (.slice (some ⟨g,o,none⟩) l.length rv) l [(b,cd.toArray,35)] wc)
     case first =>
      refine wp_region_held_drew (S:=fun W => W.cell? ⟨b9,0,none⟩=some (.int .i64 us)∧W.cell? ⟨b9,1,none⟩=some (.int .i64 ub)) (by kernel_rfl) (HSL.out _ _ _ _ (HL9.out.below ((Below.refl _ _).drew)) (by simp)) (fun _ => ?_)
      have hL:=HL9.out.below ((Below.refl _ _).drew)
      have hn:=HNB.out
      generalize W9.drew=wd at hL ⊢
      refine tq 0 rfl (.pointer (some ⟨P.f,0,none⟩)) (HSL.out _ _ _ _ hL (by simp)) ?_
      (try simp only [Act.put,zq1,zq2,zq3,zq4,zq5,zq6])
      refine tq 1 rfl (.int .i64 1) (HSL.out _ _ _ _ hL (by simp)) ?_
      (try simp only [Act.put,zq1,zq2,zq3,zq4,zq5,zq6])
      refine tq 2 rfl (.agg #[.int .i64 us,.int .i64 ub]) (HSL.out _ _ _ _ hL (by simp)) ?_
      (try simp only [Act.put,zq1,zq2,zq3,zq4,zq5,zq6])
      refine wpAnyH_ready (rs:=[3,8]) (by kernel_rfl) (by simp) (AllReadyH.cons rfl (fun K hK => ?_) (AllReadyH.cons rfl (fun K hK => ?_) AllReadyH.nil))
      ·go_simp
       refine (HAS.out _).mono ?_
       rintro e wa ⟨rfl,hb⟩
       replace hL:=hL.below hb
       clear hb
       refine hK.out _ _ (HSL.out _ _ _ _ hL (by simp)) (fun _ => ?_)
       clear hK K
       (try simp only [Act.put,zq1,zq2,zq3,zq4,zq5,zq6])
       refine wpAnyH_ready (rs:=[4,8]) (by kernel_rfl) (by simp) (AllReadyH.cons rfl (fun K hK => ?_) (AllReadyH.cons rfl (fun K hK => ?_) AllReadyH.nil))
       ·go_simp
        refine (HPD.out _ _ _ hn hL.fa).mono ?_
        rintro e wp ⟨rfl,hf⟩
        obtain ⟨n2,F2,a2,-,hL2⟩:=hL.to hf
        have hn2:=Nat.le_trans a2 (Nat.add_le_add_right hn 8)
        clear a2 hL hf
        have hL:=hL2
        clear hL2
        refine hK.out _ _ (HSL.out _ _ _ _ hL (by simp)) (fun _ => ?_)
        clear hK K
        (try simp only [Act.put,zq1,zq2,zq3,zq4,zq5,zq6])
        refine tq 5 rfl (.tuple #[.agg cd.toArray,.iface 83 (.int .i64 17)]) (HSL.out _ _ _ _ hL (by simp)) ?_
        (try simp only [Act.put,zq1,zq2,zq3,zq4,zq5,zq6])
        refine tq 6 rfl (.agg cd.toArray) (HSL.out _ _ _ _ hL (by simp)) ?_
        (try simp only [Act.put,zq1,zq2,zq3,zq4,zq5,zq6])
        refine tq 7 rfl (.iface 83 (.int .i64 17)) (HSL.out _ _ _ _ hL (by simp)) ?_
        (try simp only [Act.put,zq1,zq2,zq3,zq4,zq5,zq6])
        refine wpAnyH_ready (rs:=[8]) (by kernel_rfl) (by simp) (AllReadyH.cons rfl (fun K hK => ?_) AllReadyH.nil)
        go_simp
        have hL2:=hL.alloc #[.int .i64 0,.int .i64 0,.int .i64 0,.int .i64 0,.int .i64 0,.string ⟨#[]⟩,.string ⟨#[]⟩,.int .u64 0,.int .i64 0,.int .i64 0,.int .i64 0,.int .i64 0] 35
        have hne:b9≠(wp).heap.size:=Nat.ne_of_lt (Array.getElem?_eq_some_iff.1 (hL.vrs (b9,#[.int .i64 us,.int .i64 ub],28) (by simp)).1).1
        clear hL
        have hL:=hL2
        clear hL2
        refine hK.out _ _ (HSL.out _ _ _ _ hL (by simp)) (fun _ => ?_)
        clear hK K
        (try simp only [Act.put,zq1,zq2,zq3,zq4,zq5,zq6])
        generalize World.alloc wp (.cells #[.int .i64 0,.int .i64 0,.int .i64 0,.int .i64 0,.int .i64 0,.string ⟨#[]⟩,.string ⟨#[]⟩,.int .u64 0,.int .i64 0,.int .i64 0,.int .i64 0,.int .i64 0] 35)=wz at hL ⊢
        generalize hbq:(wp).heap.size=b at hL hne ⊢
        clear hbq
        refine wpAnyH_ready (rs:=[9]) (by kernel_rfl) (by simp) (AllReadyH.cons rfl (fun K hK => ?_) AllReadyH.nil)
        rw [if_pos (by rfl)]
        refine wp_store_mid 35 (.tmp 11) (.tmp 52) (by rfl) b 0 cd.toArray (by rfl) (by rfl) (Ag.there_row (hL.vrs _ (List.mem_cons_self ..)).1 _ (by rw [List.size_toArray,HDL.out];show 12≤12;decide)) (by rw [List.size_toArray,HDL.out];kernel_rfl) (all_oneCell_toArray HD1.out) ?_
        rw [List.toList_toArray]
        have hL2:=hL.set cd (by rw [HDL.out];rfl) (by intro x hx;simp at hx;subst hx;exact hne)
        clear hL
        have hL:=hL2
        clear hL2
        generalize World.setCells wz b 0 cd=ws at hL ⊢
        refine hK.out _ _ (HSL.out _ _ _ _ hL (by simp)) (fun _ => ?_)
        clear hK K
        (try simp only [Act.put,zq1,zq2,zq3,zq4,zq5,zq6])
        refine tq 10 rfl (.iface 83 (.int .i64 17)) (HSL.out _ _ _ _ hL (by simp)) ?_
        (try simp only [Act.put,zq1,zq2,zq3,zq4,zq5,zq6])
        refine wpAnyH_done (by kernel_rfl) ?_ _
        (try simp only [Act.put,zq1,zq2,zq3,zq4,zq5,zq6])
        go_wp2_with fail
        go_meet
        case rel => exact ⟨_,rfl,rfl,_,_,hn2,hL.sub (by simp)⟩
       ·go_simp
        have hL2:=hL.alloc #[.int .i64 0,.int .i64 0,.int .i64 0,.int .i64 0,.int .i64 0,.string ⟨#[]⟩,.string ⟨#[]⟩,.int .u64 0,.int .i64 0,.int .i64 0,.int .i64 0,.int .i64 0] 35
        have hne:b9≠(wa).heap.size:=Nat.ne_of_lt (Array.getElem?_eq_some_iff.1 (hL.vrs (b9,#[.int .i64 us,.int .i64 ub],28) (by simp)).1).1
        clear hL
        have hL:=hL2
        clear hL2
        refine hK.out _ _ (HSL.out _ _ _ _ hL (by simp)) (fun _ => ?_)
        clear hK K
        (try simp only [Act.put,zq1,zq2,zq3,zq4,zq5,zq6])
        generalize World.alloc wa (.cells #[.int .i64 0,.int .i64 0,.int .i64 0,.int .i64 0,.int .i64 0,.string ⟨#[]⟩,.string ⟨#[]⟩,.int .u64 0,.int .i64 0,.int .i64 0,.int .i64 0,.int .i64 0] 35)=wz at hL ⊢
        generalize hbq:(wa).heap.size=b at hL hne ⊢
        clear hbq
        refine wpAnyH_ready (rs:=[4]) (by kernel_rfl) (by simp) (AllReadyH.cons rfl (fun K hK => ?_) AllReadyH.nil)
        go_simp
        refine (HPD.out _ _ _ hn hL.fa).mono ?_
        rintro e wp ⟨rfl,hf⟩
        obtain ⟨n2,F2,a2,-,hL2⟩:=hL.to hf
        have hn2:=Nat.le_trans a2 (Nat.add_le_add_right hn 8)
        clear a2 hL hf
        have hL:=hL2
        clear hL2
        refine hK.out _ _ (HSL.out _ _ _ _ hL (by simp)) (fun _ => ?_)
        clear hK K
        (try simp only [Act.put,zq1,zq2,zq3,zq4,zq5,zq6])
        refine tq 5 rfl (.tuple #[.agg cd.toArray,.iface 83 (.int .i64 17)]) (HSL.out _ _ _ _ hL (by simp)) ?_
        (try simp only [Act.put,zq1,zq2,zq3,zq4,zq5,zq6])
        refine tq 6 rfl (.agg cd.toArray) (HSL.out _ _ _ _ hL (by simp)) ?_
        (try simp only [Act.put,zq1,zq2,zq3,zq4,zq5,zq6])
        refine tq 7 rfl (.iface 83 (.int .i64 17)) (HSL.out _ _ _ _ hL (by simp)) ?_
        (try simp only [Act.put,zq1,zq2,zq3,zq4,zq5,zq6])
        refine wpAnyH_ready (rs:=[9]) (by kernel_rfl) (by simp) (AllReadyH.cons rfl (fun K hK => ?_) AllReadyH.nil)
        rw [if_pos (by rfl)]
        refine wp_store_mid 35 (.tmp 11) (.tmp 52) (by rfl) b 0 cd.toArray (by rfl) (by rfl) (Ag.there_row (hL.vrs _ (List.mem_cons_self ..)).1 _ (by rw [List.size_toArray,HDL.out];show 12≤12;decide)) (by rw [List.size_toArray,HDL.out];kernel_rfl) (all_oneCell_toArray HD1.out) ?_
        rw [List.toList_toArray]
        have hL2:=hL.set cd (by rw [HDL.out];rfl) (by intro x hx;simp at hx;subst hx;exact hne)
        clear hL
        have hL:=hL2
        clear hL2
        generalize World.setCells wp b 0 cd=ws at hL ⊢
        refine hK.out _ _ (HSL.out _ _ _ _ hL (by simp)) (fun _ => ?_)
        clear hK K
        (try simp only [Act.put,zq1,zq2,zq3,zq4,zq5,zq6])
        refine tq 10 rfl (.iface 83 (.int .i64 17)) (HSL.out _ _ _ _ hL (by simp)) ?_
        (try simp only [Act.put,zq1,zq2,zq3,zq4,zq5,zq6])
        refine wpAnyH_done (by kernel_rfl) ?_ _
        (try simp only [Act.put,zq1,zq2,zq3,zq4,zq5,zq6])
        go_wp2_with fail
        go_meet
        case rel => exact ⟨_,rfl,rfl,_,_,hn2,hL.sub (by simp)⟩
      ·go_simp
       have hL2:=hL.alloc #[.int .i64 0,.int .i64 0,.int .i64 0,.int .i64 0,.int .i64 0,.string ⟨#[]⟩,.string ⟨#[]⟩,.int .u64 0,.int .i64 0,.int .i64 0,.int .i64 0,.int .i64 0] 35
       have hne:b9≠(wd).heap.size:=Nat.ne_of_lt (Array.getElem?_eq_some_iff.1 (hL.vrs (b9,#[.int .i64 us,.int .i64 ub],28) (by simp)).1).1
       clear hL
       have hL:=hL2
       clear hL2
       refine hK.out _ _ (HSL.out _ _ _ _ hL (by simp)) (fun _ => ?_)
       clear hK K
       (try simp only [Act.put,zq1,zq2,zq3,zq4,zq5,zq6])
       generalize World.alloc wd (.cells #[.int .i64 0,.int .i64 0,.int .i64 0,.int .i64 0,.int .i64 0,.string ⟨#[]⟩,.string ⟨#[]⟩,.int .u64 0,.int .i64 0,.int .i64 0,.int .i64 0,.int .i64 0] 35)=wz at hL ⊢
       generalize hbq:(wd).heap.size=b at hL hne ⊢
       clear hbq
       refine wpAnyH_ready (rs:=[3]) (by kernel_rfl) (by simp) (AllReadyH.cons rfl (fun K hK => ?_) AllReadyH.nil)
       go_simp
       refine (HAS.out _).mono ?_
       rintro e wa ⟨rfl,hb⟩
       replace hL:=hL.below hb
       clear hb
       refine hK.out _ _ (HSL.out _ _ _ _ hL (by simp)) (fun _ => ?_)
       clear hK K
       (try simp only [Act.put,zq1,zq2,zq3,zq4,zq5,zq6])
       refine wpAnyH_ready (rs:=[4]) (by kernel_rfl) (by simp) (AllReadyH.cons rfl (fun K hK => ?_) AllReadyH.nil)
       go_simp
       refine (HPD.out _ _ _ hn hL.fa).mono ?_
       rintro e wp ⟨rfl,hf⟩
       obtain ⟨n2,F2,a2,-,hL2⟩:=hL.to hf
       have hn2:=Nat.le_trans a2 (Nat.add_le_add_right hn 8)
       clear a2 hL hf
       have hL:=hL2
       clear hL2
       refine hK.out _ _ (HSL.out _ _ _ _ hL (by simp)) (fun _ => ?_)
       clear hK K
       (try simp only [Act.put,zq1,zq2,zq3,zq4,zq5,zq6])
       refine tq 5 rfl (.tuple #[.agg cd.toArray,.iface 83 (.int .i64 17)]) (HSL.out _ _ _ _ hL (by simp)) ?_
       (try simp only [Act.put,zq1,zq2,zq3,zq4,zq5,zq6])
       refine tq 6 rfl (.agg cd.toArray) (HSL.out _ _ _ _ hL (by simp)) ?_
       (try simp only [Act.put,zq1,zq2,zq3,zq4,zq5,zq6])
       refine tq 7 rfl (.iface 83 (.int .i64 17)) (HSL.out _ _ _ _ hL (by simp)) ?_
       (try simp only [Act.put,zq1,zq2,zq3,zq4,zq5,zq6])
       refine wpAnyH_ready (rs:=[9]) (by kernel_rfl) (by simp) (AllReadyH.cons rfl (fun K hK => ?_) AllReadyH.nil)
       rw [if_pos (by rfl)]
       refine wp_store_mid 35 (.tmp 11) (.tmp 52) (by rfl) b 0 cd.toArray (by rfl) (by rfl) (Ag.there_row (hL.vrs _ (List.mem_cons_self ..)).1 _ (by rw [List.size_toArray,HDL.out];show 12≤12;decide)) (by rw [List.size_toArray,HDL.out];kernel_rfl) (all_oneCell_toArray HD1.out) ?_
       rw [List.toList_toArray]
       have hL2:=hL.set cd (by rw [HDL.out];rfl) (by intro x hx;simp at hx;subst hx;exact hne)
       clear hL
       have hL:=hL2
       clear hL2
       generalize World.setCells wp b 0 cd=ws at hL ⊢
       refine hK.out _ _ (HSL.out _ _ _ _ hL (by simp)) (fun _ => ?_)
       clear hK K
       (try simp only [Act.put,zq1,zq2,zq3,zq4,zq5,zq6])
       refine tq 10 rfl (.iface 83 (.int .i64 17)) (HSL.out _ _ _ _ hL (by simp)) ?_
       (try simp only [Act.put,zq1,zq2,zq3,zq4,zq5,zq6])
       refine wpAnyH_done (by kernel_rfl) ?_ _
       (try simp only [Act.put,zq1,zq2,zq3,zq4,zq5,zq6])
       go_wp2_with fail
       go_meet
       case rel => exact ⟨_,rfl,rfl,_,_,hn2,hL.sub (by simp)⟩
     case rest =>
      obtain ⟨b,rfl,rfl,n2,F2,hn2,hL2⟩:=hcut
      obtain ⟨wb,rfl⟩:∃ x:World,x=wc:=⟨_,rfl⟩
      have HLB0:=Lib.hid hL2
      have HNB0:=Lib.hid hn2
      clear hL2 hn2
      go_upto_region 18 with (go_at_call 10;refine (num_errno 17 (by decide) (by decide) _).mono ?_;rintro e w' ⟨rfl,rfl⟩)
      go_cut [12] from 57 to 67 (fun t12 wc => t12 = .nilIface∧∃ n3 F3,n3≤NB+16∧LawAt w lo P st n3 F3 (.slice (some ⟨g,o,none⟩) l.length rv) l [(b,cs.toArray,35)] wc)
      case first =>
       refine wp_region_held_drew (S:=fun W => W.cell? ⟨g,o,none⟩=some (.int .i64 u1)∧W.cell? ⟨g,o+1,none⟩=some (.int .i64 v1)) (by kernel_rfl) (HSL2.out _ _ _ _ (HLB0.out.below ((Below.refl _ _).drew))) (fun _ => ?_)
       have hL:=HLB0.out.below ((Below.refl _ _).drew)
       have hn:=HNB0.out
       generalize wb.drew=wd at hL ⊢
       refine tq 0 rfl (.pointer (some ⟨P.f,0,none⟩)) (HSL2.out _ _ _ _ hL) ?_
       (try simp only [Act.put,zq1,zq2,zq3,zq4,zq5,zq6])
       refine tq 1 rfl (.int .i64 1) (HSL2.out _ _ _ _ hL) ?_
       (try simp only [Act.put,zq1,zq2,zq3,zq4,zq5,zq6])
       refine tq 2 rfl (.slice (some ⟨g,o,none⟩) l.length rv) (HSL2.out _ _ _ _ hL) ?_
       (try simp only [Act.put,zq1,zq2,zq3,zq4,zq5,zq6])
       refine tq 3 rfl (.pointer (some ⟨g,o,none⟩)) (HSL2.out _ _ _ _ hL) ?_
       (try simp only [Act.put,zq1,zq2,zq3,zq4,zq5,zq6])
       refine tq 4 rfl (.pointer (some ⟨g,o,none⟩)) (HSL2.out _ _ _ _ hL) ?_
       (try simp only [Act.put,zq1,zq2,zq3,zq4,zq5,zq6])
       refine tq 5 rfl (.agg #[.int .i64 u1,.int .i64 v1]) (HSL2.out _ _ _ _ hL) ?_
       (try simp only [Act.put,zq1,zq2,zq3,zq4,zq5,zq6])
       refine wpAnyH_ready (rs:=[6]) (by kernel_rfl) (by simp) (AllReadyH.cons rfl (fun K hK => ?_) AllReadyH.nil)
       go_simp
       refine (HAS.out _).mono ?_
       rintro e wa ⟨rfl,hb⟩
       replace hL:=hL.below hb
       clear hb
       refine hK.out _ _ (HSL2.out _ _ _ _ hL) (fun _ => ?_)
       clear hK K
       (try simp only [Act.put,zq1,zq2,zq3,zq4,zq5,zq6])
       refine wpAnyH_ready (rs:=[7]) (by kernel_rfl) (by simp) (AllReadyH.cons rfl (fun K hK => ?_) AllReadyH.nil)
       go_simp
       refine (HPL.out _ _ _ hn hL.fa).mono ?_
       rintro e wp ⟨rfl,hf⟩
       obtain ⟨n2,F2,a2,-,hL2⟩:=hL.to hf
       have hn2:=Nat.le_trans a2 (Nat.add_le_add_right hn 8)
       clear a2 hL hf
       have hL:=hL2
       clear hL2
       refine hK.out _ _ (HSL2.out _ _ _ _ hL) (fun _ => ?_)
       clear hK K
       (try simp only [Act.put,zq1,zq2,zq3,zq4,zq5,zq6])
       refine tq 8 rfl (.tuple #[.agg cs.toArray,.nilIface]) (HSL2.out _ _ _ _ hL) ?_
       (try simp only [Act.put,zq1,zq2,zq3,zq4,zq5,zq6])
       refine tq 9 rfl (.agg cs.toArray) (HSL2.out _ _ _ _ hL) ?_
       (try simp only [Act.put,zq1,zq2,zq3,zq4,zq5,zq6])
       refine tq 10 rfl .nilIface (HSL2.out _ _ _ _ hL) ?_
       (try simp only [Act.put,zq1,zq2,zq3,zq4,zq5,zq6])
       refine wpAnyH_ready (rs:=[11]) (by kernel_rfl) (by simp) (AllReadyH.cons rfl (fun K hK => ?_) AllReadyH.nil)
       rw [if_pos (by rfl)]
       refine wp_store_mid 35 (.tmp 11) (.tmp 66) (by rfl) b 0 cs.toArray (by rfl) (by rfl) (Ag.there_row (hL.vrs _ (List.mem_cons_self ..)).1 _ (by rw [List.size_toArray,HCL.out];show 12≤cd.toArray.size;rw [List.size_toArray,HDL.out];decide)) (by rw [List.size_toArray,HCL.out];kernel_rfl) (all_oneCell_toArray HC1.out) ?_
       rw [List.toList_toArray]
       have hL2:=hL.set cs (by rw [HCL.out,List.size_toArray,HDL.out]) (fun x hx => (by cases hx))
       clear hL
       have hL:=hL2
       clear hL2
       generalize World.setCells wp b 0 cs=ws at hL ⊢
       refine hK.out _ _ (HSL2.out _ _ _ _ hL) (fun _ => ?_)
       clear hK K
       (try simp only [Act.put,zq1,zq2,zq3,zq4,zq5,zq6])
       refine tq 12 rfl .nilIface (HSL2.out _ _ _ _ hL) ?_
       (try simp only [Act.put,zq1,zq2,zq3,zq4,zq5,zq6])
       refine wpAnyH_done (by kernel_rfl) ?_ _
       (try simp only [Act.put,zq1,zq2,zq3,zq4,zq5,zq6])
       go_wp2_with fail
       go_meet
       case rel => exact ⟨rfl,_,_,hn2,hL⟩
      case rest =>
       obtain ⟨rfl,n2,F2,hn2,hL2⟩:=hcut
       obtain ⟨wb2,rfl⟩:∃ x:World,x=wc:=⟨_,rfl⟩
       clear HLB0 HNB0
       have HLB:=Lib.hid hL2
       have HNB2:Hid (n2≤NB+16):=by show _≤_;omega
       clear hL2 hn2
       go_upto_region 19 with fail
       go_upto_region 21 with (first
        | (refine Gd.load_row (by kernel_rfl) 35 (.tmp 11) rfl _ (by rfl) _ _ _ _ (HLB.out.vrs _ (List.mem_cons_self ..)).1 Tryz.underlying35 rfl (by rw [List.size_toArray,HCL.out];kernel_rfl) ?_)
        | (go_at_call 11;refine (HBRN.out _ _ _ HNB2.out HLB.out.fa).mono ?_;rintro e w5 ⟨rfl,h5⟩;obtain ⟨n5,F5,a5,-,hL5⟩:=HLB.out.to h5;(have x1:w5.cell? ⟨b,0,none⟩=some (.int .i64 sl0):=by rw [hL5.cell (List.mem_cons_self ..)];exact HC0.out);(have x2:w5.cell? ⟨b,1,none⟩=some (.int .i64 bi0):=by rw [hL5.cell (List.mem_cons_self ..)];exact HCB.out);have HL5:=Lib.hid hL5;have HA5:=Lib.hid a5;clear h5 hL5 a5))
       have am1:l.length+1≤maxLen:=by unfold maxLen;have:=HLI.out;have:=HIC.out;omega
       have am3:(l.length+1) * 40≤140737488355328:=by have:=HLI.out;have:=HIC.out;omega
       have k3:w.heap.size≤(w5.alloc (.cells ks.toArray 31)).heap.size:=by have:=HL5.out.bel.size;simp;omega
       go_wp2_with (first
        | (refine Ag.wpList_one (by rfl) 26 31 _ (by rfl) ks (by rw [HKS.out];rfl) i0 _ Tryz.underlying26 hi hz0 (by rw [hz1];exact HKL.out) (by rw [hz1];decide) (by rw [hz1];decide) ?_)
        | (at_builtin;(refine wpList_append_own_at _ rfl _ _ 26 rfl w.heap.size 31 i0 (.agg #[.int .i64 0,.int .i64 0,.int .i64 0,.int .i64 0,.bool false]) 5 40 Tryz.underlying26 hi hz0 hz1 hz2 rfl (by decide) _ _ _ rfl (HL5.out.row.alloc _) ⟨w5.heap.size,0,none⟩ 1 1 ks rfl HKL.out (World.news_of_block (Ut.alloc_at _ _)) HK1.out am1 am3 k3 ?_);(intro v1 w1 hown' hgrow hnil hat;(have HN:=Lib.hid (HL5.out.push (k:=kn) (by rw [← HKQ.out];exact hown') hgrow hat));clear hown' hgrow hat hnil)))
       have f1:=HIC.out;have f2:=HLI.out;have f3:=HNBQ.out;have f4:=HA5.out;have f5:=HNB2.out
       refine ⟨⟨i+1,st2,_,l ++ [kn],by omega,by omega,by go_num,by rw [List.length_append,List.length_singleton];omega,HSW2.out,fun h => absurd h (by omega),n5,F5,by omega,HN.out.sub (by simp)⟩,by simp [intOf];omega⟩
  ·have hpos:0<l.length:=by
    rcases Nat.eq_zero_or_pos i with h0 | h0
    ·exact absurd ⟨by omega,by omega⟩ hc
    ·omega
   go_upto_region 6 with fail
   go_cut [28] from 21 to 28 (fun t28 wc => t28 = .bool false∧wc=wr)
   case first =>
    by_cases hx:i≤ps.length
    ·have b1:(i:Int)≤(ps.length:Int):=by omega
     have b3:(32:Int)≤(i:Int):=by omega
     have HX:=Lib.hid hx
     have HLIx:=Lib.hid hli
     clear hx hc hsw hL hnw hli hi0
     go_wp2_with fail
     go_meet
     case rel => exact ⟨by rw [decide_eq_false (by omega)],rfl⟩
    ·have b1:(ps.length:Int)<(i:Int):=by omega
     have HX:=Lib.hid hx
     have HLIx:=Lib.hid hli
     clear hx hc hsw hL hnw hli hi0
     go_wp2_with fail
     go_meet
     case rel => exact ⟨rfl,rfl⟩
   case rest =>
    obtain ⟨rfl,rfl⟩:=hcut
    obtain ⟨wa,rfl⟩:∃ x:World,x=wc:=⟨_,rfl⟩
    have hl32:l.length≤32:=by omega
    obtain ⟨g,rfl⟩:∃ g,qv=some ⟨g,0,none⟩:=by
     rcases hL.row.2 with ⟨e,h0⟩ | ⟨g,c,cur,e,_⟩
     ·omega
     ·cases e;exact ⟨g,rfl⟩
    obtain ⟨k,hk⟩:∃ k:Nat,which % (l.length:Int)=k:=⟨(which % (l.length:Int)).toNat,by have:=Int.emod_nonneg which (show (l.length:Int)≠0 by omega);omega⟩
    have hkl:k<l.length:=by have:=Int.emod_lt_of_pos which (show (0:Int)<(l.length:Int) by omega);omega
    have HPK:Hid (∀ W,Calls Tryz.prog 7 #[.int .i64 which,.int .i64 (l.length:Int)] W fun e w' => e = .returned (.int .i64 (k:Int))∧W=w'):=fun W => by
     rw [← hk];exact Pk.pick_any which _ (by omega) (by omega) W
    obtain ⟨FR,hFR⟩:∃ FR,FR=st.free.length:=⟨_,rfl⟩
    obtain ⟨st2,A2,hrv,hS2,hc2,hf2,hcnt,hroom,hal⟩:=hsw.cut hkl
    have hnw2:nw≤1024:=by omega
    obtain ⟨us,hus⟩:∃ us,us=(kat l k).slot:=⟨_,rfl⟩
    obtain ⟨ub,hub⟩:∃ ub,ub=(kat l k).birth:=⟨_,rfl⟩
    rw [← hus,← hub] at hrv
    have HCELL:Hid (∀ n F st' xs W,LawAt w lo P st' n F (.slice (some ⟨g,0,none⟩) l.length rv) l xs W→W.cell? ⟨g,k * 5,none⟩=some (.int .i64 us)∧W.cell? ⟨g,k * 5+1,none⟩=some (.int .i64 ub)∧(∃ e:Bool,W.cell? ⟨g,k * 5+4,none⟩=some (.bool e))∧W.frozen? ⟨g,k * 5+4,none⟩=false):=fun n F st' xs W h => by
     obtain ⟨g',o',e,-,y0,y1,-,-,y4⟩:=h.in_.at hkl
     cases e
     rw [hus,hub]
     refine ⟨by simpa using y0,by simpa using y1,⟨_,by simpa using y4⟩,?_⟩
     rcases h.row.2 with ⟨e,_⟩ | ⟨g2,c2,cur,e,_,e3,_⟩
     ·cases e
     ·cases e;simp [World.frozen?,e3]
    have HLA:=Lib.hid hL
    have HD1:=Lib.hid (fun (W:World) (hb:Below wa.heap.size wa W) => ldump (hL.fa.below hb) FR hFR.symm st.garb rfl)
    have HWR:=Lib.hid (fun (n:Nat) (F:Nat→Prop) (s:FS) (W:World) (h:ForAt lo P s n F W) => fwrites h)
    have HRV:Hid (∀ n F W,n≤1024→ForAt lo P st n F W→Calls Tryz.prog 14 #[.pointer (some ⟨P.f,0,none⟩),.agg #[.int .i64 us,.int .i64 ub]] W fun e w' => e = .returned .nilIface∧FoTo lo P st2 8 n F W w'):=fun n F W hn h => by
     have:=frevoke h (by omega) us ub 0 hrv
     rw [show erV 0 = .nilIface from if_pos rfl] at this
     exact this
    have HD2:Hid (∀ n F W,ForAt lo P st2 n F W→Calls Tryz.prog 12 #[.pointer (some ⟨P.f,0,none⟩)] W fun e w' => (∃ c b v1 q r ro,e = .returned (.agg #[.int .i64 c,.int .i64 b,v1,.slice q FR r,.int .i64 st2.garb,.int .i64 ro]))∧Below W.heap.size W w'):=fun n F W h => ldump h FR (by rw [hf2,hFR]) _ rfl
    obtain ⟨l2,hl2⟩:∃ l2,l2=endK l k:=⟨_,rfl⟩
    have hlen2:l2.length=l.length:=by rw [hl2,endK_len]
    rw [← hl2] at hS2 hcnt
    have HEND:Hid (∀ n F s xs W,LawAt w lo P s n F (.slice (some ⟨g,0,none⟩) l.length rv) l xs W→LawAt w lo P s n F (.slice (some ⟨g,0,none⟩) l.length rv) l2 xs (W.setCell ⟨g,k * 5+4,none⟩ (.bool true))):=fun n F s xs W h => by rw [hl2];exact h.ended hkl
    have HCNT:Hid (∀ W,KIn W (.slice (some ⟨g,0,none⟩) l.length rv) l2→Calls Tryz.prog 15 #[.slice (some ⟨g,0,none⟩) l.length rv,.int .i64 0] W fun e w' => e = .returned (.int .i64 (A2.length:Int))∧Below W.heap.size W w'):=fun W h => by
     rw [hcnt];exact lcount_any l2 hS2.ups (by omega) _ 0 W h
    have HSK2:=Lib.hid hS2;have HC2:=Lib.hid hc2;have HLEN2:=Lib.hid hlen2
    have HF2:Hid (st2.free.length=FR):=by show _=_;rw [hf2,hFR]
    have HNW2:=Lib.hid hnw2
    have HROOM:Hid (FR+l.length=32):=by show _=_;rw [hFR];exact hroom
    have HAL:=Lib.hid hal
    obtain ⟨x0,x1,-,-⟩:=HCELL.out _ _ _ _ _ hL
    have b1:(0:Int)≤(k:Int):=by omega
    have b3:(k:Int)<(l.length:Int):=by omega
    have HKL:=Lib.hid hkl;have HL32:=Lib.hid hl32
    have HLI:=Lib.hid hli;have HI32:=Lib.hid hi32
    clear hL hsw hi0 hnw hnw2 hk hkl hFR hrv hS2 hc2 hf2 hcnt hroom hal hus hub hl2 hlen2 hl32 hpos hc hi32 hips hli b0 b2
    go_upto_region 23 with (go_at_call 7;refine (HPK.out _).mono ?_;rintro e w' ⟨rfl,rfl⟩)
    go_wp2_with fail
    refine (HD1.out _ (Below.refl _ _)).mono ?_
    rintro e w3 ⟨⟨dc,db,dv,dq,dr,dro,rfl⟩,hb3⟩
    have hfd:=fun W => dump_free dc db st.garb dro dv (.slice dq FR dr) W
    have HL3:=Lib.hid (HLA.out.below hb3)
    clear hb3
    have b4:(FR:Int)≤32:=by have:=HROOM.out;omega
    have b5:(0:Int)≤(FR:Int):=by omega
    go_upto_region 25 with (go_at_call 13;refine (HWR.out _ _ _ _ HL3.out.fa).mono ?_;rintro e w' ⟨rfl,rfl⟩)
    obtain ⟨x0,x1,-,-⟩:=HCELL.out _ _ _ _ _ HL3.out
    clear hfd
    go_wp2_with fail
    refine (HRV.out _ _ _ HNW2.out HL3.out.fa).mono ?_
    rintro e w4 ⟨rfl,h4⟩
    obtain ⟨n4,F4,a4,c4,hL4⟩:=HL3.out.to h4
    have hnb:=HNW2.out
    have hdw:IntKind.i64.wrap ((n4:Int)-(nw:Int))=(n4:Int)-(nw:Int):=IntWalk.i64_in _ (by omega)
    have hdd:(n4:Int)-(nw:Int)≤10:=by omega
    have HL4:=Lib.hid hL4;have HN4:Hid (n4≤2000):=by show _≤_;omega
    clear h4 hL4 a4 c4 hnb x0 x1
    go_wp2_with fail
    refine (HWR.out _ _ _ _ HL4.out.fa).mono ?_
    rintro e w' ⟨rfl,rfl⟩
    go_wp2_with fail
    refine (HD2.out _ _ _ HL4.out.fa).mono ?_
    rintro e w5 ⟨⟨dc,db,dv,dq,dr,dro,rfl⟩,hb5⟩
    have hfd:=fun W => dump_free dc db st2.garb dro dv (.slice dq FR dr) W
    have HL5:=Lib.hid (HL4.out.below hb5)
    obtain ⟨-,-,⟨e4,x4⟩,x5⟩:=HCELL.out _ _ _ _ _ HL5.out
    clear hb5
    go_upto_region 28 with fail
    have HL6:=Lib.hid (HEND.out _ _ _ _ _ HL5.out)
    clear x4 x5 hfd hdw hdd
    generalize World.setCell _ ⟨g,k * 5+4,none⟩ (.bool true)=w6 at HL6 ⊢
    obtain ⟨D,hD⟩:∃ D,D=l.length-A2.length:=⟨_,rfl⟩
    have hDw:IntKind.i64.wrap ((l.length:Int)-(A2.length:Int))=(D:Int):=by
     have:=HL32.out;have:=HAL.out
     rw [IntWalk.i64_in _ (by omega)];omega
    have HDD:Hid (D=l.length-A2.length):=hD
    have HD32:Hid (D≤32):=by show _≤_;have:=HL32.out;omega
    clear hD
    go_wp2_with fail
    refine (HCNT.out _ HL6.out.in_).mono ?_
    rintro e w7 ⟨rfl,hb7⟩
    have HL7:=Lib.hid (HL6.out.below hb7)
    clear hb7
    go_wp2
    clear hDw
    go_loopw [17] (fun a wr => ∃ (i2:Nat) (s:FS) (n:Nat) (F:Nat→Prop),1≤i2∧i2≤D+3∧a = .int .i64 (i2:Int)∧SeenK s A2 l2∧s.clock=0∧s.free.length=FR+min (i2-1) D∧(i2=D+3→s.garb = -1)∧n≤2000+524288 * i2∧LawAt w lo P s n F (.slice (some ⟨g,0,none⟩) l.length rv) l2 [] wr) (fun a _ => D+4-(intOf a).toNat)
    case atStart => exact ⟨1,st2,n4,F4,by omega,by omega,rfl,HSK2.out,HC2.out,by rw [HF2.out];simp,fun h => absurd h (by omega),by have:=HN4.out;omega,HL7.out⟩
    case round =>
     obtain ⟨i2,s,n,F2,h1,h2,rfl,hS,hcl,hfr,hgb,hn,hL⟩:=hrel
     have c1:(1:Int)≤(i2:Int):=by omega
     have c2:(i2:Int)≤35:=by have:=HD32.out;omega
     have c3:(D:Int)≤32:=by have:=HD32.out;omega
     have c4:(0:Int)≤(D:Int):=by omega
     by_cases hc:i2≤D+2
     ·have c5:(i2:Int)≤(D:Int)+2:=by omega
      obtain ⟨s2,hs2,hS2,hcl2,hfr2,hgb2⟩:=sweep_one hS 1 (by decide)
      obtain ⟨FL,hFL⟩:∃ FL,FL=s2.free.length:=⟨_,rfl⟩
      obtain ⟨mn,hmn⟩:∃ mn,mn=min i2 D:=⟨_,rfl⟩
      have hq1:=HROOM.out
      have hq2:=HDD.out
      have hq3:=HAL.out
      have hFLv:FL=FR+mn:=by
       rw [hFL,hfr2,hfr,hmn]
       simp only [show (1:Int).toNat=1 from rfl]
       omega
      have hgb3:i2+1=D+3→s2.garb = -1:=fun h => hgb2 (by
       rw [hfr]
       simp only [show (1:Int).toNat=1 from rfl]
       omega)
      have hmin:min (i2:Int) (D:Int)=(mn:Int):=by rw [hmn];omega
      have hsum:IntKind.i64.wrap ((FR:Int)+(mn:Int))=(FL:Int):=by rw [IntWalk.i64_in _ (by omega)];omega
      have HSWP:Hid (∀ F W,ForAt lo P s n F W→Calls Tryz.prog 16 #[.pointer (some ⟨P.f,0,none⟩),.int .i64 1] W fun e w' => e = .returned .nilIface∧FoTo lo P s2 (8 * 65536) n F W w'):=fun F W h => by
       have:=fsweep h 1 0 (by have:=HD32.out;omega) hs2
       rw [show erV 0 = .nilIface from if_pos rfl] at this
       exact this
      have HDM:Hid (∀ n F W,ForAt lo P s2 n F W→Calls Tryz.prog 12 #[.pointer (some ⟨P.f,0,none⟩)] W fun e w' => (∃ c b v1 q r ro,e = .returned (.agg #[.int .i64 c,.int .i64 b,v1,.slice q FL r,.int .i64 s2.garb,.int .i64 ro]))∧Below W.heap.size W w'):=fun n F W h => ldump h FL hFL.symm _ rfl
      have HSEE:Hid (∀ n F xs W,LawAt w lo P s2 n F (.slice (some ⟨g,0,none⟩) l.length rv) l2 xs W→Calls Tryz.prog 17 #[.pointer (some ⟨P.f,0,none⟩),.slice (some ⟨g,0,none⟩) l.length rv,.int .i64 0] W fun e w' => e = .returned (.bool true)∧Below W.heap.size W w'):=fun n F xs W h => by
       have:=lseen_any h.fa hS2 (by have:=HLEN2.out;have:=HL32.out;omega) _ h.in_
       rw [hcl2,hcl] at this
       exact this
      have HS2X:=Lib.hid hS2;have HCX:Hid (s2.clock=0):=hcl2.trans hcl
      have HFX:Hid (s2.free.length=FR+mn):=by show _=_;rw [← hFL,hFLv]
      have HMN:=Lib.hid hmn;have HGX:=Lib.hid hgb3;have HL:=Lib.hid hL;have HN:=Lib.hid hn;have HI1:=Lib.hid h1;have HI2:=Lib.hid hc
      clear hS hcl hfr hgb hn hL h1 h2 hc hs2 hS2 hcl2 hfr2 hgb2 hFL hmn hq1 hq2 hq3 hFLv hgb3
      go_wp2_with fail
      refine (HSWP.out _ _ HL.out.fa).mono ?_
      rintro e w8 ⟨rfl,h8⟩
      obtain ⟨n8,F8,a8,-,hL8⟩:=HL.out.to h8
      have HL8:=Lib.hid hL8;have HA8:=Lib.hid a8
      clear h8 hL8 a8
      go_wp2_with fail
      refine (HDM.out _ _ _ HL8.out.fa).mono ?_
      rintro e w9 ⟨⟨dc,db,dv,dq,dr,dro,rfl⟩,hb9⟩
      have hfd:=fun W => dump_free dc db s2.garb dro dv (.slice dq FL dr) W
      have HL9:=Lib.hid (HL8.out.below hb9)
      clear hb9
      go_wp2_with fail
      refine (HSEE.out _ _ _ _ HL9.out).mono ?_
      rintro e w10 ⟨rfl,hb10⟩
      have HL10:=Lib.hid (HL9.out.below hb10)
      clear hb10 hfd hmin hsum
      go_wp2
      go_roundw
      case rel => have f1:=HI1.out;have f2:=HI2.out;have f3:=HN.out;have f4:=HA8.out;exact ⟨i2+1,s2,n8,F8,by omega,by omega,by go_num,HS2X.out,HCX.out,by rw [HFX.out,HMN.out,Nat.add_sub_cancel],HGX.out,swb f3 f4,HL10.out⟩
      case measure => have f2:=HI2.out;simp [intOf];omega
     ·have c5:(D:Int)+2<(i2:Int):=by omega
      have hd5:decide ((i2:Int)≤(D:Int)+2)=false:=decide_eq_false (by omega)
      have hg:s.garb = -1:=hgb (by omega)
      obtain ⟨s3,hs3,hS3,hcl3,hfr3,hgb3⟩:=sweep_one hS 65536 (by decide)
      have HDM:=Lib.hid (fun (W:World) (hb:Below wr.heap.size wr W) => ldump (hL.fa.below hb) _ rfl (-1) hg)
      have HSW1:Hid (∀ W,Below wr.heap.size wr W→Calls Tryz.prog 16 #[.pointer (some ⟨P.f,0,none⟩),.int .i64 65536] W fun e w' => e = .returned .nilIface∧FoTo lo P s3 (8 * 65536) n F2 W w'):=fun W hb => by
       have:=fsweep (hL.fa.below hb) 65536 0 (by have:=HD32.out;omega) hs3
       rw [show erV 0 = .nilIface from if_pos rfl] at this
       exact this
      have HSW2:Hid (∀ n F W,n≤40000000→ForAt lo P s3 n F W→Calls Tryz.prog 16 #[.pointer (some ⟨P.f,0,none⟩),.int .i64 65537] W fun e w' => e = .returned (.iface 83 (.int .i64 20))∧FoTo lo P s3 (8 * 65536) n F W w'):=fun n F W hn h => by
       have:=fsweep h 65537 20 (by omega) (sweep_wide s3)
       rw [show erV 20 = .iface 83 (.int .i64 20) from if_neg (by decide)] at this
       exact this
      have HL:=Lib.hid hL;have HN:Hid (n≤20000000):=by show _≤_;have:=HD32.out;omega
      clear hS hcl hfr hgb hn hL h1 h2 hc hs3 hS3 hcl3 hfr3 hgb3 hg
      go_wp2_with fail
      refine (HDM.out _ (Below.refl _ _)).mono ?_
      rintro e w8 ⟨⟨dc,db,dv,dq,dr,dro,rfl⟩,hb8⟩
      have hfd:=fun W => dump_garb dc db (-1) dro dv (.slice dq s.free.length dr) W
      have HB8:=Lib.hid hb8
      have HL8:=Lib.hid (HL.out.below hb8)
      clear hb8
      go_wp2_with fail
      refine (HSW1.out _ HB8.out).mono ?_
      rintro e w9 ⟨rfl,h9⟩
      obtain ⟨n9,F9,a9,-,hL9⟩:=HL8.out.to h9
      have HL9:=Lib.hid hL9;have HN9:Hid (n9≤40000000):=by show _≤_;have:=HN.out;omega
      clear h9 hL9 a9 hfd
      go_wp2_with fail
      refine (HSW2.out _ _ _ HN9.out HL9.out.fa).mono ?_
      rintro e w10 ⟨rfl,h10⟩
      obtain ⟨n10,F10,-,-,hL10⟩:=HL9.out.to h10
      have HB10:=Lib.hid hL10.bel
      clear h10 hL10
      go_wp2_with fail
      refine (num_errno 20 (by decide) (by decide) _).mono ?_
      rintro e w11 ⟨rfl,rfl⟩
      go_wp2
      go_ret
      exact ⟨rfl,HB10.out⟩
end Fr
theorem forestSweeps_row0 {H:Type} {enc:TypeId × Value→H} {w:World} {base:Nat} {spare:Nat→Bool} {held:Bool} (s:List Value) (h:s.length=1∧∀ (i:Nat) (tl:TypeId) (u:Value),[3][i]? = some tl→s[i]? = some u→Go.Proofs.Ar.LeafIs enc Tryz.prog w base spare held tl u):∃ x:Int,s=[.int .i64 x]:=by
 obtain ⟨hl,hs⟩:=h
 match s,hl with
 | [a],_ =>
  obtain ⟨x0,rfl,_⟩:=(hs 0 _ _ rfl rfl).int Tryz.underlying3
  exact ⟨x0,rfl⟩
theorem forestSweeps_walk (v:Value) (rs:List (List Value)) (hl:rs.length≤maxLen) (hz:∀ s ∈ rs,∃ x:Int,s=[.int .i64 x]) (which:Int) (wn:(Lit.int .i64 which).wf=true) (w:World) (ht:Ar.RowArg w v 1 rs) :
  Calls Tryz.prog 3 #[v,.int .i64 which] w fun e w' => e = .returned (.bool true)∧Below w.heap.size w w':=by
 have hex:∃ ps:List Int,rs=ps.map (fun x => [Value.int .i64 x]):=by
  clear hl ht
  induction rs with
  | nil => exact ⟨[],rfl⟩
  | cons a t ih =>
   obtain ⟨x,rfl⟩:=hz a List.mem_cons_self
   obtain ⟨ps,rfl⟩:=ih (fun s hs => hz s (List.mem_cons_of_mem _ hs))
   exact ⟨x :: ps,rfl⟩
 obtain ⟨ps,rfl⟩:=hex
 have hi:In.IntArg w v ps:=by
  obtain ⟨p,cap,rfl,h⟩:=ht
  refine ⟨p,cap,by simp,fun j hj => ?_⟩
  obtain ⟨_,g,o,h1,h2,h3⟩:=h j (by simpa using hj)
  exact ⟨g,o,h1,h2,by simpa using h3 0 (.int .i64 ps[j]) (by simp)⟩
 exact Fr.forestSweeps_core v ps (by rw [List.length_map] at hl;unfold maxLen at hl;omega) which w hi
end Go.Proofs.YtimhglmfckfclaaGreat
