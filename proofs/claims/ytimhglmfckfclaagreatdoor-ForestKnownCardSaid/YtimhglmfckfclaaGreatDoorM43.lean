/- Parts of the proof. -/
import Derived.Test.YtimhglmfckfclaaGreatDoorM42
set_option linter.unusedVariables false
set_option linter.unusedSimpArgs false
set_option maxRecDepth 100000
set_option maxHeartbeats 16000000
namespace Go.Proofs.YtimhglmfckfclaaGreatDoor
section
open Go.RowKit Go.Maps Go.Shelf
namespace Fr
open Vw (Sess)
namespace Fk
attribute [local go_sem] Oper.semAt_some
theorem forestKnown_core (w:World) (hg:erHandle w):Calls Tryz.prog 4 #[] w fun e w' => e = .returned (.bool true)/\Below w.heap.size w w':=by
 have HER:=zh hg
 have HNW:=zh (fnew_any w)
 have HSL:Hid (∀ {lo P z2} st N xs W,KE w lo P st N xs W->(z2,Obj.cells #[.int .i64 0,.int .i64 1] 26 (0,0)) ∈ xs->W.cell? ⟨z2,0,none⟩=some (.int .i64 0)/\W.cell? ⟨z2,1,none⟩=some (.int .i64 1)):=fun st N xs W h hx => ⟨h.cell hx 0,h.cell hx 1⟩
 obtain ⟨c1,hc1⟩:∃ c,c=top1.cells:=⟨_,rfl⟩
 obtain ⟨c2,hc2⟩:∃ c,c=two.cells:=⟨_,rfl⟩
 obtain ⟨c3,hc3⟩:∃ c,c=three.cells:=⟨_,rfl⟩
 obtain ⟨c0,hc0⟩:∃ c,c=s0.cells:=⟨_,rfl⟩
 have Hc1L:Hid (c1.length=12):=by show _=_;rw [hc1];rfl
 have Hc11:Hid (∀ u ∈ c1,u.oneCell'=true):=by show ∀ _,_;rw [hc1];exact sess_one _
 have Hc2L:Hid (c2.length=12):=by show _=_;rw [hc2];rfl
 have Hc21:Hid (∀ u ∈ c2,u.oneCell'=true):=by show ∀ _,_;rw [hc2];exact sess_one _
 have Hc3L:Hid (c3.length=12):=by show _=_;rw [hc3];rfl
 have Hc31:Hid (∀ u ∈ c3,u.oneCell'=true):=by show ∀ _,_;rw [hc3];exact sess_one _
 have Hc0L:Hid (c0.length=12):=by show _=_;rw [hc0];rfl
 have Hc01:Hid (∀ u ∈ c0,u.oneCell'=true):=by show ∀ _,_;rw [hc0];exact sess_one _
 have Hq1:=zh hc1;have Hq2:=zh hc2;have Hq3:=zh hc3;have Hq0:=zh hc0
 clear hg hc1 hc2 hc3 hc0
 refine (callsIn_wide (n:=9)).1 ?_
 refine callsIn_of_wp_marks Tryz.func4 rfl trivial ?_ rfl
 simp only [Tryz.ntmps4,List.size_toArray,List.length_cons,List.length_nil,Nat.reduceAdd,Nat.reduceSub,Array.replicate_succ,Array.replicate_zero,List.push_toArray,List.append_toArray,List.nil_append,List.cons_append]
 refine wpIn_wide.2 ?_
 go_wp2_with fail
 refine HNW.out.mono ?_
 rintro e w1 ⟨P,F0,rfl,hf1,hb1⟩
 obtain ⟨lo,hlo⟩:∃ lo,lo=w.heap.size:=⟨_,rfl⟩
 rw [<- hlo] at hf1
 have hL:KE w lo P newF 0 [] w1:=⟨0,F0,Nat.le_refl _,hf1,hb1,by rw [hlo];exact Nat.le_refl _,List.nodup_nil,fun x hx => (by cases hx)⟩
 clear hf1 hb1 hlo HNW
 go_wp2_with fail
 refine (cWorks hL).mono ?_
 clear hL
 rintro e w2 ⟨rfl,hL⟩
 go_wp2_with fail
 have hL2:=hL.alloc #[.int .i64 0,.int .i64 1] 26
 clear hL
 have hL:=hL2
 clear hL2
 generalize World.alloc w2 (.cells #[.int .i64 0,.int .i64 1] 26)=w2a at hL ⊢
 generalize w2.heap.size=z2 at hL ⊢
 refine (cAsk 1 100 hL).mono ?_
 clear hL
 rintro e w4 ⟨rfl,hL⟩
 go_wp2_with fail
 have hc:=cBirth 0 0 0 1 100 top1 plan_top b1 i0.1 (by decide) (by decide) hL
 rw [<- Hq1.out] at hc
 refine hc.mono ?_
 clear hc hL
 rintro e w5 ⟨rfl,hL⟩
 go_upto_region 6 with (first
  | (refine Ag.wpList_store_new (by rfl) 30 (.tmp 3) (.tmp 29) (by rfl) c1 (by rfl) (by rfl) (by rw [Hc1L.out];kernel_rfl) (by rw [Hc1L.out];rfl) Hc11.out ?_))
 have hL2:=hL.alloc c1.toArray 30
 clear hL
 have hL:=hL2
 clear hL2
 generalize World.alloc w5 (.cells c1.toArray 30)=w5a at hL ⊢
 generalize w5.heap.size=z3 at hL ⊢
 have HB6:Hid (∀ xs W,KE w lo P k1 14 xs W->Calls Tryz.prog 18 #[.pointer (some ⟨P.f,0,none⟩),.int .i64 1,.agg #[.int .i64 0,.int .i64 1],.agg (askR 1 100).cells.toArray] W fun e w' => e = .returned (.tuple #[.agg c2.toArray,.bool true])/\KE w lo P k2 28 xs w'):=fun xs W h => by
  have hc:=cBirth 1 0 1 1 100 two p2 b2 i1.1 (by decide) (by decide) h
  rw [<- Hq2.out] at hc
  exact hc
 have HL9:=zh hL
 clear hL
 go_cut [5,6] from 31 to 37 (fun t5 t6 wc => ∃ b,t5 = .pointer (some ⟨b,0,none⟩)/\t6 = .bool true/\KE w lo P k2 28 ((b,.cells c2.toArray 30 (0,0)) :: [(z3,.cells c1.toArray 30 (0,0)),(z2,.cells #[.int .i64 0,.int .i64 1] 26 (0,0))]) wc)
 case first =>
  refine only_normal ?_
  refine wp_region_held_drew (S:=fun W => W.cell? ⟨z2,0,none⟩=some (.int .i64 0)/\W.cell? ⟨z2,1,none⟩=some (.int .i64 1)) (by kernel_rfl) (HSL.out _ _ _ _ HL9.out.drew (.tail _ (.head _))) (fun _ => ?_)
  have hL:=HL9.out.drew
  have hS:=HSL.out _ _ _ _ hL (.tail _ (.head _))
  generalize World.drew _=wd at hL hS ⊢
  refine tq 0 rfl (.pointer (some ⟨P.f,0,none⟩)) hS ?_
  try simp only [zq]
  refine tq 1 rfl (.agg #[.int .i64 0,.int .i64 1]) hS ?_
  try simp only [zq]
  refine wpAnyH_ready (rs:=[2,7]) (by kernel_rfl) (by simp) (AllReadyH.cons rfl (fun K hK => ?_) (AllReadyH.cons rfl (fun K hK => ?_) AllReadyH.nil))
  ·go_simp
   refine (cAsk 1 100 hL).mono ?_
   clear hL
   rintro e wa ⟨rfl,hL⟩
   have hS:=HSL.out _ _ _ _ hL (.tail _ (.head _))
   refine hK.out _ _ hS (fun _ => ?_)
   clear hK K
   try simp only [zq]
   refine wpAnyH_ready (rs:=[3,7]) (by kernel_rfl) (by simp) (AllReadyH.cons rfl (fun K hK => ?_) (AllReadyH.cons rfl (fun K hK => ?_) AllReadyH.nil))
   ·go_simp
    refine (HB6.out _ _ hL).mono ?_
    clear hL
    rintro e wp ⟨rfl,hL⟩
    have hS:=HSL.out _ _ _ _ hL (.tail _ (.head _))
    refine hK.out _ _ hS (fun _ => ?_)
    clear hK K
    try simp only [zq]
    refine tq 4 rfl (.tuple #[.agg c2.toArray,.bool true]) hS ?_
    try simp only [zq]
    refine tq 5 rfl (.agg c2.toArray) hS ?_
    try simp only [zq]
    refine tq 6 rfl (.bool true) hS ?_
    try simp only [zq]
    refine zr 7 rfl (fun K hK => ?_)
    go_simp
    have hL2:=hL.alloc #[.int .i64 0,.int .i64 0,.int .i64 0,.int .i64 0,.int .i64 0,.string ⟨#[]⟩,.string ⟨#[]⟩,.int .u64 0,.int .i64 0,.int .i64 0,.int .i64 0,.int .i64 0] 30
    clear hL
    have hL:=hL2
    clear hL2
    have hS:=HSL.out _ _ _ _ hL (.tail _ (.tail _ (.head _)))
    refine hK.out _ _ hS (fun _ => ?_)
    clear hK K
    try simp only [zq]
    generalize World.alloc wp (.cells #[.int .i64 0,.int .i64 0,.int .i64 0,.int .i64 0,.int .i64 0,.string ⟨#[]⟩,.string ⟨#[]⟩,.int .u64 0,.int .i64 0,.int .i64 0,.int .i64 0,.int .i64 0] 30)=wz at hL hS ⊢
    generalize hbq:(wp).heap.size=b at hL ⊢
    clear hbq
    refine zr 8 rfl (fun K hK => ?_)
    rw [if_pos (by rfl)]
    refine wp_store_mid 30 (.tmp 5) (.tmp 36) (by rfl) b 0 c2.toArray (by rfl) (by rfl) (Ag.there_row (hL.row (.head _)) _ (by rw [List.size_toArray,Hc2L.out];show 12<=12;decide)) (by rw [List.size_toArray,Hc2L.out];kernel_rfl) (all_oneCell_toArray Hc21.out) ?_
    rw [List.toList_toArray]
    have hL2:=hL.set c2 (by rw [Hc2L.out];rfl)
    clear hL
    have hL:=hL2
    clear hL2
    generalize World.setCells wz b 0 c2=ws at hL ⊢
    have hS:=HSL.out _ _ _ _ hL (.tail _ (.tail _ (.head _)))
    refine hK.out _ _ hS (fun _ => ?_)
    clear hK K
    try simp only [zq]
    refine tq 9 rfl (.bool true) hS ?_
    try simp only [zq]
    refine wpAnyH_done (by kernel_rfl) ?_ _
    try simp only [zq]
    go_wp2_with fail
    go_meet
    case rel => exact ⟨_,rfl,rfl,hL⟩
   ·go_simp
    have hL2:=hL.alloc #[.int .i64 0,.int .i64 0,.int .i64 0,.int .i64 0,.int .i64 0,.string ⟨#[]⟩,.string ⟨#[]⟩,.int .u64 0,.int .i64 0,.int .i64 0,.int .i64 0,.int .i64 0] 30
    clear hL
    have hL:=hL2
    clear hL2
    have hS:=HSL.out _ _ _ _ hL (.tail _ (.tail _ (.head _)))
    refine hK.out _ _ hS (fun _ => ?_)
    clear hK K
    try simp only [zq]
    generalize World.alloc wa (.cells #[.int .i64 0,.int .i64 0,.int .i64 0,.int .i64 0,.int .i64 0,.string ⟨#[]⟩,.string ⟨#[]⟩,.int .u64 0,.int .i64 0,.int .i64 0,.int .i64 0,.int .i64 0] 30)=wz at hL hS ⊢
    generalize hbq:(wa).heap.size=b at hL ⊢
    clear hbq
    refine zr 3 rfl (fun K hK => ?_)
    go_simp
    refine (HB6.out _ _ hL).mono ?_
    clear hL
    rintro e wp ⟨rfl,hL⟩
    have hS:=HSL.out _ _ _ _ hL (.tail _ (.tail _ (.head _)))
    refine hK.out _ _ hS (fun _ => ?_)
    clear hK K
    try simp only [zq]
    refine tq 4 rfl (.tuple #[.agg c2.toArray,.bool true]) hS ?_
    try simp only [zq]
    refine tq 5 rfl (.agg c2.toArray) hS ?_
    try simp only [zq]
    refine tq 6 rfl (.bool true) hS ?_
    try simp only [zq]
    refine zr 8 rfl (fun K hK => ?_)
    rw [if_pos (by rfl)]
    refine wp_store_mid 30 (.tmp 5) (.tmp 36) (by rfl) b 0 c2.toArray (by rfl) (by rfl) (Ag.there_row (hL.row (.head _)) _ (by rw [List.size_toArray,Hc2L.out];show 12<=12;decide)) (by rw [List.size_toArray,Hc2L.out];kernel_rfl) (all_oneCell_toArray Hc21.out) ?_
    rw [List.toList_toArray]
    have hL2:=hL.set c2 (by rw [Hc2L.out];rfl)
    clear hL
    have hL:=hL2
    clear hL2
    generalize World.setCells wp b 0 c2=ws at hL ⊢
    have hS:=HSL.out _ _ _ _ hL (.tail _ (.tail _ (.head _)))
    refine hK.out _ _ hS (fun _ => ?_)
    clear hK K
    try simp only [zq]
    refine tq 9 rfl (.bool true) hS ?_
    try simp only [zq]
    refine wpAnyH_done (by kernel_rfl) ?_ _
    try simp only [zq]
    go_wp2_with fail
    go_meet
    case rel => exact ⟨_,rfl,rfl,hL⟩
  ·go_simp
   have hL2:=hL.alloc #[.int .i64 0,.int .i64 0,.int .i64 0,.int .i64 0,.int .i64 0,.string ⟨#[]⟩,.string ⟨#[]⟩,.int .u64 0,.int .i64 0,.int .i64 0,.int .i64 0,.int .i64 0] 30
   clear hL
   have hL:=hL2
   clear hL2
   have hS:=HSL.out _ _ _ _ hL (.tail _ (.tail _ (.head _)))
   refine hK.out _ _ hS (fun _ => ?_)
   clear hK K
   try simp only [zq]
   generalize World.alloc wd (.cells #[.int .i64 0,.int .i64 0,.int .i64 0,.int .i64 0,.int .i64 0,.string ⟨#[]⟩,.string ⟨#[]⟩,.int .u64 0,.int .i64 0,.int .i64 0,.int .i64 0,.int .i64 0] 30)=wz at hL hS ⊢
   generalize hbq:(wd).heap.size=b at hL ⊢
   clear hbq
   refine zr 2 rfl (fun K hK => ?_)
   go_simp
   refine (cAsk 1 100 hL).mono ?_
   clear hL
   rintro e wa ⟨rfl,hL⟩
   have hS:=HSL.out _ _ _ _ hL (.tail _ (.tail _ (.head _)))
   refine hK.out _ _ hS (fun _ => ?_)
   clear hK K
   try simp only [zq]
   refine zr 3 rfl (fun K hK => ?_)
   go_simp
   refine (HB6.out _ _ hL).mono ?_
   clear hL
   rintro e wp ⟨rfl,hL⟩
   have hS:=HSL.out _ _ _ _ hL (.tail _ (.tail _ (.head _)))
   refine hK.out _ _ hS (fun _ => ?_)
   clear hK K
   try simp only [zq]
   refine tq 4 rfl (.tuple #[.agg c2.toArray,.bool true]) hS ?_
   try simp only [zq]
   refine tq 5 rfl (.agg c2.toArray) hS ?_
   try simp only [zq]
   refine tq 6 rfl (.bool true) hS ?_
   try simp only [zq]
   refine zr 8 rfl (fun K hK => ?_)
   rw [if_pos (by rfl)]
   refine wp_store_mid 30 (.tmp 5) (.tmp 36) (by rfl) b 0 c2.toArray (by rfl) (by rfl) (Ag.there_row (hL.row (.head _)) _ (by rw [List.size_toArray,Hc2L.out];show 12<=12;decide)) (by rw [List.size_toArray,Hc2L.out];kernel_rfl) (all_oneCell_toArray Hc21.out) ?_
   rw [List.toList_toArray]
   have hL2:=hL.set c2 (by rw [Hc2L.out];rfl)
   clear hL
   have hL:=hL2
   clear hL2
   generalize World.setCells wp b 0 c2=ws at hL ⊢
   have hS:=HSL.out _ _ _ _ hL (.tail _ (.tail _ (.head _)))
   refine hK.out _ _ hS (fun _ => ?_)
   clear hK K
   try simp only [zq]
   refine tq 9 rfl (.bool true) hS ?_
   try simp only [zq]
   refine wpAnyH_done (by kernel_rfl) ?_ _
   try simp only [zq]
   go_wp2_with fail
   go_meet
   case rel => exact ⟨_,rfl,rfl,hL⟩
 case rest =>
 obtain ⟨z5,rfl,rfl,hL⟩:=hcut
 clear HL9 HB6
 go_upto_region 7 with fail
 have HB7:Hid (∀ xs W,KE w lo P k2 28 xs W->Calls Tryz.prog 18 #[.pointer (some ⟨P.f,0,none⟩),.int .i64 2,.agg #[.int .i64 0,.int .i64 1],.agg (askR 2 10).cells.toArray] W fun e w' => e = .returned (.tuple #[.agg c3.toArray,.bool true])/\KE w lo P k3 42 xs w'):=fun xs W h => by
  have hc:=cBirth 2 0 1 2 10 three p3 b3 i2.1 (by decide) (by decide) h
  rw [<- Hq3.out] at hc
  exact hc
 have HL9:=zh hL
 clear hL
 go_cut [7,8] from 38 to 44 (fun t7 t8 wc => ∃ b,t7 = .pointer (some ⟨b,0,none⟩)/\t8 = .bool true/\KE w lo P k3 42 ((b,.cells c3.toArray 30 (0,0)) :: [(z5,.cells c2.toArray 30 (0,0)),(z3,.cells c1.toArray 30 (0,0)),(z2,.cells #[.int .i64 0,.int .i64 1] 26 (0,0))]) wc)
 case first =>
  refine only_normal ?_
  refine wp_region_held_drew (S:=fun W => W.cell? ⟨z2,0,none⟩=some (.int .i64 0)/\W.cell? ⟨z2,1,none⟩=some (.int .i64 1)) (by kernel_rfl) (HSL.out _ _ _ _ HL9.out.drew (.tail _ (.tail _ (.head _)))) (fun _ => ?_)
  have hL:=HL9.out.drew
  have hS:=HSL.out _ _ _ _ hL (.tail _ (.tail _ (.head _)))
  generalize World.drew _=wd at hL hS ⊢
  refine tq 0 rfl (.pointer (some ⟨P.f,0,none⟩)) hS ?_
  try simp only [zq]
  refine tq 1 rfl (.agg #[.int .i64 0,.int .i64 1]) hS ?_
  try simp only [zq]
  refine wpAnyH_ready (rs:=[2,7]) (by kernel_rfl) (by simp) (AllReadyH.cons rfl (fun K hK => ?_) (AllReadyH.cons rfl (fun K hK => ?_) AllReadyH.nil))
  ·go_simp
   refine (cAsk 2 10 hL).mono ?_
   clear hL
   rintro e wa ⟨rfl,hL⟩
   have hS:=HSL.out _ _ _ _ hL (.tail _ (.tail _ (.head _)))
   refine hK.out _ _ hS (fun _ => ?_)
   clear hK K
   try simp only [zq]
   refine wpAnyH_ready (rs:=[3,7]) (by kernel_rfl) (by simp) (AllReadyH.cons rfl (fun K hK => ?_) (AllReadyH.cons rfl (fun K hK => ?_) AllReadyH.nil))
   ·go_simp
    refine (HB7.out _ _ hL).mono ?_
    clear hL
    rintro e wp ⟨rfl,hL⟩
    have hS:=HSL.out _ _ _ _ hL (.tail _ (.tail _ (.head _)))
    refine hK.out _ _ hS (fun _ => ?_)
    clear hK K
    try simp only [zq]
    refine tq 4 rfl (.tuple #[.agg c3.toArray,.bool true]) hS ?_
    try simp only [zq]
    refine tq 5 rfl (.agg c3.toArray) hS ?_
    try simp only [zq]
    refine tq 6 rfl (.bool true) hS ?_
    try simp only [zq]
    refine zr 7 rfl (fun K hK => ?_)
    go_simp
    have hL2:=hL.alloc #[.int .i64 0,.int .i64 0,.int .i64 0,.int .i64 0,.int .i64 0,.string ⟨#[]⟩,.string ⟨#[]⟩,.int .u64 0,.int .i64 0,.int .i64 0,.int .i64 0,.int .i64 0] 30
    clear hL
    have hL:=hL2
    clear hL2
    have hS:=HSL.out _ _ _ _ hL (.tail _ (.tail _ (.tail _ (.head _))))
    refine hK.out _ _ hS (fun _ => ?_)
    clear hK K
    try simp only [zq]
    generalize World.alloc wp (.cells #[.int .i64 0,.int .i64 0,.int .i64 0,.int .i64 0,.int .i64 0,.string ⟨#[]⟩,.string ⟨#[]⟩,.int .u64 0,.int .i64 0,.int .i64 0,.int .i64 0,.int .i64 0] 30)=wz at hL hS ⊢
    generalize hbq:(wp).heap.size=b at hL ⊢
    clear hbq
    refine zr 8 rfl (fun K hK => ?_)
    rw [if_pos (by rfl)]
    refine wp_store_mid 30 (.tmp 7) (.tmp 43) (by rfl) b 0 c3.toArray (by rfl) (by rfl) (Ag.there_row (hL.row (.head _)) _ (by rw [List.size_toArray,Hc3L.out];show 12<=12;decide)) (by rw [List.size_toArray,Hc3L.out];kernel_rfl) (all_oneCell_toArray Hc31.out) ?_
    rw [List.toList_toArray]
    have hL2:=hL.set c3 (by rw [Hc3L.out];rfl)
    clear hL
    have hL:=hL2
    clear hL2
    generalize World.setCells wz b 0 c3=ws at hL ⊢
    have hS:=HSL.out _ _ _ _ hL (.tail _ (.tail _ (.tail _ (.head _))))
    refine hK.out _ _ hS (fun _ => ?_)
    clear hK K
    try simp only [zq]
    refine tq 9 rfl (.bool true) hS ?_
    try simp only [zq]
    refine wpAnyH_done (by kernel_rfl) ?_ _
    try simp only [zq]
    go_wp2_with fail
    go_meet
    case rel => exact ⟨_,rfl,rfl,hL⟩
   ·go_simp
    have hL2:=hL.alloc #[.int .i64 0,.int .i64 0,.int .i64 0,.int .i64 0,.int .i64 0,.string ⟨#[]⟩,.string ⟨#[]⟩,.int .u64 0,.int .i64 0,.int .i64 0,.int .i64 0,.int .i64 0] 30
    clear hL
    have hL:=hL2
    clear hL2
    have hS:=HSL.out _ _ _ _ hL (.tail _ (.tail _ (.tail _ (.head _))))
    refine hK.out _ _ hS (fun _ => ?_)
    clear hK K
    try simp only [zq]
    generalize World.alloc wa (.cells #[.int .i64 0,.int .i64 0,.int .i64 0,.int .i64 0,.int .i64 0,.string ⟨#[]⟩,.string ⟨#[]⟩,.int .u64 0,.int .i64 0,.int .i64 0,.int .i64 0,.int .i64 0] 30)=wz at hL hS ⊢
    generalize hbq:(wa).heap.size=b at hL ⊢
    clear hbq
    refine zr 3 rfl (fun K hK => ?_)
    go_simp
    refine (HB7.out _ _ hL).mono ?_
    clear hL
    rintro e wp ⟨rfl,hL⟩
    have hS:=HSL.out _ _ _ _ hL (.tail _ (.tail _ (.tail _ (.head _))))
    refine hK.out _ _ hS (fun _ => ?_)
    clear hK K
    try simp only [zq]
    refine tq 4 rfl (.tuple #[.agg c3.toArray,.bool true]) hS ?_
    try simp only [zq]
    refine tq 5 rfl (.agg c3.toArray) hS ?_
    try simp only [zq]
    refine tq 6 rfl (.bool true) hS ?_
    try simp only [zq]
    refine zr 8 rfl (fun K hK => ?_)
    rw [if_pos (by rfl)]
    refine wp_store_mid 30 (.tmp 7) (.tmp 43) (by rfl) b 0 c3.toArray (by rfl) (by rfl) (Ag.there_row (hL.row (.head _)) _ (by rw [List.size_toArray,Hc3L.out];show 12<=12;decide)) (by rw [List.size_toArray,Hc3L.out];kernel_rfl) (all_oneCell_toArray Hc31.out) ?_
    rw [List.toList_toArray]
    have hL2:=hL.set c3 (by rw [Hc3L.out];rfl)
    clear hL
    have hL:=hL2
    clear hL2
    generalize World.setCells wp b 0 c3=ws at hL ⊢
    have hS:=HSL.out _ _ _ _ hL (.tail _ (.tail _ (.tail _ (.head _))))
    refine hK.out _ _ hS (fun _ => ?_)
    clear hK K
    try simp only [zq]
    refine tq 9 rfl (.bool true) hS ?_
    try simp only [zq]
    refine wpAnyH_done (by kernel_rfl) ?_ _
    try simp only [zq]
    go_wp2_with fail
    go_meet
    case rel => exact ⟨_,rfl,rfl,hL⟩
  ·go_simp
   have hL2:=hL.alloc #[.int .i64 0,.int .i64 0,.int .i64 0,.int .i64 0,.int .i64 0,.string ⟨#[]⟩,.string ⟨#[]⟩,.int .u64 0,.int .i64 0,.int .i64 0,.int .i64 0,.int .i64 0] 30
   clear hL
   have hL:=hL2
   clear hL2
   have hS:=HSL.out _ _ _ _ hL (.tail _ (.tail _ (.tail _ (.head _))))
   refine hK.out _ _ hS (fun _ => ?_)
   clear hK K
   try simp only [zq]
   generalize World.alloc wd (.cells #[.int .i64 0,.int .i64 0,.int .i64 0,.int .i64 0,.int .i64 0,.string ⟨#[]⟩,.string ⟨#[]⟩,.int .u64 0,.int .i64 0,.int .i64 0,.int .i64 0,.int .i64 0] 30)=wz at hL hS ⊢
   generalize hbq:(wd).heap.size=b at hL ⊢
   clear hbq
   refine zr 2 rfl (fun K hK => ?_)
   go_simp
   refine (cAsk 2 10 hL).mono ?_
   clear hL
   rintro e wa ⟨rfl,hL⟩
   have hS:=HSL.out _ _ _ _ hL (.tail _ (.tail _ (.tail _ (.head _))))
   refine hK.out _ _ hS (fun _ => ?_)
   clear hK K
   try simp only [zq]
   refine zr 3 rfl (fun K hK => ?_)
   go_simp
   refine (HB7.out _ _ hL).mono ?_
   clear hL
   rintro e wp ⟨rfl,hL⟩
   have hS:=HSL.out _ _ _ _ hL (.tail _ (.tail _ (.tail _ (.head _))))
   refine hK.out _ _ hS (fun _ => ?_)
   clear hK K
   try simp only [zq]
   refine tq 4 rfl (.tuple #[.agg c3.toArray,.bool true]) hS ?_
   try simp only [zq]
   refine tq 5 rfl (.agg c3.toArray) hS ?_
   try simp only [zq]
   refine tq 6 rfl (.bool true) hS ?_
   try simp only [zq]
   refine zr 8 rfl (fun K hK => ?_)
   rw [if_pos (by rfl)]
   refine wp_store_mid 30 (.tmp 7) (.tmp 43) (by rfl) b 0 c3.toArray (by rfl) (by rfl) (Ag.there_row (hL.row (.head _)) _ (by rw [List.size_toArray,Hc3L.out];show 12<=12;decide)) (by rw [List.size_toArray,Hc3L.out];kernel_rfl) (all_oneCell_toArray Hc31.out) ?_
   rw [List.toList_toArray]
   have hL2:=hL.set c3 (by rw [Hc3L.out];rfl)
   clear hL
   have hL:=hL2
   clear hL2
   generalize World.setCells wp b 0 c3=ws at hL ⊢
   have hS:=HSL.out _ _ _ _ hL (.tail _ (.tail _ (.tail _ (.head _))))
   refine hK.out _ _ hS (fun _ => ?_)
   clear hK K
   try simp only [zq]
   refine tq 9 rfl (.bool true) hS ?_
   try simp only [zq]
   refine wpAnyH_done (by kernel_rfl) ?_ _
   try simp only [zq]
   go_wp2_with fail
   go_meet
   case rel => exact ⟨_,rfl,rfl,hL⟩
 case rest =>
 obtain ⟨z7,rfl,rfl,hL⟩:=hcut
 clear HL9 HB7
 have x1:wc.cell? ⟨z5,0,none⟩=some (.int .i64 1):=by rw [hL.cell (.tail _ (.head _)),Hq2.out];rfl
 have x2:wc.cell? ⟨z5,1,none⟩=some (.int .i64 2):=by rw [hL.cell (.tail _ (.head _)),Hq2.out];rfl
 have x3:wc.cell? ⟨z5,9+1,none⟩=some (.int .i64 100):=by rw [hL.cell (.tail _ (.head _)),Hq2.out];rfl
 have x4:wc.cell? ⟨z7,0,none⟩=some (.int .i64 2):=by rw [hL.cell (.head _),Hq3.out];rfl
 have x5:wc.cell? ⟨z7,1,none⟩=some (.int .i64 3):=by rw [hL.cell (.head _),Hq3.out];rfl
 have x6:wc.cell? ⟨z7,9+1,none⟩=some (.int .i64 10):=by rw [hL.cell (.head _),Hq3.out];rfl
 have x7:wc.cell? ⟨z7,7+1,none⟩=some (.int .i64 2):=by rw [hL.cell (.head _),Hq3.out];rfl
 go_upto_region 11 with fail
 obtain ⟨W10,hW10⟩:∃ W,W=wc.alloc (.cells #[.slice none 0 0] 22):=⟨_,rfl⟩
 obtain ⟨zl,hzl⟩:∃ b,b=wc.heap.size:=⟨_,rfl⟩
 have hb10:Below wc.heap.size wc W10:=by rw [hW10];exact (Below.refl _ _).alloc (Nat.le_refl _) _
 have hg10:GS 22 zl (zl+1) wc (.slice none 0 0) [] (fun b => b=zl) W10:=by rw [hzl,hW10];exact GS.start wc
 have hL10:=hL.below hb10
 obtain ⟨y1,y2⟩:=HSL.out _ _ _ _ hL10 (.tail _ (.tail _ (.tail _ (.head _))))
 have hc:=cUnder 0 1 i3.1 hL10
 rw [u3] at hc
 have HC10:=zh hc;have HG10:=zh hg10;have HL:=zh hL;have HW10:=zh hW10;have HZL:=zh hzl
 clear hc hg10 hL hL10 hb10 hzl hW10 x1 x2 x3 x4 x5 x6 x7
 rw [<- HW10.out,<- HZL.out]
 go_wp2_with fail
 refine HC10.out.mono ?_
 rintro e w11 ⟨⟨⟨bx,v,rfl,k1,k2,k3⟩,hb11⟩,hL11⟩
 have hg11:=HG10.out.after hb11
 have HG11:=zh hg11
 obtain ⟨LL,hLL⟩:∃ LL,LL=[top1,two,three]:=⟨_,rfl⟩
 have HSEQ:=zh (values_seq 8 bx v [top1,two,three] (by decide) (fun b => b=bx\/v.ownBlock=some b) w11 (gathered_s k2 k3))
 rw [<- hLL] at HSEQ
 have HZ:Hid (zl+1<=w11.heap.size/\bx<w11.heap.size/\zl+1<=bx):=⟨by have:=hg11.b1.lt;omega,k2.lt,by have:=HG10.out.b1.lt;omega⟩
 have HUX:Hid (∀ b,v.ownBlock=some b->zl+1<=b/\b<w11.heap.size):=fun b e => ⟨by have:=(k3.lt b e).1;have:=HG10.out.b1.lt;omega,(k3.lt b e).2⟩
 have HLL:=zh hLL
 obtain ⟨i0,hi,hz0,hz1,hz2⟩:=info_parts finfo_sess
 clear k1 k2 k3 hg11 hb11 hL11 hLL y1 y2
 go_wp2_with fail
 refine (wpIn_wide (n:=9)).1 ?_
 refine Fo.range_foot_new_sl (F:=Fence.wide) (n:=9) rfl (by omega) (gf:=127) (lb:=#[.pointer (some ⟨bx,0,none⟩)]) rfl trivial (enters_of Tryz.func127 (by kernel_rfl) rfl)
  HSEQ.out (fun _ => rfl) (fun b hb => ⟨by rcases hb with rfl | hb;exact HZ.out.2.1;exact (HUX.out b hb).2,rfl⟩)
  (fun pre Fp A => ∃ d,GS 22 zl (zl+1) wc d pre Fp A) (fun c pre Fp A => False)
  (fun b => b=zl)
  (fun b hb => ⟨by have:=HZ.out;omega,fun h => by
   have h1:=HZ.out
   rcases h with h | h
   ·omega
   ·have:=(HUX.out _ h).1;omega⟩)
  ?hU (fun _ _ _ _ _ _ h _ _ _ => h) ⟨_,HG11.out⟩ (fun T x b => (T.setIfInBounds 93 (.agg x.cells.toArray)).setIfInBounds 10 (.pointer (some ⟨b,0,none⟩))) (fun x => .cells x.cells.toArray 30) ?assign ?body ?done (fun _ _ _ _ _ _ _ h _ _ => h.elim)
 case hU =>
  rintro pre Fp A A' row ⟨d,h1⟩ hsz hg hrow
  exact ⟨d,h1.turn hg (fun r e => ⟨by have:=(hrow r e).1;have h1:=HZ.out;omega,(hrow r e).2⟩)⟩
 case assign =>
  rintro l2 x A K-hK
  unfold encZ
  obtain ⟨cs,hcs⟩:∃ cs,cs=x.cells:=⟨_,rfl⟩
  have HCL:Hid (cs.length=12):=by show _=_;rw [hcs];rfl
  have HC1:Hid (∀ u ∈ cs,u.oneCell'=true):=by show ∀ _,_;rw [hcs];exact sess_one' _
  rw [<- hcs] at hK ⊢
  clear hcs
  gi_wp2_with (refine Ag.wpListIn_store_new (by rfl) 30 (.tmp 10) (.tmp 93) (by rfl) cs (by rfl) (by rfl) (by rw [HCL.out];kernel_rfl) (by rw [HCL.out];rfl) HC1.out ?_)
  exact hK
 case body =>
  rintro l2 pre x Fp b A ⟨d,hu⟩ hszA hpre-hbA hbb
  have hlen:pre.length+1<=3:=by
   have h1:=hpre.length_le
   rw [HLL.out] at h1
   simpa using h1
  obtain ⟨q1,r1,rfl,-⟩:=own_shape hu.r1
  have hc1:=hu.b1.cell
  obtain ⟨ys,hys⟩:∃ ys,ys=x.cells:=⟨_,rfl⟩
  have HYL:Hid (ys.length=12):=by show _=_;rw [hys];rfl
  have HY1:Hid (∀ u ∈ ys,u.oneCell'=true):=by show ∀ _,_;rw [hys];exact sess_one' _
  rw [<- hys] at hbb ⊢
  have HRG:Hid (A.rangeAt b 0 ys):=fun j u hu => by rw [zc hbb,Nat.zero_add,List.getElem?_toArray];exact hu
  obtain ⟨K,hK⟩:∃ K,K=pre.length:=⟨_,rfl⟩
  have am1:K+1<=maxLen:=by unfold maxLen;omega
  have am3:(K+1) * 112<=140737488355328:=by omega
  have k3:zl+1<=(A.alloc (.cells ys.toArray 30)).heap.size:=by have:=hu.b1.lt;simp;omega
  have hr1:=hu.r1
  have HP1:=zh (fun (v1:Value) (w1:World) (o1:Obj) => GS.push (v:=v1) (w1:=w1) (o1:=o1) (x:=x) hu)
  rw [<- hK] at hc1 hr1 HP1
  rw [<- hys] at HP1
  have H1K:=zh hr1
  clear hr1 hK hu hbb hys hpre hlen hszA hbA
  gi_wp2_with (first
   | (refine Ag.wpListIn_load (by rfl) 30 _ (by rfl) _ _ (by rfl) ys _ HRG.out Tryz.underlying30 rfl (by rw [HYL.out];kernel_rfl) ?_)
   | (refine Ag.wpListIn_one (by rfl) 22 30 _ (by rfl) ys (by rfl) i0 _ Tryz.underlying22 hi hz0 (by rw [hz1];exact HYL.out) (by rw [hz1];decide) (by rw [hz1];decide) ?_)
   | (gi_at_builtin;(refine wpListIn_append_own_at _ rfl _ _ 22 rfl (zl+1) 30 i0 (.agg #[.int .i64 0,.int .i64 0,.int .i64 0,.int .i64 0,.int .i64 0,.string ByteArray.empty,.string ByteArray.empty,.int .u64 0,.int .i64 0,.int .i64 0,.int .i64 0,.int .i64 0]) 12 112 Tryz.underlying22 hi hz0 hz1 hz2 rfl (by decide) _ _ _ rfl (H1K.out.alloc _) ⟨A.heap.size,0,none⟩ 1 1 ys rfl HYL.out (World.news_of_block (Ut.alloc_at _ _)) HY1.out am1 am3 k3 ?_);(intro v1 w1 hown' hgrow hnil hat;obtain ⟨q',r',rfl,-⟩:=own_shape hown';obtain ⟨hb1,-,Fp',hn1⟩:=HP1.out _ _ _ hown' hgrow hat;(have hc1':=hb1.cell);(have hf1:=hb1.frozen);(have HN:=zh hn1);clear hown' hgrow hat hn1 hb1 hnil)))
  exact ⟨Fp',⟨_,HN.out.1⟩,HN.out.2.1,HN.out.2.2⟩
 case done =>
  rintro D2 ys Fp A rfl hD ⟨d,hu⟩ hnf hK
  rw [HLL.out] at hu
  obtain ⟨gl,capl,curl,rfl,hgl,hrl,hcl⟩:=own_row hu.r1 (by intro e;have:=congrArg List.length e;rw [allC_len] at this;simp at this)
  have hb9:Below wc.heap.size wc A:=by rw [<- HZL.out];exact hu.bel
  have hL:=HL.out.grow hb9 [(zl,.cells #[.slice (some ⟨gl,0,none⟩) 3 capl] 22 (0,0)),(gl,.cells curl 30 (0,0)),(D2,.deferred (some []))]
   (by
    have h1:=HZ.out
    have h2:¬ D2=gl:=fun e => hnf ((hu.fp D2).2 (.inr (by rw [e];rfl)))
    simp only [List.map_cons,List.map_nil,List.nodup_cons,List.mem_cons,List.not_mem_nil,or_false,not_or,not_false_eq_true,List.nodup_nil,and_true]
    omega)
   (by
    have h1:=HZ.out;have h2:=HZL.out
    intro y hy
    simp only [List.mem_cons,List.not_mem_nil,or_false] at hy
    rcases hy with rfl | rfl | rfl
    ·exact ⟨hu.b1,by show _<=zl;omega⟩
    ·exact ⟨hrl,by show _<=gl;omega⟩
    ·exact ⟨hK,by show _<=D2;omega⟩)
  have HCL:=zh hcl
  clear hu hnf hK hgl hrl hcl hb9 hD HL HG10 HG11 HC10 HSEQ HZ HUX
  gi_wp2
  go_wp2_with fail
  have hc:=cAsk 1 100 hL
  refine hc.mono ?_
  clear hc hL
  rintro e w21 ⟨rfl,hL⟩
  go_wp2_with fail
  have hc:=cPlan 1 0 2 1 100 16 s0 p4 (by decide) hL
  rw [<- Hq0.out] at hc
  refine hc.mono ?_
  clear hc hL
  rintro e w22 ⟨rfl,hL⟩
  go_upto_region 15 with (first
   | (refine Ag.wpList_store_new (by rfl) 30 (.tmp 11) (.tmp 103) (by rfl) c0 (by rfl) (by rfl) (by rw [Hc0L.out];kernel_rfl) (by rw [Hc0L.out];rfl) Hc01.out ?_))
  have hL2:=hL.alloc c0.toArray 30
  clear hL
  have hL:=hL2
  clear hL2
  generalize World.alloc w22 (.cells c0.toArray 30)=w22a at hL ⊢
  generalize w22.heap.size=z11 at hL ⊢
  have HB15:Hid (∀ xs W,KE w lo P k3 50 xs W->Calls Tryz.prog 21 #[.pointer (some ⟨P.f,0,none⟩),.int .i64 3,.agg #[.int .i64 0,.int .i64 1],.agg (askR 1 100).cells.toArray] W fun e w' => e = .returned (.tuple #[.agg c0.toArray,erV 1])/\KE w lo P k3 58 xs w'):=fun xs W h => by
   have hc:=cPlan 3 0 1 1 100 1 s0 p5 (by decide) h
   rw [<- Hq0.out] at hc
   exact hc
  have HL9:=zh hL
  clear hL
  go_cut [13,14] from 105 to 111 (fun t13 t14 wc => ∃ b,t13 = .pointer (some ⟨b,0,none⟩)/\t14=erV 1/\KE w lo P k3 58 ((b,.cells c0.toArray 30 (0,0)) :: [(z11,.cells c0.toArray 30 (0,0)),(zl,.cells #[.slice (some ⟨gl,0,none⟩) 3 capl] 22 (0,0)),(gl,.cells curl 30 (0,0)),(D2,.deferred (some [])),(z7,.cells c3.toArray 30 (0,0)),(z5,.cells c2.toArray 30 (0,0)),(z3,.cells c1.toArray 30 (0,0)),(z2,.cells #[.int .i64 0,.int .i64 1] 26 (0,0))]) wc)
  case first =>
   refine only_normal ?_
   refine wp_region_held_drew (S:=fun W => W.cell? ⟨z2,0,none⟩=some (.int .i64 0)/\W.cell? ⟨z2,1,none⟩=some (.int .i64 1)) (by kernel_rfl) (HSL.out _ _ _ _ HL9.out.drew (.tail _ (.tail _ (.tail _ (.tail _ (.tail _ (.tail _ (.tail _ (.head _))))))))) (fun _ => ?_)
   have hL:=HL9.out.drew
   have hS:=HSL.out _ _ _ _ hL (.tail _ (.tail _ (.tail _ (.tail _ (.tail _ (.tail _ (.tail _ (.head _))))))))
   generalize World.drew _=wd at hL hS ⊢
   refine tq 0 rfl (.pointer (some ⟨P.f,0,none⟩)) hS ?_
   try simp only [zq]
   refine tq 1 rfl (.agg #[.int .i64 0,.int .i64 1]) hS ?_
   try simp only [zq]
   refine wpAnyH_ready (rs:=[2,7]) (by kernel_rfl) (by simp) (AllReadyH.cons rfl (fun K hK => ?_) (AllReadyH.cons rfl (fun K hK => ?_) AllReadyH.nil))
   ·go_simp
    refine (cAsk 1 100 hL).mono ?_
    clear hL
    rintro e wa ⟨rfl,hL⟩
    have hS:=HSL.out _ _ _ _ hL (.tail _ (.tail _ (.tail _ (.tail _ (.tail _ (.tail _ (.tail _ (.head _))))))))
    refine hK.out _ _ hS (fun _ => ?_)
    clear hK K
    try simp only [zq]
    refine wpAnyH_ready (rs:=[3,7]) (by kernel_rfl) (by simp) (AllReadyH.cons rfl (fun K hK => ?_) (AllReadyH.cons rfl (fun K hK => ?_) AllReadyH.nil))
    ·go_simp
     refine (HB15.out _ _ hL).mono ?_
     clear hL
     rintro e wp ⟨rfl,hL⟩
     have hS:=HSL.out _ _ _ _ hL (.tail _ (.tail _ (.tail _ (.tail _ (.tail _ (.tail _ (.tail _ (.head _))))))))
     refine hK.out _ _ hS (fun _ => ?_)
     clear hK K
     try simp only [zq]
     refine tq 4 rfl (.tuple #[.agg c0.toArray,erV 1]) hS ?_
     try simp only [zq]
     refine tq 5 rfl (.agg c0.toArray) hS ?_
     try simp only [zq]
     refine tq 6 rfl (erV 1) hS ?_
     try simp only [zq]
     refine zr 7 rfl (fun K hK => ?_)
     go_simp
     have hL2:=hL.alloc #[.int .i64 0,.int .i64 0,.int .i64 0,.int .i64 0,.int .i64 0,.string ⟨#[]⟩,.string ⟨#[]⟩,.int .u64 0,.int .i64 0,.int .i64 0,.int .i64 0,.int .i64 0] 30
     clear hL
     have hL:=hL2
     clear hL2
     have hS:=HSL.out _ _ _ _ hL (.tail _ (.tail _ (.tail _ (.tail _ (.tail _ (.tail _ (.tail _ (.tail _ (.head _)))))))))
     refine hK.out _ _ hS (fun _ => ?_)
     clear hK K
     try simp only [zq]
     generalize World.alloc wp (.cells #[.int .i64 0,.int .i64 0,.int .i64 0,.int .i64 0,.int .i64 0,.string ⟨#[]⟩,.string ⟨#[]⟩,.int .u64 0,.int .i64 0,.int .i64 0,.int .i64 0,.int .i64 0] 30)=wz at hL hS ⊢
     generalize hbq:(wp).heap.size=b at hL ⊢
     clear hbq
     refine zr 8 rfl (fun K hK => ?_)
     rw [if_pos (by rfl)]
     refine wp_store_mid 30 (.tmp 13) (.tmp 110) (by rfl) b 0 c0.toArray (by rfl) (by rfl) (Ag.there_row (hL.row (.head _)) _ (by rw [List.size_toArray,Hc0L.out];show 12<=12;decide)) (by rw [List.size_toArray,Hc0L.out];kernel_rfl) (all_oneCell_toArray Hc01.out) ?_
     rw [List.toList_toArray]
     have hL2:=hL.set c0 (by rw [Hc0L.out];rfl)
     clear hL
     have hL:=hL2
     clear hL2
     generalize World.setCells wz b 0 c0=ws at hL ⊢
     have hS:=HSL.out _ _ _ _ hL (.tail _ (.tail _ (.tail _ (.tail _ (.tail _ (.tail _ (.tail _ (.tail _ (.head _)))))))))
     refine hK.out _ _ hS (fun _ => ?_)
     clear hK K
     try simp only [zq]
     refine tq 9 rfl (erV 1) hS ?_
     try simp only [zq]
     refine wpAnyH_done (by kernel_rfl) ?_ _
     try simp only [zq]
     go_wp2_with fail
     go_meet
     case rel => exact ⟨_,rfl,rfl,hL⟩
    ·go_simp
     have hL2:=hL.alloc #[.int .i64 0,.int .i64 0,.int .i64 0,.int .i64 0,.int .i64 0,.string ⟨#[]⟩,.string ⟨#[]⟩,.int .u64 0,.int .i64 0,.int .i64 0,.int .i64 0,.int .i64 0] 30
     clear hL
     have hL:=hL2
     clear hL2
     have hS:=HSL.out _ _ _ _ hL (.tail _ (.tail _ (.tail _ (.tail _ (.tail _ (.tail _ (.tail _ (.tail _ (.head _)))))))))
     refine hK.out _ _ hS (fun _ => ?_)
     clear hK K
     try simp only [zq]
     generalize World.alloc wa (.cells #[.int .i64 0,.int .i64 0,.int .i64 0,.int .i64 0,.int .i64 0,.string ⟨#[]⟩,.string ⟨#[]⟩,.int .u64 0,.int .i64 0,.int .i64 0,.int .i64 0,.int .i64 0] 30)=wz at hL hS ⊢
     generalize hbq:(wa).heap.size=b at hL ⊢
     clear hbq
     refine zr 3 rfl (fun K hK => ?_)
     go_simp
     refine (HB15.out _ _ hL).mono ?_
     clear hL
     rintro e wp ⟨rfl,hL⟩
     have hS:=HSL.out _ _ _ _ hL (.tail _ (.tail _ (.tail _ (.tail _ (.tail _ (.tail _ (.tail _ (.tail _ (.head _)))))))))
     refine hK.out _ _ hS (fun _ => ?_)
     clear hK K
     try simp only [zq]
     refine tq 4 rfl (.tuple #[.agg c0.toArray,erV 1]) hS ?_
     try simp only [zq]
     refine tq 5 rfl (.agg c0.toArray) hS ?_
     try simp only [zq]
     refine tq 6 rfl (erV 1) hS ?_
     try simp only [zq]
     refine zr 8 rfl (fun K hK => ?_)
     rw [if_pos (by rfl)]
     refine wp_store_mid 30 (.tmp 13) (.tmp 110) (by rfl) b 0 c0.toArray (by rfl) (by rfl) (Ag.there_row (hL.row (.head _)) _ (by rw [List.size_toArray,Hc0L.out];show 12<=12;decide)) (by rw [List.size_toArray,Hc0L.out];kernel_rfl) (all_oneCell_toArray Hc01.out) ?_
     rw [List.toList_toArray]
     have hL2:=hL.set c0 (by rw [Hc0L.out];rfl)
     clear hL
     have hL:=hL2
     clear hL2
     generalize World.setCells wp b 0 c0=ws at hL ⊢
     have hS:=HSL.out _ _ _ _ hL (.tail _ (.tail _ (.tail _ (.tail _ (.tail _ (.tail _ (.tail _ (.tail _ (.head _)))))))))
     refine hK.out _ _ hS (fun _ => ?_)
     clear hK K
     try simp only [zq]
     refine tq 9 rfl (erV 1) hS ?_
     try simp only [zq]
     refine wpAnyH_done (by kernel_rfl) ?_ _
     try simp only [zq]
     go_wp2_with fail
     go_meet
     case rel => exact ⟨_,rfl,rfl,hL⟩
   ·go_simp
    have hL2:=hL.alloc #[.int .i64 0,.int .i64 0,.int .i64 0,.int .i64 0,.int .i64 0,.string ⟨#[]⟩,.string ⟨#[]⟩,.int .u64 0,.int .i64 0,.int .i64 0,.int .i64 0,.int .i64 0] 30
    clear hL
    have hL:=hL2
    clear hL2
    have hS:=HSL.out _ _ _ _ hL (.tail _ (.tail _ (.tail _ (.tail _ (.tail _ (.tail _ (.tail _ (.tail _ (.head _)))))))))
    refine hK.out _ _ hS (fun _ => ?_)
    clear hK K
    try simp only [zq]
    generalize World.alloc wd (.cells #[.int .i64 0,.int .i64 0,.int .i64 0,.int .i64 0,.int .i64 0,.string ⟨#[]⟩,.string ⟨#[]⟩,.int .u64 0,.int .i64 0,.int .i64 0,.int .i64 0,.int .i64 0] 30)=wz at hL hS ⊢
    generalize hbq:(wd).heap.size=b at hL ⊢
    clear hbq
    refine zr 2 rfl (fun K hK => ?_)
    go_simp
    refine (cAsk 1 100 hL).mono ?_
    clear hL
    rintro e wa ⟨rfl,hL⟩
    have hS:=HSL.out _ _ _ _ hL (.tail _ (.tail _ (.tail _ (.tail _ (.tail _ (.tail _ (.tail _ (.tail _ (.head _)))))))))
    refine hK.out _ _ hS (fun _ => ?_)
    clear hK K
    try simp only [zq]
    refine zr 3 rfl (fun K hK => ?_)
    go_simp
    refine (HB15.out _ _ hL).mono ?_
    clear hL
    rintro e wp ⟨rfl,hL⟩
    have hS:=HSL.out _ _ _ _ hL (.tail _ (.tail _ (.tail _ (.tail _ (.tail _ (.tail _ (.tail _ (.tail _ (.head _)))))))))
    refine hK.out _ _ hS (fun _ => ?_)
    clear hK K
    try simp only [zq]
    refine tq 4 rfl (.tuple #[.agg c0.toArray,erV 1]) hS ?_
    try simp only [zq]
    refine tq 5 rfl (.agg c0.toArray) hS ?_
    try simp only [zq]
    refine tq 6 rfl (erV 1) hS ?_
    try simp only [zq]
    refine zr 8 rfl (fun K hK => ?_)
    rw [if_pos (by rfl)]
    refine wp_store_mid 30 (.tmp 13) (.tmp 110) (by rfl) b 0 c0.toArray (by rfl) (by rfl) (Ag.there_row (hL.row (.head _)) _ (by rw [List.size_toArray,Hc0L.out];show 12<=12;decide)) (by rw [List.size_toArray,Hc0L.out];kernel_rfl) (all_oneCell_toArray Hc01.out) ?_
    rw [List.toList_toArray]
    have hL2:=hL.set c0 (by rw [Hc0L.out];rfl)
    clear hL
    have hL:=hL2
    clear hL2
    generalize World.setCells wp b 0 c0=ws at hL ⊢
    have hS:=HSL.out _ _ _ _ hL (.tail _ (.tail _ (.tail _ (.tail _ (.tail _ (.tail _ (.tail _ (.tail _ (.head _)))))))))
    refine hK.out _ _ hS (fun _ => ?_)
    clear hK K
    try simp only [zq]
    refine tq 9 rfl (erV 1) hS ?_
    try simp only [zq]
    refine wpAnyH_done (by kernel_rfl) ?_ _
    try simp only [zq]
    go_wp2_with fail
    go_meet
    case rel => exact ⟨_,rfl,rfl,hL⟩
  case rest =>
  obtain ⟨z13,rfl,rfl,hL⟩:=hcut
  clear HL9 HB15
  obtain ⟨w23,rfl⟩:∃ x:World,x=wc:=⟨_,rfl⟩
  replace hL:=hL.sub (ys:=[(zl,.cells #[.slice (some ⟨gl,0,none⟩) 3 capl] 22 (0,0)),(gl,.cells curl 30 (0,0)),(D2,.deferred (some [])),(z7,.cells c3.toArray 30 (0,0)),(z5,.cells c2.toArray 30 (0,0)),(z3,.cells c1.toArray 30 (0,0)),(z2,.cells #[.int .i64 0,.int .i64 1] 26 (0,0))]) (.cons _ (.cons _ (List.Sublist.refl _))) (Nat.le_refl 58)
  have r3:w23.heap[z3]? = some (.cells #[.int .i64 0,.int .i64 1,.int .i64 0,.int .i64 0,.int .i64 0,.string ⟨#[97,110,110]⟩,.string ⟨#[]⟩,.int .u64 7,.int .i64 1,.int .i64 0,.int .i64 100,.int .i64 0] 30 (0,0)):=by rw [hL.row (.tail _ (.tail _ (.tail _ (.tail _ (.tail _ (.head _)))))),Hq1.out];rfl
  have r5:w23.heap[z5]? = some (.cells #[.int .i64 1,.int .i64 2,.int .i64 0,.int .i64 1,.int .i64 1,.string ⟨#[97,110,110]⟩,.string ⟨#[116,118]⟩,.int .u64 7,.int .i64 1,.int .i64 0,.int .i64 100,.int .i64 1] 30 (0,0)):=by rw [hL.row (.tail _ (.tail _ (.tail _ (.tail _ (.head _))))),Hq2.out];rfl
  have r7:w23.heap[z7]? = some (.cells #[.int .i64 2,.int .i64 3,.int .i64 0,.int .i64 1,.int .i64 2,.string ⟨#[97,110,110]⟩,.string ⟨#[116,118]⟩,.int .u64 7,.int .i64 2,.int .i64 0,.int .i64 10,.int .i64 1] 30 (0,0)):=by rw [hL.row (.tail _ (.tail _ (.tail _ (.head _)))),Hq3.out];rfl
  have r9:w23.cell? ⟨zl,0,none⟩=some (.slice (some ⟨gl,0,none⟩) 3 capl):=by rw [hL.cell (.head _)];rfl
  go_wp2_with (first
   | (refine Gd.load_row (by kernel_rfl) 30 (.tmp 3) rfl _ (by rfl) _ _ _ _ r3 Tryz.underlying30 rfl (by kernel_rfl) ?_)
   | (refine Gd.load_row (by kernel_rfl) 30 (.tmp 5) rfl _ (by rfl) _ _ _ _ r5 Tryz.underlying30 rfl (by kernel_rfl) ?_)
   | (refine Gd.load_row (by kernel_rfl) 30 (.tmp 7) rfl _ (by rfl) _ _ _ _ r7 Tryz.underlying30 rfl (by kernel_rfl) ?_))
  clear r9 r3 r5 r7
  have hL2:=hL.alloc (allC [top1,two,three]).toArray 30
  have hs1:=sessArg_row (ss:=[top1,two,three]) (cap:=capl) (hL2.row (.tail _ (.tail _ (.head _)))) HCL.out
  have hs2:=sessArg_row (ss:=[top1,two,three]) (cap:=3) (hL2.row (.head _)) (fun k u hk => by rw [List.getElem?_toArray];exact hk)
  refine (Vw.sameS_any _ _ [top1,two,three] (by decide) _ hs1 hs2).mono ?_
  clear hs1 hs2 hL
  rintro e w24 ⟨rfl,hb⟩
  have hL:=(hL2.below hb).sub (ys:=[(zl,.cells #[.slice (some ⟨gl,0,none⟩) 3 capl] 22 (0,0)),(gl,.cells curl 30 (0,0)),(D2,.deferred (some [])),(z7,.cells c3.toArray 30 (0,0)),(z5,.cells c2.toArray 30 (0,0)),(z3,.cells c1.toArray 30 (0,0)),(z2,.cells #[.int .i64 0,.int .i64 1] 26 (0,0))]) (.cons _ (List.Sublist.refl _)) (Nat.le_refl _)
  clear hL2 hb
  have r3:w24.heap[z3]? = some (.cells #[.int .i64 0,.int .i64 1,.int .i64 0,.int .i64 0,.int .i64 0,.string ⟨#[97,110,110]⟩,.string ⟨#[]⟩,.int .u64 7,.int .i64 1,.int .i64 0,.int .i64 100,.int .i64 0] 30 (0,0)):=by rw [hL.row (.tail _ (.tail _ (.tail _ (.tail _ (.tail _ (.head _)))))),Hq1.out];rfl
  go_wp2_with (refine Gd.load_row (by kernel_rfl) 30 (.tmp 3) rfl _ (by rfl) _ _ _ _ r3 Tryz.underlying30 rfl (by kernel_rfl) ?_)
  clear r3
  have hc:=cBorn 18 top1 b4 i3.1 (by decide) (by decide) hL
  refine hc.mono ?_
  clear hc hL
  rintro e w25 ⟨rfl,hL⟩
  go_wp2_with fail
  have hc:=cNum 18 (by decide) (by decide) hL
  refine hc.mono ?_
  clear hc hL
  rintro e w26 ⟨rfl,hL⟩
  go_wp2_with fail
  have hc:=cNum 16 (by decide) (by decide) hL
  refine hc.mono ?_
  clear hc hL
  rintro e w27 ⟨rfl,hL⟩
  go_wp2_with fail
  have hc:=cNum 1 (by decide) (by decide) hL
  refine hc.mono ?_
  clear hc hL
  rintro e w28 ⟨rfl,hL⟩
  go_wp2_with fail
  have hc:=cTick 10 0 t1 (by decide) hL
  rw [show erV 0 = .nilIface from rfl] at hc
  refine hc.mono ?_
  clear hc hL
  rintro e w29 ⟨rfl,hL⟩
  go_wp2_with fail
  have hc:=cDump 29 _ rfl (by decide) 10 3 2 0 k4_ hL
  refine hc.mono ?_
  clear hc hL
  rintro e w30 ⟨g4,cap4,cur4,q4,r4,rfl,hcap4,hc4,hL⟩
  have HC4:=zh hc4
  clear hc4
  go_upto_region 19 with fail
  have hL2:=hL.alloc #[.int .i64 10,.int .i64 3,.slice q4 32 r4,.slice (some ⟨g4,0,none⟩) 29 cap4,.int .i64 2,.int .i64 0] 45
  clear hL
  have hL:=hL2
  clear hL2
  generalize World.alloc w30 (.cells #[.int .i64 10,.int .i64 3,.slice q4 32 r4,.slice (some ⟨g4,0,none⟩) 29 cap4,.int .i64 2,.int .i64 0] 45)=w30a at hL ⊢
  generalize w30.heap.size=zd at hL ⊢
  have HX:Hid (∀ st N xs W,KE w lo P st N xs W->((z3,.cells c1.toArray 30 (0,0)):Nat × Obj) ∈ xs->((z5,.cells c2.toArray 30 (0,0)):Nat × Obj) ∈ xs->((zd,.cells #[.int .i64 10,.int .i64 3,.slice q4 32 r4,.slice (some ⟨g4,0,none⟩) 29 cap4,.int .i64 2,.int .i64 0] 45 (0,0)):Nat × Obj) ∈ xs->((g4,.cells cur4 3 (0,0)):Nat × Obj) ∈ xs->W.rangeAt z3 0 [.int .i64 0,.int .i64 1,.int .i64 0,.int .i64 0,.int .i64 0,.string ⟨#[97,110,110]⟩,.string ⟨#[]⟩,.int .u64 7,.int .i64 1,.int .i64 0,.int .i64 100,.int .i64 0]/\W.rangeAt z5 0 [.int .i64 1,.int .i64 2,.int .i64 0,.int .i64 1,.int .i64 1,.string ⟨#[97,110,110]⟩,.string ⟨#[116,118]⟩,.int .u64 7,.int .i64 1,.int .i64 0,.int .i64 100,.int .i64 1]/\W.cell? ⟨zd,3,none⟩=some (.slice (some ⟨g4,0,none⟩) 29 cap4)/\W.cell? ⟨zd,4,none⟩=some (.int .i64 2)/\W.cell? ⟨zd,5,none⟩=some (.int .i64 0)/\W.cell? ⟨g4,0,none⟩=some (.int .i64 3)):=fun st N xs W h h1 h2 h3 h4 => by
   have k1:=h.row h1;have k2:=h.row h2
   rw [Hq1.out] at k1;rw [Hq2.out] at k2
   exact ⟨fun j u hu => by rw [zc k1,Nat.zero_add,List.getElem?_toArray];exact hu,fun j u hu => by rw [zc k2,Nat.zero_add,List.getElem?_toArray];exact hu,h.cell h3 3,h.cell h3 4,h.cell h3 5,by rw [h.cell h4];exact HC4.out 0 3 rfl⟩
  obtain ⟨A4,hA4⟩:=i4
  have hfs:∀ (a b v:Value) (W:World),(Instr.field 24 (.agg #[a,b,v]) 2).run Tryz.prog W = .ok v W:=fun a b v W => by kernel_rfl
  have HL9:=zh hL
  clear hL
  go_cut [173] from 143 to 173 (fun t173 wc => t173 = .bool false/\KE w lo P k4 320 [(zd,.cells #[.int .i64 10,.int .i64 3,.slice q4 32 r4,.slice (some ⟨g4,0,none⟩) 29 cap4,.int .i64 2,.int .i64 0] 45 (0,0)),(g4,.cells cur4 3 (0,0)),(zl,.cells #[.slice (some ⟨gl,0,none⟩) 3 capl] 22 (0,0)),(gl,.cells curl 30 (0,0)),(D2,.deferred (some [])),(z7,.cells c3.toArray 30 (0,0)),(z5,.cells c2.toArray 30 (0,0)),(z3,.cells c1.toArray 30 (0,0)),(z2,.cells #[.int .i64 0,.int .i64 1] 26 (0,0))] wc)
  case first =>
   refine only_normal ?_
   refine wp_region_held_drew (S:=fun W => W.rangeAt z3 0 [.int .i64 0,.int .i64 1,.int .i64 0,.int .i64 0,.int .i64 0,.string ⟨#[97,110,110]⟩,.string ⟨#[]⟩,.int .u64 7,.int .i64 1,.int .i64 0,.int .i64 100,.int .i64 0]/\W.rangeAt z5 0 [.int .i64 1,.int .i64 2,.int .i64 0,.int .i64 1,.int .i64 1,.string ⟨#[97,110,110]⟩,.string ⟨#[116,118]⟩,.int .u64 7,.int .i64 1,.int .i64 0,.int .i64 100,.int .i64 1]/\W.cell? ⟨zd,3,none⟩=some (.slice (some ⟨g4,0,none⟩) 29 cap4)/\W.cell? ⟨zd,4,none⟩=some (.int .i64 2)/\W.cell? ⟨zd,5,none⟩=some (.int .i64 0)/\W.cell? ⟨g4,0,none⟩=some (.int .i64 3)) (by kernel_rfl) (HX.out _ _ _ _ HL9.out.drew (.tail _ (.tail _ (.tail _ (.tail _ (.tail _ (.tail _ (.tail _ (.head _)))))))) (.tail _ (.tail _ (.tail _ (.tail _ (.tail _ (.tail _ (.head _))))))) (.head _) (.tail _ (.head _))) (fun _ => ?_)
   have hL:=HL9.out.drew
   have hS:=HX.out _ _ _ _ hL (.tail _ (.tail _ (.tail _ (.tail _ (.tail _ (.tail _ (.tail _ (.head _)))))))) (.tail _ (.tail _ (.tail _ (.tail _ (.tail _ (.tail _ (.head _))))))) (.head _) (.tail _ (.head _))
   generalize World.drew _=wd at hL hS ⊢
   refine tq 0 rfl (.pointer (some ⟨P.f,0,none⟩)) hS ?_
   try simp only [zq]
   refine tk 3 rfl (.agg #[.int .i64 0,.int .i64 1,.int .i64 0,.int .i64 0,.int .i64 0,.string ⟨#[97,110,110]⟩,.string ⟨#[]⟩,.int .u64 7,.int .i64 1,.int .i64 0,.int .i64 100,.int .i64 0]) (fun wq hq => by obtain ⟨q0,q1,q2,q3,q4,q5⟩:=hq;exact St.exec_load 30 (.tmp 3) (by rfl) z3 0 (by rfl) [.int .i64 0,.int .i64 1,.int .i64 0,.int .i64 0,.int .i64 0,.string ⟨#[97,110,110]⟩,.string ⟨#[]⟩,.int .u64 7,.int .i64 1,.int .i64 0,.int .i64 100,.int .i64 0] _ q0 Tryz.underlying30 rfl (by kernel_rfl)) hS ?_
   try simp only [zq]
   refine tk 4 rfl (.agg #[.int .i64 1,.int .i64 2,.int .i64 0,.int .i64 1,.int .i64 1,.string ⟨#[97,110,110]⟩,.string ⟨#[116,118]⟩,.int .u64 7,.int .i64 1,.int .i64 0,.int .i64 100,.int .i64 1]) (fun wq hq => by obtain ⟨q0,q1,q2,q3,q4,q5⟩:=hq;exact St.exec_load 30 (.tmp 5) (by rfl) z5 0 (by rfl) [.int .i64 1,.int .i64 2,.int .i64 0,.int .i64 1,.int .i64 1,.string ⟨#[97,110,110]⟩,.string ⟨#[116,118]⟩,.int .u64 7,.int .i64 1,.int .i64 0,.int .i64 100,.int .i64 1] _ q1 Tryz.underlying30 rfl (by kernel_rfl)) hS ?_
   try simp only [zq]
   refine wpAnyH_ready (rs:=[1,5]) (by kernel_rfl) (by simp) (AllReadyH.cons rfl (fun K hK => ?_) (AllReadyH.cons rfl (fun K hK => ?_) AllReadyH.nil))
   ·go_simp
    refine (cState 2 top1 [two] rfl s4 hA4.1 hL).mono ?_
    clear hL
    rintro e wt ⟨g5,cap5,cur5,rfl,hc5,hL⟩
    have hS:=HX.out _ _ _ _ hL (.tail _ (.tail _ (.tail _ (.tail _ (.tail _ (.tail _ (.tail _ (.tail _ (.head _))))))))) (.tail _ (.tail _ (.tail _ (.tail _ (.tail _ (.tail _ (.tail _ (.head _)))))))) (.tail _ (.head _)) (.tail _ (.tail _ (.head _)))
    refine hK.out _ _ hS (fun _ => ?_)
    clear hK K
    try simp only [zq]
    refine tq 2 rfl (.slice (some ⟨g5,0,none⟩) 2 cap5) hS ?_
    try simp only [zq]
    refine zr 5 rfl (fun K hK => ?_)
    go_simp
    have hL2:=hL.alloc #[.int .i64 0,.int .i64 1,.int .i64 0,.int .i64 0,.int .i64 0,.string ⟨#[97,110,110]⟩,.string ⟨#[]⟩,.int .u64 7,.int .i64 1,.int .i64 0,.int .i64 100,.int .i64 0,.int .i64 1,.int .i64 2,.int .i64 0,.int .i64 1,.int .i64 1,.string ⟨#[97,110,110]⟩,.string ⟨#[116,118]⟩,.int .u64 7,.int .i64 1,.int .i64 0,.int .i64 100,.int .i64 1] 30
    clear hL
    have hL:=hL2
    clear hL2
    have hS:=HX.out _ _ _ _ hL (.tail _ (.tail _ (.tail _ (.tail _ (.tail _ (.tail _ (.tail _ (.tail _ (.tail _ (.head _)))))))))) (.tail _ (.tail _ (.tail _ (.tail _ (.tail _ (.tail _ (.tail _ (.tail _ (.head _))))))))) (.tail _ (.tail _ (.head _))) (.tail _ (.tail _ (.tail _ (.head _))))
    refine hK.out _ _ hS (fun _ => ?_)
    clear hK K
    try simp only [zq]
    generalize World.alloc wt (.cells #[.int .i64 0,.int .i64 1,.int .i64 0,.int .i64 0,.int .i64 0,.string ⟨#[97,110,110]⟩,.string ⟨#[]⟩,.int .u64 7,.int .i64 1,.int .i64 0,.int .i64 100,.int .i64 0,.int .i64 1,.int .i64 2,.int .i64 0,.int .i64 1,.int .i64 1,.string ⟨#[97,110,110]⟩,.string ⟨#[116,118]⟩,.int .u64 7,.int .i64 1,.int .i64 0,.int .i64 100,.int .i64 1] 30)=wb at hL hS ⊢
    generalize wt.heap.size=zb at hL ⊢
    refine zr 6 rfl (fun K hK => ?_)
    go_simp
    have hs1:=sessArg_row (ss:=[top1,two]) (cap:=cap5) (hL.row (.tail _ (.head _))) hc5
    have hs2:=sessArg_row (ss:=[top1,two]) (cap:=2) (hL.row (.head _)) (fun k u hk => by rw [List.getElem?_toArray];exact hk)
    refine (Vw.sameS_any _ _ [top1,two] (by decide) _ hs1 hs2).mono ?_
    clear hs1 hs2
    rintro e wv ⟨rfl,hb⟩
    have hL2:=hL.below hb
    clear hL
    have hL:=hL2
    clear hL2 hb
    have hS:=HX.out _ _ _ _ hL (.tail _ (.tail _ (.tail _ (.tail _ (.tail _ (.tail _ (.tail _ (.tail _ (.tail _ (.head _)))))))))) (.tail _ (.tail _ (.tail _ (.tail _ (.tail _ (.tail _ (.tail _ (.tail _ (.head _))))))))) (.tail _ (.tail _ (.head _))) (.tail _ (.tail _ (.tail _ (.head _))))
    refine hK.out _ _ hS (fun _ => ?_)
    clear hK K
    try simp only [zq]
    refine tq 7 rfl (.bool false) hS ?_
    try simp only [zq]
    refine tq 8 rfl (.bool false) hS ?_
    try simp only [zq]
    refine tq 9 rfl (.pointer (some ⟨zd,3,none⟩)) hS ?_
    try simp only [zq]
    refine tq 10 rfl (.slice (some ⟨g4,0,none⟩) 29 cap4) hS ?_
    try simp only [zq]
    refine tq 11 rfl (.int .i64 29) hS ?_
    try simp only [zq]
    refine tq 12 rfl (.bool false) hS ?_
    try simp only [zq]
    refine tq 13 rfl (.bool false) hS ?_
    try simp only [zq]
    refine tq 14 rfl (.bool false) hS ?_
    try simp only [zq]
    refine tq 15 rfl (.pointer (some ⟨zd,3,none⟩)) hS ?_
    try simp only [zq]
    refine tq 16 rfl (.slice (some ⟨g4,0,none⟩) 29 cap4) hS ?_
    try simp only [zq]
    refine tq 17 rfl (.pointer (some ⟨g4,0,none⟩)) hS ?_
    try simp only [zq]
    refine tq 18 rfl (.int .i64 3) hS ?_
    try simp only [zq]
    refine tq 19 rfl (.bool false) hS ?_
    try simp only [zq]
    refine tq 20 rfl (.bool false) hS ?_
    try simp only [zq]
    refine tq 21 rfl (.bool false) hS ?_
    try simp only [zq]
    refine tq 22 rfl (.pointer (some ⟨zd,4,none⟩)) hS ?_
    try simp only [zq]
    refine tq 23 rfl (.int .i64 2) hS ?_
    try simp only [zq]
    refine tq 24 rfl (.bool false) hS ?_
    try simp only [zq]
    refine tq 25 rfl (.bool false) hS ?_
    try simp only [zq]
    refine tq 26 rfl (.bool false) hS ?_
    try simp only [zq]
    refine tq 27 rfl (.pointer (some ⟨zd,5,none⟩)) hS ?_
    try simp only [zq]
    refine tq 28 rfl (.int .i64 0) hS ?_
    try simp only [zq]
    refine tq 29 rfl (.bool false) hS ?_
    try simp only [zq]
    refine tq 30 rfl (.bool false) hS ?_
    try simp only [zq]
    refine wpAnyH_done (by kernel_rfl) ?_ _
    try simp only [zq]
    go_wp2_with fail
    go_meet
    case rel => exact ⟨rfl,hL.sub (.cons _ (.cons _ (List.Sublist.refl _))) (Nat.le_refl 320)⟩
   ·go_simp
    have hL2:=hL.alloc #[.int .i64 0,.int .i64 1,.int .i64 0,.int .i64 0,.int .i64 0,.string ⟨#[97,110,110]⟩,.string ⟨#[]⟩,.int .u64 7,.int .i64 1,.int .i64 0,.int .i64 100,.int .i64 0,.int .i64 1,.int .i64 2,.int .i64 0,.int .i64 1,.int .i64 1,.string ⟨#[97,110,110]⟩,.string ⟨#[116,118]⟩,.int .u64 7,.int .i64 1,.int .i64 0,.int .i64 100,.int .i64 1] 30
    clear hL
    have hL:=hL2
    clear hL2
    have hS:=HX.out _ _ _ _ hL (.tail _ (.tail _ (.tail _ (.tail _ (.tail _ (.tail _ (.tail _ (.tail _ (.head _))))))))) (.tail _ (.tail _ (.tail _ (.tail _ (.tail _ (.tail _ (.tail _ (.head _)))))))) (.tail _ (.head _)) (.tail _ (.tail _ (.head _)))
    refine hK.out _ _ hS (fun _ => ?_)
    clear hK K
    try simp only [zq]
    generalize World.alloc wd (.cells #[.int .i64 0,.int .i64 1,.int .i64 0,.int .i64 0,.int .i64 0,.string ⟨#[97,110,110]⟩,.string ⟨#[]⟩,.int .u64 7,.int .i64 1,.int .i64 0,.int .i64 100,.int .i64 0,.int .i64 1,.int .i64 2,.int .i64 0,.int .i64 1,.int .i64 1,.string ⟨#[97,110,110]⟩,.string ⟨#[116,118]⟩,.int .u64 7,.int .i64 1,.int .i64 0,.int .i64 100,.int .i64 1] 30)=wb at hL hS ⊢
    generalize wd.heap.size=zb at hL ⊢
    refine zr 1 rfl (fun K hK => ?_)
    go_simp
    refine (cState 2 top1 [two] rfl s4 hA4.1 hL).mono ?_
    clear hL
    rintro e wt ⟨g5,cap5,cur5,rfl,hc5,hL⟩
    have hS:=HX.out _ _ _ _ hL (.tail _ (.tail _ (.tail _ (.tail _ (.tail _ (.tail _ (.tail _ (.tail _ (.tail _ (.head _)))))))))) (.tail _ (.tail _ (.tail _ (.tail _ (.tail _ (.tail _ (.tail _ (.tail _ (.head _))))))))) (.tail _ (.tail _ (.head _))) (.tail _ (.tail _ (.tail _ (.head _))))
    refine hK.out _ _ hS (fun _ => ?_)
    clear hK K
    try simp only [zq]
    refine tq 2 rfl (.slice (some ⟨g5,0,none⟩) 2 cap5) hS ?_
    try simp only [zq]
    refine zr 6 rfl (fun K hK => ?_)
    go_simp
    have hs1:=sessArg_row (ss:=[top1,two]) (cap:=cap5) (hL.row (.head _)) hc5
    have hs2:=sessArg_row (ss:=[top1,two]) (cap:=2) (hL.row (.tail _ (.head _))) (fun k u hk => by rw [List.getElem?_toArray];exact hk)
    refine (Vw.sameS_any _ _ [top1,two] (by decide) _ hs1 hs2).mono ?_
    clear hs1 hs2
    rintro e wv ⟨rfl,hb⟩
    have hL2:=hL.below hb
    clear hL
    have hL:=hL2
    clear hL2 hb
    have hS:=HX.out _ _ _ _ hL (.tail _ (.tail _ (.tail _ (.tail _ (.tail _ (.tail _ (.tail _ (.tail _ (.tail _ (.head _)))))))))) (.tail _ (.tail _ (.tail _ (.tail _ (.tail _ (.tail _ (.tail _ (.tail _ (.head _))))))))) (.tail _ (.tail _ (.head _))) (.tail _ (.tail _ (.tail _ (.head _))))
    refine hK.out _ _ hS (fun _ => ?_)
    clear hK K
    try simp only [zq]
    refine tq 7 rfl (.bool false) hS ?_
    try simp only [zq]
    refine tq 8 rfl (.bool false) hS ?_
    try simp only [zq]
    refine tq 9 rfl (.pointer (some ⟨zd,3,none⟩)) hS ?_
    try simp only [zq]
    refine tq 10 rfl (.slice (some ⟨g4,0,none⟩) 29 cap4) hS ?_
    try simp only [zq]
    refine tq 11 rfl (.int .i64 29) hS ?_
    try simp only [zq]
    refine tq 12 rfl (.bool false) hS ?_
    try simp only [zq]
    refine tq 13 rfl (.bool false) hS ?_
    try simp only [zq]
    refine tq 14 rfl (.bool false) hS ?_
    try simp only [zq]
    refine tq 15 rfl (.pointer (some ⟨zd,3,none⟩)) hS ?_
    try simp only [zq]
    refine tq 16 rfl (.slice (some ⟨g4,0,none⟩) 29 cap4) hS ?_
    try simp only [zq]
    refine tq 17 rfl (.pointer (some ⟨g4,0,none⟩)) hS ?_
    try simp only [zq]
    refine tq 18 rfl (.int .i64 3) hS ?_
    try simp only [zq]
    refine tq 19 rfl (.bool false) hS ?_
    try simp only [zq]
    refine tq 20 rfl (.bool false) hS ?_
    try simp only [zq]
    refine tq 21 rfl (.bool false) hS ?_
    try simp only [zq]
    refine tq 22 rfl (.pointer (some ⟨zd,4,none⟩)) hS ?_
    try simp only [zq]
    refine tq 23 rfl (.int .i64 2) hS ?_
    try simp only [zq]
    refine tq 24 rfl (.bool false) hS ?_
    try simp only [zq]
    refine tq 25 rfl (.bool false) hS ?_
    try simp only [zq]
    refine tq 26 rfl (.bool false) hS ?_
    try simp only [zq]
    refine tq 27 rfl (.pointer (some ⟨zd,5,none⟩)) hS ?_
    try simp only [zq]
    refine tq 28 rfl (.int .i64 0) hS ?_
    try simp only [zq]
    refine tq 29 rfl (.bool false) hS ?_
    try simp only [zq]
    refine tq 30 rfl (.bool false) hS ?_
    try simp only [zq]
    refine wpAnyH_done (by kernel_rfl) ?_ _
    try simp only [zq]
    go_wp2_with fail
    go_meet
    case rel => exact ⟨rfl,hL.sub (.cons _ (.cons _ (List.Sublist.refl _))) (Nat.le_refl 320)⟩
  case rest =>
  obtain ⟨rfl,hL⟩:=hcut
  clear HL9
  obtain ⟨w34,rfl⟩:∃ x:World,x=wc:=⟨_,rfl⟩
  obtain ⟨y1,y2⟩:=HSL.out _ _ _ _ hL (.tail _ (.tail _ (.tail _ (.tail _ (.tail _ (.tail _ (.tail _ (.tail _ (.head _)))))))))
  go_wp2_with fail
  clear y1 y2
  have hc:=cRevoke 0 1 0 r1 (by decide) hL
  rw [show erV 0 = .nilIface from rfl] at hc
  refine hc.mono ?_
  clear hc hL
  rintro e w35 ⟨rfl,hL⟩
  go_wp2_with fail
  have hc:=cRevoke 1 2 16 r2 (by decide) hL
  refine hc.mono ?_
  clear hc hL
  rintro e w36 ⟨rfl,hL⟩
  go_wp2_with fail
  have hc:=cNum 16 (by decide) (by decide) hL
  refine hc.mono ?_
  clear hc hL
  rintro e w37 ⟨rfl,hL⟩
  go_wp2_with fail
  have hc:=cSweep 1 0 Fk.w1 (by decide) hL
  rw [show erV 0 = .nilIface from rfl] at hc
  refine hc.mono ?_
  clear hc hL
  rintro e w38 ⟨rfl,hL⟩
  go_wp2_with fail
  have hc:=cSweep (-1) 20 Fk.w2 (by decide) hL
  refine hc.mono ?_
  clear hc hL
  rintro e w39 ⟨rfl,hL⟩
  go_wp2_with fail
  have hc:=cNum 20 (by decide) (by decide) hL
  refine hc.mono ?_
  clear hc hL
  rintro e w40 ⟨rfl,hL⟩
  go_wp2_with fail
  have hc:=cTick (-1) 12 t2 (by decide) hL
  refine hc.mono ?_
  clear hc hL
  rintro e w41 ⟨rfl,hL⟩
  go_wp2_with fail
  have hc:=cNum 12 (by decide) (by decide) hL
  refine hc.mono ?_
  clear hc hL
  rintro e w42 ⟨rfl,hL⟩
  go_wp2_with fail
  obtain ⟨gb6,hgb6⟩:∃ x,x=k6.garb:=⟨_,rfl⟩
  obtain ⟨ro6,hro6⟩:∃ x,x=k6.roots:=⟨_,rfl⟩
  have h6:(k6.clock,k6.births,k6.garb,k6.roots,k6.free)=(10,3,gb6,ro6,2 :: (List.range' 3 29).map Int.ofNat):=by
   have:=k6_
   simp only [Prod.mk.injEq] at this ⊢
   exact ⟨this.1,this.2.1,hgb6.symm,hro6.symm,this.2.2⟩
  clear hgb6 hro6
  have hc:=cDump 30 _ rfl (by decide) 10 3 gb6 ro6 h6 hL
  refine hc.mono ?_
  clear hc hL
  rintro e w43 ⟨g6,cap6,cur6,q6,r6,rfl,hcap,hc4,hL⟩
  have HCd6:=zh hc4;have HKd6:=zh hcap
  obtain ⟨d6,hd6⟩:∃ d:List Value,d=[.int .i64 10,.int .i64 3,.slice q6 32 r6,.slice (some ⟨g6,0,none⟩) 30 cap6,.int .i64 gb6,.int .i64 ro6]:=⟨_,rfl⟩
  have Hd6L:Hid (d6.length=6):=by show _=_;rw [hd6];rfl
  have Hd61:Hid (∀ u ∈ d6,u.oneCell'=true):=by show ∀ _,_;rw [hd6];intro u hu;simp only [List.mem_cons,List.not_mem_nil,or_false] at hu;rcases hu with rfl | rfl | rfl | rfl | rfl | rfl <;> rfl
  rw [show (#[.int .i64 10,.int .i64 3,.slice q6 32 r6,.slice (some ⟨g6,0,none⟩) 30 cap6,.int .i64 gb6,.int .i64 ro6]:Array Value)=d6.toArray by rw [hd6]]
  have Hd6:=zh hd6
  clear hc4 hcap hd6
  have hL2:=hL.swap
  have hth:w43.there zd 0 d6.toArray.size:=Ag.there_row (hL2.row (.head _)) _ (by rw [List.size_toArray,Hd6L.out];show 6<=6;exact Nat.le_refl _)
  have hL3:=hL2.set d6 (by rw [Hd6L.out];rfl)
  clear hL hL2
  obtain ⟨w44,hw44⟩:∃ W,W=World.setCells w43 zd 0 d6:=⟨_,rfl⟩
  rw [<- hw44] at hL3
  have hL:=hL3
  clear hL3
  go_upto_region 24 with ((refine wpList_store_mid (by rfl) 45 (.tmp 15) (.tmp 203) (by rfl) zd 0 d6.toArray (by rfl) (by rfl) hth (by rw [List.size_toArray,Hd6L.out];kernel_rfl) (all_oneCell_toArray Hd61.out) ?_);(rw [List.toList_toArray,<- hw44]))
  clear hth hw44
  have x1:w44.cell? ⟨zd,3,none⟩=some (.slice (some ⟨g6,0,none⟩) 30 cap6):=by rw [hL.cell (.head _),Hd6.out];rfl
  have x2:w44.cell? ⟨g6,0,none⟩=some (.int .i64 2):=by rw [hL.cell (.tail _ (.head _))];exact HCd6.out 0 2 rfl
  have x3:w44.cell? ⟨g6,1,none⟩=some (.int .i64 3):=by rw [hL.cell (.tail _ (.head _))];exact HCd6.out 1 3 rfl
  go_wp2_with fail
  clear x1 x2 x3
  have hc:=cSweep 9 0 Fk.w3 (by decide) hL
  rw [show erV 0 = .nilIface from rfl] at hc
  refine hc.mono ?_
  clear hc hL
  rintro e w45 ⟨rfl,hL⟩
  go_wp2_with fail
  replace hL:=hL.sub (ys:=(zd,.cells d6.toArray 45 (0,0)) :: [(g4,.cells cur4 3 (0,0)),(zl,.cells #[.slice (some ⟨gl,0,none⟩) 3 capl] 22 (0,0)),(gl,.cells curl 30 (0,0)),(D2,.deferred (some [])),(z7,.cells c3.toArray 30 (0,0)),(z5,.cells c2.toArray 30 (0,0)),(z3,.cells c1.toArray 30 (0,0)),(z2,.cells #[.int .i64 0,.int .i64 1] 26 (0,0))]) (.cons_cons _ (.cons _ (List.Sublist.refl _))) (Nat.le_refl _)
  have hc:=cDump 32 _ rfl (by decide) 10 3 (-1) (-1) k7_ hL
  refine hc.mono ?_
  clear hc hL
  rintro e w46 ⟨g7,cap7,cur7,q7,r7,rfl,hcap,hc4,hL⟩
  have HCd7:=zh hc4;have HKd7:=zh hcap
  obtain ⟨d7,hd7⟩:∃ d:List Value,d=[.int .i64 10,.int .i64 3,.slice q7 32 r7,.slice (some ⟨g7,0,none⟩) 32 cap7,.int .i64 (-1),.int .i64 (-1)]:=⟨_,rfl⟩
  have Hd7L:Hid (d7.length=6):=by show _=_;rw [hd7];rfl
  have Hd71:Hid (∀ u ∈ d7,u.oneCell'=true):=by show ∀ _,_;rw [hd7];intro u hu;simp only [List.mem_cons,List.not_mem_nil,or_false] at hu;rcases hu with rfl | rfl | rfl | rfl | rfl | rfl <;> rfl
  rw [show (#[.int .i64 10,.int .i64 3,.slice q7 32 r7,.slice (some ⟨g7,0,none⟩) 32 cap7,.int .i64 (-1),.int .i64 (-1)]:Array Value)=d7.toArray by rw [hd7]]
  have Hd7:=zh hd7
  clear hc4 hcap hd7
  have hL2:=hL.swap
  have hth:w46.there zd 0 d7.toArray.size:=Ag.there_row (hL2.row (.head _)) _ (by rw [List.size_toArray,Hd7L.out];show 6<=d6.toArray.size;rw [List.size_toArray,Hd6L.out];exact Nat.le_refl _)
  have hL3:=hL2.set d7 (by rw [List.size_toArray,Hd6L.out,Hd7L.out])
  clear hL hL2
  obtain ⟨w47,hw47⟩:∃ W,W=World.setCells w46 zd 0 d7:=⟨_,rfl⟩
  rw [<- hw47] at hL3
  have hL:=hL3
  clear hL3
  go_upto_region 27 with ((refine wpList_store_mid (by rfl) 45 (.tmp 15) (.tmp 228) (by rfl) zd 0 d7.toArray (by rfl) (by rfl) hth (by rw [List.size_toArray,Hd7L.out];kernel_rfl) (all_oneCell_toArray Hd71.out) ?_);(rw [List.toList_toArray,<- hw47]))
  clear hth hw47
  have x1:w47.cell? ⟨zd,3,none⟩=some (.slice (some ⟨g7,0,none⟩) 32 cap7):=by rw [hL.cell (.head _),Hd7.out];rfl
  have x2:w47.cell? ⟨zd,4,none⟩=some (.int .i64 (-1)):=by rw [hL.cell (.head _),Hd7.out];rfl
  have x3:w47.cell? ⟨zd,5,none⟩=some (.int .i64 (-1)):=by rw [hL.cell (.head _),Hd7.out];rfl
  have x4:w47.cell? ⟨zd,0,none⟩=some (.int .i64 10):=by rw [hL.cell (.head _),Hd7.out];rfl
  have x5:w47.cell? ⟨zd,1,none⟩=some (.int .i64 3):=by rw [hL.cell (.head _),Hd7.out];rfl
  have hsh:∀ W:World,(Instr.slice 43 (.slice (some ⟨g7,0,none⟩) 32 cap7) none (some (.int .i64 4)) none).run Tryz.prog W = .ok (.slice (some ⟨g7,0,none⟩) 4 cap7) W:=fun W => Sl.run_high 43 3 _ 32 cap7 4 Tryz.underlying43 (by kernel_rfl) (by have:=HKd7.out;omega) W
  go_wp2_with fail
  clear hsh x1 x2 x3 x4 x5
  have hs1:=ints_row (ps:=[1,0,2,3]) (cap:=cap7) 4 rfl ((hL.below ((Below.refl _ _).alloc (Nat.le_refl _) (.cells #[.int .i64 1,.int .i64 0,.int .i64 2,.int .i64 3] 3))).row (.tail _ (.head _))) HCd7.out (fun k x hk => by
   rcases k with _ | _ | _ | _ | k
   all_goals first | exact hk | (simp at hk))
  have hs2:=In.lit_ints w47 [1,0,2,3] 3
  have hL2:=hL.below ((Below.refl _ _).alloc (Nat.le_refl _) (.cells #[.int .i64 1,.int .i64 0,.int .i64 2,.int .i64 3] 3))
  refine (In.same_any _ _ [1,0,2,3] [1,0,2,3] (by decide) (by decide) _ hs1 hs2).mono ?_
  clear hs1 hs2 hL
  rintro e w48 ⟨he,hb⟩
  rw [decide_eq_true rfl] at he
  subst he
  have hL:=hL2.below hb
  clear hL2 hb
  have x2:w48.cell? ⟨zd,4,none⟩=some (.int .i64 (-1)):=by rw [hL.cell (.head _),Hd7.out];rfl
  have x3:w48.cell? ⟨zd,5,none⟩=some (.int .i64 (-1)):=by rw [hL.cell (.head _),Hd7.out];rfl
  have x4:w48.cell? ⟨zd,0,none⟩=some (.int .i64 10):=by rw [hL.cell (.head _),Hd7.out];rfl
  have x5:w48.cell? ⟨zd,1,none⟩=some (.int .i64 3):=by rw [hL.cell (.head _),Hd7.out];rfl
  go_wp2_with fail
  clear x2 x3 x4 x5
  obtain ⟨A7,hA7⟩:=i7
  refine (cState0 s7 hA7.1 hL).mono ?_
  clear hL
  rintro e w49 ⟨q9,cap9,rfl,hL⟩
  go_wp2_with fail
  refine (states_any w49 (HER.out.below HER.out.lt hL.bel)).mono ?_
  rintro e w50 ⟨rfl,hb⟩
  replace hL:=hL.below hb
  clear hb
  have hD:=hL.row (.tail _ (.tail _ (.tail _ (.tail _ (.tail _ (.head _))))))
  have HBE:=zh (hL.done (.tail _ (.tail _ (.tail _ (.tail _ (.tail _ (.head _)))))))
  have HD:=zh hD
  clear hD
  go_wp2
  refine ⟨by simp,.inl ⟨_,_,rfl,run_takeDeferred (show _=_ from HD.out),?_⟩⟩
  exact ⟨_,results_tmp rfl _ _ _,rfl,HBE.out⟩
end Fk
end Fr
end
end Go.Proofs.YtimhglmfckfclaaGreatDoor
