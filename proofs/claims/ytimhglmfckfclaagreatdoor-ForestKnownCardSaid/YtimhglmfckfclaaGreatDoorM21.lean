/- Parts of the proof. -/
import Derived.Test.YtimhglmfckfclaaGreatDoorM20
set_option linter.unusedVariables false
set_option linter.unusedSimpArgs false
set_option maxRecDepth 100000
set_option maxHeartbeats 16000000
namespace Go.Proofs.YtimhglmfckfclaaGreatDoor
section
open Go.RowKit Go.Maps
namespace Fr
open Vw (Sess)
section
variable {t a:Nat} {w:World}
theorem gfirst_no (h:GbAt t a (-1) w) :
  Calls Tryz.prog 224 #[.pointer (some ⟨t,0,none⟩)] w fun e w' => e = .returned (.tuple #[.int .i64 (-1),.int .i64 (-1),.iface 101 (.int .i64 1)])/\Below w.heap.size w w':=by
 obtain ⟨cs,hcs⟩:∃ cs,cs=zeroS.cells:=⟨_,rfl⟩
 have HBW:Hid (Below w.heap.size w w):=Below.refl _ _
 have HN0:Hid (w.heap.size<=w.heap.size):=Nat.le_refl _
 have HSK:Hid (∀ W':World,Below w.heap.size w W'->W'.cell? ⟨t,0,none⟩=some (.pointer (some ⟨a,0,none⟩))/\W'.cell? ⟨t,1,none⟩=some (.int .i64 (-1))):=fun W' hb => (h.below hb).cells
 have HG:Hid (∀ W':World,Below w.heap.size w W'->Calls Tryz.prog 46 #[.pointer (some ⟨a,0,none⟩),.int .i64 (-1)] W' fun e w' => e = .returned (.tuple #[.agg cs.toArray,.iface 101 (.int .i64 1)])/\Below W'.heap.size W' w'):=fun W' hb => by rw [hcs];exact aget_no (-1) (by decide) W'
 have HCL:Hid (cs.length=17):=by show _=_;rw [hcs];rfl
 have HC1:Hid (∀ u ∈ cs,u.oneCell'=true):=by show ∀ _,_;rw [hcs];exact zeroS.one
 clear h hcs
 go_enter Tryz.func224,Tryz.ntmps224
 go_wp2_with fail
 refine wp_region_held_drew (S:=fun W' => W'.cell? ⟨t,0,none⟩=some (.pointer (some ⟨a,0,none⟩))/\W'.cell? ⟨t,1,none⟩=some (.int .i64 (-1))) (by kernel_rfl) (HSK.out _ (HBW.out.drew)) (fun _ => ?_)
 have hbkx:Below w.heap.size w w.drew:=HBW.out.drew
 refine tq 0 rfl (.pointer (some ⟨t,0,none⟩)) (HSK.out _ hbkx) ?_
 try simp only [zq]
 refine tq 1 rfl (.pointer (some ⟨t,0,none⟩)) (HSK.out _ hbkx) ?_
 try simp only [zq]
 refine tq 2 rfl (.pointer (some ⟨t,0,none⟩)) (HSK.out _ hbkx) ?_
 try simp only [zq]
 refine tq 3 rfl (.pointer (some ⟨a,0,none⟩)) (HSK.out _ hbkx) ?_
 try simp only [zq]
 refine tq 4 rfl (.pointer (some ⟨t,0,none⟩)) (HSK.out _ hbkx) ?_
 try simp only [zq]
 refine tq 5 rfl (.pointer (some ⟨t,0,none⟩)) (HSK.out _ hbkx) ?_
 try simp only [zq]
 refine tq 6 rfl (.pointer (some ⟨t,1,none⟩)) (HSK.out _ hbkx) ?_
 try simp only [zq]
 refine tq 7 rfl (.int .i64 (-1)) (HSK.out _ hbkx) ?_
 try simp only [zq]
 refine wpAnyH_ready (rs:=[8,12]) (by kernel_rfl) (by simp) (AllReadyH.cons rfl (fun K hK => ?_) (AllReadyH.cons rfl (fun K hK => ?_) AllReadyH.nil))
 ·go_simp
  refine (HG.out _ hbkx).mono ?_
  rintro e w3x ⟨rfl,hb3⟩
  have hbk3:=hbkx.trans (hb3.mono (Nat.le_trans HN0.out hbkx.size))
  refine hK.out _ _ (HSK.out _ hbk3) (fun _ => ?_)
  clear hK K
  clear hbkx
  have hbkx:=hbk3
  clear hbk3 hb3
  try simp only [zq]
  refine tq 9 rfl (.tuple #[.agg cs.toArray,.iface 101 (.int .i64 1)]) (HSK.out _ hbkx) ?_
  try simp only [zq]
  refine tq 10 rfl (.agg cs.toArray) (HSK.out _ hbkx) ?_
  try simp only [zq]
  refine tq 11 rfl (.iface 101 (.int .i64 1)) (HSK.out _ hbkx) ?_
  try simp only [zq]
  refine zr 12 rfl (fun K hK => ?_)
  go_simp
  obtain ⟨bx,hbqx⟩:∃ b,b=(w3x).heap.size:=⟨_,rfl⟩
  have hgex:w.heap.size<=bx:=by rw [hbqx];exact Nat.le_trans HN0.out hbkx.size
  have hbk4:=hbkx.alloc (by rw [<- hbqx];exact hgex) (.cells #[.bool false,.bool false,.int .i64 0,.int .i64 0,.int .i64 0,.int .i64 0,.int .i64 0,.int .i64 0,.int .i64 0,.int .i64 0,.string ⟨#[]⟩,.string ⟨#[]⟩,.int .u64 0,.int .i64 0,.int .i64 0,.int .i64 0,.int .i64 0] 115)
  have hrowx:(((w3x).alloc (.cells #[.bool false,.bool false,.int .i64 0,.int .i64 0,.int .i64 0,.int .i64 0,.int .i64 0,.int .i64 0,.int .i64 0,.int .i64 0,.string ⟨#[]⟩,.string ⟨#[]⟩,.int .u64 0,.int .i64 0,.int .i64 0,.int .i64 0,.int .i64 0] 115))).heap[bx]? = some (.cells #[.bool false,.bool false,.int .i64 0,.int .i64 0,.int .i64 0,.int .i64 0,.int .i64 0,.int .i64 0,.int .i64 0,.int .i64 0,.string ⟨#[]⟩,.string ⟨#[]⟩,.int .u64 0,.int .i64 0,.int .i64 0,.int .i64 0,.int .i64 0] 115 (0,0)):=by rw [hbqx];exact World.alloc_heap_new _ _
  refine hK.out _ _ (HSK.out _ hbk4) (fun _ => ?_)
  clear hK K hbkx
  have hbkx:=hbk4
  clear hbk4
  try simp only [zq]
  try rw [<- hbqx]
  generalize hw4:((w3x).alloc (.cells #[.bool false,.bool false,.int .i64 0,.int .i64 0,.int .i64 0,.int .i64 0,.int .i64 0,.int .i64 0,.int .i64 0,.int .i64 0,.string ⟨#[]⟩,.string ⟨#[]⟩,.int .u64 0,.int .i64 0,.int .i64 0,.int .i64 0,.int .i64 0] 115))=w4x at hbkx hrowx ⊢
  refine zr 13 rfl (fun K hK => ?_)
  rw [if_pos (by rfl)]
  refine wp_store_mid 115 (.tmp 5) (.tmp 18) (by rfl) bx 0 cs.toArray (by rfl) (by rfl) (Ag.there_row hrowx _ (by rw [List.size_toArray,HCL.out];decide)) (by rw [List.size_toArray,HCL.out];kernel_rfl) (all_oneCell_toArray HC1.out) ?_
  rw [List.toList_toArray]
  have hrow2:=Ag.setCells_row bx 115 cs 0 _ _ hrowx
  rw [Ag.put_all (by rw [HCL.out];rfl)] at hrow2
  have hbk2:=Ag.below_setCells (b:=bx) hgex cs 0 _ hbkx
  refine hK.out _ _ (HSK.out _ hbk2) (fun _ => ?_)
  clear hK K hbkx hrowx
  have hbkx:=hbk2
  have hrowx:=hrow2
  clear hbk2 hrow2
  generalize hw5:World.setCells _ bx 0 cs=w5x at hbkx hrowx ⊢
  clear hw5
  try simp only [zq]
  refine tq 14 rfl (.iface 101 (.int .i64 1)) (HSK.out _ hbkx) ?_
  try simp only [zq]
  refine wpAnyH_done (by kernel_rfl) ?_ _
  try simp only [zq]
  clear hw4 hbqx
  have HE:=zh hbkx
  clear hbkx hrowx hgex
  go_wp2
  refine bodyPost_ret (results_tmp3 rfl _ _ _) rfl ?_
  exact ⟨rfl,HE.out⟩
 ·go_simp
  obtain ⟨bx,hbqx⟩:∃ b,b=(w).heap.size:=⟨_,rfl⟩
  have hgex:w.heap.size<=bx:=by rw [hbqx];exact Nat.le_trans HN0.out (Nat.le_refl _)
  have hbk4:=(HBW.out.alloc HN0.out (.cells #[.bool false,.bool false,.int .i64 0,.int .i64 0,.int .i64 0,.int .i64 0,.int .i64 0,.int .i64 0,.int .i64 0,.int .i64 0,.string ⟨#[]⟩,.string ⟨#[]⟩,.int .u64 0,.int .i64 0,.int .i64 0,.int .i64 0,.int .i64 0] 115)).drew
  have hrowx:(((w).alloc (.cells #[.bool false,.bool false,.int .i64 0,.int .i64 0,.int .i64 0,.int .i64 0,.int .i64 0,.int .i64 0,.int .i64 0,.int .i64 0,.string ⟨#[]⟩,.string ⟨#[]⟩,.int .u64 0,.int .i64 0,.int .i64 0,.int .i64 0,.int .i64 0] 115)).drew).heap[bx]? = some (.cells #[.bool false,.bool false,.int .i64 0,.int .i64 0,.int .i64 0,.int .i64 0,.int .i64 0,.int .i64 0,.int .i64 0,.int .i64 0,.string ⟨#[]⟩,.string ⟨#[]⟩,.int .u64 0,.int .i64 0,.int .i64 0,.int .i64 0,.int .i64 0] 115 (0,0)):=by rw [hbqx];exact World.alloc_heap_new _ _
  refine hK.out _ _ (HSK.out _ hbk4) (fun _ => ?_)
  clear hK K hbkx
  have hbkx:=hbk4
  clear hbk4
  try simp only [zq]
  try rw [show w.drew.heap.size=bx from hbqx.symm]
  try rw [<- hbqx]
  generalize hw4:((w).alloc (.cells #[.bool false,.bool false,.int .i64 0,.int .i64 0,.int .i64 0,.int .i64 0,.int .i64 0,.int .i64 0,.int .i64 0,.int .i64 0,.string ⟨#[]⟩,.string ⟨#[]⟩,.int .u64 0,.int .i64 0,.int .i64 0,.int .i64 0,.int .i64 0] 115)).drew=w4x at hbkx hrowx ⊢
  refine zr 8 rfl (fun K hK => ?_)
  go_simp
  refine (HG.out _ hbkx).mono ?_
  rintro e w3x ⟨rfl,hb3⟩
  have hbk3:=hbkx.trans (hb3.mono (Nat.le_trans HN0.out hbkx.size))
  refine hK.out _ _ (HSK.out _ hbk3) (fun _ => ?_)
  clear hK K
  have hrowx:=(hb3.block bx (zx hrowx)).trans hrowx
  clear hbkx
  have hbkx:=hbk3
  clear hbk3 hb3
  try simp only [zq]
  try rw [<- hbqx]
  refine tq 9 rfl (.tuple #[.agg cs.toArray,.iface 101 (.int .i64 1)]) (HSK.out _ hbkx) ?_
  try simp only [zq]
  refine tq 10 rfl (.agg cs.toArray) (HSK.out _ hbkx) ?_
  try simp only [zq]
  refine tq 11 rfl (.iface 101 (.int .i64 1)) (HSK.out _ hbkx) ?_
  try simp only [zq]
  refine zr 13 rfl (fun K hK => ?_)
  rw [if_pos (by rfl)]
  refine wp_store_mid 115 (.tmp 5) (.tmp 18) (by rfl) bx 0 cs.toArray (by rfl) (by rfl) (Ag.there_row hrowx _ (by rw [List.size_toArray,HCL.out];decide)) (by rw [List.size_toArray,HCL.out];kernel_rfl) (all_oneCell_toArray HC1.out) ?_
  rw [List.toList_toArray]
  have hrow2:=Ag.setCells_row bx 115 cs 0 _ _ hrowx
  rw [Ag.put_all (by rw [HCL.out];rfl)] at hrow2
  have hbk2:=Ag.below_setCells (b:=bx) hgex cs 0 _ hbkx
  refine hK.out _ _ (HSK.out _ hbk2) (fun _ => ?_)
  clear hK K hbkx hrowx
  have hbkx:=hbk2
  have hrowx:=hrow2
  clear hbk2 hrow2
  generalize hw5:World.setCells _ bx 0 cs=w5x at hbkx hrowx ⊢
  clear hw5
  try simp only [zq]
  refine tq 14 rfl (.iface 101 (.int .i64 1)) (HSK.out _ hbkx) ?_
  try simp only [zq]
  refine wpAnyH_done (by kernel_rfl) ?_ _
  try simp only [zq]
  clear hw4 hbqx
  have HE:=zh hbkx
  clear hbkx hrowx hgex
  go_wp2
  refine bodyPost_ret (results_tmp3 rfl _ _ _) rfl ?_
  exact ⟨rfl,HE.out⟩
theorem gUnit_no (h:GbAt t a (-1) w) :
  Calls Tryz.prog 65 #[.pointer (some ⟨t,0,none⟩)] w fun e w' => e = .returned (.tuple #[.int .i64 0,.bool false])/\Below w.heap.size w w':=by
 have HU:Hid (Calls Tryz.prog 131 #[.pointer (some ⟨t,0,none⟩)] w fun e w' => e = .returned (.tuple #[.int .i64 0,.iface 101 (.int .i64 1)])/\Below w.heap.size w w'):=by
  have HF:=zh (gfirst_no h)
  clear h
  show Calls _ _ _ _ _
  go_enter Tryz.func131,Tryz.ntmps131
  go_wp2_with fail
  refine HF.out.mono ?_
  rintro e w3 ⟨rfl,hb⟩
  have HB:=zh hb
  clear hb
  go_wp2
  refine bodyPost_ret (results_tmp2 rfl _ _ _) rfl ?_
  exact ⟨rfl,HB.out⟩
 clear h
 go_enter Tryz.func65,Tryz.ntmps65
 go_wp2_with fail
 refine HU.out.mono ?_
 rintro e w3 ⟨rfl,hb⟩
 have HB:=zh hb
 clear hb
 go_wp2
 refine bodyPost_ret (results_tmp2 rfl _ _ _) rfl ?_
 exact ⟨rfl,HB.out⟩
end
end Fr
end
section
open Go.RowKit Go.Maps
namespace Fr
open Vw (Sess)
section
variable {t a:Nat} {r:Int} {S:List Slt} {fr:List Int} {nw:Nat} {w:World}
theorem at_any (i:Int) (w:World):Calls Tryz.prog 208 #[.int .i64 i] w fun e w' => e = .returned (.tuple #[])/\w'=w:=by
 go_enter Tryz.func208,Tryz.ntmps208
 go_wp2
 go_end0
 exact ⟨rfl,rfl⟩
theorem up_any (h:ArAt a S fr nw w) (us ub:Int) :
  Calls Tryz.prog 207 #[.pointer (some ⟨a,0,none⟩),.agg #[.int .i64 us,.int .i64 ub],.func (.func 208) #[] #[]] w fun e w' => (∃ n:Int,e = .returned (.tuple #[.int .i64 n,.bool (lives S us ub)]))/\Below w.heap.size w w':=by
 obtain ⟨W0,hW0⟩:∃ W0,W0=w.alloc (.cells #[.int .i64 us,.int .i64 ub] 26):=⟨_,rfl⟩
 have hb0:Below w.heap.size w W0:=by rw [hW0];exact (Below.refl _ _).alloc (Nat.le_refl _) _
 have hk0:W0.heap[w.heap.size]? = some (.cells #[.int .i64 us,.int .i64 ub] 26 (0,0)):=by rw [hW0];exact World.alloc_heap_new _ _
 have HW0:=zh hW0;have HB0:=zh hb0;have HK0:=zh hk0
 have HHO:Hid (∀ W,Below w.heap.size w W->∀ x y,Calls Tryz.prog 258 #[.pointer (some ⟨a,0,none⟩),.agg #[.int .i64 x,.int .i64 y]] W fun e w' => e = .returned (.tuple #[.agg (if thr x then sl S x else zeroS).cells.toArray,.bool (holds S x y)])/\Below W.heap.size W w'):=fun W hb x y => holds_any (h.below hb) x y
 clear h hW0 hb0 hk0
 go_enter Tryz.func207,Tryz.ntmps207
 go_wp2_with fail
 go_step3
 go_wp2_with fail
 go_step3
 go_wp2_with fail
 rw [<- HW0.out]
 go_loopg [8,9] 7 (fun g n lv wr => ∃ (k:Nat) (x y:Int),g=7-k/\k<=6/\n = .int .i64 (k:Int)/\lv = .bool false/\lives S us ub=livesN S (7-k) x y/\Below w.heap.size w wr/\wr.heap[w.heap.size]? = some (.cells #[.int .i64 x,.int .i64 y] 26 (0,0)))
 case atStart => exact ⟨0,us,ub,rfl,by omega,rfl,rfl,rfl,HB0.out,HK0.out⟩
 case round =>
  obtain ⟨k,x,y,rfl,hk,rfl,rfl,hlv,hbl,hrow⟩:=hrel
  obtain ⟨ok,hok⟩:∃ ok,ok=holds S x y:=⟨_,rfl⟩
  have HR:=zh (box_rng (cs:=[.int .i64 x,.int .i64 y]) hrow)
  have hho:=HHO.out wr hbl x y
  rw [<- hok] at hho
  have HH:=zh hho;have HB:=zh hbl;have HROW:=zh hrow;have HLV:=zh hlv;have HOK:=zh hok
  clear hho hbl hrow hlv hok
  go_wp2_with (refine wpList_load_mid (by rfl) 26 _ (by rfl) _ _ (by rfl) [.int .i64 x,.int .i64 y] _ HR.out Tryz.underlying26 rfl (by kernel_rfl) ?_)
  refine HH.out.mono ?_
  rintro e w3 ⟨rfl,hb3⟩
  obtain ⟨cs,hcs⟩:∃ cs,cs=(if thr x then sl S x else zeroS).cells:=⟨_,rfl⟩
  have HCL:Hid (cs.length=17):=by show _=_;rw [hcs];rfl
  have HC1:Hid (∀ u ∈ cs,u.oneCell'=true):=by show ∀ _,_;rw [hcs];exact (if thr x then sl S x else zeroS).one
  obtain ⟨W4,hW4⟩:∃ W4,W4=w3.alloc (.cells cs.toArray 115):=⟨_,rfl⟩
  obtain ⟨b,hbq⟩:∃ b,b=w3.heap.size:=⟨_,rfl⟩
  have hr4:W4.heap[b]? = some (.cells cs.toArray 115 (0,0)):=by rw [hW4,hbq];exact World.alloc_heap_new _ _
  have hb4:Below wr.heap.size wr W4:=by rw [hW4];exact hb3.alloc hb3.size _
  have hrow4:=(hb4.block w.heap.size (zx HROW.out)).trans HROW.out
  have HCS:=zh hcs;have HW4:=zh hW4;have HBQ:=zh hbq;have HR4:=zh hr4;have HROW4:=zh hrow4
  have HB4:Hid (Below w.heap.size w W4):=HB.out.trans (hb4.mono HB.out.size)
  rw [<- hcs]
  clear hcs hW4 hbq hr4 hb4 hrow4 hb3
  obtain ⟨m,hm⟩:∃ m,7-k=m+1:=⟨6-k,by omega⟩
  have HLV2:Hid (lives S us ub=(holds S x y && ((sl S x).s.ub == 0 || livesN S m (sl S x).s.us (sl S x).s.ub))):=by show _=_;rw [HLV.out,hm];rfl
  have HM:=zh hm
  clear hm
  go_upto_region 3 with (first
   | (refine Ag.wpList_store_new (by rfl) 115 (.tmp 10) (.tmp 16) (by rfl) cs (by rfl) (by rfl) (by rw [HCL.out];kernel_rfl) (by rw [HCL.out];rfl) HC1.out ?_))
  rw [<- HW4.out,<- HBQ.out]
  cases ok with
  | false =>
   have HE:Hid (lives S us ub=false):=by show _=_;rw [HLV2.out,<- HOK.out];rfl
   go_wp2
   try rw [Exit.noGoto_ret]
   refine bodyPost_ret (results_tmp2 rfl _ _ _) rfl ?_
   exact ⟨⟨(k:Int),by rw [HE.out];rfl⟩,HB4.out⟩
  | true =>
   have htx:thr x=true:=by
    have:=HOK.out.symm
    unfold holds at this
    rw [Bool.and_eq_true] at this
    exact this.1
   obtain ⟨us',hus'⟩:∃ u,u=(sl S x).s.us:=⟨_,rfl⟩
   obtain ⟨ub',hub'⟩:∃ u,u=(sl S x).s.ub:=⟨_,rfl⟩
   have HC:Hid (cs[7]? = some (.int .i64 us')/\cs[8]? = some (.int .i64 ub')):=by show _/\_;rw [HCS.out,htx,if_pos rfl,hus',hub'];exact ⟨rfl,rfl⟩
   have HLV3:Hid (lives S us ub=(ub' == 0 || livesN S m us' ub')):=by show _=_;rw [HLV2.out,<- HOK.out,hus',hub'];rfl
   have e8:W4.cell? ⟨b,8,none⟩=some (.int .i64 ub'):=by rw [zc HR4.out,List.getElem?_toArray];exact HC.out.2
   have HRG:Hid (W4.rangeAt b 7 [.int .i64 us',.int .i64 ub']):=fun j u hu => by
    rw [zc HR4.out,List.getElem?_toArray]
    rcases j with _ | _ | j
    ·simp only [List.getElem?_cons_zero,Option.some.injEq] at hu;subst hu;exact HC.out.1
    ·simp only [List.getElem?_cons_succ,List.getElem?_cons_zero,Option.some.injEq] at hu;subst hu;exact HC.out.2
    ·simp at hu
   have l0:W4.cell? ⟨w.heap.size,0,none⟩=some (.int .i64 x):=zl HROW4.out rfl
   have l1:W4.cell? ⟨w.heap.size,1,none⟩=some (.int .i64 y):=zl HROW4.out rfl
   have f0:W4.frozen? ⟨w.heap.size,0,none⟩=false:=by unfold World.frozen?;rw [HROW4.out];rfl
   have f1:W4.frozen? ⟨w.heap.size,1,none⟩=false:=by unfold World.frozen?;rw [HROW4.out];rfl
   clear hus' hub' htx
   by_cases hz:ub'=0
   ·have hzb:(ub' == 0)=true:=by simpa using hz
    have HE:Hid (lives S us ub=true):=by show _=_;rw [HLV3.out,hzb];rfl
    clear hz
    go_wp2_with (go_at_call 208;(with_reducible refine (at_any _ _).mono ?_);rintro e w' ⟨rfl,rfl⟩)
    try rw [Exit.noGoto_ret]
    refine bodyPost_ret (results_tmp2 rfl _ _ _) rfl ?_
    exact ⟨⟨(k:Int),by rw [HE.out];rfl⟩,HB4.out⟩
   ·have hzb:(ub' == 0)=false:=by simpa using hz
    clear hz
    by_cases h6:k=6
    ·have h6b:((k:Int) == 6)=true:=by simp [h6]
     have HE:Hid (lives S us ub=false):=by
      show _=_
      have:m=0:=by have:=HM.out;omega
      rw [HLV3.out,hzb,this];rfl
     clear h6
     go_wp2_with (go_at_call 208;(with_reducible refine (at_any _ _).mono ?_);rintro e w' ⟨rfl,rfl⟩)
     try rw [Exit.noGoto_ret]
     refine bodyPost_ret (results_tmp2 rfl _ _ _) rfl ?_
     exact ⟨⟨(k:Int),by rw [HE.out];rfl⟩,HB4.out⟩
    ·have h6b:((k:Int) == 6)=false:=by rw [beq_eq_false_iff_ne];omega
     have HRW:Hid (((W4.setCell ⟨w.heap.size,0,none⟩ (.int .i64 us')).setCell ⟨w.heap.size,1,none⟩ (.int .i64 ub')).heap[w.heap.size]? = some (.cells #[.int .i64 us',.int .i64 ub'] 26 (0,0))):=by
      show _=_
      rw [heap_setCell_same _ _ _ _ _ _ (heap_setCell_same _ _ _ _ _ _ HROW4.out)];rfl
     have HBW:Hid (Below w.heap.size w ((W4.setCell ⟨w.heap.size,0,none⟩ (.int .i64 us')).setCell ⟨w.heap.size,1,none⟩ (.int .i64 ub'))):=(HB4.out.setCell (p:=⟨w.heap.size,0,none⟩) (Nat.le_refl _) _).setCell (p:=⟨w.heap.size,1,none⟩) (Nat.le_refl _) _
     have HE:Hid (lives S us ub=livesN S m us' ub'):=by show _=_;rw [HLV3.out,hzb];rfl
     have hk5:k<=5:=by omega
     clear h6
     go_wp2_with (first
      | (go_at_call 208;(with_reducible refine (at_any _ _).mono ?_);rintro e w' ⟨rfl,rfl⟩)
      | (refine wpList_load_mid (by rfl) 26 _ (by rfl) _ _ (by rfl) [.int .i64 us',.int .i64 ub'] _ HRG.out Tryz.underlying26 rfl (by kernel_rfl) ?_))
     go_roundg (7-(k+1))
     case rel => exact ⟨k+1,us',ub',rfl,by omega,by go_num,rfl,by have e:7-(k+1)=m:=by { have:=HM.out;omega };rw [e];exact HE.out,HBW.out,HRW.out⟩
     case measure => omega
theorem lives_any (h:ArAt a S fr nw w) (us ub:Int) :
  Calls Tryz.prog 124 #[.pointer (some ⟨a,0,none⟩),.agg #[.int .i64 us,.int .i64 ub]] w fun e w' => (∃ n:Int,e = .returned (.tuple #[.bool (lives S us ub),.int .i64 n]))/\Below w.heap.size w w':=by
 obtain ⟨W0,hW0⟩:∃ W0,W0=w.alloc (.cells #[.int .i64 us,.int .i64 ub] 26):=⟨_,rfl⟩
 have hb0:Below w.heap.size w W0:=by rw [hW0];exact (Below.refl _ _).alloc (Nat.le_refl _) _
 have HU:=zh (up_any (h.below hb0) us ub)
 have HB0:=zh hb0;have HW0:=zh hW0
 obtain ⟨lv,hlv⟩:∃ lv,lv=lives S us ub:=⟨_,rfl⟩
 rw [<- hlv] at HU ⊢
 clear h hb0 hW0 hlv
 go_enter Tryz.func124,Tryz.ntmps124
 go_wp2_with fail
 rw [<- HW0.out]
 refine HU.out.mono ?_
 rintro e w3 ⟨⟨n,rfl⟩,hb3⟩
 have HE:Hid (Below w.heap.size w w3):=HB0.out.trans (hb3.mono HB0.out.size)
 clear hb3
 go_wp2
 refine bodyPost_ret (results_tmp2 rfl _ _ _) rfl ?_
 exact ⟨⟨n,rfl⟩,HE.out⟩
end
end Fr
end
section
open Go.RowKit Go.Maps
namespace Fr
open Vw (Sess)
def AllPost (L:List Int) (w:World) (e:Ending) (w':World):Prop:=(∃ bx v,e = .returned (.func (.func 193) #[] #[.pointer (some ⟨bx,0,none⟩)])/\w.heap.size<=bx/\Boxed w' bx 43 v/\w'.ownsRow (bx+1) 3 1 v L.length (L.map (Value.int .i64)))/\Below w.heap.size w w'
section
variable {t a:Nat} {r:Int} {S:List Slt} {fr:List Int} {nw:Nat} {w:World} {L:List Int}
theorem roots_any (h:TrAt t a r w) (hA:ArAt a S fr nw w) (hR:RingAt S r L) (ht:∀ x ∈ L,thr x=true) (hd:L.Nodup) :
  Calls Tryz.prog 48 #[.pointer (some ⟨t,0,none⟩)] w (AllPost L w):=by
 have HALL:Hid (∀ W,Below w.heap.size w W->Calls Tryz.prog 118 #[.pointer (some ⟨a,0,none⟩),.int .i64 r] W (AllPost L W)):=fun W hb => all_any a S fr nw r L W (hA.below hb) hR ht hd
 have HS:Hid (∀ W',Below w.heap.size w W'->W'.cell? ⟨t,0,none⟩=some (.pointer (some ⟨a,0,none⟩))/\W'.cell? ⟨t,1,none⟩=some (.int .i64 r)):=fun W' hb => ⟨(h.below hb).arena,(h.below hb).last⟩
 clear h hA hR ht hd
 go_enter Tryz.func48,Tryz.ntmps48
 go_wp2_with fail
 have hb0:Below w.heap.size w w.drew:=(Below.refl _ _).drew
 refine wp_region_held_drew (S:=fun W' => W'.cell? ⟨t,0,none⟩=some (.pointer (some ⟨a,0,none⟩))/\W'.cell? ⟨t,1,none⟩=some (.int .i64 r)) (by kernel_rfl) (HS.out _ hb0) (fun _ => ?_)
 refine tq 0 rfl (.pointer (some ⟨t,0,none⟩)) (HS.out _ hb0) ?_
 try simp only [zq]
 refine tq 1 rfl (.pointer (some ⟨t,0,none⟩)) (HS.out _ hb0) ?_
 try simp only [zq]
 refine tq 2 rfl (.pointer (some ⟨t,0,none⟩)) (HS.out _ hb0) ?_
 try simp only [zq]
 refine tq 3 rfl (.pointer (some ⟨a,0,none⟩)) (HS.out _ hb0) ?_
 try simp only [zq]
 refine tq 4 rfl (.pointer (some ⟨t,0,none⟩)) (HS.out _ hb0) ?_
 try simp only [zq]
 refine tq 5 rfl (.pointer (some ⟨t,0,none⟩)) (HS.out _ hb0) ?_
 try simp only [zq]
 refine tq 6 rfl (.pointer (some ⟨t,1,none⟩)) (HS.out _ hb0) ?_
 try simp only [zq]
 refine tq 7 rfl (.int .i64 r) (HS.out _ hb0) ?_
 try simp only [zq]
 refine zr 8 rfl (fun K hK => ?_)
 go_simp
 refine (HALL.out _ hb0).mono ?_
 rintro e w8 ⟨⟨bx,v,rfl,q1,q2,q3⟩,hb8⟩
 have hb0:=hb0.trans (hb8.mono hb0.size)
 refine hK.out _ _ (HS.out _ hb0) (fun _ => ?_)
 clear hK K
 try simp only [zq]
 refine tq 9 rfl (.func (.func 193) #[] #[.pointer (some ⟨bx,0,none⟩)]) (HS.out _ hb0) ?_
 try simp only [zq]
 refine wpAnyH_done (by kernel_rfl) ?_ _
 try simp only [zq]
 have HE:Hid (w.heap.size<=bx/\Boxed w8 bx 43 v/\w8.ownsRow (bx+1) 3 1 v L.length (L.map (Value.int .i64))/\Below w.heap.size w w8):=⟨q1,q2,q3,hb0⟩
 clear q1 q2 q3 hb8 hb0
 go_wp2
 go_ret
 exact ⟨⟨_,_,rfl,HE.out.1,HE.out.2.1,HE.out.2.2.1⟩,HE.out.2.2.2⟩
theorem kids_any (h:TrAt t a r w) (hA:ArAt a S fr nw w) (i:Int) (hi:thr i=true) (hR:RingAt S (sl S i).kids L) (ht:∀ x ∈ L,thr x=true) (hd:L.Nodup) :
  Calls Tryz.prog 210 #[.pointer (some ⟨t,0,none⟩),.int .i64 i] w (AllPost L w):=by
 obtain ⟨cs,hcs⟩:∃ cs,cs=(sl S i).cells:=⟨_,rfl⟩
 obtain ⟨kd,hkd⟩:∃ kd,kd=(sl S i).kids:=⟨_,rfl⟩
 rw [<- hkd] at hR
 have hget:=aget_ok hA i hi
 rw [<- hcs] at hget
 have HG:=zh hget
 have c1:=h.arena
 have HALL:Hid (∀ W,Below w.heap.size w W->Calls Tryz.prog 118 #[.pointer (some ⟨a,0,none⟩),.int .i64 kd] W (AllPost L W)):=fun W hb => all_any a S fr nw kd L W (hA.below hb) hR ht hd
 have HCL:Hid (cs.length=17):=by show _=_;rw [hcs];rfl
 have HC1:Hid (∀ u ∈ cs,u.oneCell'=true):=by show ∀ _,_;rw [hcs];exact (sl S i).one
 have HCK:Hid (cs[2]? = some (.int .i64 kd)):=by show _=_;rw [hcs,hkd];rfl
 have HH:=zh h
 clear h hA hi hR ht hd hcs hkd hget
 go_enter Tryz.func210,Tryz.ntmps210
 go_wp2_with fail
 refine HG.out.mono ?_
 rintro e w3 ⟨rfl,hb3⟩
 obtain ⟨W4,hW4⟩:∃ W4,W4=w3.alloc (.cells cs.toArray 115):=⟨_,rfl⟩
 obtain ⟨b,hbq⟩:∃ b,b=w3.heap.size:=⟨_,rfl⟩
 have hr4:W4.heap[b]? = some (.cells cs.toArray 115 (0,0)):=by rw [hW4,hbq];exact World.alloc_heap_new _ _
 have HB4:Hid (Below w.heap.size w W4):=by show Below _ _ _;rw [hW4];exact hb3.alloc hb3.size _
 have d2:W4.cell? ⟨b,2,none⟩=some (.int .i64 kd):=by rw [zc hr4,List.getElem?_toArray];exact HCK.out
 have HS:Hid (∀ W',Below W4.heap.size W4 W'->W'.cell? ⟨t,0,none⟩=some (.pointer (some ⟨a,0,none⟩))/\W'.cell? ⟨b,2,none⟩=some (.int .i64 kd)):=fun W' hb => ⟨((HH.out.below HB4.out).below hb).arena,(hb.cell (p:=⟨b,2,none⟩) (World.block_lt_of_cell? W4 _ d2)).trans d2⟩
 have HW4:=zh hW4;have HBQ:=zh hbq
 clear hr4 hW4 hbq hb3 c1 d2
 go_upto_region 2 with (first
  | (refine Ag.wpList_store_new (by rfl) 115 (.tmp 5) (.tmp 14) (by rfl) cs (by rfl) (by rfl) (by rw [HCL.out];kernel_rfl) (by rw [HCL.out];rfl) HC1.out ?_))
 rw [<- HW4.out,<- HBQ.out]
 go_wp2_with fail
 have hb0:Below W4.heap.size W4 W4.drew:=(Below.refl _ _).drew
 refine wp_region_held_drew (S:=fun W' => W'.cell? ⟨t,0,none⟩=some (.pointer (some ⟨a,0,none⟩))/\W'.cell? ⟨b,2,none⟩=some (.int .i64 kd)) (by kernel_rfl) (HS.out _ hb0) (fun _ => ?_)
 refine tq 0 rfl (.pointer (some ⟨t,0,none⟩)) (HS.out _ hb0) ?_
 try simp only [zq]
 refine tq 1 rfl (.pointer (some ⟨t,0,none⟩)) (HS.out _ hb0) ?_
 try simp only [zq]
 refine tq 2 rfl (.pointer (some ⟨t,0,none⟩)) (HS.out _ hb0) ?_
 try simp only [zq]
 refine tq 3 rfl (.pointer (some ⟨a,0,none⟩)) (HS.out _ hb0) ?_
 try simp only [zq]
 refine tq 4 rfl (.pointer (some ⟨b,2,none⟩)) (HS.out _ hb0) ?_
 try simp only [zq]
 refine tq 5 rfl (.int .i64 kd) (HS.out _ hb0) ?_
 try simp only [zq]
 refine zr 6 rfl (fun K hK => ?_)
 go_simp
 refine (HALL.out _ (HB4.out.drew)).mono ?_
 rintro e w8 ⟨⟨bx,v,rfl,q1,q2,q3⟩,hb8⟩
 have hb0:=hb0.trans (hb8.mono hb0.size)
 refine hK.out _ _ (HS.out _ hb0) (fun _ => ?_)
 clear hK K
 try simp only [zq]
 refine tq 7 rfl (.func (.func 193) #[] #[.pointer (some ⟨bx,0,none⟩)]) (HS.out _ hb0) ?_
 try simp only [zq]
 refine wpAnyH_done (by kernel_rfl) ?_ _
 try simp only [zq]
 have HE:Hid (w.heap.size<=bx/\Boxed w8 bx 43 v/\w8.ownsRow (bx+1) 3 1 v L.length (L.map (Value.int .i64))/\Below w.heap.size w w8):=⟨Nat.le_trans HB4.out.size q1,q2,q3,HB4.out.trans (hb0.mono HB4.out.size)⟩
 clear q1 q2 q3 hb8 hb0
 go_wp2
 go_ret
 exact ⟨⟨_,_,rfl,HE.out.1,HE.out.2.1,HE.out.2.2.1⟩,HE.out.2.2.2⟩
end
end Fr
end
section
open Go.RowKit
namespace Fo
variable {F:Fence} {n:Nat} {P:Program}
theorem range_foot_sl {α:Type} {g:Operand} {ps:Array Tmp} {assign body:Code} {Q:Exit->Act->World->Prop} {a:Act} {w w0:World}
  (hro:F.round=none) (h1:1<=n) {gf:Nat} {lb:Array Value} (hg:a.eval g = .func (.func gf) #[] lb) (hFg:F.fn gf) (eg:∀ args w,(callFunc gf args).run P w = .ok (.enter gf args) w)
  {encs:α->Array Value} {S Sp:List α->Prop} {C:Nat->Prop} (hseq:SeqF F (n-1) P gf lb encs S Sp C w0) (hps:∀ x,(encs x).size=ps.size) (hC:∀ b,C b->b<w.heap.size/\w.heap[b]? = w0.heap[b]?)
  (U:List α->(Nat->Prop)->World->Prop) (Ux:Code->List α->(Nat->Prop)->World->Prop) (Fp0:Nat->Prop) (hFp0:∀ b,Fp0 b->b<w.heap.size/\¬ C b)
  (hU:∀ pre Fp A A' row,U pre Fp A->w.heap.size<=A.heap.size->A.grownBy A' row->(∀ r,row=some r->w.heap.size<=r/\¬ Fp r)->U pre Fp A')
  (hUx:∀ c pre Fp A A' row,Ux c pre Fp A->w.heap.size<=A.heap.size->A.grownBy A' row->(∀ r,row=some r->w.heap.size<=r/\¬ Fp r)->Ux c pre Fp A')
  (h0:U [] Fp0 w) (sl:Array Value->α->Array Value)
  (hassign:∀ (l:Nat) (x:α) (W:World) (K:Act->World->Prop),K { tmps:=sl a.tmps x,defers:=[] } W->assign.wpIn (F.inRound l) (n-1-1) P (Exit.then K (fun _ _ _ => False)) { tmps:=(ps.zip (encs x)).foldl (fun t (p,v) => t.setIfInBounds p v) a.tmps,defers:=[] } W)
  (hbody:∀ (l:Nat) (pre:List α) (x:α) (Fp:Nat->Prop) (W:World),U pre Fp W->w.heap.size<=W.heap.size->Sp (pre ++ [x])->body.wpIn (F.inRound l) (n-1-1) P (Left Fp U Ux (pre ++ [x]) W) { tmps:=sl a.tmps x,defers:=[] } W)
  (hdone:∀ (d:Nat) (xs:List α) (Fp:Nat->Prop) (W:World),S xs->w.heap.size<=d->U xs Fp W->¬ Fp d->W.heap[d]? = some (.deferred (some []))->Q .normal { a with defers:={ target:=.collected d,args:=#[] } :: a.defers } W)
  (hstop:∀ (d:Nat) (c:Code) (pre:List α) (Fp:Nat->Prop) (W:World),Sp pre->w.heap.size<=d->Ux c pre Fp W->¬ Fp d->W.heap[d]? = some (.deferred (some []))->c.wpIn F n P Q { a with defers:={ target:=.collected d,args:=#[] } :: a.defers } W) :
  (Code.rangeFunc g ps assign body).wpIn F n P Q a w :=
 range_foot hro h1 hg hFg eg hseq hps hC U Ux Fp0 hFp0 hU hUx h0 (fun x => { tmps:=sl a.tmps x,defers:=[] }) hassign hbody hdone hstop
end Fo
end
end Go.Proofs.YtimhglmfckfclaaGreatDoor
