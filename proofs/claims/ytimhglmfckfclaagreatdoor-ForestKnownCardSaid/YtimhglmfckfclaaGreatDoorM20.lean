/- Parts of the proof. -/
import Derived.Test.YtimhglmfckfclaaGreatDoorM19
set_option linter.unusedVariables false
set_option linter.unusedSimpArgs false
set_option maxRecDepth 100000
set_option maxHeartbeats 16000000
namespace Go.Proofs.YtimhglmfckfclaaGreatDoor
section
open Go.RowKit Go.Maps
namespace Fr
open Vw (Sess)
section
variable {t a:Nat} {r:Int} {S:List Slt} {fr:List Int} {nw:Nat} {w:World}
theorem aget_no (i:Int) (hi:thr i=false) (w:World) :
  Calls Tryz.prog 46 #[.pointer (some ⟨a,0,none⟩),.int .i64 i] w fun e w' => e = .returned (.tuple #[.agg zeroS.cells.toArray,.iface 101 (.int .i64 1)])/\Below w.heap.size w w':=get_no i hi w
theorem holds_0 (us ub:Int) (us0 dd0:Bool) (bt:Int) (cs:List Value) (hcl:cs.length=17) (hc1:∀ u ∈ cs,u.oneCell'=true) (h0:cs[0]? = some (.bool us0)) (h1:cs[1]? = some (.bool dd0)) (h6:cs[6]? = some (.int .i64 bt)) (hg:∀ W,Below w.heap.size w W->Calls Tryz.prog 46 #[.pointer (some ⟨a,0,none⟩),.int .i64 us] W fun e w' => e = .returned (.tuple #[.agg cs.toArray,.iface 101 (.int .i64 1)])/\Below W.heap.size W w') :
  Calls Tryz.prog 258 #[.pointer (some ⟨a,0,none⟩),.agg #[.int .i64 us,.int .i64 ub]] w fun e w' => e = .returned (.tuple #[.agg cs.toArray,.bool false])/\Below w.heap.size w w':=by
 obtain ⟨W1,hW1⟩:∃ W1,W1=(w.alloc (.cells #[.int .i64 us,.int .i64 ub] 26)).alloc (.cells #[.bool false,.bool false,.int .i64 0,.int .i64 0,.int .i64 0,.int .i64 0,.int .i64 0,.int .i64 0,.int .i64 0,.int .i64 0,.string ⟨#[]⟩,.string ⟨#[]⟩,.int .u64 0,.int .i64 0,.int .i64 0,.int .i64 0,.int .i64 0] 115):=⟨_,rfl⟩
 have hb1:Below w.heap.size w W1:=by rw [hW1];exact ((Below.refl _ _).alloc (Nat.le_refl _) _).alloc (by simp) _
 have hs1:W1.heap.size=w.heap.size+2:=by rw [hW1,World.size_alloc,World.size_alloc]
 have hk1:W1.heap[w.heap.size]? = some (.cells #[.int .i64 us,.int .i64 ub] 26 (0,0)):=by rw [hW1];exact (Below.heap_alloc _ _ _ (by simp)).trans (World.alloc_heap_new _ _)
 have hz1:W1.heap[w.heap.size+1]? = some (.cells #[.bool false,.bool false,.int .i64 0,.int .i64 0,.int .i64 0,.int .i64 0,.int .i64 0,.int .i64 0,.int .i64 0,.int .i64 0,.string ⟨#[]⟩,.string ⟨#[]⟩,.int .u64 0,.int .i64 0,.int .i64 0,.int .i64 0,.int .i64 0] 115 (0,0)):=by
  have:=World.alloc_heap_new (w.alloc (.cells #[.int .i64 us,.int .i64 ub] 26)) (.cells #[.bool false,.bool false,.int .i64 0,.int .i64 0,.int .i64 0,.int .i64 0,.int .i64 0,.int .i64 0,.int .i64 0,.int .i64 0,.string ⟨#[]⟩,.string ⟨#[]⟩,.int .u64 0,.int .i64 0,.int .i64 0,.int .i64 0,.int .i64 0] 115)
  rw [World.size_alloc] at this
  rw [hW1];exact this
 have HG:=zh (hg W1 hb1)
 have HCL:=zh hcl;have HC1:=zh hc1;have HH:=zh (And.intro h0 (And.intro h1 h6))
 have HW1:=zh hW1;have HB1:=zh hb1;have HS1:=zh hs1;have HK1:=zh hk1;have HZ1:=zh hz1
 clear hg hcl hc1 h0 h1 h6 hW1 hb1 hs1 hk1 hz1
 go_enter Tryz.func258,Tryz.ntmps258
 go_wp2_with fail
 rw [<- HW1.out]
 refine HG.out.mono ?_
 rintro e w3 ⟨rfl,hb3⟩
 obtain ⟨W4,hW4⟩:∃ W4,W4=w3.alloc (.cells cs.toArray 115):=⟨_,rfl⟩
 obtain ⟨b,hbq⟩:∃ b,b=w3.heap.size:=⟨_,rfl⟩
 have hr4:W4.heap[b]? = some (.cells cs.toArray 115 (0,0)):=by rw [hW4,hbq];exact World.alloc_heap_new _ _
 have hb4:Below W1.heap.size W1 W4:=by rw [hW4];exact hb3.alloc hb3.size _
 have hge:w.heap.size+2<=b:=by rw [hbq];have:=hb3.size;have:=HS1.out;omega
 have hk4:=(hb4.block w.heap.size (by have:=HS1.out;omega)).trans HK1.out
 have hz4:=(hb4.block (w.heap.size+1) (by have:=HS1.out;omega)).trans HZ1.out
 have HS:Hid (∀ W':World,Only (fun k => k=w.heap.size+1) W4 W'->W'.cell? ⟨w.heap.size,1,none⟩=some (.int .i64 ub)/\W'.rangeAt b 0 cs/\W'.cell? ⟨b,0,none⟩=some (.bool us0)/\W'.cell? ⟨b,1,none⟩=some (.bool dd0)/\W'.cell? ⟨b,6,none⟩=some (.int .i64 bt)):=fun W' ho => by
  have k1:=(ho.block w.heap.size (zx hk4) (by omega)).trans hk4
  have k2:=(ho.block b (zx hr4) (by omega)).trans hr4
  exact ⟨by rw [zc k1];rfl,box_rng k2,by rw [zc k2,List.getElem?_toArray];exact HH.out.1,by rw [zc k2,List.getElem?_toArray];exact HH.out.2.1,by rw [zc k2,List.getElem?_toArray];exact HH.out.2.2⟩
 have HTH:Hid (W4.drew.there (w.heap.size+1) 0 cs.toArray.size):=Ag.there_row (show W4.drew.heap[w.heap.size+1]? = _ from hz4) _ (by rw [List.size_toArray,HCL.out];decide)
 have he5:=Ag.setCells_row (w.heap.size+1) 115 cs 0 _ W4.drew hz4
 rw [Ag.put_all (by rw [HCL.out];rfl)] at he5
 have HE5:=zh he5
 have HO5:Hid (Only (fun k => k=w.heap.size+1) W4 (W4.drew.setCells (w.heap.size+1) 0 cs)):=by
  have:∀ (vs:List Value) (o:Nat) (w1:World),Only (fun k => k=w.heap.size+1) W4 w1->Only (fun k => k=w.heap.size+1) W4 (w1.setCells (w.heap.size+1) o vs):=by
   intro vs
   induction vs with
   | nil => intro o w1 h;exact h
   | cons v r ih => intro o w1 h;rw [World.setCells];exact ih _ _ (h.setCell (p:=⟨w.heap.size+1,o,none⟩) (fun _ => rfl) v)
  exact this _ _ _ (Only.refl _ _).drew
 have HBE:Hid (Below w.heap.size w (W4.drew.setCells (w.heap.size+1) 0 cs)):=(HB1.out.trans (hb4.mono HB1.out.size)).trans (HO5.out.below (by have:=hb4.size;have:=HS1.out;omega) (fun i hi hf => by omega))
 have HW4:=zh hW4;have HBQ:=zh hbq
 clear hr4 hb4 hge hk4 hz4 he5 hW4 hbq hb3
 go_upto_region 2 with (first
  | (refine Ag.wpList_store_new (by rfl) 115 (.tmp 6) (.tmp 13) (by rfl) cs (by rfl) (by rfl) (by rw [HCL.out];kernel_rfl) (by rw [HCL.out];rfl) HC1.out ?_))
 rw [<- HW4.out,<- HBQ.out]
 have hO:Only (fun k => k=w.heap.size+1) W4 W4.drew:=(Only.refl _ _).drew
 refine wp_region_held_drew (S:=fun W' => W'.cell? ⟨w.heap.size,1,none⟩=some (.int .i64 ub)/\W'.rangeAt b 0 cs/\W'.cell? ⟨b,0,none⟩=some (.bool us0)/\W'.cell? ⟨b,1,none⟩=some (.bool dd0)/\W'.cell? ⟨b,6,none⟩=some (.int .i64 bt)) (by kernel_rfl) (HS.out _ hO) (fun _ => ?_)
 refine tk 0 rfl (.agg cs.toArray) (fun wq hq => by obtain ⟨hq0,hq1,hq2,hq3,hq4⟩:=hq;exact St.exec_load 115 (.tmp 6) (by rfl) b 0 (by rfl) cs _ hq1 Tryz.underlying115 rfl (by rw [HCL.out];kernel_rfl)) (HS.out _ hO) ?_
 try simp only [zq]
 refine tq 1 rfl (.iface 101 (.int .i64 1)) (HS.out _ hO) ?_
 try simp only [zq]
 refine tq 2 rfl (.bool false) (HS.out _ hO) ?_
 try simp only [zq]
 refine tq 3 rfl (.bool false) (HS.out _ hO) ?_
 try simp only [zq]
 refine tu 4 rfl (HS.out _ hO) ?_
 try simp only [zq]
 refine tu 5 rfl (HS.out _ hO) ?_
 try simp only [zq]
 refine tu 6 rfl (HS.out _ hO) ?_
 try simp only [zq]
 refine tq 7 rfl (.bool false) (HS.out _ hO) ?_
 try simp only [zq]
 refine tq 8 rfl (.bool false) (HS.out _ hO) ?_
 try simp only [zq]
 refine tu 9 rfl (HS.out _ hO) ?_
 try simp only [zq]
 refine tu 10 rfl (HS.out _ hO) ?_
 try simp only [zq]
 refine tq 11 rfl (.bool false) (HS.out _ hO) ?_
 try simp only [zq]
 refine tq 12 rfl (.bool false) (HS.out _ hO) ?_
 try simp only [zq]
 refine tu 13 rfl (HS.out _ hO) ?_
 try simp only [zq]
 refine tu 14 rfl (HS.out _ hO) ?_
 try simp only [zq]
 refine tu 15 rfl (HS.out _ hO) ?_
 try simp only [zq]
 refine tq 16 rfl (.bool false) (HS.out _ hO) ?_
 try simp only [zq]
 refine tq 17 rfl (.bool false) (HS.out _ hO) ?_
 try simp only [zq]
 refine tu 18 rfl (HS.out _ hO) ?_
 try simp only [zq]
 refine tu 19 rfl (HS.out _ hO) ?_
 try simp only [zq]
 refine tu 20 rfl (HS.out _ hO) ?_
 try simp only [zq]
 refine tu 21 rfl (HS.out _ hO) ?_
 try simp only [zq]
 refine tu 22 rfl (HS.out _ hO) ?_
 try simp only [zq]
 refine tu 23 rfl (HS.out _ hO) ?_
 try simp only [zq]
 refine tq 24 rfl (.bool false) (HS.out _ hO) ?_
 try simp only [zq]
 refine zr 25 rfl (fun K hK => ?_)
 rw [if_pos (by rfl)]
 refine wp_store_mid 115 (.tmp 4) (.tmp 15) (by rfl) (w.heap.size+1) 0 cs.toArray (by rfl) (by rfl) HTH.out (by rw [List.size_toArray,HCL.out];kernel_rfl) (all_oneCell_toArray HC1.out) ?_
 rw [List.toList_toArray]
 refine hK.out _ _ (HS.out _ HO5.out) (fun _ => ?_)
 clear hK K
 try simp only [zq]
 refine tq 26 rfl (.bool false) (HS.out _ HO5.out) ?_
 try simp only [zq]
 refine wpAnyH_done (by kernel_rfl) ?_ _
 try simp only [zq]
 go_wp2
 refine bodyPost_ret (results_cell_tmp rfl _ _ (w.heap.size+1) _ cs.toArray (0,0) _ rfl HE5.out Tryz.underlying115 rfl (by rw [List.size_toArray,HCL.out];kernel_rfl)) rfl ?_
 exact ⟨rfl,HBE.out⟩
theorem holds_1 (us ub:Int) (us0 dd0:Bool) (bt:Int) (cs:List Value) (hcl:cs.length=17) (hc1:∀ u ∈ cs,u.oneCell'=true) (h0:cs[0]? = some (.bool us0)) (h1:cs[1]? = some (.bool dd0)) (h6:cs[6]? = some (.int .i64 bt)) (hb:ub<1) (hg:∀ W,Below w.heap.size w W->Calls Tryz.prog 46 #[.pointer (some ⟨a,0,none⟩),.int .i64 us] W fun e w' => e = .returned (.tuple #[.agg cs.toArray,.nilIface])/\Below W.heap.size W w') :
  Calls Tryz.prog 258 #[.pointer (some ⟨a,0,none⟩),.agg #[.int .i64 us,.int .i64 ub]] w fun e w' => e = .returned (.tuple #[.agg cs.toArray,.bool false])/\Below w.heap.size w w':=by
 obtain ⟨W1,hW1⟩:∃ W1,W1=(w.alloc (.cells #[.int .i64 us,.int .i64 ub] 26)).alloc (.cells #[.bool false,.bool false,.int .i64 0,.int .i64 0,.int .i64 0,.int .i64 0,.int .i64 0,.int .i64 0,.int .i64 0,.int .i64 0,.string ⟨#[]⟩,.string ⟨#[]⟩,.int .u64 0,.int .i64 0,.int .i64 0,.int .i64 0,.int .i64 0] 115):=⟨_,rfl⟩
 have hb1:Below w.heap.size w W1:=by rw [hW1];exact ((Below.refl _ _).alloc (Nat.le_refl _) _).alloc (by simp) _
 have hs1:W1.heap.size=w.heap.size+2:=by rw [hW1,World.size_alloc,World.size_alloc]
 have hk1:W1.heap[w.heap.size]? = some (.cells #[.int .i64 us,.int .i64 ub] 26 (0,0)):=by rw [hW1];exact (Below.heap_alloc _ _ _ (by simp)).trans (World.alloc_heap_new _ _)
 have hz1:W1.heap[w.heap.size+1]? = some (.cells #[.bool false,.bool false,.int .i64 0,.int .i64 0,.int .i64 0,.int .i64 0,.int .i64 0,.int .i64 0,.int .i64 0,.int .i64 0,.string ⟨#[]⟩,.string ⟨#[]⟩,.int .u64 0,.int .i64 0,.int .i64 0,.int .i64 0,.int .i64 0] 115 (0,0)):=by
  have:=World.alloc_heap_new (w.alloc (.cells #[.int .i64 us,.int .i64 ub] 26)) (.cells #[.bool false,.bool false,.int .i64 0,.int .i64 0,.int .i64 0,.int .i64 0,.int .i64 0,.int .i64 0,.int .i64 0,.int .i64 0,.string ⟨#[]⟩,.string ⟨#[]⟩,.int .u64 0,.int .i64 0,.int .i64 0,.int .i64 0,.int .i64 0] 115)
  rw [World.size_alloc] at this
  rw [hW1];exact this
 have HG:=zh (hg W1 hb1)
 have HCL:=zh hcl;have HC1:=zh hc1;have HH:=zh (And.intro h0 (And.intro h1 h6))
 have HW1:=zh hW1;have HB1:=zh hb1;have HS1:=zh hs1;have HK1:=zh hk1;have HZ1:=zh hz1
 clear hg hcl hc1 h0 h1 h6 hW1 hb1 hs1 hk1 hz1
 go_enter Tryz.func258,Tryz.ntmps258
 go_wp2_with fail
 rw [<- HW1.out]
 refine HG.out.mono ?_
 rintro e w3 ⟨rfl,hb3⟩
 obtain ⟨W4,hW4⟩:∃ W4,W4=w3.alloc (.cells cs.toArray 115):=⟨_,rfl⟩
 obtain ⟨b,hbq⟩:∃ b,b=w3.heap.size:=⟨_,rfl⟩
 have hr4:W4.heap[b]? = some (.cells cs.toArray 115 (0,0)):=by rw [hW4,hbq];exact World.alloc_heap_new _ _
 have hb4:Below W1.heap.size W1 W4:=by rw [hW4];exact hb3.alloc hb3.size _
 have hge:w.heap.size+2<=b:=by rw [hbq];have:=hb3.size;have:=HS1.out;omega
 have hk4:=(hb4.block w.heap.size (by have:=HS1.out;omega)).trans HK1.out
 have hz4:=(hb4.block (w.heap.size+1) (by have:=HS1.out;omega)).trans HZ1.out
 have HS:Hid (∀ W':World,Only (fun k => k=w.heap.size+1) W4 W'->W'.cell? ⟨w.heap.size,1,none⟩=some (.int .i64 ub)/\W'.rangeAt b 0 cs/\W'.cell? ⟨b,0,none⟩=some (.bool us0)/\W'.cell? ⟨b,1,none⟩=some (.bool dd0)/\W'.cell? ⟨b,6,none⟩=some (.int .i64 bt)):=fun W' ho => by
  have k1:=(ho.block w.heap.size (zx hk4) (by omega)).trans hk4
  have k2:=(ho.block b (zx hr4) (by omega)).trans hr4
  exact ⟨by rw [zc k1];rfl,box_rng k2,by rw [zc k2,List.getElem?_toArray];exact HH.out.1,by rw [zc k2,List.getElem?_toArray];exact HH.out.2.1,by rw [zc k2,List.getElem?_toArray];exact HH.out.2.2⟩
 have HTH:Hid (W4.drew.there (w.heap.size+1) 0 cs.toArray.size):=Ag.there_row (show W4.drew.heap[w.heap.size+1]? = _ from hz4) _ (by rw [List.size_toArray,HCL.out];decide)
 have he5:=Ag.setCells_row (w.heap.size+1) 115 cs 0 _ W4.drew hz4
 rw [Ag.put_all (by rw [HCL.out];rfl)] at he5
 have HE5:=zh he5
 have HO5:Hid (Only (fun k => k=w.heap.size+1) W4 (W4.drew.setCells (w.heap.size+1) 0 cs)):=by
  have:∀ (vs:List Value) (o:Nat) (w1:World),Only (fun k => k=w.heap.size+1) W4 w1->Only (fun k => k=w.heap.size+1) W4 (w1.setCells (w.heap.size+1) o vs):=by
   intro vs
   induction vs with
   | nil => intro o w1 h;exact h
   | cons v r ih => intro o w1 h;rw [World.setCells];exact ih _ _ (h.setCell (p:=⟨w.heap.size+1,o,none⟩) (fun _ => rfl) v)
  exact this _ _ _ (Only.refl _ _).drew
 have HBE:Hid (Below w.heap.size w (W4.drew.setCells (w.heap.size+1) 0 cs)):=(HB1.out.trans (hb4.mono HB1.out.size)).trans (HO5.out.below (by have:=hb4.size;have:=HS1.out;omega) (fun i hi hf => by omega))
 have HW4:=zh hW4;have HBQ:=zh hbq
 clear hr4 hb4 hge hk4 hz4 he5 hW4 hbq hb3
 go_upto_region 2 with (first
  | (refine Ag.wpList_store_new (by rfl) 115 (.tmp 6) (.tmp 13) (by rfl) cs (by rfl) (by rfl) (by rw [HCL.out];kernel_rfl) (by rw [HCL.out];rfl) HC1.out ?_))
 rw [<- HW4.out,<- HBQ.out]
 have hO:Only (fun k => k=w.heap.size+1) W4 W4.drew:=(Only.refl _ _).drew
 refine wp_region_held_drew (S:=fun W' => W'.cell? ⟨w.heap.size,1,none⟩=some (.int .i64 ub)/\W'.rangeAt b 0 cs/\W'.cell? ⟨b,0,none⟩=some (.bool us0)/\W'.cell? ⟨b,1,none⟩=some (.bool dd0)/\W'.cell? ⟨b,6,none⟩=some (.int .i64 bt)) (by kernel_rfl) (HS.out _ hO) (fun _ => ?_)
 refine tk 0 rfl (.agg cs.toArray) (fun wq hq => by obtain ⟨hq0,hq1,hq2,hq3,hq4⟩:=hq;exact St.exec_load 115 (.tmp 6) (by rfl) b 0 (by rfl) cs _ hq1 Tryz.underlying115 rfl (by rw [HCL.out];kernel_rfl)) (HS.out _ hO) ?_
 try simp only [zq]
 refine tq 1 rfl .nilIface (HS.out _ hO) ?_
 try simp only [zq]
 refine tq 2 rfl (.bool true) (HS.out _ hO) ?_
 try simp only [zq]
 refine tq 3 rfl (.bool true) (HS.out _ hO) ?_
 try simp only [zq]
 refine tq 4 rfl (.pointer (some ⟨w.heap.size,1,none⟩)) (HS.out _ hO) ?_
 try simp only [zq]
 refine tq 5 rfl (.int .i64 ub) (HS.out _ hO) ?_
 try simp only [zq]
 refine tq 6 rfl (.bool false) (HS.out _ hO) ?_
 try simp only [zq]
 refine tq 7 rfl (.bool false) (HS.out _ hO) ?_
 try simp only [zq]
 refine tq 8 rfl (.bool false) (HS.out _ hO) ?_
 try simp only [zq]
 refine tu 9 rfl (HS.out _ hO) ?_
 try simp only [zq]
 refine tu 10 rfl (HS.out _ hO) ?_
 try simp only [zq]
 refine tq 11 rfl (.bool false) (HS.out _ hO) ?_
 try simp only [zq]
 refine tq 12 rfl (.bool false) (HS.out _ hO) ?_
 try simp only [zq]
 refine tu 13 rfl (HS.out _ hO) ?_
 try simp only [zq]
 refine tu 14 rfl (HS.out _ hO) ?_
 try simp only [zq]
 refine tu 15 rfl (HS.out _ hO) ?_
 try simp only [zq]
 refine tq 16 rfl (.bool false) (HS.out _ hO) ?_
 try simp only [zq]
 refine tq 17 rfl (.bool false) (HS.out _ hO) ?_
 try simp only [zq]
 refine tu 18 rfl (HS.out _ hO) ?_
 try simp only [zq]
 refine tu 19 rfl (HS.out _ hO) ?_
 try simp only [zq]
 refine tu 20 rfl (HS.out _ hO) ?_
 try simp only [zq]
 refine tu 21 rfl (HS.out _ hO) ?_
 try simp only [zq]
 refine tu 22 rfl (HS.out _ hO) ?_
 try simp only [zq]
 refine tu 23 rfl (HS.out _ hO) ?_
 try simp only [zq]
 refine tq 24 rfl (.bool false) (HS.out _ hO) ?_
 try simp only [zq]
 refine zr 25 rfl (fun K hK => ?_)
 rw [if_pos (by rfl)]
 refine wp_store_mid 115 (.tmp 4) (.tmp 15) (by rfl) (w.heap.size+1) 0 cs.toArray (by rfl) (by rfl) HTH.out (by rw [List.size_toArray,HCL.out];kernel_rfl) (all_oneCell_toArray HC1.out) ?_
 rw [List.toList_toArray]
 refine hK.out _ _ (HS.out _ HO5.out) (fun _ => ?_)
 clear hK K
 try simp only [zq]
 refine tq 26 rfl (.bool false) (HS.out _ HO5.out) ?_
 try simp only [zq]
 refine wpAnyH_done (by kernel_rfl) ?_ _
 try simp only [zq]
 go_wp2
 refine bodyPost_ret (results_cell_tmp rfl _ _ (w.heap.size+1) _ cs.toArray (0,0) _ rfl HE5.out Tryz.underlying115 rfl (by rw [List.size_toArray,HCL.out];kernel_rfl)) rfl ?_
 exact ⟨rfl,HBE.out⟩
theorem holds_2 (us ub:Int) (us0 dd0:Bool) (bt:Int) (cs:List Value) (hcl:cs.length=17) (hc1:∀ u ∈ cs,u.oneCell'=true) (h0:cs[0]? = some (.bool false)) (h1:cs[1]? = some (.bool dd0)) (h6:cs[6]? = some (.int .i64 bt)) (hb:1<=ub) (hg:∀ W,Below w.heap.size w W->Calls Tryz.prog 46 #[.pointer (some ⟨a,0,none⟩),.int .i64 us] W fun e w' => e = .returned (.tuple #[.agg cs.toArray,.nilIface])/\Below W.heap.size W w') :
  Calls Tryz.prog 258 #[.pointer (some ⟨a,0,none⟩),.agg #[.int .i64 us,.int .i64 ub]] w fun e w' => e = .returned (.tuple #[.agg cs.toArray,.bool false])/\Below w.heap.size w w':=by
 obtain ⟨W1,hW1⟩:∃ W1,W1=(w.alloc (.cells #[.int .i64 us,.int .i64 ub] 26)).alloc (.cells #[.bool false,.bool false,.int .i64 0,.int .i64 0,.int .i64 0,.int .i64 0,.int .i64 0,.int .i64 0,.int .i64 0,.int .i64 0,.string ⟨#[]⟩,.string ⟨#[]⟩,.int .u64 0,.int .i64 0,.int .i64 0,.int .i64 0,.int .i64 0] 115):=⟨_,rfl⟩
 have hb1:Below w.heap.size w W1:=by rw [hW1];exact ((Below.refl _ _).alloc (Nat.le_refl _) _).alloc (by simp) _
 have hs1:W1.heap.size=w.heap.size+2:=by rw [hW1,World.size_alloc,World.size_alloc]
 have hk1:W1.heap[w.heap.size]? = some (.cells #[.int .i64 us,.int .i64 ub] 26 (0,0)):=by rw [hW1];exact (Below.heap_alloc _ _ _ (by simp)).trans (World.alloc_heap_new _ _)
 have hz1:W1.heap[w.heap.size+1]? = some (.cells #[.bool false,.bool false,.int .i64 0,.int .i64 0,.int .i64 0,.int .i64 0,.int .i64 0,.int .i64 0,.int .i64 0,.int .i64 0,.string ⟨#[]⟩,.string ⟨#[]⟩,.int .u64 0,.int .i64 0,.int .i64 0,.int .i64 0,.int .i64 0] 115 (0,0)):=by
  have:=World.alloc_heap_new (w.alloc (.cells #[.int .i64 us,.int .i64 ub] 26)) (.cells #[.bool false,.bool false,.int .i64 0,.int .i64 0,.int .i64 0,.int .i64 0,.int .i64 0,.int .i64 0,.int .i64 0,.int .i64 0,.string ⟨#[]⟩,.string ⟨#[]⟩,.int .u64 0,.int .i64 0,.int .i64 0,.int .i64 0,.int .i64 0] 115)
  rw [World.size_alloc] at this
  rw [hW1];exact this
 have HG:=zh (hg W1 hb1)
 have HCL:=zh hcl;have HC1:=zh hc1;have HH:=zh (And.intro h0 (And.intro h1 h6))
 have HW1:=zh hW1;have HB1:=zh hb1;have HS1:=zh hs1;have HK1:=zh hk1;have HZ1:=zh hz1
 clear hg hcl hc1 h0 h1 h6 hW1 hb1 hs1 hk1 hz1
 go_enter Tryz.func258,Tryz.ntmps258
 go_wp2_with fail
 rw [<- HW1.out]
 refine HG.out.mono ?_
 rintro e w3 ⟨rfl,hb3⟩
 obtain ⟨W4,hW4⟩:∃ W4,W4=w3.alloc (.cells cs.toArray 115):=⟨_,rfl⟩
 obtain ⟨b,hbq⟩:∃ b,b=w3.heap.size:=⟨_,rfl⟩
 have hr4:W4.heap[b]? = some (.cells cs.toArray 115 (0,0)):=by rw [hW4,hbq];exact World.alloc_heap_new _ _
 have hb4:Below W1.heap.size W1 W4:=by rw [hW4];exact hb3.alloc hb3.size _
 have hge:w.heap.size+2<=b:=by rw [hbq];have:=hb3.size;have:=HS1.out;omega
 have hk4:=(hb4.block w.heap.size (by have:=HS1.out;omega)).trans HK1.out
 have hz4:=(hb4.block (w.heap.size+1) (by have:=HS1.out;omega)).trans HZ1.out
 have HS:Hid (∀ W':World,Only (fun k => k=w.heap.size+1) W4 W'->W'.cell? ⟨w.heap.size,1,none⟩=some (.int .i64 ub)/\W'.rangeAt b 0 cs/\W'.cell? ⟨b,0,none⟩=some (.bool false)/\W'.cell? ⟨b,1,none⟩=some (.bool dd0)/\W'.cell? ⟨b,6,none⟩=some (.int .i64 bt)):=fun W' ho => by
  have k1:=(ho.block w.heap.size (zx hk4) (by omega)).trans hk4
  have k2:=(ho.block b (zx hr4) (by omega)).trans hr4
  exact ⟨by rw [zc k1];rfl,box_rng k2,by rw [zc k2,List.getElem?_toArray];exact HH.out.1,by rw [zc k2,List.getElem?_toArray];exact HH.out.2.1,by rw [zc k2,List.getElem?_toArray];exact HH.out.2.2⟩
 have HTH:Hid (W4.drew.there (w.heap.size+1) 0 cs.toArray.size):=Ag.there_row (show W4.drew.heap[w.heap.size+1]? = _ from hz4) _ (by rw [List.size_toArray,HCL.out];decide)
 have he5:=Ag.setCells_row (w.heap.size+1) 115 cs 0 _ W4.drew hz4
 rw [Ag.put_all (by rw [HCL.out];rfl)] at he5
 have HE5:=zh he5
 have HO5:Hid (Only (fun k => k=w.heap.size+1) W4 (W4.drew.setCells (w.heap.size+1) 0 cs)):=by
  have:∀ (vs:List Value) (o:Nat) (w1:World),Only (fun k => k=w.heap.size+1) W4 w1->Only (fun k => k=w.heap.size+1) W4 (w1.setCells (w.heap.size+1) o vs):=by
   intro vs
   induction vs with
   | nil => intro o w1 h;exact h
   | cons v r ih => intro o w1 h;rw [World.setCells];exact ih _ _ (h.setCell (p:=⟨w.heap.size+1,o,none⟩) (fun _ => rfl) v)
  exact this _ _ _ (Only.refl _ _).drew
 have HBE:Hid (Below w.heap.size w (W4.drew.setCells (w.heap.size+1) 0 cs)):=(HB1.out.trans (hb4.mono HB1.out.size)).trans (HO5.out.below (by have:=hb4.size;have:=HS1.out;omega) (fun i hi hf => by omega))
 have HW4:=zh hW4;have HBQ:=zh hbq
 clear hr4 hb4 hge hk4 hz4 he5 hW4 hbq hb3
 go_upto_region 2 with (first
  | (refine Ag.wpList_store_new (by rfl) 115 (.tmp 6) (.tmp 13) (by rfl) cs (by rfl) (by rfl) (by rw [HCL.out];kernel_rfl) (by rw [HCL.out];rfl) HC1.out ?_))
 rw [<- HW4.out,<- HBQ.out]
 have hO:Only (fun k => k=w.heap.size+1) W4 W4.drew:=(Only.refl _ _).drew
 refine wp_region_held_drew (S:=fun W' => W'.cell? ⟨w.heap.size,1,none⟩=some (.int .i64 ub)/\W'.rangeAt b 0 cs/\W'.cell? ⟨b,0,none⟩=some (.bool false)/\W'.cell? ⟨b,1,none⟩=some (.bool dd0)/\W'.cell? ⟨b,6,none⟩=some (.int .i64 bt)) (by kernel_rfl) (HS.out _ hO) (fun _ => ?_)
 refine tk 0 rfl (.agg cs.toArray) (fun wq hq => by obtain ⟨hq0,hq1,hq2,hq3,hq4⟩:=hq;exact St.exec_load 115 (.tmp 6) (by rfl) b 0 (by rfl) cs _ hq1 Tryz.underlying115 rfl (by rw [HCL.out];kernel_rfl)) (HS.out _ hO) ?_
 try simp only [zq]
 refine tq 1 rfl .nilIface (HS.out _ hO) ?_
 try simp only [zq]
 refine tq 2 rfl (.bool true) (HS.out _ hO) ?_
 try simp only [zq]
 refine tq 3 rfl (.bool true) (HS.out _ hO) ?_
 try simp only [zq]
 refine tq 4 rfl (.pointer (some ⟨w.heap.size,1,none⟩)) (HS.out _ hO) ?_
 try simp only [zq]
 refine tq 5 rfl (.int .i64 ub) (HS.out _ hO) ?_
 try simp only [zq]
 refine tq 6 rfl (.bool true) (HS.out _ hO) ?_
 try simp only [zq]
 refine tq 7 rfl (.bool true) (HS.out _ hO) ?_
 try simp only [zq]
 refine tq 8 rfl (.bool true) (HS.out _ hO) ?_
 try simp only [zq]
 refine tq 9 rfl (.pointer (some ⟨b,0,none⟩)) (HS.out _ hO) ?_
 try simp only [zq]
 refine tq 10 rfl (.bool false) (HS.out _ hO) ?_
 try simp only [zq]
 refine tq 11 rfl (.bool false) (HS.out _ hO) ?_
 try simp only [zq]
 refine tq 12 rfl (.bool false) (HS.out _ hO) ?_
 try simp only [zq]
 refine tu 13 rfl (HS.out _ hO) ?_
 try simp only [zq]
 refine tu 14 rfl (HS.out _ hO) ?_
 try simp only [zq]
 refine tu 15 rfl (HS.out _ hO) ?_
 try simp only [zq]
 refine tq 16 rfl (.bool false) (HS.out _ hO) ?_
 try simp only [zq]
 refine tq 17 rfl (.bool false) (HS.out _ hO) ?_
 try simp only [zq]
 refine tu 18 rfl (HS.out _ hO) ?_
 try simp only [zq]
 refine tu 19 rfl (HS.out _ hO) ?_
 try simp only [zq]
 refine tu 20 rfl (HS.out _ hO) ?_
 try simp only [zq]
 refine tu 21 rfl (HS.out _ hO) ?_
 try simp only [zq]
 refine tu 22 rfl (HS.out _ hO) ?_
 try simp only [zq]
 refine tu 23 rfl (HS.out _ hO) ?_
 try simp only [zq]
 refine tq 24 rfl (.bool false) (HS.out _ hO) ?_
 try simp only [zq]
 refine zr 25 rfl (fun K hK => ?_)
 rw [if_pos (by rfl)]
 refine wp_store_mid 115 (.tmp 4) (.tmp 15) (by rfl) (w.heap.size+1) 0 cs.toArray (by rfl) (by rfl) HTH.out (by rw [List.size_toArray,HCL.out];kernel_rfl) (all_oneCell_toArray HC1.out) ?_
 rw [List.toList_toArray]
 refine hK.out _ _ (HS.out _ HO5.out) (fun _ => ?_)
 clear hK K
 try simp only [zq]
 refine tq 26 rfl (.bool false) (HS.out _ HO5.out) ?_
 try simp only [zq]
 refine wpAnyH_done (by kernel_rfl) ?_ _
 try simp only [zq]
 go_wp2
 refine bodyPost_ret (results_cell_tmp rfl _ _ (w.heap.size+1) _ cs.toArray (0,0) _ rfl HE5.out Tryz.underlying115 rfl (by rw [List.size_toArray,HCL.out];kernel_rfl)) rfl ?_
 exact ⟨rfl,HBE.out⟩
theorem holds_3 (us ub:Int) (us0 dd0:Bool) (bt:Int) (cs:List Value) (hcl:cs.length=17) (hc1:∀ u ∈ cs,u.oneCell'=true) (h0:cs[0]? = some (.bool true)) (h1:cs[1]? = some (.bool true)) (h6:cs[6]? = some (.int .i64 bt)) (hb:1<=ub) (hg:∀ W,Below w.heap.size w W->Calls Tryz.prog 46 #[.pointer (some ⟨a,0,none⟩),.int .i64 us] W fun e w' => e = .returned (.tuple #[.agg cs.toArray,.nilIface])/\Below W.heap.size W w') :
  Calls Tryz.prog 258 #[.pointer (some ⟨a,0,none⟩),.agg #[.int .i64 us,.int .i64 ub]] w fun e w' => e = .returned (.tuple #[.agg cs.toArray,.bool false])/\Below w.heap.size w w':=by
 obtain ⟨W1,hW1⟩:∃ W1,W1=(w.alloc (.cells #[.int .i64 us,.int .i64 ub] 26)).alloc (.cells #[.bool false,.bool false,.int .i64 0,.int .i64 0,.int .i64 0,.int .i64 0,.int .i64 0,.int .i64 0,.int .i64 0,.int .i64 0,.string ⟨#[]⟩,.string ⟨#[]⟩,.int .u64 0,.int .i64 0,.int .i64 0,.int .i64 0,.int .i64 0] 115):=⟨_,rfl⟩
 have hb1:Below w.heap.size w W1:=by rw [hW1];exact ((Below.refl _ _).alloc (Nat.le_refl _) _).alloc (by simp) _
 have hs1:W1.heap.size=w.heap.size+2:=by rw [hW1,World.size_alloc,World.size_alloc]
 have hk1:W1.heap[w.heap.size]? = some (.cells #[.int .i64 us,.int .i64 ub] 26 (0,0)):=by rw [hW1];exact (Below.heap_alloc _ _ _ (by simp)).trans (World.alloc_heap_new _ _)
 have hz1:W1.heap[w.heap.size+1]? = some (.cells #[.bool false,.bool false,.int .i64 0,.int .i64 0,.int .i64 0,.int .i64 0,.int .i64 0,.int .i64 0,.int .i64 0,.int .i64 0,.string ⟨#[]⟩,.string ⟨#[]⟩,.int .u64 0,.int .i64 0,.int .i64 0,.int .i64 0,.int .i64 0] 115 (0,0)):=by
  have:=World.alloc_heap_new (w.alloc (.cells #[.int .i64 us,.int .i64 ub] 26)) (.cells #[.bool false,.bool false,.int .i64 0,.int .i64 0,.int .i64 0,.int .i64 0,.int .i64 0,.int .i64 0,.int .i64 0,.int .i64 0,.string ⟨#[]⟩,.string ⟨#[]⟩,.int .u64 0,.int .i64 0,.int .i64 0,.int .i64 0,.int .i64 0] 115)
  rw [World.size_alloc] at this
  rw [hW1];exact this
 have HG:=zh (hg W1 hb1)
 have HCL:=zh hcl;have HC1:=zh hc1;have HH:=zh (And.intro h0 (And.intro h1 h6))
 have HW1:=zh hW1;have HB1:=zh hb1;have HS1:=zh hs1;have HK1:=zh hk1;have HZ1:=zh hz1
 clear hg hcl hc1 h0 h1 h6 hW1 hb1 hs1 hk1 hz1
 go_enter Tryz.func258,Tryz.ntmps258
 go_wp2_with fail
 rw [<- HW1.out]
 refine HG.out.mono ?_
 rintro e w3 ⟨rfl,hb3⟩
 obtain ⟨W4,hW4⟩:∃ W4,W4=w3.alloc (.cells cs.toArray 115):=⟨_,rfl⟩
 obtain ⟨b,hbq⟩:∃ b,b=w3.heap.size:=⟨_,rfl⟩
 have hr4:W4.heap[b]? = some (.cells cs.toArray 115 (0,0)):=by rw [hW4,hbq];exact World.alloc_heap_new _ _
 have hb4:Below W1.heap.size W1 W4:=by rw [hW4];exact hb3.alloc hb3.size _
 have hge:w.heap.size+2<=b:=by rw [hbq];have:=hb3.size;have:=HS1.out;omega
 have hk4:=(hb4.block w.heap.size (by have:=HS1.out;omega)).trans HK1.out
 have hz4:=(hb4.block (w.heap.size+1) (by have:=HS1.out;omega)).trans HZ1.out
 have HS:Hid (∀ W':World,Only (fun k => k=w.heap.size+1) W4 W'->W'.cell? ⟨w.heap.size,1,none⟩=some (.int .i64 ub)/\W'.rangeAt b 0 cs/\W'.cell? ⟨b,0,none⟩=some (.bool true)/\W'.cell? ⟨b,1,none⟩=some (.bool true)/\W'.cell? ⟨b,6,none⟩=some (.int .i64 bt)):=fun W' ho => by
  have k1:=(ho.block w.heap.size (zx hk4) (by omega)).trans hk4
  have k2:=(ho.block b (zx hr4) (by omega)).trans hr4
  exact ⟨by rw [zc k1];rfl,box_rng k2,by rw [zc k2,List.getElem?_toArray];exact HH.out.1,by rw [zc k2,List.getElem?_toArray];exact HH.out.2.1,by rw [zc k2,List.getElem?_toArray];exact HH.out.2.2⟩
 have HTH:Hid (W4.drew.there (w.heap.size+1) 0 cs.toArray.size):=Ag.there_row (show W4.drew.heap[w.heap.size+1]? = _ from hz4) _ (by rw [List.size_toArray,HCL.out];decide)
 have he5:=Ag.setCells_row (w.heap.size+1) 115 cs 0 _ W4.drew hz4
 rw [Ag.put_all (by rw [HCL.out];rfl)] at he5
 have HE5:=zh he5
 have HO5:Hid (Only (fun k => k=w.heap.size+1) W4 (W4.drew.setCells (w.heap.size+1) 0 cs)):=by
  have:∀ (vs:List Value) (o:Nat) (w1:World),Only (fun k => k=w.heap.size+1) W4 w1->Only (fun k => k=w.heap.size+1) W4 (w1.setCells (w.heap.size+1) o vs):=by
   intro vs
   induction vs with
   | nil => intro o w1 h;exact h
   | cons v r ih => intro o w1 h;rw [World.setCells];exact ih _ _ (h.setCell (p:=⟨w.heap.size+1,o,none⟩) (fun _ => rfl) v)
  exact this _ _ _ (Only.refl _ _).drew
 have HBE:Hid (Below w.heap.size w (W4.drew.setCells (w.heap.size+1) 0 cs)):=(HB1.out.trans (hb4.mono HB1.out.size)).trans (HO5.out.below (by have:=hb4.size;have:=HS1.out;omega) (fun i hi hf => by omega))
 have HW4:=zh hW4;have HBQ:=zh hbq
 clear hr4 hb4 hge hk4 hz4 he5 hW4 hbq hb3
 go_upto_region 2 with (first
  | (refine Ag.wpList_store_new (by rfl) 115 (.tmp 6) (.tmp 13) (by rfl) cs (by rfl) (by rfl) (by rw [HCL.out];kernel_rfl) (by rw [HCL.out];rfl) HC1.out ?_))
 rw [<- HW4.out,<- HBQ.out]
 have hO:Only (fun k => k=w.heap.size+1) W4 W4.drew:=(Only.refl _ _).drew
 refine wp_region_held_drew (S:=fun W' => W'.cell? ⟨w.heap.size,1,none⟩=some (.int .i64 ub)/\W'.rangeAt b 0 cs/\W'.cell? ⟨b,0,none⟩=some (.bool true)/\W'.cell? ⟨b,1,none⟩=some (.bool true)/\W'.cell? ⟨b,6,none⟩=some (.int .i64 bt)) (by kernel_rfl) (HS.out _ hO) (fun _ => ?_)
 refine tk 0 rfl (.agg cs.toArray) (fun wq hq => by obtain ⟨hq0,hq1,hq2,hq3,hq4⟩:=hq;exact St.exec_load 115 (.tmp 6) (by rfl) b 0 (by rfl) cs _ hq1 Tryz.underlying115 rfl (by rw [HCL.out];kernel_rfl)) (HS.out _ hO) ?_
 try simp only [zq]
 refine tq 1 rfl .nilIface (HS.out _ hO) ?_
 try simp only [zq]
 refine tq 2 rfl (.bool true) (HS.out _ hO) ?_
 try simp only [zq]
 refine tq 3 rfl (.bool true) (HS.out _ hO) ?_
 try simp only [zq]
 refine tq 4 rfl (.pointer (some ⟨w.heap.size,1,none⟩)) (HS.out _ hO) ?_
 try simp only [zq]
 refine tq 5 rfl (.int .i64 ub) (HS.out _ hO) ?_
 try simp only [zq]
 refine tq 6 rfl (.bool true) (HS.out _ hO) ?_
 try simp only [zq]
 refine tq 7 rfl (.bool true) (HS.out _ hO) ?_
 try simp only [zq]
 refine tq 8 rfl (.bool true) (HS.out _ hO) ?_
 try simp only [zq]
 refine tq 9 rfl (.pointer (some ⟨b,0,none⟩)) (HS.out _ hO) ?_
 try simp only [zq]
 refine tq 10 rfl (.bool true) (HS.out _ hO) ?_
 try simp only [zq]
 refine tq 11 rfl (.bool true) (HS.out _ hO) ?_
 try simp only [zq]
 refine tq 12 rfl (.bool true) (HS.out _ hO) ?_
 try simp only [zq]
 refine tq 13 rfl (.pointer (some ⟨b,1,none⟩)) (HS.out _ hO) ?_
 try simp only [zq]
 refine tq 14 rfl (.bool true) (HS.out _ hO) ?_
 try simp only [zq]
 refine tq 15 rfl (.bool false) (HS.out _ hO) ?_
 try simp only [zq]
 refine tq 16 rfl (.bool false) (HS.out _ hO) ?_
 try simp only [zq]
 refine tq 17 rfl (.bool false) (HS.out _ hO) ?_
 try simp only [zq]
 refine tu 18 rfl (HS.out _ hO) ?_
 try simp only [zq]
 refine tu 19 rfl (HS.out _ hO) ?_
 try simp only [zq]
 refine tu 20 rfl (HS.out _ hO) ?_
 try simp only [zq]
 refine tu 21 rfl (HS.out _ hO) ?_
 try simp only [zq]
 refine tu 22 rfl (HS.out _ hO) ?_
 try simp only [zq]
 refine tu 23 rfl (HS.out _ hO) ?_
 try simp only [zq]
 refine tq 24 rfl (.bool false) (HS.out _ hO) ?_
 try simp only [zq]
 refine zr 25 rfl (fun K hK => ?_)
 rw [if_pos (by rfl)]
 refine wp_store_mid 115 (.tmp 4) (.tmp 15) (by rfl) (w.heap.size+1) 0 cs.toArray (by rfl) (by rfl) HTH.out (by rw [List.size_toArray,HCL.out];kernel_rfl) (all_oneCell_toArray HC1.out) ?_
 rw [List.toList_toArray]
 refine hK.out _ _ (HS.out _ HO5.out) (fun _ => ?_)
 clear hK K
 try simp only [zq]
 refine tq 26 rfl (.bool false) (HS.out _ HO5.out) ?_
 try simp only [zq]
 refine wpAnyH_done (by kernel_rfl) ?_ _
 try simp only [zq]
 go_wp2
 refine bodyPost_ret (results_cell_tmp rfl _ _ (w.heap.size+1) _ cs.toArray (0,0) _ rfl HE5.out Tryz.underlying115 rfl (by rw [List.size_toArray,HCL.out];kernel_rfl)) rfl ?_
 exact ⟨rfl,HBE.out⟩
theorem holds_4 (us ub:Int) (us0 dd0:Bool) (bt:Int) (cs:List Value) (hcl:cs.length=17) (hc1:∀ u ∈ cs,u.oneCell'=true) (h0:cs[0]? = some (.bool true)) (h1:cs[1]? = some (.bool false)) (h6:cs[6]? = some (.int .i64 bt)) (hb:1<=ub) (he:(bt == ub)=false) (hg:∀ W,Below w.heap.size w W->Calls Tryz.prog 46 #[.pointer (some ⟨a,0,none⟩),.int .i64 us] W fun e w' => e = .returned (.tuple #[.agg cs.toArray,.nilIface])/\Below W.heap.size W w') :
  Calls Tryz.prog 258 #[.pointer (some ⟨a,0,none⟩),.agg #[.int .i64 us,.int .i64 ub]] w fun e w' => e = .returned (.tuple #[.agg cs.toArray,.bool false])/\Below w.heap.size w w':=by
 obtain ⟨W1,hW1⟩:∃ W1,W1=(w.alloc (.cells #[.int .i64 us,.int .i64 ub] 26)).alloc (.cells #[.bool false,.bool false,.int .i64 0,.int .i64 0,.int .i64 0,.int .i64 0,.int .i64 0,.int .i64 0,.int .i64 0,.int .i64 0,.string ⟨#[]⟩,.string ⟨#[]⟩,.int .u64 0,.int .i64 0,.int .i64 0,.int .i64 0,.int .i64 0] 115):=⟨_,rfl⟩
 have hb1:Below w.heap.size w W1:=by rw [hW1];exact ((Below.refl _ _).alloc (Nat.le_refl _) _).alloc (by simp) _
 have hs1:W1.heap.size=w.heap.size+2:=by rw [hW1,World.size_alloc,World.size_alloc]
 have hk1:W1.heap[w.heap.size]? = some (.cells #[.int .i64 us,.int .i64 ub] 26 (0,0)):=by rw [hW1];exact (Below.heap_alloc _ _ _ (by simp)).trans (World.alloc_heap_new _ _)
 have hz1:W1.heap[w.heap.size+1]? = some (.cells #[.bool false,.bool false,.int .i64 0,.int .i64 0,.int .i64 0,.int .i64 0,.int .i64 0,.int .i64 0,.int .i64 0,.int .i64 0,.string ⟨#[]⟩,.string ⟨#[]⟩,.int .u64 0,.int .i64 0,.int .i64 0,.int .i64 0,.int .i64 0] 115 (0,0)):=by
  have:=World.alloc_heap_new (w.alloc (.cells #[.int .i64 us,.int .i64 ub] 26)) (.cells #[.bool false,.bool false,.int .i64 0,.int .i64 0,.int .i64 0,.int .i64 0,.int .i64 0,.int .i64 0,.int .i64 0,.int .i64 0,.string ⟨#[]⟩,.string ⟨#[]⟩,.int .u64 0,.int .i64 0,.int .i64 0,.int .i64 0,.int .i64 0] 115)
  rw [World.size_alloc] at this
  rw [hW1];exact this
 have HG:=zh (hg W1 hb1)
 have HCL:=zh hcl;have HC1:=zh hc1;have HH:=zh (And.intro h0 (And.intro h1 h6))
 have HW1:=zh hW1;have HB1:=zh hb1;have HS1:=zh hs1;have HK1:=zh hk1;have HZ1:=zh hz1
 clear hg hcl hc1 h0 h1 h6 hW1 hb1 hs1 hk1 hz1
 go_enter Tryz.func258,Tryz.ntmps258
 go_wp2_with fail
 rw [<- HW1.out]
 refine HG.out.mono ?_
 rintro e w3 ⟨rfl,hb3⟩
 obtain ⟨W4,hW4⟩:∃ W4,W4=w3.alloc (.cells cs.toArray 115):=⟨_,rfl⟩
 obtain ⟨b,hbq⟩:∃ b,b=w3.heap.size:=⟨_,rfl⟩
 have hr4:W4.heap[b]? = some (.cells cs.toArray 115 (0,0)):=by rw [hW4,hbq];exact World.alloc_heap_new _ _
 have hb4:Below W1.heap.size W1 W4:=by rw [hW4];exact hb3.alloc hb3.size _
 have hge:w.heap.size+2<=b:=by rw [hbq];have:=hb3.size;have:=HS1.out;omega
 have hk4:=(hb4.block w.heap.size (by have:=HS1.out;omega)).trans HK1.out
 have hz4:=(hb4.block (w.heap.size+1) (by have:=HS1.out;omega)).trans HZ1.out
 have HS:Hid (∀ W':World,Only (fun k => k=w.heap.size+1) W4 W'->W'.cell? ⟨w.heap.size,1,none⟩=some (.int .i64 ub)/\W'.rangeAt b 0 cs/\W'.cell? ⟨b,0,none⟩=some (.bool true)/\W'.cell? ⟨b,1,none⟩=some (.bool false)/\W'.cell? ⟨b,6,none⟩=some (.int .i64 bt)):=fun W' ho => by
  have k1:=(ho.block w.heap.size (zx hk4) (by omega)).trans hk4
  have k2:=(ho.block b (zx hr4) (by omega)).trans hr4
  exact ⟨by rw [zc k1];rfl,box_rng k2,by rw [zc k2,List.getElem?_toArray];exact HH.out.1,by rw [zc k2,List.getElem?_toArray];exact HH.out.2.1,by rw [zc k2,List.getElem?_toArray];exact HH.out.2.2⟩
 have HTH:Hid (W4.drew.there (w.heap.size+1) 0 cs.toArray.size):=Ag.there_row (show W4.drew.heap[w.heap.size+1]? = _ from hz4) _ (by rw [List.size_toArray,HCL.out];decide)
 have he5:=Ag.setCells_row (w.heap.size+1) 115 cs 0 _ W4.drew hz4
 rw [Ag.put_all (by rw [HCL.out];rfl)] at he5
 have HE5:=zh he5
 have HO5:Hid (Only (fun k => k=w.heap.size+1) W4 (W4.drew.setCells (w.heap.size+1) 0 cs)):=by
  have:∀ (vs:List Value) (o:Nat) (w1:World),Only (fun k => k=w.heap.size+1) W4 w1->Only (fun k => k=w.heap.size+1) W4 (w1.setCells (w.heap.size+1) o vs):=by
   intro vs
   induction vs with
   | nil => intro o w1 h;exact h
   | cons v r ih => intro o w1 h;rw [World.setCells];exact ih _ _ (h.setCell (p:=⟨w.heap.size+1,o,none⟩) (fun _ => rfl) v)
  exact this _ _ _ (Only.refl _ _).drew
 have HBE:Hid (Below w.heap.size w (W4.drew.setCells (w.heap.size+1) 0 cs)):=(HB1.out.trans (hb4.mono HB1.out.size)).trans (HO5.out.below (by have:=hb4.size;have:=HS1.out;omega) (fun i hi hf => by omega))
 have HW4:=zh hW4;have HBQ:=zh hbq
 clear hr4 hb4 hge hk4 hz4 he5 hW4 hbq hb3
 go_upto_region 2 with (first
  | (refine Ag.wpList_store_new (by rfl) 115 (.tmp 6) (.tmp 13) (by rfl) cs (by rfl) (by rfl) (by rw [HCL.out];kernel_rfl) (by rw [HCL.out];rfl) HC1.out ?_))
 rw [<- HW4.out,<- HBQ.out]
 have hO:Only (fun k => k=w.heap.size+1) W4 W4.drew:=(Only.refl _ _).drew
 refine wp_region_held_drew (S:=fun W' => W'.cell? ⟨w.heap.size,1,none⟩=some (.int .i64 ub)/\W'.rangeAt b 0 cs/\W'.cell? ⟨b,0,none⟩=some (.bool true)/\W'.cell? ⟨b,1,none⟩=some (.bool false)/\W'.cell? ⟨b,6,none⟩=some (.int .i64 bt)) (by kernel_rfl) (HS.out _ hO) (fun _ => ?_)
 refine tk 0 rfl (.agg cs.toArray) (fun wq hq => by obtain ⟨hq0,hq1,hq2,hq3,hq4⟩:=hq;exact St.exec_load 115 (.tmp 6) (by rfl) b 0 (by rfl) cs _ hq1 Tryz.underlying115 rfl (by rw [HCL.out];kernel_rfl)) (HS.out _ hO) ?_
 try simp only [zq]
 refine tq 1 rfl .nilIface (HS.out _ hO) ?_
 try simp only [zq]
 refine tq 2 rfl (.bool true) (HS.out _ hO) ?_
 try simp only [zq]
 refine tq 3 rfl (.bool true) (HS.out _ hO) ?_
 try simp only [zq]
 refine tq 4 rfl (.pointer (some ⟨w.heap.size,1,none⟩)) (HS.out _ hO) ?_
 try simp only [zq]
 refine tq 5 rfl (.int .i64 ub) (HS.out _ hO) ?_
 try simp only [zq]
 refine tq 6 rfl (.bool true) (HS.out _ hO) ?_
 try simp only [zq]
 refine tq 7 rfl (.bool true) (HS.out _ hO) ?_
 try simp only [zq]
 refine tq 8 rfl (.bool true) (HS.out _ hO) ?_
 try simp only [zq]
 refine tq 9 rfl (.pointer (some ⟨b,0,none⟩)) (HS.out _ hO) ?_
 try simp only [zq]
 refine tq 10 rfl (.bool true) (HS.out _ hO) ?_
 try simp only [zq]
 refine tq 11 rfl (.bool true) (HS.out _ hO) ?_
 try simp only [zq]
 refine tq 12 rfl (.bool true) (HS.out _ hO) ?_
 try simp only [zq]
 refine tq 13 rfl (.pointer (some ⟨b,1,none⟩)) (HS.out _ hO) ?_
 try simp only [zq]
 refine tq 14 rfl (.bool false) (HS.out _ hO) ?_
 try simp only [zq]
 refine tq 15 rfl (.bool true) (HS.out _ hO) ?_
 try simp only [zq]
 refine tq 16 rfl (.bool true) (HS.out _ hO) ?_
 try simp only [zq]
 refine tq 17 rfl (.bool true) (HS.out _ hO) ?_
 try simp only [zq]
 refine tq 18 rfl (.pointer (some ⟨b,5,none⟩)) (HS.out _ hO) ?_
 try simp only [zq]
 refine tq 19 rfl (.pointer (some ⟨b,6,none⟩)) (HS.out _ hO) ?_
 try simp only [zq]
 refine tq 20 rfl (.int .i64 bt) (HS.out _ hO) ?_
 try simp only [zq]
 refine tq 21 rfl (.pointer (some ⟨w.heap.size,1,none⟩)) (HS.out _ hO) ?_
 try simp only [zq]
 refine tq 22 rfl (.int .i64 ub) (HS.out _ hO) ?_
 try simp only [zq]
 refine tq 23 rfl (.bool false) (HS.out _ hO) ?_
 try simp only [zq]
 refine tq 24 rfl (.bool false) (HS.out _ hO) ?_
 try simp only [zq]
 refine zr 25 rfl (fun K hK => ?_)
 rw [if_pos (by rfl)]
 refine wp_store_mid 115 (.tmp 4) (.tmp 15) (by rfl) (w.heap.size+1) 0 cs.toArray (by rfl) (by rfl) HTH.out (by rw [List.size_toArray,HCL.out];kernel_rfl) (all_oneCell_toArray HC1.out) ?_
 rw [List.toList_toArray]
 refine hK.out _ _ (HS.out _ HO5.out) (fun _ => ?_)
 clear hK K
 try simp only [zq]
 refine tq 26 rfl (.bool false) (HS.out _ HO5.out) ?_
 try simp only [zq]
 refine wpAnyH_done (by kernel_rfl) ?_ _
 try simp only [zq]
 go_wp2
 refine bodyPost_ret (results_cell_tmp rfl _ _ (w.heap.size+1) _ cs.toArray (0,0) _ rfl HE5.out Tryz.underlying115 rfl (by rw [List.size_toArray,HCL.out];kernel_rfl)) rfl ?_
 exact ⟨rfl,HBE.out⟩
theorem holds_5 (us ub:Int) (us0 dd0:Bool) (bt:Int) (cs:List Value) (hcl:cs.length=17) (hc1:∀ u ∈ cs,u.oneCell'=true) (h0:cs[0]? = some (.bool true)) (h1:cs[1]? = some (.bool false)) (h6:cs[6]? = some (.int .i64 bt)) (hb:1<=ub) (he:(bt == ub)=true) (hg:∀ W,Below w.heap.size w W->Calls Tryz.prog 46 #[.pointer (some ⟨a,0,none⟩),.int .i64 us] W fun e w' => e = .returned (.tuple #[.agg cs.toArray,.nilIface])/\Below W.heap.size W w') :
  Calls Tryz.prog 258 #[.pointer (some ⟨a,0,none⟩),.agg #[.int .i64 us,.int .i64 ub]] w fun e w' => e = .returned (.tuple #[.agg cs.toArray,.bool true])/\Below w.heap.size w w':=by
 obtain ⟨W1,hW1⟩:∃ W1,W1=(w.alloc (.cells #[.int .i64 us,.int .i64 ub] 26)).alloc (.cells #[.bool false,.bool false,.int .i64 0,.int .i64 0,.int .i64 0,.int .i64 0,.int .i64 0,.int .i64 0,.int .i64 0,.int .i64 0,.string ⟨#[]⟩,.string ⟨#[]⟩,.int .u64 0,.int .i64 0,.int .i64 0,.int .i64 0,.int .i64 0] 115):=⟨_,rfl⟩
 have hb1:Below w.heap.size w W1:=by rw [hW1];exact ((Below.refl _ _).alloc (Nat.le_refl _) _).alloc (by simp) _
 have hs1:W1.heap.size=w.heap.size+2:=by rw [hW1,World.size_alloc,World.size_alloc]
 have hk1:W1.heap[w.heap.size]? = some (.cells #[.int .i64 us,.int .i64 ub] 26 (0,0)):=by rw [hW1];exact (Below.heap_alloc _ _ _ (by simp)).trans (World.alloc_heap_new _ _)
 have hz1:W1.heap[w.heap.size+1]? = some (.cells #[.bool false,.bool false,.int .i64 0,.int .i64 0,.int .i64 0,.int .i64 0,.int .i64 0,.int .i64 0,.int .i64 0,.int .i64 0,.string ⟨#[]⟩,.string ⟨#[]⟩,.int .u64 0,.int .i64 0,.int .i64 0,.int .i64 0,.int .i64 0] 115 (0,0)):=by
  have:=World.alloc_heap_new (w.alloc (.cells #[.int .i64 us,.int .i64 ub] 26)) (.cells #[.bool false,.bool false,.int .i64 0,.int .i64 0,.int .i64 0,.int .i64 0,.int .i64 0,.int .i64 0,.int .i64 0,.int .i64 0,.string ⟨#[]⟩,.string ⟨#[]⟩,.int .u64 0,.int .i64 0,.int .i64 0,.int .i64 0,.int .i64 0] 115)
  rw [World.size_alloc] at this
  rw [hW1];exact this
 have HG:=zh (hg W1 hb1)
 have HCL:=zh hcl;have HC1:=zh hc1;have HH:=zh (And.intro h0 (And.intro h1 h6))
 have HW1:=zh hW1;have HB1:=zh hb1;have HS1:=zh hs1;have HK1:=zh hk1;have HZ1:=zh hz1
 clear hg hcl hc1 h0 h1 h6 hW1 hb1 hs1 hk1 hz1
 go_enter Tryz.func258,Tryz.ntmps258
 go_wp2_with fail
 rw [<- HW1.out]
 refine HG.out.mono ?_
 rintro e w3 ⟨rfl,hb3⟩
 obtain ⟨W4,hW4⟩:∃ W4,W4=w3.alloc (.cells cs.toArray 115):=⟨_,rfl⟩
 obtain ⟨b,hbq⟩:∃ b,b=w3.heap.size:=⟨_,rfl⟩
 have hr4:W4.heap[b]? = some (.cells cs.toArray 115 (0,0)):=by rw [hW4,hbq];exact World.alloc_heap_new _ _
 have hb4:Below W1.heap.size W1 W4:=by rw [hW4];exact hb3.alloc hb3.size _
 have hge:w.heap.size+2<=b:=by rw [hbq];have:=hb3.size;have:=HS1.out;omega
 have hk4:=(hb4.block w.heap.size (by have:=HS1.out;omega)).trans HK1.out
 have hz4:=(hb4.block (w.heap.size+1) (by have:=HS1.out;omega)).trans HZ1.out
 have HS:Hid (∀ W':World,Only (fun k => k=w.heap.size+1) W4 W'->W'.cell? ⟨w.heap.size,1,none⟩=some (.int .i64 ub)/\W'.rangeAt b 0 cs/\W'.cell? ⟨b,0,none⟩=some (.bool true)/\W'.cell? ⟨b,1,none⟩=some (.bool false)/\W'.cell? ⟨b,6,none⟩=some (.int .i64 bt)):=fun W' ho => by
  have k1:=(ho.block w.heap.size (zx hk4) (by omega)).trans hk4
  have k2:=(ho.block b (zx hr4) (by omega)).trans hr4
  exact ⟨by rw [zc k1];rfl,box_rng k2,by rw [zc k2,List.getElem?_toArray];exact HH.out.1,by rw [zc k2,List.getElem?_toArray];exact HH.out.2.1,by rw [zc k2,List.getElem?_toArray];exact HH.out.2.2⟩
 have HTH:Hid (W4.drew.there (w.heap.size+1) 0 cs.toArray.size):=Ag.there_row (show W4.drew.heap[w.heap.size+1]? = _ from hz4) _ (by rw [List.size_toArray,HCL.out];decide)
 have he5:=Ag.setCells_row (w.heap.size+1) 115 cs 0 _ W4.drew hz4
 rw [Ag.put_all (by rw [HCL.out];rfl)] at he5
 have HE5:=zh he5
 have HO5:Hid (Only (fun k => k=w.heap.size+1) W4 (W4.drew.setCells (w.heap.size+1) 0 cs)):=by
  have:∀ (vs:List Value) (o:Nat) (w1:World),Only (fun k => k=w.heap.size+1) W4 w1->Only (fun k => k=w.heap.size+1) W4 (w1.setCells (w.heap.size+1) o vs):=by
   intro vs
   induction vs with
   | nil => intro o w1 h;exact h
   | cons v r ih => intro o w1 h;rw [World.setCells];exact ih _ _ (h.setCell (p:=⟨w.heap.size+1,o,none⟩) (fun _ => rfl) v)
  exact this _ _ _ (Only.refl _ _).drew
 have HBE:Hid (Below w.heap.size w (W4.drew.setCells (w.heap.size+1) 0 cs)):=(HB1.out.trans (hb4.mono HB1.out.size)).trans (HO5.out.below (by have:=hb4.size;have:=HS1.out;omega) (fun i hi hf => by omega))
 have HW4:=zh hW4;have HBQ:=zh hbq
 clear hr4 hb4 hge hk4 hz4 he5 hW4 hbq hb3
 go_upto_region 2 with (first
  | (refine Ag.wpList_store_new (by rfl) 115 (.tmp 6) (.tmp 13) (by rfl) cs (by rfl) (by rfl) (by rw [HCL.out];kernel_rfl) (by rw [HCL.out];rfl) HC1.out ?_))
 rw [<- HW4.out,<- HBQ.out]
 have hO:Only (fun k => k=w.heap.size+1) W4 W4.drew:=(Only.refl _ _).drew
 refine wp_region_held_drew (S:=fun W' => W'.cell? ⟨w.heap.size,1,none⟩=some (.int .i64 ub)/\W'.rangeAt b 0 cs/\W'.cell? ⟨b,0,none⟩=some (.bool true)/\W'.cell? ⟨b,1,none⟩=some (.bool false)/\W'.cell? ⟨b,6,none⟩=some (.int .i64 bt)) (by kernel_rfl) (HS.out _ hO) (fun _ => ?_)
 refine tk 0 rfl (.agg cs.toArray) (fun wq hq => by obtain ⟨hq0,hq1,hq2,hq3,hq4⟩:=hq;exact St.exec_load 115 (.tmp 6) (by rfl) b 0 (by rfl) cs _ hq1 Tryz.underlying115 rfl (by rw [HCL.out];kernel_rfl)) (HS.out _ hO) ?_
 try simp only [zq]
 refine tq 1 rfl .nilIface (HS.out _ hO) ?_
 try simp only [zq]
 refine tq 2 rfl (.bool true) (HS.out _ hO) ?_
 try simp only [zq]
 refine tq 3 rfl (.bool true) (HS.out _ hO) ?_
 try simp only [zq]
 refine tq 4 rfl (.pointer (some ⟨w.heap.size,1,none⟩)) (HS.out _ hO) ?_
 try simp only [zq]
 refine tq 5 rfl (.int .i64 ub) (HS.out _ hO) ?_
 try simp only [zq]
 refine tq 6 rfl (.bool true) (HS.out _ hO) ?_
 try simp only [zq]
 refine tq 7 rfl (.bool true) (HS.out _ hO) ?_
 try simp only [zq]
 refine tq 8 rfl (.bool true) (HS.out _ hO) ?_
 try simp only [zq]
 refine tq 9 rfl (.pointer (some ⟨b,0,none⟩)) (HS.out _ hO) ?_
 try simp only [zq]
 refine tq 10 rfl (.bool true) (HS.out _ hO) ?_
 try simp only [zq]
 refine tq 11 rfl (.bool true) (HS.out _ hO) ?_
 try simp only [zq]
 refine tq 12 rfl (.bool true) (HS.out _ hO) ?_
 try simp only [zq]
 refine tq 13 rfl (.pointer (some ⟨b,1,none⟩)) (HS.out _ hO) ?_
 try simp only [zq]
 refine tq 14 rfl (.bool false) (HS.out _ hO) ?_
 try simp only [zq]
 refine tq 15 rfl (.bool true) (HS.out _ hO) ?_
 try simp only [zq]
 refine tq 16 rfl (.bool true) (HS.out _ hO) ?_
 try simp only [zq]
 refine tq 17 rfl (.bool true) (HS.out _ hO) ?_
 try simp only [zq]
 refine tq 18 rfl (.pointer (some ⟨b,5,none⟩)) (HS.out _ hO) ?_
 try simp only [zq]
 refine tq 19 rfl (.pointer (some ⟨b,6,none⟩)) (HS.out _ hO) ?_
 try simp only [zq]
 refine tq 20 rfl (.int .i64 bt) (HS.out _ hO) ?_
 try simp only [zq]
 refine tq 21 rfl (.pointer (some ⟨w.heap.size,1,none⟩)) (HS.out _ hO) ?_
 try simp only [zq]
 refine tq 22 rfl (.int .i64 ub) (HS.out _ hO) ?_
 try simp only [zq]
 refine tq 23 rfl (.bool true) (HS.out _ hO) ?_
 try simp only [zq]
 refine tq 24 rfl (.bool true) (HS.out _ hO) ?_
 try simp only [zq]
 refine zr 25 rfl (fun K hK => ?_)
 rw [if_pos (by rfl)]
 refine wp_store_mid 115 (.tmp 4) (.tmp 15) (by rfl) (w.heap.size+1) 0 cs.toArray (by rfl) (by rfl) HTH.out (by rw [List.size_toArray,HCL.out];kernel_rfl) (all_oneCell_toArray HC1.out) ?_
 rw [List.toList_toArray]
 refine hK.out _ _ (HS.out _ HO5.out) (fun _ => ?_)
 clear hK K
 try simp only [zq]
 refine tq 26 rfl (.bool true) (HS.out _ HO5.out) ?_
 try simp only [zq]
 refine wpAnyH_done (by kernel_rfl) ?_ _
 try simp only [zq]
 go_wp2
 refine bodyPost_ret (results_cell_tmp rfl _ _ (w.heap.size+1) _ cs.toArray (0,0) _ rfl HE5.out Tryz.underlying115 rfl (by rw [List.size_toArray,HCL.out];kernel_rfl)) rfl ?_
 exact ⟨rfl,HBE.out⟩
theorem holds_any (h:ArAt a S fr nw w) (us ub:Int) :
  Calls Tryz.prog 258 #[.pointer (some ⟨a,0,none⟩),.agg #[.int .i64 us,.int .i64 ub]] w fun e w' => e = .returned (.tuple #[.agg (if thr us then sl S us else zeroS).cells.toArray,.bool (holds S us ub)])/\Below w.heap.size w w':=by
 unfold holds
 cases ht:thr us with
 | false => exact holds_0 us ub false false 0 zeroS.cells rfl zeroS.one rfl rfl rfl (fun W hb => aget_no us ht W)
 | true =>
  have hg:∀ W,Below w.heap.size w W->Calls Tryz.prog 46 #[.pointer (some ⟨a,0,none⟩),.int .i64 us] W fun e w' => e = .returned (.tuple #[.agg (sl S us).cells.toArray,.nilIface])/\Below W.heap.size W w':=fun W hb => aget_ok (h.below hb) us ht
  have e0:(sl S us).cells[0]? = some (.bool (sl S us).used):=rfl
  have e1:(sl S us).cells[1]? = some (.bool (sl S us).dead):=rfl
  have e6:(sl S us).cells[6]? = some (.int .i64 (sl S us).s.birth):=rfl
  rw [if_pos rfl]
  by_cases hb:1<=ub
  ·rw [decide_eq_true hb]
   cases hu:(sl S us).used with
   | false => exact holds_2 us ub false (sl S us).dead _ _ rfl (sl S us).one (by rw [e0,hu]) e1 e6 hb hg
   | true =>
    cases hd:(sl S us).dead with
    | true => exact holds_3 us ub false false _ _ rfl (sl S us).one (by rw [e0,hu]) (by rw [e1,hd]) e6 hb hg
    | false =>
     cases he:((sl S us).s.birth == ub) with
     | false => exact holds_4 us ub false false _ _ rfl (sl S us).one (by rw [e0,hu]) (by rw [e1,hd]) e6 hb he hg
     | true => exact holds_5 us ub false false _ _ rfl (sl S us).one (by rw [e0,hu]) (by rw [e1,hd]) e6 hb he hg
  ·rw [decide_eq_false hb]
   exact holds_1 us ub (sl S us).used (sl S us).dead _ _ rfl (sl S us).one e0 e1 e6 (by omega) hg
end
end Fr
end
end Go.Proofs.YtimhglmfckfclaaGreatDoor
