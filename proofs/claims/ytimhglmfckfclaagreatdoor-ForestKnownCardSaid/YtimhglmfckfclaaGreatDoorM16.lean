/- Parts of the proof. -/
import Derived.Test.YtimhglmfckfclaaGreatDoorM15
set_option linter.unusedVariables false
set_option linter.unusedSimpArgs false
set_option maxRecDepth 100000
set_option maxHeartbeats 16000000
namespace Go.Proofs.YtimhglmfckfclaaGreatDoor
section
open Go.RowKit Go.Maps
namespace Fr
open Vw (Sess)
section
variable {t a:Nat} {r:Int} {S:List Slt} {fr:List Int} {nw:Nat} {w:World}
theorem tring_root (h:TrAt t a r w) (us:Int) :
  Calls Tryz.prog 182 #[.pointer (some ⟨t,0,none⟩),.agg #[.int .i64 us,.int .i64 0]] w fun e w' => e = .returned (.tuple #[.int .i64 r,.nilIface])/\Below w.heap.size w w':=by
 have HB:Hid (Below w.heap.size w (w.alloc (.cells #[.int .i64 us,.int .i64 0] 26))):=(Below.refl _ _).alloc (Nat.le_refl _) _
 have c1:=h.last
 have hlt:=h.lt
 clear h
 go_enter Tryz.func182,Tryz.ntmps182
 go_wp2
 refine bodyPost_ret (results_tmp2 rfl _ _ _) rfl ?_
 exact ⟨rfl,HB.out⟩
theorem tring_kid (h:TrAt t a r w) (hA:ArAt a S fr nw w) (us ub:Int) (hub:ub≠0) (hi:thr us=true) (hu:(sl S us).used=true) (hb:(sl S us).s.birth=ub) :
  Calls Tryz.prog 182 #[.pointer (some ⟨t,0,none⟩),.agg #[.int .i64 us,.int .i64 ub]] w fun e w' => e = .returned (.tuple #[.int .i64 (sl S us).kids,.nilIface])/\Below w.heap.size w w':=by
 obtain ⟨cs,hcs⟩:∃ cs,cs=(sl S us).cells:=⟨_,rfl⟩
 obtain ⟨W,hW⟩:∃ W,W=w.alloc (.cells #[.int .i64 us,.int .i64 ub] 26):=⟨_,rfl⟩
 have hbl:Below w.heap.size w W:=by rw [hW];exact (Below.refl _ _).alloc (Nat.le_refl _) _
 have hsz:W.heap.size=w.heap.size+1:=by rw [hW,World.size_alloc]
 have hlk:W.heap[w.heap.size]? = some (.cells #[.int .i64 us,.int .i64 ub] 26 (0,0)):=by rw [hW];exact Ut.alloc_at _ _
 have hub1:(ub == 0)=false:=by simpa using hub
 have HBW:Hid (Below (w.heap.size+1) W W):=Below.refl _ _
 have HSK:Hid (∀ W':World,Below (w.heap.size+1) W W'->W'.cell? ⟨t,0,none⟩=some (.pointer (some ⟨a,0,none⟩))/\W'.cell? ⟨w.heap.size,0,none⟩=some (.int .i64 us)):=fun W' hb => by
  refine ⟨(hb.cell (p:=⟨t,0,none⟩) (by have:=h.lt;show t<_;omega)).trans (h.below hbl).arena,(hb.cell (p:=⟨w.heap.size,0,none⟩) (Nat.lt_succ_self _)).trans ?_⟩
  rw [zc hlk];rfl
 have HG:Hid (∀ W':World,Below (w.heap.size+1) W W'->Calls Tryz.prog 46 #[.pointer (some ⟨a,0,none⟩),.int .i64 us] W' fun e w' => e = .returned (.tuple #[.agg cs.toArray,.nilIface])/\Below W'.heap.size W' w'):=fun W' hb => by
  rw [hcs]
  exact aget_ok (hA.keep ((hb.block a (by have:=hA.lt;omega)).trans (hbl.block a hA.lt))) us hi
 have HCL:Hid (cs.length=17):=by show _=_;rw [hcs];rfl
 have HC1:Hid (∀ u ∈ cs,u.oneCell'=true):=by show ∀ _,_;rw [hcs];exact (sl S us).one
 have HCS:=zh hcs
 have HN0:Hid (w.heap.size+1<=W.heap.size):=Nat.le_of_eq hsz.symm
 have HBL:=zh hbl;have HW:=zh hW;have HLK:=zh hlk
 clear h hA hi hcs hbl hW hlk hsz
 go_enter Tryz.func182,Tryz.ntmps182
 go_wp2
 rw [<- HW.out]
 refine wp_region_held_drew (S:=fun W' => W'.cell? ⟨t,0,none⟩=some (.pointer (some ⟨a,0,none⟩))/\W'.cell? ⟨w.heap.size,0,none⟩=some (.int .i64 us)) (by kernel_rfl) (HSK.out _ (HBW.out.drew)) (fun _ => ?_)
 have hbk:Below (w.heap.size+1) W W.drew:=HBW.out.drew
 refine tq 0 rfl (.pointer (some ⟨t,0,none⟩)) (HSK.out _ hbk) ?_
 try simp only [zq]
 refine tq 1 rfl (.pointer (some ⟨t,0,none⟩)) (HSK.out _ hbk) ?_
 try simp only [zq]
 refine tq 2 rfl (.pointer (some ⟨t,0,none⟩)) (HSK.out _ hbk) ?_
 try simp only [zq]
 refine tq 3 rfl (.pointer (some ⟨a,0,none⟩)) (HSK.out _ hbk) ?_
 try simp only [zq]
 refine tq 4 rfl (.pointer (some ⟨w.heap.size,0,none⟩)) (HSK.out _ hbk) ?_
 try simp only [zq]
 refine tq 5 rfl (.int .i64 us) (HSK.out _ hbk) ?_
 try simp only [zq]
 refine wpAnyH_ready (rs:=[6,10]) (by kernel_rfl) (by simp) (AllReadyH.cons rfl (fun K hK => ?_) (AllReadyH.cons rfl (fun K hK => ?_) AllReadyH.nil))
 ·go_simp
  refine (HG.out _ hbk).mono ?_
  rintro e w3 ⟨rfl,hb3⟩
  have hbk3:=hbk.trans (hb3.mono (Nat.le_trans HN0.out hbk.size))
  refine hK.out _ _ (HSK.out _ hbk3) (fun _ => ?_)
  clear hK K
  skip
  clear hbk
  have hbk:=hbk3
  clear hbk3 hb3
  try simp only [zq]
  refine tq 7 rfl (.tuple #[.agg cs.toArray,.nilIface]) (HSK.out _ hbk) ?_
  try simp only [zq]
  refine tq 8 rfl (.agg cs.toArray) (HSK.out _ hbk) ?_
  try simp only [zq]
  refine tq 9 rfl .nilIface (HSK.out _ hbk) ?_
  try simp only [zq]
  refine zr 10 rfl (fun K hK => ?_)
  go_simp
  obtain ⟨b,hbq⟩:∃ b,b=(w3).heap.size:=⟨_,rfl⟩
  have hge:(w.heap.size+1)<=b:=by rw [hbq];exact Nat.le_trans HN0.out hbk.size
  have hbk4:=hbk.alloc (by rw [<- hbq];exact hge) (.cells #[.bool false,.bool false,.int .i64 0,.int .i64 0,.int .i64 0,.int .i64 0,.int .i64 0,.int .i64 0,.int .i64 0,.int .i64 0,.string ⟨#[]⟩,.string ⟨#[]⟩,.int .u64 0,.int .i64 0,.int .i64 0,.int .i64 0,.int .i64 0] 115)
  have hrow:(((w3).alloc (.cells #[.bool false,.bool false,.int .i64 0,.int .i64 0,.int .i64 0,.int .i64 0,.int .i64 0,.int .i64 0,.int .i64 0,.int .i64 0,.string ⟨#[]⟩,.string ⟨#[]⟩,.int .u64 0,.int .i64 0,.int .i64 0,.int .i64 0,.int .i64 0] 115))).heap[b]? = some (.cells #[.bool false,.bool false,.int .i64 0,.int .i64 0,.int .i64 0,.int .i64 0,.int .i64 0,.int .i64 0,.int .i64 0,.int .i64 0,.string ⟨#[]⟩,.string ⟨#[]⟩,.int .u64 0,.int .i64 0,.int .i64 0,.int .i64 0,.int .i64 0] 115 (0,0)):=by rw [hbq];exact World.alloc_heap_new _ _
  refine hK.out _ _ (HSK.out _ hbk4) (fun _ => ?_)
  clear hK K hbk
  have hbk:=hbk4
  clear hbk4
  try simp only [zq]
  skip
  try rw [<- hbq]
  generalize hw4:((w3).alloc (.cells #[.bool false,.bool false,.int .i64 0,.int .i64 0,.int .i64 0,.int .i64 0,.int .i64 0,.int .i64 0,.int .i64 0,.int .i64 0,.string ⟨#[]⟩,.string ⟨#[]⟩,.int .u64 0,.int .i64 0,.int .i64 0,.int .i64 0,.int .i64 0] 115))=w4 at hbk hrow ⊢
  refine zr 11 rfl (fun K hK => ?_)
  rw [if_pos (by rfl)]
  refine wp_store_mid 115 (.tmp 6) (.tmp 23) (by rfl) b 0 cs.toArray (by rfl) (by rfl) (Ag.there_row hrow _ (by rw [List.size_toArray,HCL.out];decide)) (by rw [List.size_toArray,HCL.out];kernel_rfl) (all_oneCell_toArray HC1.out) ?_
  rw [List.toList_toArray]
  have hrow2:=Ag.setCells_row b 115 cs 0 _ _ hrow
  rw [Ag.put_all (by rw [HCL.out];rfl)] at hrow2
  have hbk2:=Ag.below_setCells (b:=b) hge cs 0 _ hbk
  refine hK.out _ _ (HSK.out _ hbk2) (fun _ => ?_)
  clear hK K hbk hrow
  have hbk:=hbk2
  clear hbk2
  generalize hw5:World.setCells _ b 0 cs=w5 at hbk hrow2 ⊢
  try simp only [zq]
  refine tq 12 rfl .nilIface (HSK.out _ hbk) ?_
  try simp only [zq]
  refine wpAnyH_done (by kernel_rfl) ?_ _
  try simp only [zq]
  clear hw4 hbq
  have d0:w5.cell? ⟨b,0,none⟩=some (.bool true):=by rw [zc hrow2,HCS.out,<- hu];rfl
  have d2:w5.cell? ⟨b,2,none⟩=some (.int .i64 (sl S us).kids):=by rw [zc hrow2,HCS.out];rfl
  have d6:w5.cell? ⟨b,6,none⟩=some (.int .i64 ub):=by rw [zc hrow2,HCS.out,<- hb];rfl
  have l1:w5.cell? ⟨w.heap.size,1,none⟩=some (.int .i64 ub):=by rw [hbk.cell (p:=⟨w.heap.size,1,none⟩) (Nat.lt_succ_self _),zc HLK.out];rfl
  have HE:Hid (Below w.heap.size w w5):=HBL.out.trans (hbk.mono (Nat.le_succ _))
  clear hrow2 hbk hw5 hu hb hub
  go_wp2
  refine bodyPost_ret (results_tmp2 rfl _ _ _) rfl ?_
  exact ⟨rfl,HE.out⟩
 ·go_simp
  obtain ⟨b,hbq⟩:∃ b,b=(W).heap.size:=⟨_,rfl⟩
  have hge:(w.heap.size+1)<=b:=by rw [hbq];exact Nat.le_trans HN0.out (Nat.le_refl _)
  have hbk4:=(HBW.out.alloc HN0.out (.cells #[.bool false,.bool false,.int .i64 0,.int .i64 0,.int .i64 0,.int .i64 0,.int .i64 0,.int .i64 0,.int .i64 0,.int .i64 0,.string ⟨#[]⟩,.string ⟨#[]⟩,.int .u64 0,.int .i64 0,.int .i64 0,.int .i64 0,.int .i64 0] 115)).drew
  have hrow:(((W).alloc (.cells #[.bool false,.bool false,.int .i64 0,.int .i64 0,.int .i64 0,.int .i64 0,.int .i64 0,.int .i64 0,.int .i64 0,.int .i64 0,.string ⟨#[]⟩,.string ⟨#[]⟩,.int .u64 0,.int .i64 0,.int .i64 0,.int .i64 0,.int .i64 0] 115)).drew).heap[b]? = some (.cells #[.bool false,.bool false,.int .i64 0,.int .i64 0,.int .i64 0,.int .i64 0,.int .i64 0,.int .i64 0,.int .i64 0,.int .i64 0,.string ⟨#[]⟩,.string ⟨#[]⟩,.int .u64 0,.int .i64 0,.int .i64 0,.int .i64 0,.int .i64 0] 115 (0,0)):=by rw [hbq];exact World.alloc_heap_new _ _
  refine hK.out _ _ (HSK.out _ hbk4) (fun _ => ?_)
  clear hK K hbk
  have hbk:=hbk4
  clear hbk4
  try simp only [zq]
  try rw [show W.drew.heap.size=b from hbq.symm]
  try rw [<- hbq]
  generalize hw4:((W).alloc (.cells #[.bool false,.bool false,.int .i64 0,.int .i64 0,.int .i64 0,.int .i64 0,.int .i64 0,.int .i64 0,.int .i64 0,.int .i64 0,.string ⟨#[]⟩,.string ⟨#[]⟩,.int .u64 0,.int .i64 0,.int .i64 0,.int .i64 0,.int .i64 0] 115)).drew=w4 at hbk hrow ⊢
  refine zr 6 rfl (fun K hK => ?_)
  go_simp
  refine (HG.out _ hbk).mono ?_
  rintro e w3 ⟨rfl,hb3⟩
  have hbk3:=hbk.trans (hb3.mono (Nat.le_trans HN0.out hbk.size))
  refine hK.out _ _ (HSK.out _ hbk3) (fun _ => ?_)
  clear hK K
  have hrow:=(hb3.block b (zx hrow)).trans hrow
  clear hbk
  have hbk:=hbk3
  clear hbk3 hb3
  try simp only [zq]
  try rw [<- hbq]
  refine tq 7 rfl (.tuple #[.agg cs.toArray,.nilIface]) (HSK.out _ hbk) ?_
  try simp only [zq]
  refine tq 8 rfl (.agg cs.toArray) (HSK.out _ hbk) ?_
  try simp only [zq]
  refine tq 9 rfl .nilIface (HSK.out _ hbk) ?_
  try simp only [zq]
  refine zr 11 rfl (fun K hK => ?_)
  rw [if_pos (by rfl)]
  refine wp_store_mid 115 (.tmp 6) (.tmp 23) (by rfl) b 0 cs.toArray (by rfl) (by rfl) (Ag.there_row hrow _ (by rw [List.size_toArray,HCL.out];decide)) (by rw [List.size_toArray,HCL.out];kernel_rfl) (all_oneCell_toArray HC1.out) ?_
  rw [List.toList_toArray]
  have hrow2:=Ag.setCells_row b 115 cs 0 _ _ hrow
  rw [Ag.put_all (by rw [HCL.out];rfl)] at hrow2
  have hbk2:=Ag.below_setCells (b:=b) hge cs 0 _ hbk
  refine hK.out _ _ (HSK.out _ hbk2) (fun _ => ?_)
  clear hK K hbk hrow
  have hbk:=hbk2
  clear hbk2
  generalize hw5:World.setCells _ b 0 cs=w5 at hbk hrow2 ⊢
  try simp only [zq]
  refine tq 12 rfl .nilIface (HSK.out _ hbk) ?_
  try simp only [zq]
  refine wpAnyH_done (by kernel_rfl) ?_ _
  try simp only [zq]
  clear hw4 hbq
  have d0:w5.cell? ⟨b,0,none⟩=some (.bool true):=by rw [zc hrow2,HCS.out,<- hu];rfl
  have d2:w5.cell? ⟨b,2,none⟩=some (.int .i64 (sl S us).kids):=by rw [zc hrow2,HCS.out];rfl
  have d6:w5.cell? ⟨b,6,none⟩=some (.int .i64 ub):=by rw [zc hrow2,HCS.out,<- hb];rfl
  have l1:w5.cell? ⟨w.heap.size,1,none⟩=some (.int .i64 ub):=by rw [hbk.cell (p:=⟨w.heap.size,1,none⟩) (Nat.lt_succ_self _),zc HLK.out];rfl
  have HE:Hid (Below w.heap.size w w5):=HBL.out.trans (hbk.mono (Nat.le_succ _))
  clear hrow2 hbk hw5 hu hb hub
  go_wp2
  refine bodyPost_ret (results_tmp2 rfl _ _ _) rfl ?_
  exact ⟨rfl,HE.out⟩
theorem tparent_root (i us:Int) (w:World) :
  Calls Tryz.prog 181 #[.pointer (some ⟨t,0,none⟩),.int .i64 i,.agg #[.int .i64 us,.int .i64 0]] w fun e w' => e = .returned .nilIface/\Below w.heap.size w w':=by
 have HB:Hid (Below w.heap.size w (w.alloc (.cells #[.int .i64 us,.int .i64 0] 26))):=(Below.refl _ _).alloc (Nat.le_refl _) _
 go_enter Tryz.func181,Tryz.ntmps181
 go_wp2
 go_ret
 exact ⟨rfl,HB.out⟩
theorem tparent_kid (h:TrAt t a r w) (hA:ArAt a S fr nw w) (i us ub:Int) (hub:ub≠0) (hi:thr us=true) (hne:us≠i) :
  Calls Tryz.prog 181 #[.pointer (some ⟨t,0,none⟩),.int .i64 i,.agg #[.int .i64 us,.int .i64 ub]] w fun e w' => e = .returned .nilIface/\Below w.heap.size w w':=by
 obtain ⟨cs,hcs⟩:∃ cs,cs=(sl S us).cells:=⟨_,rfl⟩
 obtain ⟨W,hW⟩:∃ W,W=w.alloc (.cells #[.int .i64 us,.int .i64 ub] 26):=⟨_,rfl⟩
 have hbl:Below w.heap.size w W:=by rw [hW];exact (Below.refl _ _).alloc (Nat.le_refl _) _
 have hsz:W.heap.size=w.heap.size+1:=by rw [hW,World.size_alloc]
 have hlk:W.heap[w.heap.size]? = some (.cells #[.int .i64 us,.int .i64 ub] 26 (0,0)):=by rw [hW];exact Ut.alloc_at _ _
 have hub1:(ub == 0)=false:=by simpa using hub
 have HBW:Hid (Below (w.heap.size+1) W W):=Below.refl _ _
 have HSK:Hid (∀ W':World,Below (w.heap.size+1) W W'->W'.cell? ⟨t,0,none⟩=some (.pointer (some ⟨a,0,none⟩))/\W'.cell? ⟨w.heap.size,0,none⟩=some (.int .i64 us)):=fun W' hb => by
  refine ⟨(hb.cell (p:=⟨t,0,none⟩) (by have:=h.lt;show t<_;omega)).trans (h.below hbl).arena,(hb.cell (p:=⟨w.heap.size,0,none⟩) (Nat.lt_succ_self _)).trans ?_⟩
  rw [zc hlk];rfl
 have HG:Hid (∀ W':World,Below (w.heap.size+1) W W'->Calls Tryz.prog 46 #[.pointer (some ⟨a,0,none⟩),.int .i64 us] W' fun e w' => e = .returned (.tuple #[.agg cs.toArray,.nilIface])/\Below W'.heap.size W' w'):=fun W' hb => by
  rw [hcs]
  exact aget_ok (hA.keep ((hb.block a (by have:=hA.lt;omega)).trans (hbl.block a hA.lt))) us hi
 have HCL:Hid (cs.length=17):=by show _=_;rw [hcs];rfl
 have HC1:Hid (∀ u ∈ cs,u.oneCell'=true):=by show ∀ _,_;rw [hcs];exact (sl S us).one
 have HCS:=zh hcs
 have HN0:Hid (w.heap.size+1<=W.heap.size):=Nat.le_of_eq hsz.symm
 have HBL:=zh hbl;have HW:=zh hW;have HLK:=zh hlk
 have hne1:(us == i)=false:=by simpa using hne
 clear h hA hi hcs hbl hW hlk hsz
 go_enter Tryz.func181,Tryz.ntmps181
 go_wp2
 rw [<- HW.out]
 refine wp_region_held_drew (S:=fun W' => W'.cell? ⟨t,0,none⟩=some (.pointer (some ⟨a,0,none⟩))/\W'.cell? ⟨w.heap.size,0,none⟩=some (.int .i64 us)) (by kernel_rfl) (HSK.out _ (HBW.out.drew)) (fun _ => ?_)
 have hbk:Below (w.heap.size+1) W W.drew:=HBW.out.drew
 refine tq 0 rfl (.pointer (some ⟨t,0,none⟩)) (HSK.out _ hbk) ?_
 try simp only [zq]
 refine tq 1 rfl (.pointer (some ⟨t,0,none⟩)) (HSK.out _ hbk) ?_
 try simp only [zq]
 refine tq 2 rfl (.pointer (some ⟨t,0,none⟩)) (HSK.out _ hbk) ?_
 try simp only [zq]
 refine tq 3 rfl (.pointer (some ⟨a,0,none⟩)) (HSK.out _ hbk) ?_
 try simp only [zq]
 refine tq 4 rfl (.pointer (some ⟨w.heap.size,0,none⟩)) (HSK.out _ hbk) ?_
 try simp only [zq]
 refine tq 5 rfl (.int .i64 us) (HSK.out _ hbk) ?_
 try simp only [zq]
 refine wpAnyH_ready (rs:=[6,10]) (by kernel_rfl) (by simp) (AllReadyH.cons rfl (fun K hK => ?_) (AllReadyH.cons rfl (fun K hK => ?_) AllReadyH.nil))
 ·go_simp
  refine (HG.out _ hbk).mono ?_
  rintro e w3 ⟨rfl,hb3⟩
  have hbk3:=hbk.trans (hb3.mono (Nat.le_trans HN0.out hbk.size))
  refine hK.out _ _ (HSK.out _ hbk3) (fun _ => ?_)
  clear hK K
  skip
  clear hbk
  have hbk:=hbk3
  clear hbk3 hb3
  try simp only [zq]
  refine tq 7 rfl (.tuple #[.agg cs.toArray,.nilIface]) (HSK.out _ hbk) ?_
  try simp only [zq]
  refine tq 8 rfl (.agg cs.toArray) (HSK.out _ hbk) ?_
  try simp only [zq]
  refine tq 9 rfl .nilIface (HSK.out _ hbk) ?_
  try simp only [zq]
  refine zr 10 rfl (fun K hK => ?_)
  go_simp
  obtain ⟨b,hbq⟩:∃ b,b=(w3).heap.size:=⟨_,rfl⟩
  have hge:(w.heap.size+1)<=b:=by rw [hbq];exact Nat.le_trans HN0.out hbk.size
  have hbk4:=hbk.alloc (by rw [<- hbq];exact hge) (.cells #[.bool false,.bool false,.int .i64 0,.int .i64 0,.int .i64 0,.int .i64 0,.int .i64 0,.int .i64 0,.int .i64 0,.int .i64 0,.string ⟨#[]⟩,.string ⟨#[]⟩,.int .u64 0,.int .i64 0,.int .i64 0,.int .i64 0,.int .i64 0] 115)
  have hrow:(((w3).alloc (.cells #[.bool false,.bool false,.int .i64 0,.int .i64 0,.int .i64 0,.int .i64 0,.int .i64 0,.int .i64 0,.int .i64 0,.int .i64 0,.string ⟨#[]⟩,.string ⟨#[]⟩,.int .u64 0,.int .i64 0,.int .i64 0,.int .i64 0,.int .i64 0] 115))).heap[b]? = some (.cells #[.bool false,.bool false,.int .i64 0,.int .i64 0,.int .i64 0,.int .i64 0,.int .i64 0,.int .i64 0,.int .i64 0,.int .i64 0,.string ⟨#[]⟩,.string ⟨#[]⟩,.int .u64 0,.int .i64 0,.int .i64 0,.int .i64 0,.int .i64 0] 115 (0,0)):=by rw [hbq];exact World.alloc_heap_new _ _
  refine hK.out _ _ (HSK.out _ hbk4) (fun _ => ?_)
  clear hK K hbk
  have hbk:=hbk4
  clear hbk4
  try simp only [zq]
  skip
  try rw [<- hbq]
  generalize hw4:((w3).alloc (.cells #[.bool false,.bool false,.int .i64 0,.int .i64 0,.int .i64 0,.int .i64 0,.int .i64 0,.int .i64 0,.int .i64 0,.int .i64 0,.string ⟨#[]⟩,.string ⟨#[]⟩,.int .u64 0,.int .i64 0,.int .i64 0,.int .i64 0,.int .i64 0] 115))=w4 at hbk hrow ⊢
  refine zr 11 rfl (fun K hK => ?_)
  rw [if_pos (by rfl)]
  refine wp_store_mid 115 (.tmp 7) (.tmp 20) (by rfl) b 0 cs.toArray (by rfl) (by rfl) (Ag.there_row hrow _ (by rw [List.size_toArray,HCL.out];decide)) (by rw [List.size_toArray,HCL.out];kernel_rfl) (all_oneCell_toArray HC1.out) ?_
  rw [List.toList_toArray]
  have hrow2:=Ag.setCells_row b 115 cs 0 _ _ hrow
  rw [Ag.put_all (by rw [HCL.out];rfl)] at hrow2
  have hbk2:=Ag.below_setCells (b:=b) hge cs 0 _ hbk
  refine hK.out _ _ (HSK.out _ hbk2) (fun _ => ?_)
  clear hK K hbk hrow
  have hbk:=hbk2
  clear hbk2
  generalize hw5:World.setCells _ b 0 cs=w5 at hbk hrow2 ⊢
  try simp only [zq]
  refine tq 12 rfl .nilIface (HSK.out _ hbk) ?_
  try simp only [zq]
  refine wpAnyH_done (by kernel_rfl) ?_ _
  try simp only [zq]
  clear hw4 hbq
  have l0:w5.cell? ⟨w.heap.size,0,none⟩=some (.int .i64 us):=by rw [hbk.cell (p:=⟨w.heap.size,0,none⟩) (Nat.lt_succ_self _),zc HLK.out];rfl
  have HE:Hid (Below w.heap.size w w5):=HBL.out.trans (hbk.mono (Nat.le_succ _))
  clear hrow2 hbk hw5 hub hne
  go_wp2
  go_ret
  exact ⟨rfl,HE.out⟩
 ·go_simp
  obtain ⟨b,hbq⟩:∃ b,b=(W).heap.size:=⟨_,rfl⟩
  have hge:(w.heap.size+1)<=b:=by rw [hbq];exact Nat.le_trans HN0.out (Nat.le_refl _)
  have hbk4:=(HBW.out.alloc HN0.out (.cells #[.bool false,.bool false,.int .i64 0,.int .i64 0,.int .i64 0,.int .i64 0,.int .i64 0,.int .i64 0,.int .i64 0,.int .i64 0,.string ⟨#[]⟩,.string ⟨#[]⟩,.int .u64 0,.int .i64 0,.int .i64 0,.int .i64 0,.int .i64 0] 115)).drew
  have hrow:(((W).alloc (.cells #[.bool false,.bool false,.int .i64 0,.int .i64 0,.int .i64 0,.int .i64 0,.int .i64 0,.int .i64 0,.int .i64 0,.int .i64 0,.string ⟨#[]⟩,.string ⟨#[]⟩,.int .u64 0,.int .i64 0,.int .i64 0,.int .i64 0,.int .i64 0] 115)).drew).heap[b]? = some (.cells #[.bool false,.bool false,.int .i64 0,.int .i64 0,.int .i64 0,.int .i64 0,.int .i64 0,.int .i64 0,.int .i64 0,.int .i64 0,.string ⟨#[]⟩,.string ⟨#[]⟩,.int .u64 0,.int .i64 0,.int .i64 0,.int .i64 0,.int .i64 0] 115 (0,0)):=by rw [hbq];exact World.alloc_heap_new _ _
  refine hK.out _ _ (HSK.out _ hbk4) (fun _ => ?_)
  clear hK K hbk
  have hbk:=hbk4
  clear hbk4
  try simp only [zq]
  try rw [show W.drew.heap.size=b from hbq.symm]
  try rw [<- hbq]
  generalize hw4:((W).alloc (.cells #[.bool false,.bool false,.int .i64 0,.int .i64 0,.int .i64 0,.int .i64 0,.int .i64 0,.int .i64 0,.int .i64 0,.int .i64 0,.string ⟨#[]⟩,.string ⟨#[]⟩,.int .u64 0,.int .i64 0,.int .i64 0,.int .i64 0,.int .i64 0] 115)).drew=w4 at hbk hrow ⊢
  refine zr 6 rfl (fun K hK => ?_)
  go_simp
  refine (HG.out _ hbk).mono ?_
  rintro e w3 ⟨rfl,hb3⟩
  have hbk3:=hbk.trans (hb3.mono (Nat.le_trans HN0.out hbk.size))
  refine hK.out _ _ (HSK.out _ hbk3) (fun _ => ?_)
  clear hK K
  have hrow:=(hb3.block b (zx hrow)).trans hrow
  clear hbk
  have hbk:=hbk3
  clear hbk3 hb3
  try simp only [zq]
  try rw [<- hbq]
  refine tq 7 rfl (.tuple #[.agg cs.toArray,.nilIface]) (HSK.out _ hbk) ?_
  try simp only [zq]
  refine tq 8 rfl (.agg cs.toArray) (HSK.out _ hbk) ?_
  try simp only [zq]
  refine tq 9 rfl .nilIface (HSK.out _ hbk) ?_
  try simp only [zq]
  refine zr 11 rfl (fun K hK => ?_)
  rw [if_pos (by rfl)]
  refine wp_store_mid 115 (.tmp 7) (.tmp 20) (by rfl) b 0 cs.toArray (by rfl) (by rfl) (Ag.there_row hrow _ (by rw [List.size_toArray,HCL.out];decide)) (by rw [List.size_toArray,HCL.out];kernel_rfl) (all_oneCell_toArray HC1.out) ?_
  rw [List.toList_toArray]
  have hrow2:=Ag.setCells_row b 115 cs 0 _ _ hrow
  rw [Ag.put_all (by rw [HCL.out];rfl)] at hrow2
  have hbk2:=Ag.below_setCells (b:=b) hge cs 0 _ hbk
  refine hK.out _ _ (HSK.out _ hbk2) (fun _ => ?_)
  clear hK K hbk hrow
  have hbk:=hbk2
  clear hbk2
  generalize hw5:World.setCells _ b 0 cs=w5 at hbk hrow2 ⊢
  try simp only [zq]
  refine tq 12 rfl .nilIface (HSK.out _ hbk) ?_
  try simp only [zq]
  refine wpAnyH_done (by kernel_rfl) ?_ _
  try simp only [zq]
  clear hw4 hbq
  have l0:w5.cell? ⟨w.heap.size,0,none⟩=some (.int .i64 us):=by rw [hbk.cell (p:=⟨w.heap.size,0,none⟩) (Nat.lt_succ_self _),zc HLK.out];rfl
  have HE:Hid (Below w.heap.size w w5):=HBL.out.trans (hbk.mono (Nat.le_succ _))
  clear hrow2 hbk hw5 hub hne
  go_wp2
  go_ret
  exact ⟨rfl,HE.out⟩
theorem tturn_root (h:TrAt t a r w) (us last:Int) :
  Calls Tryz.prog 184 #[.pointer (some ⟨t,0,none⟩),.agg #[.int .i64 us,.int .i64 0],.int .i64 last] w fun e w' => e = .returned .nilIface/\TrAt t a last w'/\Only (fun b => b=t) w w':=by
 obtain ⟨W,hW⟩:∃ W,W=w.alloc (.cells #[.int .i64 us,.int .i64 0] 26):=⟨_,rfl⟩
 have hbl:Below w.heap.size w W:=by rw [hW];exact (Below.refl _ _).alloc (Nat.le_refl _) _
 have hT:=h.below hbl
 have c1:=hT.last
 have f1:=hT.free 1
 have HR:Hid (TrAt t a last (W.setCell ⟨t,1,none⟩ (.int .i64 last))/\Only (fun b => b=t) w (W.setCell ⟨t,1,none⟩ (.int .i64 last))):=⟨hT.set last,(Only.of_below (F:=fun b => b=t) hbl).setCell (p:=⟨t,1,none⟩) (fun _ => rfl) _⟩
 have HW:=zh hW
 rw [hW] at c1 f1
 clear h hT hbl hW
 go_enter Tryz.func184,Tryz.ntmps184
 go_wp2
 go_ret
 exact ⟨rfl,by rw [<- HW.out];exact HR.out⟩
theorem tturn_kid (h:TrAt t a r w) (hA:ArAt a S fr nw w) (hw:nw+1<=4611686018427387904) (hta:t≠a) (us ub last:Int) (hub:ub≠0) (hi:thr us=true) :
  Calls Tryz.prog 184 #[.pointer (some ⟨t,0,none⟩),.agg #[.int .i64 us,.int .i64 ub],.int .i64 last] w fun e w' => e = .returned .nilIface/\ArAt a (put S us { sl S us with kids:=last }) fr (nw+1) w'/\Only (fun b => b=a) w w':=by
 obtain ⟨cs,hcs⟩:∃ cs,cs=(sl S us).cells:=⟨_,rfl⟩
 obtain ⟨W,hW⟩:∃ W,W=w.alloc (.cells #[.int .i64 us,.int .i64 ub] 26):=⟨_,rfl⟩
 have hbl:Below w.heap.size w W:=by rw [hW];exact (Below.refl _ _).alloc (Nat.le_refl _) _
 have hsz:W.heap.size=w.heap.size+1:=by rw [hW,World.size_alloc]
 have hlk:W.heap[w.heap.size]? = some (.cells #[.int .i64 us,.int .i64 ub] 26 (0,0)):=by rw [hW];exact Ut.alloc_at _ _
 have hub1:(ub == 0)=false:=by simpa using hub
 have HBW:Hid (Below (w.heap.size+1) W W):=Below.refl _ _
 have HSK:Hid (∀ W':World,Below (w.heap.size+1) W W'->W'.cell? ⟨t,0,none⟩=some (.pointer (some ⟨a,0,none⟩))/\W'.cell? ⟨w.heap.size,0,none⟩=some (.int .i64 us)):=fun W' hb => by
  refine ⟨(hb.cell (p:=⟨t,0,none⟩) (by have:=h.lt;show t<_;omega)).trans (h.below hbl).arena,(hb.cell (p:=⟨w.heap.size,0,none⟩) (Nat.lt_succ_self _)).trans ?_⟩
  rw [zc hlk];rfl
 have HG:Hid (∀ W':World,Below (w.heap.size+1) W W'->Calls Tryz.prog 46 #[.pointer (some ⟨a,0,none⟩),.int .i64 us] W' fun e w' => e = .returned (.tuple #[.agg cs.toArray,.nilIface])/\Below W'.heap.size W' w'):=fun W' hb => by
  rw [hcs]
  exact aget_ok (hA.keep ((hb.block a (by have:=hA.lt;omega)).trans (hbl.block a hA.lt))) us hi
 have HCL:Hid (cs.length=17):=by show _=_;rw [hcs];rfl
 have HC1:Hid (∀ u ∈ cs,u.oneCell'=true):=by show ∀ _,_;rw [hcs];exact (sl S us).one
 have HCS:=zh hcs
 have HN0:Hid (w.heap.size+1<=W.heap.size):=Nat.le_of_eq hsz.symm
 have HBL:=zh hbl;have HW:=zh hW;have HLK:=zh hlk
 obtain ⟨ds,hds⟩:∃ ds,ds=({ sl S us with kids:=last }:Slt).cells:=⟨_,rfl⟩
 have HDL:Hid (ds.length=17):=by show _=_;rw [hds];rfl
 have HDS:=zh hds;have HTA:=zh hta;have HTW:=zh (h.below hbl)
 have HTL:Hid (t<w.heap.size+1):=Nat.lt_succ_of_lt h.lt
 have HAL:=zh hA.lt
 have HLA:Hid (w.heap.size≠a):=Nat.ne_of_gt hA.lt
 have HP:Hid (∀ W':World,Below (w.heap.size+1) W W'->Calls Tryz.prog 107 #[.pointer (some ⟨a,0,none⟩),.int .i64 us,.agg ds.toArray] W' fun e w' => e = .returned .nilIface/\ArAt a (put S us { sl S us with kids:=last }) fr (nw+1) w'/\Only (fun b => b=a) W' w'):=fun W' hb => by
  rw [hds]
  exact aput_ok (hA.keep ((hb.block a (by have:=hA.lt;omega)).trans (hbl.block a hA.lt))) hw us hi _
 clear h hA hi hcs hbl hW hlk hsz hw hds
 go_enter Tryz.func184,Tryz.ntmps184
 go_wp2
 rw [<- HW.out]
 refine wp_region_held_drew (S:=fun W' => W'.cell? ⟨t,0,none⟩=some (.pointer (some ⟨a,0,none⟩))/\W'.cell? ⟨w.heap.size,0,none⟩=some (.int .i64 us)) (by kernel_rfl) (HSK.out _ (HBW.out.drew)) (fun _ => ?_)
 have hbk:Below (w.heap.size+1) W W.drew:=HBW.out.drew
 refine tq 0 rfl (.pointer (some ⟨t,0,none⟩)) (HSK.out _ hbk) ?_
 try simp only [zq]
 refine tq 1 rfl (.pointer (some ⟨t,0,none⟩)) (HSK.out _ hbk) ?_
 try simp only [zq]
 refine tq 2 rfl (.pointer (some ⟨t,0,none⟩)) (HSK.out _ hbk) ?_
 try simp only [zq]
 refine tq 3 rfl (.pointer (some ⟨a,0,none⟩)) (HSK.out _ hbk) ?_
 try simp only [zq]
 refine tq 4 rfl (.pointer (some ⟨w.heap.size,0,none⟩)) (HSK.out _ hbk) ?_
 try simp only [zq]
 refine tq 5 rfl (.int .i64 us) (HSK.out _ hbk) ?_
 try simp only [zq]
 refine wpAnyH_ready (rs:=[6,10]) (by kernel_rfl) (by simp) (AllReadyH.cons rfl (fun K hK => ?_) (AllReadyH.cons rfl (fun K hK => ?_) AllReadyH.nil))
 ·go_simp
  refine (HG.out _ hbk).mono ?_
  rintro e w3 ⟨rfl,hb3⟩
  have hbk3:=hbk.trans (hb3.mono (Nat.le_trans HN0.out hbk.size))
  refine hK.out _ _ (HSK.out _ hbk3) (fun _ => ?_)
  clear hK K
  skip
  clear hbk
  have hbk:=hbk3
  clear hbk3 hb3
  try simp only [zq]
  refine tq 7 rfl (.tuple #[.agg cs.toArray,.nilIface]) (HSK.out _ hbk) ?_
  try simp only [zq]
  refine tq 8 rfl (.agg cs.toArray) (HSK.out _ hbk) ?_
  try simp only [zq]
  refine tq 9 rfl .nilIface (HSK.out _ hbk) ?_
  try simp only [zq]
  refine zr 10 rfl (fun K hK => ?_)
  go_simp
  obtain ⟨b,hbq⟩:∃ b,b=(w3).heap.size:=⟨_,rfl⟩
  have hge:(w.heap.size+1)<=b:=by rw [hbq];exact Nat.le_trans HN0.out hbk.size
  have hbk4:=hbk.alloc (by rw [<- hbq];exact hge) (.cells #[.bool false,.bool false,.int .i64 0,.int .i64 0,.int .i64 0,.int .i64 0,.int .i64 0,.int .i64 0,.int .i64 0,.int .i64 0,.string ⟨#[]⟩,.string ⟨#[]⟩,.int .u64 0,.int .i64 0,.int .i64 0,.int .i64 0,.int .i64 0] 115)
  have hrow:(((w3).alloc (.cells #[.bool false,.bool false,.int .i64 0,.int .i64 0,.int .i64 0,.int .i64 0,.int .i64 0,.int .i64 0,.int .i64 0,.int .i64 0,.string ⟨#[]⟩,.string ⟨#[]⟩,.int .u64 0,.int .i64 0,.int .i64 0,.int .i64 0,.int .i64 0] 115))).heap[b]? = some (.cells #[.bool false,.bool false,.int .i64 0,.int .i64 0,.int .i64 0,.int .i64 0,.int .i64 0,.int .i64 0,.int .i64 0,.int .i64 0,.string ⟨#[]⟩,.string ⟨#[]⟩,.int .u64 0,.int .i64 0,.int .i64 0,.int .i64 0,.int .i64 0] 115 (0,0)):=by rw [hbq];exact World.alloc_heap_new _ _
  refine hK.out _ _ (HSK.out _ hbk4) (fun _ => ?_)
  clear hK K hbk
  have hbk:=hbk4
  clear hbk4
  try simp only [zq]
  skip
  try rw [<- hbq]
  generalize hw4:((w3).alloc (.cells #[.bool false,.bool false,.int .i64 0,.int .i64 0,.int .i64 0,.int .i64 0,.int .i64 0,.int .i64 0,.int .i64 0,.int .i64 0,.string ⟨#[]⟩,.string ⟨#[]⟩,.int .u64 0,.int .i64 0,.int .i64 0,.int .i64 0,.int .i64 0] 115))=w4 at hbk hrow ⊢
  refine zr 11 rfl (fun K hK => ?_)
  rw [if_pos (by rfl)]
  refine wp_store_mid 115 (.tmp 7) (.tmp 24) (by rfl) b 0 cs.toArray (by rfl) (by rfl) (Ag.there_row hrow _ (by rw [List.size_toArray,HCL.out];decide)) (by rw [List.size_toArray,HCL.out];kernel_rfl) (all_oneCell_toArray HC1.out) ?_
  rw [List.toList_toArray]
  have hrow2:=Ag.setCells_row b 115 cs 0 _ _ hrow
  rw [Ag.put_all (by rw [HCL.out];rfl)] at hrow2
  have hbk2:=Ag.below_setCells (b:=b) hge cs 0 _ hbk
  refine hK.out _ _ (HSK.out _ hbk2) (fun _ => ?_)
  clear hK K hbk hrow
  have hbk:=hbk2
  clear hbk2
  generalize hw5:World.setCells _ b 0 cs=w5 at hbk hrow2 ⊢
  try simp only [zq]
  refine tq 12 rfl .nilIface (HSK.out _ hbk) ?_
  try simp only [zq]
  refine wpAnyH_done (by kernel_rfl) ?_ _
  try simp only [zq]
  clear hw4 hbq
  have d2:w5.cell? ⟨b,2,none⟩=some (.int .i64 (sl S us).kids):=by rw [zc hrow2,HCS.out];rfl
  have f2:w5.frozen? ⟨b,2,none⟩=false:=by unfold World.frozen?;rw [hrow2];rfl
  have hrow3:(w5.setCell ⟨b,2,none⟩ (.int .i64 last)).heap[b]? = some (.cells ds.toArray 115 (0,0)):=by rw [heap_setCell_same _ _ _ _ _ _ hrow2,HCS.out,HDS.out];rfl
  have hbk3:Below (w.heap.size+1) W (w5.setCell ⟨b,2,none⟩ (.int .i64 last)):=hbk.setCell (p:=⟨b,2,none⟩) hge _
  have HR3:=zh hrow3;have HB3:=zh hbk3
  clear hrow2 hbk hw5 hub hrow3 hbk3
  go_wp2
  generalize hw6:w5.setCell ⟨b,2,none⟩ (.int .i64 last)=w6 at HR3 HB3 ⊢
  clear hw6 d2 f2
  have HT6:Hid (TrAt t a r w6):=HTW.out.keep (HB3.out.block t HTL.out)
  have HL6:Hid (w6.cell? ⟨w.heap.size,0,none⟩=some (.int .i64 us)):=(HB3.out.cell (p:=⟨w.heap.size,0,none⟩) (Nat.lt_succ_self _)).trans (by rw [zc HLK.out];rfl)
  have HBA:Hid (b≠a):=by have:=HAL.out;show _≠_;omega
  have HS7:Hid (∀ W':World,Only (fun b => b=a) w6 W'->W'.cell? ⟨t,0,none⟩=some (.pointer (some ⟨a,0,none⟩))/\W'.cell? ⟨w.heap.size,0,none⟩=some (.int .i64 us)/\W'.rangeAt b 0 ds):=fun W' ho => ⟨(ho.cell (p:=⟨t,0,none⟩) HT6.out.lt HTA.out).trans HT6.out.arena,(ho.cell (p:=⟨w.heap.size,0,none⟩) (World.block_lt_of_cell? w6 _ HL6.out) HLA.out).trans HL6.out,fun j u hu => by rw [ho.cell (p:=⟨b,0+j,none⟩) (zx HR3.out) HBA.out,zc HR3.out,Nat.zero_add];simpa using hu⟩
  have hO7:Only (fun b => b=a) w6 w6.drew:=(Only.refl _ _).drew
  refine wp_region_held_drew (S:=fun W' => W'.cell? ⟨t,0,none⟩=some (.pointer (some ⟨a,0,none⟩))/\W'.cell? ⟨w.heap.size,0,none⟩=some (.int .i64 us)/\W'.rangeAt b 0 ds) (by kernel_rfl) (HS7.out _ hO7) (fun _ => ?_)
  refine tq 0 rfl (.pointer (some ⟨t,0,none⟩)) (HS7.out _ hO7) ?_
  try simp only [zq]
  refine tq 1 rfl (.pointer (some ⟨t,0,none⟩)) (HS7.out _ hO7) ?_
  try simp only [zq]
  refine tq 2 rfl (.pointer (some ⟨t,0,none⟩)) (HS7.out _ hO7) ?_
  try simp only [zq]
  refine tq 3 rfl (.pointer (some ⟨a,0,none⟩)) (HS7.out _ hO7) ?_
  try simp only [zq]
  refine tq 4 rfl (.pointer (some ⟨w.heap.size,0,none⟩)) (HS7.out _ hO7) ?_
  try simp only [zq]
  refine tq 5 rfl (.int .i64 us) (HS7.out _ hO7) ?_
  try simp only [zq]
  refine tk 6 rfl (.agg ds.toArray) (fun wq hq => by obtain ⟨hq1,hq2,hq3⟩:=hq;exact St.exec_load 115 (.tmp 7) (by rfl) b 0 (by rfl) ds _ hq3 Tryz.underlying115 rfl (by rw [HDL.out];kernel_rfl)) (HS7.out _ hO7) ?_
  try simp only [zq]
  refine zr 7 rfl (fun K hK => ?_)
  go_simp
  refine (HP.out _ (HB3.out.drew)).mono ?_
  rintro e w8 ⟨rfl,hA8,hO8⟩
  have hO7:=hO7.trans hO8 (fun _ _ h => h)
  refine hK.out _ _ (HS7.out _ hO7) (fun _ => ?_)
  clear hK K
  try simp only [zq]
  refine tq 8 rfl .nilIface (HS7.out _ hO7) ?_
  try simp only [zq]
  refine wpAnyH_done (by kernel_rfl) ?_ _
  try simp only [zq]
  have HR9:=zh hA8;have HO9:=zh ((Only.of_below (F:=fun b => b=a) (HBL.out.trans (HB3.out.mono (Nat.le_succ _)))).trans hO7 (fun _ _ h => h))
  clear hA8 hO8 hO7
  go_wp2
  go_ret
  exact ⟨rfl,HR9.out,HO9.out⟩
 ·go_simp
  obtain ⟨b,hbq⟩:∃ b,b=(W).heap.size:=⟨_,rfl⟩
  have hge:(w.heap.size+1)<=b:=by rw [hbq];exact Nat.le_trans HN0.out (Nat.le_refl _)
  have hbk4:=(HBW.out.alloc HN0.out (.cells #[.bool false,.bool false,.int .i64 0,.int .i64 0,.int .i64 0,.int .i64 0,.int .i64 0,.int .i64 0,.int .i64 0,.int .i64 0,.string ⟨#[]⟩,.string ⟨#[]⟩,.int .u64 0,.int .i64 0,.int .i64 0,.int .i64 0,.int .i64 0] 115)).drew
  have hrow:(((W).alloc (.cells #[.bool false,.bool false,.int .i64 0,.int .i64 0,.int .i64 0,.int .i64 0,.int .i64 0,.int .i64 0,.int .i64 0,.int .i64 0,.string ⟨#[]⟩,.string ⟨#[]⟩,.int .u64 0,.int .i64 0,.int .i64 0,.int .i64 0,.int .i64 0] 115)).drew).heap[b]? = some (.cells #[.bool false,.bool false,.int .i64 0,.int .i64 0,.int .i64 0,.int .i64 0,.int .i64 0,.int .i64 0,.int .i64 0,.int .i64 0,.string ⟨#[]⟩,.string ⟨#[]⟩,.int .u64 0,.int .i64 0,.int .i64 0,.int .i64 0,.int .i64 0] 115 (0,0)):=by rw [hbq];exact World.alloc_heap_new _ _
  refine hK.out _ _ (HSK.out _ hbk4) (fun _ => ?_)
  clear hK K hbk
  have hbk:=hbk4
  clear hbk4
  try simp only [zq]
  try rw [show W.drew.heap.size=b from hbq.symm]
  try rw [<- hbq]
  generalize hw4:((W).alloc (.cells #[.bool false,.bool false,.int .i64 0,.int .i64 0,.int .i64 0,.int .i64 0,.int .i64 0,.int .i64 0,.int .i64 0,.int .i64 0,.string ⟨#[]⟩,.string ⟨#[]⟩,.int .u64 0,.int .i64 0,.int .i64 0,.int .i64 0,.int .i64 0] 115)).drew=w4 at hbk hrow ⊢
  refine zr 6 rfl (fun K hK => ?_)
  go_simp
  refine (HG.out _ hbk).mono ?_
  rintro e w3 ⟨rfl,hb3⟩
  have hbk3:=hbk.trans (hb3.mono (Nat.le_trans HN0.out hbk.size))
  refine hK.out _ _ (HSK.out _ hbk3) (fun _ => ?_)
  clear hK K
  have hrow:=(hb3.block b (zx hrow)).trans hrow
  clear hbk
  have hbk:=hbk3
  clear hbk3 hb3
  try simp only [zq]
  try rw [<- hbq]
  refine tq 7 rfl (.tuple #[.agg cs.toArray,.nilIface]) (HSK.out _ hbk) ?_
  try simp only [zq]
  refine tq 8 rfl (.agg cs.toArray) (HSK.out _ hbk) ?_
  try simp only [zq]
  refine tq 9 rfl .nilIface (HSK.out _ hbk) ?_
  try simp only [zq]
  refine zr 11 rfl (fun K hK => ?_)
  rw [if_pos (by rfl)]
  refine wp_store_mid 115 (.tmp 7) (.tmp 24) (by rfl) b 0 cs.toArray (by rfl) (by rfl) (Ag.there_row hrow _ (by rw [List.size_toArray,HCL.out];decide)) (by rw [List.size_toArray,HCL.out];kernel_rfl) (all_oneCell_toArray HC1.out) ?_
  rw [List.toList_toArray]
  have hrow2:=Ag.setCells_row b 115 cs 0 _ _ hrow
  rw [Ag.put_all (by rw [HCL.out];rfl)] at hrow2
  have hbk2:=Ag.below_setCells (b:=b) hge cs 0 _ hbk
  refine hK.out _ _ (HSK.out _ hbk2) (fun _ => ?_)
  clear hK K hbk hrow
  have hbk:=hbk2
  clear hbk2
  generalize hw5:World.setCells _ b 0 cs=w5 at hbk hrow2 ⊢
  try simp only [zq]
  refine tq 12 rfl .nilIface (HSK.out _ hbk) ?_
  try simp only [zq]
  refine wpAnyH_done (by kernel_rfl) ?_ _
  try simp only [zq]
  clear hw4 hbq
  have d2:w5.cell? ⟨b,2,none⟩=some (.int .i64 (sl S us).kids):=by rw [zc hrow2,HCS.out];rfl
  have f2:w5.frozen? ⟨b,2,none⟩=false:=by unfold World.frozen?;rw [hrow2];rfl
  have hrow3:(w5.setCell ⟨b,2,none⟩ (.int .i64 last)).heap[b]? = some (.cells ds.toArray 115 (0,0)):=by rw [heap_setCell_same _ _ _ _ _ _ hrow2,HCS.out,HDS.out];rfl
  have hbk3:Below (w.heap.size+1) W (w5.setCell ⟨b,2,none⟩ (.int .i64 last)):=hbk.setCell (p:=⟨b,2,none⟩) hge _
  have HR3:=zh hrow3;have HB3:=zh hbk3
  clear hrow2 hbk hw5 hub hrow3 hbk3
  go_wp2
  generalize hw6:w5.setCell ⟨b,2,none⟩ (.int .i64 last)=w6 at HR3 HB3 ⊢
  clear hw6 d2 f2
  have HT6:Hid (TrAt t a r w6):=HTW.out.keep (HB3.out.block t HTL.out)
  have HL6:Hid (w6.cell? ⟨w.heap.size,0,none⟩=some (.int .i64 us)):=(HB3.out.cell (p:=⟨w.heap.size,0,none⟩) (Nat.lt_succ_self _)).trans (by rw [zc HLK.out];rfl)
  have HBA:Hid (b≠a):=by have:=HAL.out;show _≠_;omega
  have HS7:Hid (∀ W':World,Only (fun b => b=a) w6 W'->W'.cell? ⟨t,0,none⟩=some (.pointer (some ⟨a,0,none⟩))/\W'.cell? ⟨w.heap.size,0,none⟩=some (.int .i64 us)/\W'.rangeAt b 0 ds):=fun W' ho => ⟨(ho.cell (p:=⟨t,0,none⟩) HT6.out.lt HTA.out).trans HT6.out.arena,(ho.cell (p:=⟨w.heap.size,0,none⟩) (World.block_lt_of_cell? w6 _ HL6.out) HLA.out).trans HL6.out,fun j u hu => by rw [ho.cell (p:=⟨b,0+j,none⟩) (zx HR3.out) HBA.out,zc HR3.out,Nat.zero_add];simpa using hu⟩
  have hO7:Only (fun b => b=a) w6 w6.drew:=(Only.refl _ _).drew
  refine wp_region_held_drew (S:=fun W' => W'.cell? ⟨t,0,none⟩=some (.pointer (some ⟨a,0,none⟩))/\W'.cell? ⟨w.heap.size,0,none⟩=some (.int .i64 us)/\W'.rangeAt b 0 ds) (by kernel_rfl) (HS7.out _ hO7) (fun _ => ?_)
  refine tq 0 rfl (.pointer (some ⟨t,0,none⟩)) (HS7.out _ hO7) ?_
  try simp only [zq]
  refine tq 1 rfl (.pointer (some ⟨t,0,none⟩)) (HS7.out _ hO7) ?_
  try simp only [zq]
  refine tq 2 rfl (.pointer (some ⟨t,0,none⟩)) (HS7.out _ hO7) ?_
  try simp only [zq]
  refine tq 3 rfl (.pointer (some ⟨a,0,none⟩)) (HS7.out _ hO7) ?_
  try simp only [zq]
  refine tq 4 rfl (.pointer (some ⟨w.heap.size,0,none⟩)) (HS7.out _ hO7) ?_
  try simp only [zq]
  refine tq 5 rfl (.int .i64 us) (HS7.out _ hO7) ?_
  try simp only [zq]
  refine tk 6 rfl (.agg ds.toArray) (fun wq hq => by obtain ⟨hq1,hq2,hq3⟩:=hq;exact St.exec_load 115 (.tmp 7) (by rfl) b 0 (by rfl) ds _ hq3 Tryz.underlying115 rfl (by rw [HDL.out];kernel_rfl)) (HS7.out _ hO7) ?_
  try simp only [zq]
  refine zr 7 rfl (fun K hK => ?_)
  go_simp
  refine (HP.out _ (HB3.out.drew)).mono ?_
  rintro e w8 ⟨rfl,hA8,hO8⟩
  have hO7:=hO7.trans hO8 (fun _ _ h => h)
  refine hK.out _ _ (HS7.out _ hO7) (fun _ => ?_)
  clear hK K
  try simp only [zq]
  refine tq 8 rfl .nilIface (HS7.out _ hO7) ?_
  try simp only [zq]
  refine wpAnyH_done (by kernel_rfl) ?_ _
  try simp only [zq]
  have HR9:=zh hA8;have HO9:=zh ((Only.of_below (F:=fun b => b=a) (HBL.out.trans (HB3.out.mono (Nat.le_succ _)))).trans hO7 (fun _ _ h => h))
  clear hA8 hO8 hO7
  go_wp2
  go_ret
  exact ⟨rfl,HR9.out,HO9.out⟩
end
end Fr
end
end Go.Proofs.YtimhglmfckfclaaGreatDoor
