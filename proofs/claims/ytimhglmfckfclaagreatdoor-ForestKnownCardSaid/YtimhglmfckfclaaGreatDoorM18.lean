/- Parts of the proof. -/
import Derived.Test.YtimhglmfckfclaaGreatDoorM17
set_option linter.unusedVariables false
set_option linter.unusedSimpArgs false
set_option maxRecDepth 100000
set_option maxHeartbeats 16000000
namespace Go.Proofs.YtimhglmfckfclaaGreatDoor
section
open Go.RowKit Go.Maps
namespace Fr
open Vw (Sess)
def GbAt (t a:Nat) (r:Int) (w:World):Prop:=w.heap[t]? = some (.cells #[.pointer (some ⟨a,0,none⟩),.int .i64 r] 203 (0,0))
section
variable {t a:Nat} {r:Int} {S:List Slt} {fr:List Int} {nw:Nat} {w:World}
theorem GbAt.lt (h:GbAt t a r w):t<w.heap.size:=(zx h)
theorem GbAt.keep {w':World} (h:GbAt t a r w) (e:w'.heap[t]? = w.heap[t]?):GbAt t a r w':=e.trans h
theorem GbAt.below {w':World} (h:GbAt t a r w) (hb:Below w.heap.size w w'):GbAt t a r w':=h.keep (hb.block t h.lt)
theorem GbAt.arena (h:GbAt t a r w):w.cell? ⟨t,0,none⟩=some (.pointer (some ⟨a,0,none⟩)):=zl h rfl
theorem GbAt.last (h:GbAt t a r w):w.cell? ⟨t,1,none⟩=some (.int .i64 r):=zl h rfl
theorem GbAt.free (h:GbAt t a r w) (k:Nat):w.frozen? ⟨t,k,none⟩=false:=by unfold World.frozen?;rw [show w.heap[t]? = _ from h];rfl
theorem GbAt.set (h:GbAt t a r w) (r':Int):GbAt t a r' (w.setCell ⟨t,1,none⟩ (.int .i64 r')):=by
 unfold GbAt
 rw [heap_setCell_same _ _ _ _ _ _ h];rfl
theorem GbAt.only (h:GbAt t a r w) (hta:t≠a) {w':World} (ho:Only (fun b => b=a) w w'):GbAt t a r w':=h.keep (ho.block t h.lt hta)
theorem GbAt.cells (h:GbAt t a r w):w.cell? ⟨t,0,none⟩=some (.pointer (some ⟨a,0,none⟩))/\w.cell? ⟨t,1,none⟩=some (.int .i64 r):=⟨h.arena,h.last⟩
theorem glast_any (h:GbAt t a r w):Calls Tryz.prog 44 #[.pointer (some ⟨t,0,none⟩)] w fun e w' => e = .returned (.int .i64 r)/\w'=w:=by
 have c:=h.last
 clear h
 go_enter Tryz.func44,Tryz.ntmps44
 go_wp2
 go_ret
 exact ⟨rfl,rfl⟩
theorem tlast_any (h:TrAt t a r w):Calls Tryz.prog 45 #[.pointer (some ⟨t,0,none⟩)] w fun e w' => e = .returned (.int .i64 r)/\w'=w:=by
 have c:=h.last
 clear h
 go_enter Tryz.func45,Tryz.ntmps45
 go_wp2
 go_ret
 exact ⟨rfl,rfl⟩
theorem gadd_ok (h:GbAt t a r w) (hA:ArAt a S fr nw w) (hw:nw+3<=4611686018427387904) (hta:t≠a) (i:Int) (hi:thr i=true) (hu:(sl S i).used=true) (hc:canPush S r i=true) :
  Calls Tryz.prog 139 #[.pointer (some ⟨t,0,none⟩),.int .i64 i] w fun e w' => e = .returned .nilIface/\GbAt t a i w'/\(∃ nw',nw<=nw'/\nw'<=nw+3/\ArAt a (pushS S r i) fr nw' w')/\Only (fun b => b=t\/b=a) w w':=by
 obtain ⟨cs,hcs⟩:∃ cs,cs=(sl S i).cells:=⟨_,rfl⟩
 have hget:=aget_ok hA i hi
 rw [<- hcs] at hget
 have HG:=zh hget
 have c1:=h.arena
 have HPUSH:Hid (∀ W,Below w.heap.size w W->Calls Tryz.prog 183 #[.pointer (some ⟨a,0,none⟩),.int .i64 r,.int .i64 i] W fun e w' => e = .returned (.tuple #[.int .i64 i,.nilIface])/\(∃ nw',nw<=nw'/\nw'<=nw+3/\ArAt a (pushS S r i) fr nw' w')/\Only (fun b => b=a) W w'):=fun W hb => apush_ok (hA.below hb) hw r i hc
 have HCL:Hid (cs.length=17):=by show _=_;rw [hcs];rfl
 have HC1:Hid (∀ u ∈ cs,u.oneCell'=true):=by show ∀ _,_;rw [hcs];exact (sl S i).one
 have HCU:Hid (cs[0]? = some (.bool true)):=by show _=_;rw [hcs,<- hu];rfl
 have HH:=zh h;have HTA:=zh hta
 clear h hA hw hta hi hu hc hcs hget
 go_enter Tryz.func139,Tryz.ntmps139
 go_wp2_with fail
 refine HG.out.mono ?_
 rintro e w3 ⟨rfl,hb3⟩
 obtain ⟨W4,hW4⟩:∃ W4,W4=w3.alloc (.cells cs.toArray 115):=⟨_,rfl⟩
 obtain ⟨b,hb⟩:∃ b,b=w3.heap.size:=⟨_,rfl⟩
 have hr4:W4.heap[b]? = some (.cells cs.toArray 115 (0,0)):=by rw [hW4,hb];exact World.alloc_heap_new _ _
 have hb4:Below w.heap.size w W4:=by rw [hW4];exact hb3.alloc hb3.size _
 have d0:W4.cell? ⟨b,0,none⟩=some (.bool true):=by rw [zc hr4,List.getElem?_toArray];exact HCU.out
 have HW4:=zh hW4;have HBQ:=zh hb;have HB4:=zh hb4
 have HH4:=zh (HH.out.below hb4)
 clear hr4 hb4 hb hW4 hb3 c1
 go_upto_region 2 with (first
  | (refine Ag.wpList_store_new (by rfl) 115 (.tmp 5) (.tmp 15) (by rfl) cs (by rfl) (by rfl) (by rw [HCL.out];kernel_rfl) (by rw [HCL.out];rfl) HC1.out ?_))
 rw [<- HW4.out,<- HBQ.out]
 go_wp2_with fail
 have HS7:Hid (∀ W':World,Only (fun b => b=a) W4 W'->W'.cell? ⟨t,0,none⟩=some (.pointer (some ⟨a,0,none⟩))/\W'.cell? ⟨t,1,none⟩=some (.int .i64 r)):=fun W' ho => (HH4.out.only HTA.out ho).cells
 have hO7:Only (fun b => b=a) W4 W4.drew:=(Only.refl _ _).drew
 refine wp_region_held_drew (S:=fun W' => W'.cell? ⟨t,0,none⟩=some (.pointer (some ⟨a,0,none⟩))/\W'.cell? ⟨t,1,none⟩=some (.int .i64 r)) (by kernel_rfl) (HS7.out _ hO7) (fun _ => ?_)
 refine tq 0 rfl (.pointer (some ⟨t,0,none⟩)) (HS7.out _ hO7) ?_
 try simp only [zq]
 refine tq 1 rfl (.pointer (some ⟨t,0,none⟩)) (HS7.out _ hO7) ?_
 try simp only [zq]
 refine tq 2 rfl (.pointer (some ⟨t,0,none⟩)) (HS7.out _ hO7) ?_
 try simp only [zq]
 refine tq 3 rfl (.pointer (some ⟨a,0,none⟩)) (HS7.out _ hO7) ?_
 try simp only [zq]
 refine tq 4 rfl (.pointer (some ⟨t,0,none⟩)) (HS7.out _ hO7) ?_
 try simp only [zq]
 refine tq 5 rfl (.pointer (some ⟨t,0,none⟩)) (HS7.out _ hO7) ?_
 try simp only [zq]
 refine tq 6 rfl (.pointer (some ⟨t,1,none⟩)) (HS7.out _ hO7) ?_
 try simp only [zq]
 refine tq 7 rfl (.int .i64 r) (HS7.out _ hO7) ?_
 try simp only [zq]
 refine tq 8 rfl (.int .i64 i) (HS7.out _ hO7) ?_
 try simp only [zq]
 refine zr 9 rfl (fun K hK => ?_)
 go_simp
 refine (HPUSH.out _ (HB4.out.drew)).mono ?_
 rintro e w8 ⟨rfl,⟨n8,hn8,hn8',hA8⟩,hO8⟩
 have hO7:=hO7.trans hO8 (fun _ _ h => h)
 refine hK.out _ _ (HS7.out _ hO7) (fun _ => ?_)
 clear hK K
 try simp only [zq]
 refine tq 10 rfl (.tuple #[.int .i64 i,.nilIface]) (HS7.out _ hO7) ?_
 try simp only [zq]
 refine tq 11 rfl (.int .i64 i) (HS7.out _ hO7) ?_
 try simp only [zq]
 refine tq 12 rfl .nilIface (HS7.out _ hO7) ?_
 try simp only [zq]
 refine tq 13 rfl (.int .i64 i) (HS7.out _ hO7) ?_
 try simp only [zq]
 refine tq 14 rfl .nilIface (HS7.out _ hO7) ?_
 try simp only [zq]
 refine wpAnyH_done (by kernel_rfl) ?_ _
 try simp only [zq]
 have hG8:=HH4.out.only HTA.out hO7
 have c8:=hG8.last
 have f8:=hG8.free 1
 have HE:Hid (GbAt t a i (w8.setCell ⟨t,1,none⟩ (.int .i64 i))/\(∃ nw',nw<=nw'/\nw'<=nw+3/\ArAt a (pushS S r i) fr nw' (w8.setCell ⟨t,1,none⟩ (.int .i64 i)))/\Only (fun b => b=t\/b=a) w (w8.setCell ⟨t,1,none⟩ (.int .i64 i))):=⟨hG8.set i,⟨n8,hn8,hn8',hA8.keep (Below.heap_setCell _ _ _ _ (fun e => HTA.out e.symm))⟩,(((Only.of_below (F:=fun b => b=a) HB4.out).trans hO7 (fun _ _ h => h)).mono (fun _ _ => .inr)).setCell (p:=⟨t,1,none⟩) (fun _ => .inl rfl) _⟩
 clear hG8 hA8 hO8 hO7 hn8 hn8'
 go_wp2
 go_ret
 exact ⟨rfl,HE.out⟩
theorem gfirst_ok (h:GbAt t a r w) (hA:ArAt a S fr nw w) (f:Int) (hf:f=(sl S r).next) (hr:thr r=true) (htf:thr f=true) :
  Calls Tryz.prog 224 #[.pointer (some ⟨t,0,none⟩)] w fun e w' => e = .returned (.tuple #[.int .i64 f,.int .i64 (sl S f).kids,.nilIface])/\Below w.heap.size w w':=by
 obtain ⟨cs,hcs⟩:∃ cs,cs=(sl S r).cells:=⟨_,rfl⟩
 obtain ⟨ds,hds⟩:∃ ds,ds=(sl S f).cells:=⟨_,rfl⟩
 obtain ⟨kd,hkd⟩:∃ kd,kd=(sl S f).kids:=⟨_,rfl⟩
 have HBW:Hid (Below w.heap.size w w):=Below.refl _ _
 have HN0:Hid (w.heap.size<=w.heap.size):=Nat.le_refl _
 have HSK:Hid (∀ W':World,Below w.heap.size w W'->W'.cell? ⟨t,0,none⟩=some (.pointer (some ⟨a,0,none⟩))/\W'.cell? ⟨t,1,none⟩=some (.int .i64 r)):=fun W' hb => (h.below hb).cells
 have HG:Hid (∀ W':World,Below w.heap.size w W'->Calls Tryz.prog 46 #[.pointer (some ⟨a,0,none⟩),.int .i64 r] W' fun e w' => e = .returned (.tuple #[.agg cs.toArray,.nilIface])/\Below W'.heap.size W' w'):=fun W' hb => by rw [hcs];exact aget_ok (hA.below hb) r hr
 have HG2:Hid (∀ W':World,Below w.heap.size w W'->Calls Tryz.prog 46 #[.pointer (some ⟨a,0,none⟩),.int .i64 f] W' fun e w' => e = .returned (.tuple #[.agg ds.toArray,.nilIface])/\Below W'.heap.size W' w'):=fun W' hb => by rw [hds];exact aget_ok (hA.below hb) f htf
 have HCL:Hid (cs.length=17):=by show _=_;rw [hcs];rfl
 have HC1:Hid (∀ u ∈ cs,u.oneCell'=true):=by show ∀ _,_;rw [hcs];exact (sl S r).one
 have HDL:Hid (ds.length=17):=by show _=_;rw [hds];rfl
 have HD1:Hid (∀ u ∈ ds,u.oneCell'=true):=by show ∀ _,_;rw [hds];exact (sl S f).one
 have HCF:Hid (cs[4]? = some (.int .i64 f)):=by show _=_;rw [hcs,hf];rfl
 have HDK:Hid (ds[2]? = some (.int .i64 kd)):=by show _=_;rw [hds,hkd];rfl
 rw [<- hkd]
 clear h hA hf hr htf hcs hds hkd
 go_enter Tryz.func224,Tryz.ntmps224
 go_wp2_with fail
 refine wp_region_held_drew (S:=fun W' => W'.cell? ⟨t,0,none⟩=some (.pointer (some ⟨a,0,none⟩))/\W'.cell? ⟨t,1,none⟩=some (.int .i64 r)) (by kernel_rfl) (HSK.out _ (HBW.out.drew)) (fun _ => ?_)
 have hbkx:Below w.heap.size w w.drew:=HBW.out.drew
 refine tq 0 rfl (.pointer (some ⟨t,0,none⟩)) (HSK.out _ hbkx) ?_
 try simp only [zq]
 refine tq 1 rfl (.pointer (some ⟨t,0,none⟩)) (HSK.out _ hbkx) ?_
 try simp only [zq]
 refine tq 2 rfl (.pointer (some ⟨t,0,none⟩)) (HSK.out _ hbkx) ?_
 try simp only [zq]
 refine tq 3 rfl (.pointer (some ⟨a,0,none⟩)) (HSK.out _ hbkx) ?_
 try simp only [zq]
 refine tq 4 rfl (.pointer (some ⟨t,0,none⟩)) (HSK.out _ hbkx) ?_
 try simp only [zq]
 refine tq 5 rfl (.pointer (some ⟨t,0,none⟩)) (HSK.out _ hbkx) ?_
 try simp only [zq]
 refine tq 6 rfl (.pointer (some ⟨t,1,none⟩)) (HSK.out _ hbkx) ?_
 try simp only [zq]
 refine tq 7 rfl (.int .i64 r) (HSK.out _ hbkx) ?_
 try simp only [zq]
 refine wpAnyH_ready (rs:=[8,12]) (by kernel_rfl) (by simp) (AllReadyH.cons rfl (fun K hK => ?_) (AllReadyH.cons rfl (fun K hK => ?_) AllReadyH.nil))
 ·go_simp
  refine (HG.out _ hbkx).mono ?_
  rintro e w3x ⟨rfl,hb3⟩
  have hbk3:=hbkx.trans (hb3.mono (Nat.le_trans HN0.out hbkx.size))
  refine hK.out _ _ (HSK.out _ hbk3) (fun _ => ?_)
  clear hK K
  clear hbkx
  have hbkx:=hbk3
  clear hbk3 hb3
  try simp only [zq]
  refine tq 9 rfl (.tuple #[.agg cs.toArray,.nilIface]) (HSK.out _ hbkx) ?_
  try simp only [zq]
  refine tq 10 rfl (.agg cs.toArray) (HSK.out _ hbkx) ?_
  try simp only [zq]
  refine tq 11 rfl .nilIface (HSK.out _ hbkx) ?_
  try simp only [zq]
  refine zr 12 rfl (fun K hK => ?_)
  go_simp
  obtain ⟨bx,hbqx⟩:∃ b,b=(w3x).heap.size:=⟨_,rfl⟩
  have hgex:w.heap.size<=bx:=by rw [hbqx];exact Nat.le_trans HN0.out hbkx.size
  have hbk4:=hbkx.alloc (by rw [<- hbqx];exact hgex) (.cells #[.bool false,.bool false,.int .i64 0,.int .i64 0,.int .i64 0,.int .i64 0,.int .i64 0,.int .i64 0,.int .i64 0,.int .i64 0,.string ⟨#[]⟩,.string ⟨#[]⟩,.int .u64 0,.int .i64 0,.int .i64 0,.int .i64 0,.int .i64 0] 115)
  have hrowx:(((w3x).alloc (.cells #[.bool false,.bool false,.int .i64 0,.int .i64 0,.int .i64 0,.int .i64 0,.int .i64 0,.int .i64 0,.int .i64 0,.int .i64 0,.string ⟨#[]⟩,.string ⟨#[]⟩,.int .u64 0,.int .i64 0,.int .i64 0,.int .i64 0,.int .i64 0] 115))).heap[bx]? = some (.cells #[.bool false,.bool false,.int .i64 0,.int .i64 0,.int .i64 0,.int .i64 0,.int .i64 0,.int .i64 0,.int .i64 0,.int .i64 0,.string ⟨#[]⟩,.string ⟨#[]⟩,.int .u64 0,.int .i64 0,.int .i64 0,.int .i64 0,.int .i64 0] 115 (0,0)):=by rw [hbqx];exact World.alloc_heap_new _ _
  refine hK.out _ _ (HSK.out _ hbk4) (fun _ => ?_)
  clear hK K hbkx
  have hbkx:=hbk4
  clear hbk4
  try simp only [zq]
  try rw [<- hbqx]
  generalize hw4:((w3x).alloc (.cells #[.bool false,.bool false,.int .i64 0,.int .i64 0,.int .i64 0,.int .i64 0,.int .i64 0,.int .i64 0,.int .i64 0,.int .i64 0,.string ⟨#[]⟩,.string ⟨#[]⟩,.int .u64 0,.int .i64 0,.int .i64 0,.int .i64 0,.int .i64 0] 115))=w4x at hbkx hrowx ⊢
  refine zr 13 rfl (fun K hK => ?_)
  rw [if_pos (by rfl)]
  refine wp_store_mid 115 (.tmp 5) (.tmp 18) (by rfl) bx 0 cs.toArray (by rfl) (by rfl) (Ag.there_row hrowx _ (by rw [List.size_toArray,HCL.out];decide)) (by rw [List.size_toArray,HCL.out];kernel_rfl) (all_oneCell_toArray HC1.out) ?_
  rw [List.toList_toArray]
  have hrow2:=Ag.setCells_row bx 115 cs 0 _ _ hrowx
  rw [Ag.put_all (by rw [HCL.out];rfl)] at hrow2
  have hbk2:=Ag.below_setCells (b:=bx) hgex cs 0 _ hbkx
  refine hK.out _ _ (HSK.out _ hbk2) (fun _ => ?_)
  clear hK K hbkx hrowx
  have hbkx:=hbk2
  have hrowx:=hrow2
  clear hbk2 hrow2
  generalize hw5:World.setCells _ bx 0 cs=w5x at hbkx hrowx ⊢
  clear hw5
  try simp only [zq]
  refine tq 14 rfl .nilIface (HSK.out _ hbkx) ?_
  try simp only [zq]
  refine wpAnyH_done (by kernel_rfl) ?_ _
  try simp only [zq]
  clear hw4 hbqx
  have e4:w5x.cell? ⟨bx,4,none⟩=some (.int .i64 f):=by rw [zc hrowx,List.getElem?_toArray];exact HCF.out
  have HE4:=zh e4;have HROWX:=zh hrowx;have HBKX:=zh hbkx;have HGEX:=zh hgex
  have HBW2:Hid (Below w5x.heap.size w5x w5x):=Below.refl _ _
  have HN2:Hid (w5x.heap.size<=w5x.heap.size):=Nat.le_refl _
  have HSK2:Hid (∀ W':World,Below w5x.heap.size w5x W'->W'.cell? ⟨t,0,none⟩=some (.pointer (some ⟨a,0,none⟩))/\W'.cell? ⟨bx,4,none⟩=some (.int .i64 f)):=fun W' hb => ⟨(HSK.out _ (HBKX.out.trans (hb.mono HBKX.out.size))).1,(hb.cell (p:=⟨bx,4,none⟩) (World.block_lt_of_cell? w5x _ HE4.out)).trans HE4.out⟩
  have HG3:Hid (∀ W':World,Below w5x.heap.size w5x W'->Calls Tryz.prog 46 #[.pointer (some ⟨a,0,none⟩),.int .i64 f] W' fun e w' => e = .returned (.tuple #[.agg ds.toArray,.nilIface])/\Below W'.heap.size W' w'):=fun W' hb => HG2.out _ (HBKX.out.trans (hb.mono HBKX.out.size))
  clear e4 hrowx hbkx hgex
  go_wp2_with fail
  refine wp_region_held_drew (S:=fun W' => W'.cell? ⟨t,0,none⟩=some (.pointer (some ⟨a,0,none⟩))/\W'.cell? ⟨bx,4,none⟩=some (.int .i64 f)) (by kernel_rfl) (HSK2.out _ (HBW2.out.drew)) (fun _ => ?_)
  have hbkyy:Below w5x.heap.size w5x w5x.drew:=HBW2.out.drew
  refine tq 0 rfl (.pointer (some ⟨t,0,none⟩)) (HSK2.out _ hbkyy) ?_
  try simp only [zq]
  refine tq 1 rfl (.pointer (some ⟨t,0,none⟩)) (HSK2.out _ hbkyy) ?_
  try simp only [zq]
  refine tq 2 rfl (.pointer (some ⟨t,0,none⟩)) (HSK2.out _ hbkyy) ?_
  try simp only [zq]
  refine tq 3 rfl (.pointer (some ⟨a,0,none⟩)) (HSK2.out _ hbkyy) ?_
  try simp only [zq]
  refine tq 4 rfl (.pointer (some ⟨bx,4,none⟩)) (HSK2.out _ hbkyy) ?_
  try simp only [zq]
  refine tq 5 rfl (.int .i64 f) (HSK2.out _ hbkyy) ?_
  try simp only [zq]
  refine wpAnyH_ready (rs:=[6,10]) (by kernel_rfl) (by simp) (AllReadyH.cons rfl (fun K hK => ?_) (AllReadyH.cons rfl (fun K hK => ?_) AllReadyH.nil))
  ·go_simp
   refine (HG3.out _ hbkyy).mono ?_
   rintro e w3yy ⟨rfl,hb3⟩
   have hbk3:=hbkyy.trans (hb3.mono (Nat.le_trans HN2.out hbkyy.size))
   refine hK.out _ _ (HSK2.out _ hbk3) (fun _ => ?_)
   clear hK K
   clear hbkyy
   have hbkyy:=hbk3
   clear hbk3 hb3
   try simp only [zq]
   refine tq 7 rfl (.tuple #[.agg ds.toArray,.nilIface]) (HSK2.out _ hbkyy) ?_
   try simp only [zq]
   refine tq 8 rfl (.agg ds.toArray) (HSK2.out _ hbkyy) ?_
   try simp only [zq]
   refine tq 9 rfl .nilIface (HSK2.out _ hbkyy) ?_
   try simp only [zq]
   refine zr 10 rfl (fun K hK => ?_)
   go_simp
   obtain ⟨byy,hbqyy⟩:∃ b,b=(w3yy).heap.size:=⟨_,rfl⟩
   have hgeyy:w5x.heap.size<=byy:=by rw [hbqyy];exact Nat.le_trans HN2.out hbkyy.size
   have hbk4:=hbkyy.alloc (by rw [<- hbqyy];exact hgeyy) (.cells #[.bool false,.bool false,.int .i64 0,.int .i64 0,.int .i64 0,.int .i64 0,.int .i64 0,.int .i64 0,.int .i64 0,.int .i64 0,.string ⟨#[]⟩,.string ⟨#[]⟩,.int .u64 0,.int .i64 0,.int .i64 0,.int .i64 0,.int .i64 0] 115)
   have hrowyy:(((w3yy).alloc (.cells #[.bool false,.bool false,.int .i64 0,.int .i64 0,.int .i64 0,.int .i64 0,.int .i64 0,.int .i64 0,.int .i64 0,.int .i64 0,.string ⟨#[]⟩,.string ⟨#[]⟩,.int .u64 0,.int .i64 0,.int .i64 0,.int .i64 0,.int .i64 0] 115))).heap[byy]? = some (.cells #[.bool false,.bool false,.int .i64 0,.int .i64 0,.int .i64 0,.int .i64 0,.int .i64 0,.int .i64 0,.int .i64 0,.int .i64 0,.string ⟨#[]⟩,.string ⟨#[]⟩,.int .u64 0,.int .i64 0,.int .i64 0,.int .i64 0,.int .i64 0] 115 (0,0)):=by rw [hbqyy];exact World.alloc_heap_new _ _
   refine hK.out _ _ (HSK2.out _ hbk4) (fun _ => ?_)
   clear hK K hbkyy
   have hbkyy:=hbk4
   clear hbk4
   try simp only [zq]
   try rw [<- hbqyy]
   generalize hw4:((w3yy).alloc (.cells #[.bool false,.bool false,.int .i64 0,.int .i64 0,.int .i64 0,.int .i64 0,.int .i64 0,.int .i64 0,.int .i64 0,.int .i64 0,.string ⟨#[]⟩,.string ⟨#[]⟩,.int .u64 0,.int .i64 0,.int .i64 0,.int .i64 0,.int .i64 0] 115))=w4yy at hbkyy hrowyy ⊢
   refine zr 11 rfl (fun K hK => ?_)
   rw [if_pos (by rfl)]
   refine wp_store_mid 115 (.tmp 7) (.tmp 31) (by rfl) byy 0 ds.toArray (by rfl) (by rfl) (Ag.there_row hrowyy _ (by rw [List.size_toArray,HDL.out];decide)) (by rw [List.size_toArray,HDL.out];kernel_rfl) (all_oneCell_toArray HD1.out) ?_
   rw [List.toList_toArray]
   have hrow2:=Ag.setCells_row byy 115 ds 0 _ _ hrowyy
   rw [Ag.put_all (by rw [HDL.out];rfl)] at hrow2
   have hbk2:=Ag.below_setCells (b:=byy) hgeyy ds 0 _ hbkyy
   refine hK.out _ _ (HSK2.out _ hbk2) (fun _ => ?_)
   clear hK K hbkyy hrowyy
   have hbkyy:=hbk2
   have hrowyy:=hrow2
   clear hbk2 hrow2
   generalize hw5:World.setCells _ byy 0 ds=w5yy at hbkyy hrowyy ⊢
   clear hw5
   try simp only [zq]
   refine tq 12 rfl .nilIface (HSK2.out _ hbkyy) ?_
   try simp only [zq]
   refine wpAnyH_done (by kernel_rfl) ?_ _
   try simp only [zq]
   clear hw4 hbqyy
   have e2:w5yy.cell? ⟨byy,2,none⟩=some (.int .i64 kd):=by rw [zc hrowyy,List.getElem?_toArray];exact HDK.out
   have e4:w5yy.cell? ⟨bx,4,none⟩=some (.int .i64 f):=(HSK2.out _ hbkyy).2
   have HE:Hid (Below w.heap.size w w5yy):=HBKX.out.trans (hbkyy.mono HBKX.out.size)
   clear hrowyy hbkyy hgeyy
   go_wp2_with fail
   go_quiet (fail)
   go_wp2
   refine bodyPost_ret (results_tmp3 rfl _ _ _) rfl ?_
   exact ⟨rfl,HE.out.os,HE.out.tape,HE.out.output,HE.out.size,fun b hb => HE.out.block b hb⟩
  ·go_simp
   obtain ⟨byy,hbqyy⟩:∃ b,b=(w5x).heap.size:=⟨_,rfl⟩
   have hgeyy:w5x.heap.size<=byy:=by rw [hbqyy];exact Nat.le_trans HN2.out (Nat.le_refl _)
   have hbk4:=(HBW2.out.alloc HN2.out (.cells #[.bool false,.bool false,.int .i64 0,.int .i64 0,.int .i64 0,.int .i64 0,.int .i64 0,.int .i64 0,.int .i64 0,.int .i64 0,.string ⟨#[]⟩,.string ⟨#[]⟩,.int .u64 0,.int .i64 0,.int .i64 0,.int .i64 0,.int .i64 0] 115)).drew
   have hrowyy:(((w5x).alloc (.cells #[.bool false,.bool false,.int .i64 0,.int .i64 0,.int .i64 0,.int .i64 0,.int .i64 0,.int .i64 0,.int .i64 0,.int .i64 0,.string ⟨#[]⟩,.string ⟨#[]⟩,.int .u64 0,.int .i64 0,.int .i64 0,.int .i64 0,.int .i64 0] 115)).drew).heap[byy]? = some (.cells #[.bool false,.bool false,.int .i64 0,.int .i64 0,.int .i64 0,.int .i64 0,.int .i64 0,.int .i64 0,.int .i64 0,.int .i64 0,.string ⟨#[]⟩,.string ⟨#[]⟩,.int .u64 0,.int .i64 0,.int .i64 0,.int .i64 0,.int .i64 0] 115 (0,0)):=by rw [hbqyy];exact World.alloc_heap_new _ _
   refine hK.out _ _ (HSK2.out _ hbk4) (fun _ => ?_)
   clear hK K hbkyy
   have hbkyy:=hbk4
   clear hbk4
   try simp only [zq]
   try rw [show w5x.drew.heap.size=byy from hbqyy.symm]
   try rw [<- hbqyy]
   generalize hw4:((w5x).alloc (.cells #[.bool false,.bool false,.int .i64 0,.int .i64 0,.int .i64 0,.int .i64 0,.int .i64 0,.int .i64 0,.int .i64 0,.int .i64 0,.string ⟨#[]⟩,.string ⟨#[]⟩,.int .u64 0,.int .i64 0,.int .i64 0,.int .i64 0,.int .i64 0] 115)).drew=w4yy at hbkyy hrowyy ⊢
   refine zr 6 rfl (fun K hK => ?_)
   go_simp
   refine (HG3.out _ hbkyy).mono ?_
   rintro e w3yy ⟨rfl,hb3⟩
   have hbk3:=hbkyy.trans (hb3.mono (Nat.le_trans HN2.out hbkyy.size))
   refine hK.out _ _ (HSK2.out _ hbk3) (fun _ => ?_)
   clear hK K
   have hrowyy:=(hb3.block byy (zx hrowyy)).trans hrowyy
   clear hbkyy
   have hbkyy:=hbk3
   clear hbk3 hb3
   try simp only [zq]
   try rw [<- hbqyy]
   refine tq 7 rfl (.tuple #[.agg ds.toArray,.nilIface]) (HSK2.out _ hbkyy) ?_
   try simp only [zq]
   refine tq 8 rfl (.agg ds.toArray) (HSK2.out _ hbkyy) ?_
   try simp only [zq]
   refine tq 9 rfl .nilIface (HSK2.out _ hbkyy) ?_
   try simp only [zq]
   refine zr 11 rfl (fun K hK => ?_)
   rw [if_pos (by rfl)]
   refine wp_store_mid 115 (.tmp 7) (.tmp 31) (by rfl) byy 0 ds.toArray (by rfl) (by rfl) (Ag.there_row hrowyy _ (by rw [List.size_toArray,HDL.out];decide)) (by rw [List.size_toArray,HDL.out];kernel_rfl) (all_oneCell_toArray HD1.out) ?_
   rw [List.toList_toArray]
   have hrow2:=Ag.setCells_row byy 115 ds 0 _ _ hrowyy
   rw [Ag.put_all (by rw [HDL.out];rfl)] at hrow2
   have hbk2:=Ag.below_setCells (b:=byy) hgeyy ds 0 _ hbkyy
   refine hK.out _ _ (HSK2.out _ hbk2) (fun _ => ?_)
   clear hK K hbkyy hrowyy
   have hbkyy:=hbk2
   have hrowyy:=hrow2
   clear hbk2 hrow2
   generalize hw5:World.setCells _ byy 0 ds=w5yy at hbkyy hrowyy ⊢
   clear hw5
   try simp only [zq]
   refine tq 12 rfl .nilIface (HSK2.out _ hbkyy) ?_
   try simp only [zq]
   refine wpAnyH_done (by kernel_rfl) ?_ _
   try simp only [zq]
   clear hw4 hbqyy
   have e2:w5yy.cell? ⟨byy,2,none⟩=some (.int .i64 kd):=by rw [zc hrowyy,List.getElem?_toArray];exact HDK.out
   have e4:w5yy.cell? ⟨bx,4,none⟩=some (.int .i64 f):=(HSK2.out _ hbkyy).2
   have HE:Hid (Below w.heap.size w w5yy):=HBKX.out.trans (hbkyy.mono HBKX.out.size)
   clear hrowyy hbkyy hgeyy
   go_wp2_with fail
   go_quiet (fail)
   go_wp2
   refine bodyPost_ret (results_tmp3 rfl _ _ _) rfl ?_
   exact ⟨rfl,HE.out.os,HE.out.tape,HE.out.output,HE.out.size,fun b hb => HE.out.block b hb⟩
 ·go_simp
  obtain ⟨bx,hbqx⟩:∃ b,b=(w).heap.size:=⟨_,rfl⟩
  have hgex:w.heap.size<=bx:=by rw [hbqx];exact Nat.le_trans HN0.out (Nat.le_refl _)
  have hbk4:=(HBW.out.alloc HN0.out (.cells #[.bool false,.bool false,.int .i64 0,.int .i64 0,.int .i64 0,.int .i64 0,.int .i64 0,.int .i64 0,.int .i64 0,.int .i64 0,.string ⟨#[]⟩,.string ⟨#[]⟩,.int .u64 0,.int .i64 0,.int .i64 0,.int .i64 0,.int .i64 0] 115)).drew
  have hrowx:(((w).alloc (.cells #[.bool false,.bool false,.int .i64 0,.int .i64 0,.int .i64 0,.int .i64 0,.int .i64 0,.int .i64 0,.int .i64 0,.int .i64 0,.string ⟨#[]⟩,.string ⟨#[]⟩,.int .u64 0,.int .i64 0,.int .i64 0,.int .i64 0,.int .i64 0] 115)).drew).heap[bx]? = some (.cells #[.bool false,.bool false,.int .i64 0,.int .i64 0,.int .i64 0,.int .i64 0,.int .i64 0,.int .i64 0,.int .i64 0,.int .i64 0,.string ⟨#[]⟩,.string ⟨#[]⟩,.int .u64 0,.int .i64 0,.int .i64 0,.int .i64 0,.int .i64 0] 115 (0,0)):=by rw [hbqx];exact World.alloc_heap_new _ _
  refine hK.out _ _ (HSK.out _ hbk4) (fun _ => ?_)
  clear hK K hbkx
  have hbkx:=hbk4
  clear hbk4
  try simp only [zq]
  try rw [show w.drew.heap.size=bx from hbqx.symm]
  try rw [<- hbqx]
  generalize hw4:((w).alloc (.cells #[.bool false,.bool false,.int .i64 0,.int .i64 0,.int .i64 0,.int .i64 0,.int .i64 0,.int .i64 0,.int .i64 0,.int .i64 0,.string ⟨#[]⟩,.string ⟨#[]⟩,.int .u64 0,.int .i64 0,.int .i64 0,.int .i64 0,.int .i64 0] 115)).drew=w4x at hbkx hrowx ⊢
  refine zr 8 rfl (fun K hK => ?_)
  go_simp
  refine (HG.out _ hbkx).mono ?_
  rintro e w3x ⟨rfl,hb3⟩
  have hbk3:=hbkx.trans (hb3.mono (Nat.le_trans HN0.out hbkx.size))
  refine hK.out _ _ (HSK.out _ hbk3) (fun _ => ?_)
  clear hK K
  have hrowx:=(hb3.block bx (zx hrowx)).trans hrowx
  clear hbkx
  have hbkx:=hbk3
  clear hbk3 hb3
  try simp only [zq]
  try rw [<- hbqx]
  refine tq 9 rfl (.tuple #[.agg cs.toArray,.nilIface]) (HSK.out _ hbkx) ?_
  try simp only [zq]
  refine tq 10 rfl (.agg cs.toArray) (HSK.out _ hbkx) ?_
  try simp only [zq]
  refine tq 11 rfl .nilIface (HSK.out _ hbkx) ?_
  try simp only [zq]
  refine zr 13 rfl (fun K hK => ?_)
  rw [if_pos (by rfl)]
  refine wp_store_mid 115 (.tmp 5) (.tmp 18) (by rfl) bx 0 cs.toArray (by rfl) (by rfl) (Ag.there_row hrowx _ (by rw [List.size_toArray,HCL.out];decide)) (by rw [List.size_toArray,HCL.out];kernel_rfl) (all_oneCell_toArray HC1.out) ?_
  rw [List.toList_toArray]
  have hrow2:=Ag.setCells_row bx 115 cs 0 _ _ hrowx
  rw [Ag.put_all (by rw [HCL.out];rfl)] at hrow2
  have hbk2:=Ag.below_setCells (b:=bx) hgex cs 0 _ hbkx
  refine hK.out _ _ (HSK.out _ hbk2) (fun _ => ?_)
  clear hK K hbkx hrowx
  have hbkx:=hbk2
  have hrowx:=hrow2
  clear hbk2 hrow2
  generalize hw5:World.setCells _ bx 0 cs=w5x at hbkx hrowx ⊢
  clear hw5
  try simp only [zq]
  refine tq 14 rfl .nilIface (HSK.out _ hbkx) ?_
  try simp only [zq]
  refine wpAnyH_done (by kernel_rfl) ?_ _
  try simp only [zq]
  clear hw4 hbqx
  have e4:w5x.cell? ⟨bx,4,none⟩=some (.int .i64 f):=by rw [zc hrowx,List.getElem?_toArray];exact HCF.out
  have HE4:=zh e4;have HROWX:=zh hrowx;have HBKX:=zh hbkx;have HGEX:=zh hgex
  have HBW2:Hid (Below w5x.heap.size w5x w5x):=Below.refl _ _
  have HN2:Hid (w5x.heap.size<=w5x.heap.size):=Nat.le_refl _
  have HSK2:Hid (∀ W':World,Below w5x.heap.size w5x W'->W'.cell? ⟨t,0,none⟩=some (.pointer (some ⟨a,0,none⟩))/\W'.cell? ⟨bx,4,none⟩=some (.int .i64 f)):=fun W' hb => ⟨(HSK.out _ (HBKX.out.trans (hb.mono HBKX.out.size))).1,(hb.cell (p:=⟨bx,4,none⟩) (World.block_lt_of_cell? w5x _ HE4.out)).trans HE4.out⟩
  have HG3:Hid (∀ W':World,Below w5x.heap.size w5x W'->Calls Tryz.prog 46 #[.pointer (some ⟨a,0,none⟩),.int .i64 f] W' fun e w' => e = .returned (.tuple #[.agg ds.toArray,.nilIface])/\Below W'.heap.size W' w'):=fun W' hb => HG2.out _ (HBKX.out.trans (hb.mono HBKX.out.size))
  clear e4 hrowx hbkx hgex
  go_wp2_with fail
  refine wp_region_held_drew (S:=fun W' => W'.cell? ⟨t,0,none⟩=some (.pointer (some ⟨a,0,none⟩))/\W'.cell? ⟨bx,4,none⟩=some (.int .i64 f)) (by kernel_rfl) (HSK2.out _ (HBW2.out.drew)) (fun _ => ?_)
  have hbkyy:Below w5x.heap.size w5x w5x.drew:=HBW2.out.drew
  refine tq 0 rfl (.pointer (some ⟨t,0,none⟩)) (HSK2.out _ hbkyy) ?_
  try simp only [zq]
  refine tq 1 rfl (.pointer (some ⟨t,0,none⟩)) (HSK2.out _ hbkyy) ?_
  try simp only [zq]
  refine tq 2 rfl (.pointer (some ⟨t,0,none⟩)) (HSK2.out _ hbkyy) ?_
  try simp only [zq]
  refine tq 3 rfl (.pointer (some ⟨a,0,none⟩)) (HSK2.out _ hbkyy) ?_
  try simp only [zq]
  refine tq 4 rfl (.pointer (some ⟨bx,4,none⟩)) (HSK2.out _ hbkyy) ?_
  try simp only [zq]
  refine tq 5 rfl (.int .i64 f) (HSK2.out _ hbkyy) ?_
  try simp only [zq]
  refine wpAnyH_ready (rs:=[6,10]) (by kernel_rfl) (by simp) (AllReadyH.cons rfl (fun K hK => ?_) (AllReadyH.cons rfl (fun K hK => ?_) AllReadyH.nil))
  ·go_simp
   refine (HG3.out _ hbkyy).mono ?_
   rintro e w3yy ⟨rfl,hb3⟩
   have hbk3:=hbkyy.trans (hb3.mono (Nat.le_trans HN2.out hbkyy.size))
   refine hK.out _ _ (HSK2.out _ hbk3) (fun _ => ?_)
   clear hK K
   clear hbkyy
   have hbkyy:=hbk3
   clear hbk3 hb3
   try simp only [zq]
   refine tq 7 rfl (.tuple #[.agg ds.toArray,.nilIface]) (HSK2.out _ hbkyy) ?_
   try simp only [zq]
   refine tq 8 rfl (.agg ds.toArray) (HSK2.out _ hbkyy) ?_
   try simp only [zq]
   refine tq 9 rfl .nilIface (HSK2.out _ hbkyy) ?_
   try simp only [zq]
   refine zr 10 rfl (fun K hK => ?_)
   go_simp
   obtain ⟨byy,hbqyy⟩:∃ b,b=(w3yy).heap.size:=⟨_,rfl⟩
   have hgeyy:w5x.heap.size<=byy:=by rw [hbqyy];exact Nat.le_trans HN2.out hbkyy.size
   have hbk4:=hbkyy.alloc (by rw [<- hbqyy];exact hgeyy) (.cells #[.bool false,.bool false,.int .i64 0,.int .i64 0,.int .i64 0,.int .i64 0,.int .i64 0,.int .i64 0,.int .i64 0,.int .i64 0,.string ⟨#[]⟩,.string ⟨#[]⟩,.int .u64 0,.int .i64 0,.int .i64 0,.int .i64 0,.int .i64 0] 115)
   have hrowyy:(((w3yy).alloc (.cells #[.bool false,.bool false,.int .i64 0,.int .i64 0,.int .i64 0,.int .i64 0,.int .i64 0,.int .i64 0,.int .i64 0,.int .i64 0,.string ⟨#[]⟩,.string ⟨#[]⟩,.int .u64 0,.int .i64 0,.int .i64 0,.int .i64 0,.int .i64 0] 115))).heap[byy]? = some (.cells #[.bool false,.bool false,.int .i64 0,.int .i64 0,.int .i64 0,.int .i64 0,.int .i64 0,.int .i64 0,.int .i64 0,.int .i64 0,.string ⟨#[]⟩,.string ⟨#[]⟩,.int .u64 0,.int .i64 0,.int .i64 0,.int .i64 0,.int .i64 0] 115 (0,0)):=by rw [hbqyy];exact World.alloc_heap_new _ _
   refine hK.out _ _ (HSK2.out _ hbk4) (fun _ => ?_)
   clear hK K hbkyy
   have hbkyy:=hbk4
   clear hbk4
   try simp only [zq]
   try rw [<- hbqyy]
   generalize hw4:((w3yy).alloc (.cells #[.bool false,.bool false,.int .i64 0,.int .i64 0,.int .i64 0,.int .i64 0,.int .i64 0,.int .i64 0,.int .i64 0,.int .i64 0,.string ⟨#[]⟩,.string ⟨#[]⟩,.int .u64 0,.int .i64 0,.int .i64 0,.int .i64 0,.int .i64 0] 115))=w4yy at hbkyy hrowyy ⊢
   refine zr 11 rfl (fun K hK => ?_)
   rw [if_pos (by rfl)]
   refine wp_store_mid 115 (.tmp 7) (.tmp 31) (by rfl) byy 0 ds.toArray (by rfl) (by rfl) (Ag.there_row hrowyy _ (by rw [List.size_toArray,HDL.out];decide)) (by rw [List.size_toArray,HDL.out];kernel_rfl) (all_oneCell_toArray HD1.out) ?_
   rw [List.toList_toArray]
   have hrow2:=Ag.setCells_row byy 115 ds 0 _ _ hrowyy
   rw [Ag.put_all (by rw [HDL.out];rfl)] at hrow2
   have hbk2:=Ag.below_setCells (b:=byy) hgeyy ds 0 _ hbkyy
   refine hK.out _ _ (HSK2.out _ hbk2) (fun _ => ?_)
   clear hK K hbkyy hrowyy
   have hbkyy:=hbk2
   have hrowyy:=hrow2
   clear hbk2 hrow2
   generalize hw5:World.setCells _ byy 0 ds=w5yy at hbkyy hrowyy ⊢
   clear hw5
   try simp only [zq]
   refine tq 12 rfl .nilIface (HSK2.out _ hbkyy) ?_
   try simp only [zq]
   refine wpAnyH_done (by kernel_rfl) ?_ _
   try simp only [zq]
   clear hw4 hbqyy
   have e2:w5yy.cell? ⟨byy,2,none⟩=some (.int .i64 kd):=by rw [zc hrowyy,List.getElem?_toArray];exact HDK.out
   have e4:w5yy.cell? ⟨bx,4,none⟩=some (.int .i64 f):=(HSK2.out _ hbkyy).2
   have HE:Hid (Below w.heap.size w w5yy):=HBKX.out.trans (hbkyy.mono HBKX.out.size)
   clear hrowyy hbkyy hgeyy
   go_wp2_with fail
   go_quiet (fail)
   go_wp2
   refine bodyPost_ret (results_tmp3 rfl _ _ _) rfl ?_
   exact ⟨rfl,HE.out.os,HE.out.tape,HE.out.output,HE.out.size,fun b hb => HE.out.block b hb⟩
  ·go_simp
   obtain ⟨byy,hbqyy⟩:∃ b,b=(w5x).heap.size:=⟨_,rfl⟩
   have hgeyy:w5x.heap.size<=byy:=by rw [hbqyy];exact Nat.le_trans HN2.out (Nat.le_refl _)
   have hbk4:=(HBW2.out.alloc HN2.out (.cells #[.bool false,.bool false,.int .i64 0,.int .i64 0,.int .i64 0,.int .i64 0,.int .i64 0,.int .i64 0,.int .i64 0,.int .i64 0,.string ⟨#[]⟩,.string ⟨#[]⟩,.int .u64 0,.int .i64 0,.int .i64 0,.int .i64 0,.int .i64 0] 115)).drew
   have hrowyy:(((w5x).alloc (.cells #[.bool false,.bool false,.int .i64 0,.int .i64 0,.int .i64 0,.int .i64 0,.int .i64 0,.int .i64 0,.int .i64 0,.int .i64 0,.string ⟨#[]⟩,.string ⟨#[]⟩,.int .u64 0,.int .i64 0,.int .i64 0,.int .i64 0,.int .i64 0] 115)).drew).heap[byy]? = some (.cells #[.bool false,.bool false,.int .i64 0,.int .i64 0,.int .i64 0,.int .i64 0,.int .i64 0,.int .i64 0,.int .i64 0,.int .i64 0,.string ⟨#[]⟩,.string ⟨#[]⟩,.int .u64 0,.int .i64 0,.int .i64 0,.int .i64 0,.int .i64 0] 115 (0,0)):=by rw [hbqyy];exact World.alloc_heap_new _ _
   refine hK.out _ _ (HSK2.out _ hbk4) (fun _ => ?_)
   clear hK K hbkyy
   have hbkyy:=hbk4
   clear hbk4
   try simp only [zq]
   try rw [show w5x.drew.heap.size=byy from hbqyy.symm]
   try rw [<- hbqyy]
   generalize hw4:((w5x).alloc (.cells #[.bool false,.bool false,.int .i64 0,.int .i64 0,.int .i64 0,.int .i64 0,.int .i64 0,.int .i64 0,.int .i64 0,.int .i64 0,.string ⟨#[]⟩,.string ⟨#[]⟩,.int .u64 0,.int .i64 0,.int .i64 0,.int .i64 0,.int .i64 0] 115)).drew=w4yy at hbkyy hrowyy ⊢
   refine zr 6 rfl (fun K hK => ?_)
   go_simp
   refine (HG3.out _ hbkyy).mono ?_
   rintro e w3yy ⟨rfl,hb3⟩
   have hbk3:=hbkyy.trans (hb3.mono (Nat.le_trans HN2.out hbkyy.size))
   refine hK.out _ _ (HSK2.out _ hbk3) (fun _ => ?_)
   clear hK K
   have hrowyy:=(hb3.block byy (zx hrowyy)).trans hrowyy
   clear hbkyy
   have hbkyy:=hbk3
   clear hbk3 hb3
   try simp only [zq]
   try rw [<- hbqyy]
   refine tq 7 rfl (.tuple #[.agg ds.toArray,.nilIface]) (HSK2.out _ hbkyy) ?_
   try simp only [zq]
   refine tq 8 rfl (.agg ds.toArray) (HSK2.out _ hbkyy) ?_
   try simp only [zq]
   refine tq 9 rfl .nilIface (HSK2.out _ hbkyy) ?_
   try simp only [zq]
   refine zr 11 rfl (fun K hK => ?_)
   rw [if_pos (by rfl)]
   refine wp_store_mid 115 (.tmp 7) (.tmp 31) (by rfl) byy 0 ds.toArray (by rfl) (by rfl) (Ag.there_row hrowyy _ (by rw [List.size_toArray,HDL.out];decide)) (by rw [List.size_toArray,HDL.out];kernel_rfl) (all_oneCell_toArray HD1.out) ?_
   rw [List.toList_toArray]
   have hrow2:=Ag.setCells_row byy 115 ds 0 _ _ hrowyy
   rw [Ag.put_all (by rw [HDL.out];rfl)] at hrow2
   have hbk2:=Ag.below_setCells (b:=byy) hgeyy ds 0 _ hbkyy
   refine hK.out _ _ (HSK2.out _ hbk2) (fun _ => ?_)
   clear hK K hbkyy hrowyy
   have hbkyy:=hbk2
   have hrowyy:=hrow2
   clear hbk2 hrow2
   generalize hw5:World.setCells _ byy 0 ds=w5yy at hbkyy hrowyy ⊢
   clear hw5
   try simp only [zq]
   refine tq 12 rfl .nilIface (HSK2.out _ hbkyy) ?_
   try simp only [zq]
   refine wpAnyH_done (by kernel_rfl) ?_ _
   try simp only [zq]
   clear hw4 hbqyy
   have e2:w5yy.cell? ⟨byy,2,none⟩=some (.int .i64 kd):=by rw [zc hrowyy,List.getElem?_toArray];exact HDK.out
   have e4:w5yy.cell? ⟨bx,4,none⟩=some (.int .i64 f):=(HSK2.out _ hbkyy).2
   have HE:Hid (Below w.heap.size w w5yy):=HBKX.out.trans (hbkyy.mono HBKX.out.size)
   clear hrowyy hbkyy hgeyy
   go_wp2_with fail
   go_quiet (fail)
   go_wp2
   refine bodyPost_ret (results_tmp3 rfl _ _ _) rfl ?_
   exact ⟨rfl,HE.out.os,HE.out.tape,HE.out.output,HE.out.size,fun b hb => HE.out.block b hb⟩
end
end Fr
end
end Go.Proofs.YtimhglmfckfclaaGreatDoor
