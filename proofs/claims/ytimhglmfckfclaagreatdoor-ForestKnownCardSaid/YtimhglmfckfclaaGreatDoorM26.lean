/- Parts of the proof. -/
import Derived.Test.YtimhglmfckfclaaGreatDoorM25
import Derived.Lib.AppendStr
set_option linter.unusedVariables false
set_option linter.unusedSimpArgs false
set_option maxRecDepth 100000
set_option maxHeartbeats 16000000
namespace Go.Proofs.YtimhglmfckfclaaGreatDoor
section
open Go.RowKit Go.Maps
namespace Fr
open Vw (Sess)
open Ex (Ent wo ExpAt)
theorem heap_down {lo lo' H n:Nat} {L:List Hp.It} {F:Nat->Prop} {w:World} (h:Hp.HeapAt lo H n L F w) (hl:lo'<=lo):Hp.HeapAt lo' H n L F w:=by
 obtain ⟨hb,ga,ca,v,ats,h1,h2⟩:=h
 exact ⟨hb,ga,ca,v,ats,⟨h1.top,h1.box,own_down h1.row hl,own_down h1.at_ hl,Nat.le_trans hl h1.loH,Nat.le_trans hl h1.loB⟩,h2⟩
def FNewPost (w:World) (e:Ending) (w':World):Prop:=∃ P Fe,e = .returned (.pointer (some ⟨P.f,0,none⟩))/\ForAt w.heap.size P newF 0 Fe w'/\Below w.heap.size w w'
theorem fnew_any (w:World):Calls Tryz.prog 16 #[] w (FNewPost w):=by
 have HA:=zh (anew_any w)
 go_enter Tryz.func16,Tryz.ntmps16
 go_wp2_with fail
 refine HA.out.mono ?_
 rintro e w1 ⟨rfl,ha1,hb1⟩
 obtain ⟨a,hae⟩:∃ a,a=w.heap.size:=⟨_,rfl⟩
 rw [<- hae] at ha1 ⊢
 have HT:=zh (tnew_any a w1)
 have HA1:=zh ha1;have HB1:=zh hb1;have HAE:=zh hae
 clear ha1 hb1 hae
 go_wp2_with fail
 refine HT.out.mono ?_
 rintro e w2 ⟨rfl,ht2,hb2⟩
 obtain ⟨t,hte⟩:∃ t,t=w1.heap.size:=⟨_,rfl⟩
 rw [<- hte] at ht2 ⊢
 have HG:=zh (gnew_any a w2)
 have HT2:=zh ht2;have HB2:=zh hb2;have HTE:=zh hte
 clear ht2 hb2 hte
 go_wp2_with fail
 refine HG.out.mono ?_
 rintro e w3 ⟨rfl,hg3,hb3⟩
 obtain ⟨g,hge⟩:∃ g,g=w2.heap.size:=⟨_,rfl⟩
 rw [<- hge] at hg3 ⊢
 have HX:=zh (Ex.enew_any w3)
 have HG3:=zh hg3;have HB3:=zh hb3;have HGE:=zh hge
 clear hg3 hb3 hge
 go_wp2_with fail
 refine HX.out.mono ?_
 rintro e w4 ⟨E,Fe,rfl,hx4,hb4⟩
 have HR:Hid (FNewPost w (.returned (.pointer (some ⟨w4.heap.size,0,none⟩))) (w4.alloc (.cells #[.int .i64 0,.int .i64 0,.pointer (some ⟨a,0,none⟩),.pointer (some ⟨t,0,none⟩),.pointer (some ⟨g,0,none⟩),.pointer (some ⟨E,0,none⟩)] 107))):=by
  have l1:a<w1.heap.size:=HA1.out.lt
  have l2:t<w2.heap.size:=HT2.out.lt
  have l3:g<w3.heap.size:=GbAt.lt HG3.out
  have e1:=HAE.out;have e2:=HTE.out;have e3:=HGE.out
  have s1:=HB1.out.size;have s2:=HB2.out.size;have s3:=HB3.out.size;have s4:=hb4.size
  have hbe:Below w4.heap.size w4 (w4.alloc (.cells #[.int .i64 0,.int .i64 0,.pointer (some ⟨a,0,none⟩),.pointer (some ⟨t,0,none⟩),.pointer (some ⟨g,0,none⟩),.pointer (some ⟨E,0,none⟩)] 107)):=(Below.refl _ _).alloc (Nat.le_refl _) _
  have hF:∀ k,Fe k->w3.heap.size<=k/\k<w4.heap.size:=fun k hk => hx4.lt k hk
  have hxl:ExpAt w.heap.size E 0 [] Fe w4:=by
   obtain ⟨H,bm,n,D,L,Fh,q1,q2,q3,q4,q5,q6,q7,q8,q9⟩:=hx4
   exact ⟨H,bm,n,D,L,Fh,q1,by omega,heap_down q3 (by omega),q4,q5,q6,q7,⟨by omega,q8.2⟩,q9⟩
  refine ⟨⟨w4.heap.size,a,t,g,E⟩,Fe,rfl,⟨World.alloc_heap_new _ _,?_,?_,?_,hxl.below hbe,?_,?_,?_,?_⟩,?_⟩
  ·exact (((HA1.out.below HB2.out).below HB3.out).below hb4).below hbe
  ·exact ((HT2.out.below HB3.out).below hb4).below hbe
  ·exact (GbAt.below (GbAt.below HG3.out hb4) hbe)
  ·simp only;omega
  ·exact ⟨fun h => by have:=hF _ h;simp only at this;omega,fun h => by have:=hF _ h;simp only at this;omega,fun h => by have:=hF _ h;simp only at this;omega,fun h => by have:=hF _ h;simp only at this;omega⟩
  ·simp only;omega
  ·simp;omega
  ·exact (((HB1.out.trans (HB2.out.mono (by omega))).trans (HB3.out.mono (by omega))).trans (hb4.mono (by omega))).trans (hbe.mono (by omega))
 clear hx4 hb4
 go_wp2
 go_ret
 exact HR.out
section
variable {lo:Nat} {P:Pa} {st st1 st2:FS} {nw c d:Nat} {Fe:Nat->Prop} {w w' w'':World}
theorem slot_sess {W:World} {b:Nat} {t:TypeId} {x:Slt} (h:W.heap[b]? = some (.cells x.cells.toArray t (0,0))):W.rangeAt b 5 x.s.cells:=fun j u hu => by
 rw [zc h,List.getElem?_toArray,Slt.cells_eq,List.getElem?_append_right (by simp)]
 simpa using hu
theorem fsession (h:ForAt lo P st nw Fe w) (us ub:Int) :
  Calls Tryz.prog 60 #[.pointer (some ⟨P.f,0,none⟩),.agg #[.int .i64 us,.int .i64 ub]] w fun e w' => e = .returned (.tuple #[.agg (sessionF st us ub).1.cells.toArray,erV (sessionF st us ub).2])/\Below w.heap.size w w':=by
 obtain ⟨lv,hlv⟩:∃ lv,lv=lives st.S us ub:=⟨_,rfl⟩
 obtain ⟨W0,hW0⟩:∃ W0,W0=(w.alloc (.cells #[.int .i64 us,.int .i64 ub] 26)).alloc (.cells #[.int .i64 0,.int .i64 0,.int .i64 0,.int .i64 0,.int .i64 0,.string ⟨#[]⟩,.string ⟨#[]⟩,.int .u64 0,.int .i64 0,.int .i64 0,.int .i64 0,.int .i64 0] 30):=⟨_,rfl⟩
 have hb0:Below w.heap.size w W0:=by rw [hW0];exact ((Below.refl _ _).alloc (Nat.le_refl _) _).alloc (by simp) _
 have hk0:W0.heap[w.heap.size]? = some (.cells #[.int .i64 us,.int .i64 ub] 26 (0,0)):=by rw [hW0];exact (Below.heap_alloc _ _ _ (by simp)).trans (World.alloc_heap_new _ _)
 have hz0:W0.heap[w.heap.size+1]? = some (.cells s0.cells.toArray 30 (0,0)):=by
  have:=World.alloc_heap_new (w.alloc (.cells #[.int .i64 us,.int .i64 ub] 26)) (.cells s0.cells.toArray 30)
  rw [World.size_alloc] at this
  rw [hW0];exact this
 have hs0:W0.heap.size=w.heap.size+2:=by rw [hW0,World.size_alloc,World.size_alloc]
 have HLI:Hid (∀ W',Below w.heap.size w W'->Calls Tryz.prog 124 #[.pointer (some ⟨P.a,0,none⟩),.agg #[.int .i64 us,.int .i64 ub]] W' fun e w' => (∃ n:Int,e = .returned (.tuple #[.bool lv,.int .i64 n]))/\Below W'.heap.size W' w'):=by rw [hlv];exact fun W' hb => flives (h.below hb) us ub
 have HSK:Hid (∀ W',Below W0.heap.size W0 W'->W'.cell? ⟨P.f,2,none⟩=some (.pointer (some ⟨P.a,0,none⟩))/\W'.cell? ⟨w.heap.size,0,none⟩=some (.int .i64 us)/\W'.cell? ⟨w.heap.size,1,none⟩=some (.int .i64 ub)):=fun W' hb => ⟨by rw [((h.below (hb0.trans (hb.mono hb0.size))).cell 2)];rfl,by rw [zc ((hb.block _ (zx hk0)).trans hk0)];rfl,by rw [zc ((hb.block _ (zx hk0)).trans hk0)];rfl⟩
 have HH:=zh h;have HW0:=zh hW0;have HB0:=zh hb0;have HK0:=zh hk0;have HZ0:=zh hz0;have HS0:=zh hs0;have HLV:=zh hlv
 have HTHR:Hid (lv=true->thr us=true):=fun e => by
  have e2:lives st.S us ub=true:=by rw [<- hlv];exact e
  have e3:livesN st.S 7 us ub=true:=e2
  unfold livesN at e3
  rw [Bool.and_eq_true] at e3
  exact (holds_iff.1 e3.1).1
 have HSF:Hid (sessionF st us ub=if lv then ((sl st.S us).s,0) else (s0,16)):=by show _=_;rw [hlv];rfl
 obtain ⟨out,hout⟩:∃ out,out=sessionF st us ub:=⟨_,rfl⟩
 rw [<- hout] at HSF ⊢
 clear h hW0 hb0 hk0 hz0 hs0 hlv hout
 go_enter Tryz.func60,Tryz.ntmps60
 go_wp2_with fail
 rw [<- HW0.out]
 have hbk:Below W0.heap.size W0 W0.drew:=(Below.refl _ _).drew
 refine wp_region_held_drew (S:=fun W' => W'.cell? ⟨P.f,2,none⟩=some (.pointer (some ⟨P.a,0,none⟩))/\W'.cell? ⟨w.heap.size,0,none⟩=some (.int .i64 us)/\W'.cell? ⟨w.heap.size,1,none⟩=some (.int .i64 ub)) (by kernel_rfl) (HSK.out _ hbk) (fun _ => ?_)
 refine tq 0 rfl (.pointer (some ⟨P.f,0,none⟩)) (HSK.out _ hbk) ?_
 try simp only [zq]
 refine tq 1 rfl (.pointer (some ⟨P.f,0,none⟩)) (HSK.out _ hbk) ?_
 try simp only [zq]
 refine tq 2 rfl (.pointer (some ⟨P.f,2,none⟩)) (HSK.out _ hbk) ?_
 try simp only [zq]
 refine tq 3 rfl (.pointer (some ⟨P.a,0,none⟩)) (HSK.out _ hbk) ?_
 try simp only [zq]
 refine tq 4 rfl (.agg #[.int .i64 us,.int .i64 ub]) (HSK.out _ hbk) ?_
 try simp only [zq]
 refine zr 5 rfl (fun K hK => ?_)
 go_simp
 refine (HLI.out _ (HB0.out.trans (hbk.mono HB0.out.size))).mono ?_
 rintro e w3 ⟨⟨n,rfl⟩,hb3⟩
 replace hbk:=hbk.trans (hb3.mono hbk.size)
 clear hb3
 refine hK.out _ _ (HSK.out _ hbk) (fun _ => ?_)
 clear hK K
 try simp only [zq]
 refine tq 6 rfl (.tuple #[.bool lv,.int .i64 n]) (HSK.out _ hbk) ?_
 try simp only [zq]
 refine tq 7 rfl (.bool lv) (HSK.out _ hbk) ?_
 try simp only [zq]
 refine tq 8 rfl (.int .i64 n) (HSK.out _ hbk) ?_
 try simp only [zq]
 refine tq 9 rfl (.bool lv) (HSK.out _ hbk) ?_
 try simp only [zq]
 refine tq 10 rfl (.int .i64 n) (HSK.out _ hbk) ?_
 try simp only [zq]
 refine wpAnyH_done (by kernel_rfl) ?_ _
 try simp only [zq]
 have HBK:=zh (HB0.out.trans (hbk.mono HB0.out.size))
 have hz1:=(hbk.block _ (by rw [HS0.out];omega)).trans HZ0.out
 have hk1:=(hbk.block _ (by rw [HS0.out];omega)).trans HK0.out
 have HZ1:=zh hz1;have HK1:=zh hk1
 clear hbk hz1 hk1
 cases lv with
 | false =>
  have HO:Hid (out=(s0,16)):=HSF.out
  have HTH:Hid (w3.there (w.heap.size+1) 0 12):=Ag.there_row HZ1.out 12 (by decide)
  have HPUT:=zh (put_sess HZ1.out (by rfl) s0)
  have HB5:Hid (Below w.heap.size w (World.setCells w3 (w.heap.size+1) 0 s0.cells)):=Ag.below_setCells (by omega) _ _ _ HBK.out
  go_wp2_with (refine wpList_store_mid (by rfl) 30 (.tmp 4) (.tmp 21) (by rfl) (w.heap.size+1) 0 s0.cells.toArray (by rfl) (by rfl) HTH.out (by kernel_rfl) (all_oneCell_toArray (sess_one _)) ?_)
  refine bodyPost_ret (results_cell_tmp rfl _ _ (w.heap.size+1) _ s0.cells.toArray (0,0) _ rfl HPUT.out Tryz.underlying30 rfl (by kernel_rfl)) rfl ?_
  exact ⟨by rw [HO.out];rfl,HB5.out⟩
 | true =>
  have HO:Hid (out=((sl st.S us).s,0)):=HSF.out
  have hti:=HTHR.out rfl
  obtain ⟨sx,hsx⟩:∃ sx,sx=(sl st.S us):=⟨_,rfl⟩
  rw [<- hsx] at HO
  obtain ⟨cs,hcs⟩:∃ cs,cs=sx.cells:=⟨_,rfl⟩
  have HG:Hid (∀ W',Below w3.heap.size w3 W'->Calls Tryz.prog 46 #[.pointer (some ⟨P.a,0,none⟩),.int .i64 us] W' fun e w' => e = .returned (.tuple #[.agg cs.toArray,.nilIface])/\Below W'.heap.size W' w'):=by rw [hcs,hsx];exact fun W' hb => fget (HH.out.below (HBK.out.trans (hb.mono HBK.out.size))) us hti
  have HCL:Hid (cs.length=17):=by show _=_;rw [hcs];rfl
  have HC1:Hid (∀ u ∈ cs,u.oneCell'=true):=by show ∀ _,_;rw [hcs];exact sx.one
  have HSK:Hid (∀ W',Below w3.heap.size w3 W'->W'.cell? ⟨P.f,2,none⟩=some (.pointer (some ⟨P.a,0,none⟩))/\W'.cell? ⟨w.heap.size,0,none⟩=some (.int .i64 us)):=fun W' hb => ⟨by rw [((HH.out.below (HBK.out.trans (hb.mono HBK.out.size))).cell 2)];rfl,by rw [zc ((hb.block _ (zx HK1.out)).trans HK1.out)];rfl⟩
  have HBW:Hid (Below w3.heap.size w3 w3):=Below.refl _ _
  have HN0:Hid (w3.heap.size<=w3.heap.size):=Nat.le_refl _
  have HCS:=zh hcs
  clear hti hsx hcs
  go_wp2_with fail
  refine wp_region_held_drew (S:=fun W' => W'.cell? ⟨P.f,2,none⟩=some (.pointer (some ⟨P.a,0,none⟩))/\W'.cell? ⟨w.heap.size,0,none⟩=some (.int .i64 us)) (by kernel_rfl) (HSK.out _ (HBW.out.drew)) (fun _ => ?_)
  have hbkg:Below w3.heap.size w3 w3.drew:=HBW.out.drew
  refine tq 0 rfl (.pointer (some ⟨P.f,0,none⟩)) (HSK.out _ hbkg) ?_
  try simp only [zq]
  refine tq 1 rfl (.pointer (some ⟨P.f,0,none⟩)) (HSK.out _ hbkg) ?_
  try simp only [zq]
  refine tq 2 rfl (.pointer (some ⟨P.f,2,none⟩)) (HSK.out _ hbkg) ?_
  try simp only [zq]
  refine tq 3 rfl (.pointer (some ⟨P.a,0,none⟩)) (HSK.out _ hbkg) ?_
  try simp only [zq]
  refine tq 4 rfl (.pointer (some ⟨w.heap.size,0,none⟩)) (HSK.out _ hbkg) ?_
  try simp only [zq]
  refine tq 5 rfl (.int .i64 us) (HSK.out _ hbkg) ?_
  try simp only [zq]
  refine wpAnyH_ready (rs:=[6,10]) (by kernel_rfl) (by simp) (AllReadyH.cons rfl (fun K hK => ?_) (AllReadyH.cons rfl (fun K hK => ?_) AllReadyH.nil))
  ·go_simp
   refine (HG.out _ hbkg).mono ?_
   rintro e w3g ⟨rfl,hb3⟩
   have hbk3:=hbkg.trans (hb3.mono (Nat.le_trans HN0.out hbkg.size))
   refine hK.out _ _ (HSK.out _ hbk3) (fun _ => ?_)
   clear hK K
   clear hbkg
   have hbkg:=hbk3
   clear hbk3 hb3
   try simp only [zq]
   refine tq 7 rfl (.tuple #[.agg cs.toArray,.nilIface]) (HSK.out _ hbkg) ?_
   try simp only [zq]
   refine tq 8 rfl (.agg cs.toArray) (HSK.out _ hbkg) ?_
   try simp only [zq]
   refine tq 9 rfl .nilIface (HSK.out _ hbkg) ?_
   try simp only [zq]
   refine zr 10 rfl (fun K hK => ?_)
   go_simp
   obtain ⟨bg,hbqg⟩:∃ b,b=(w3g).heap.size:=⟨_,rfl⟩
   have hgeg:w3.heap.size<=bg:=by rw [hbqg];exact Nat.le_trans HN0.out hbkg.size
   have hbk4:=hbkg.alloc (by rw [<- hbqg];exact hgeg) (.cells #[.bool false,.bool false,.int .i64 0,.int .i64 0,.int .i64 0,.int .i64 0,.int .i64 0,.int .i64 0,.int .i64 0,.int .i64 0,.string ⟨#[]⟩,.string ⟨#[]⟩,.int .u64 0,.int .i64 0,.int .i64 0,.int .i64 0,.int .i64 0] 115)
   have hrowg:(((w3g).alloc (.cells #[.bool false,.bool false,.int .i64 0,.int .i64 0,.int .i64 0,.int .i64 0,.int .i64 0,.int .i64 0,.int .i64 0,.int .i64 0,.string ⟨#[]⟩,.string ⟨#[]⟩,.int .u64 0,.int .i64 0,.int .i64 0,.int .i64 0,.int .i64 0] 115))).heap[bg]? = some (.cells #[.bool false,.bool false,.int .i64 0,.int .i64 0,.int .i64 0,.int .i64 0,.int .i64 0,.int .i64 0,.int .i64 0,.int .i64 0,.string ⟨#[]⟩,.string ⟨#[]⟩,.int .u64 0,.int .i64 0,.int .i64 0,.int .i64 0,.int .i64 0] 115 (0,0)):=by rw [hbqg];exact World.alloc_heap_new _ _
   refine hK.out _ _ (HSK.out _ hbk4) (fun _ => ?_)
   clear hK K hbkg
   have hbkg:=hbk4
   clear hbk4
   try simp only [zq]
   try rw [<- hbqg]
   generalize hw4:((w3g).alloc (.cells #[.bool false,.bool false,.int .i64 0,.int .i64 0,.int .i64 0,.int .i64 0,.int .i64 0,.int .i64 0,.int .i64 0,.int .i64 0,.string ⟨#[]⟩,.string ⟨#[]⟩,.int .u64 0,.int .i64 0,.int .i64 0,.int .i64 0,.int .i64 0] 115))=w4g at hbkg hrowg ⊢
   refine zr 11 rfl (fun K hK => ?_)
   rw [if_pos (by rfl)]
   refine wp_store_mid 115 (.tmp 8) (.tmp 31) (by rfl) bg 0 cs.toArray (by rfl) (by rfl) (Ag.there_row hrowg _ (by rw [List.size_toArray,HCL.out];decide)) (by rw [List.size_toArray,HCL.out];kernel_rfl) (all_oneCell_toArray HC1.out) ?_
   rw [List.toList_toArray]
   have hrow2:=Ag.setCells_row bg 115 cs 0 _ _ hrowg
   rw [Ag.put_all (by rw [HCL.out];rfl)] at hrow2
   have hbk2:=Ag.below_setCells (b:=bg) hgeg cs 0 _ hbkg
   refine hK.out _ _ (HSK.out _ hbk2) (fun _ => ?_)
   clear hK K hbkg hrowg
   have hbkg:=hbk2
   have hrowg:=hrow2
   clear hbk2 hrow2
   generalize hw5:World.setCells _ bg 0 cs=w5g at hbkg hrowg ⊢
   clear hw5
   try simp only [zq]
   refine tq 12 rfl .nilIface (HSK.out _ hbkg) ?_
   try simp only [zq]
   refine wpAnyH_done (by kernel_rfl) ?_ _
   try simp only [zq]
   clear hw4 hbqg
   have HB6:=zh (HBK.out.trans (hbkg.mono HBK.out.size))
   have hrs:w5g.heap[bg]? = some (.cells sx.cells.toArray 115 (0,0)):=by rw [<- HCS.out];exact hrowg
   have HRG:=zh (slot_sess hrs)
   have hz6:=(hbkg.block _ (zx HZ1.out)).trans HZ1.out
   have HTH:Hid (w5g.there (w.heap.size+1) 0 12):=Ag.there_row hz6 12 (by decide)
   have HPUT:=zh (put_sess hz6 (by rfl) sx.s)
   have HB7:Hid (Below w.heap.size w (World.setCells w5g (w.heap.size+1) 0 sx.s.cells)):=Ag.below_setCells (by omega) _ _ _ HB6.out
   clear hbkg hrowg hgeg hrs hz6
   go_wp2_with (first
    | (refine wpList_load_mid (by rfl) 30 _ (by rfl) _ _ (by rfl) sx.s.cells _ HRG.out Tryz.underlying30 rfl (by kernel_rfl) ?_)
    | (refine wpList_store_mid (by rfl) 30 (.tmp 4) (.tmp 34) (by rfl) (w.heap.size+1) 0 sx.s.cells.toArray (by rfl) (by rfl) HTH.out (by kernel_rfl) (all_oneCell_toArray (sess_one _)) ?_))
   refine bodyPost_ret (results_cell_tmp rfl _ _ (w.heap.size+1) _ sx.s.cells.toArray (0,0) _ rfl HPUT.out Tryz.underlying30 rfl (by kernel_rfl)) rfl ?_
   exact ⟨by rw [HO.out];rfl,HB7.out⟩
  ·go_simp
   obtain ⟨bg,hbqg⟩:∃ b,b=(w3).heap.size:=⟨_,rfl⟩
   have hgeg:w3.heap.size<=bg:=by rw [hbqg];exact Nat.le_trans HN0.out (Nat.le_refl _)
   have hbk4:=(HBW.out.alloc HN0.out (.cells #[.bool false,.bool false,.int .i64 0,.int .i64 0,.int .i64 0,.int .i64 0,.int .i64 0,.int .i64 0,.int .i64 0,.int .i64 0,.string ⟨#[]⟩,.string ⟨#[]⟩,.int .u64 0,.int .i64 0,.int .i64 0,.int .i64 0,.int .i64 0] 115)).drew
   have hrowg:(((w3).alloc (.cells #[.bool false,.bool false,.int .i64 0,.int .i64 0,.int .i64 0,.int .i64 0,.int .i64 0,.int .i64 0,.int .i64 0,.int .i64 0,.string ⟨#[]⟩,.string ⟨#[]⟩,.int .u64 0,.int .i64 0,.int .i64 0,.int .i64 0,.int .i64 0] 115)).drew).heap[bg]? = some (.cells #[.bool false,.bool false,.int .i64 0,.int .i64 0,.int .i64 0,.int .i64 0,.int .i64 0,.int .i64 0,.int .i64 0,.int .i64 0,.string ⟨#[]⟩,.string ⟨#[]⟩,.int .u64 0,.int .i64 0,.int .i64 0,.int .i64 0,.int .i64 0] 115 (0,0)):=by rw [hbqg];exact World.alloc_heap_new _ _
   refine hK.out _ _ (HSK.out _ hbk4) (fun _ => ?_)
   clear hK K hbkg
   have hbkg:=hbk4
   clear hbk4
   try simp only [zq]
   try rw [show w3.drew.heap.size=bg from hbqg.symm]
   try rw [<- hbqg]
   generalize hw4:((w3).alloc (.cells #[.bool false,.bool false,.int .i64 0,.int .i64 0,.int .i64 0,.int .i64 0,.int .i64 0,.int .i64 0,.int .i64 0,.int .i64 0,.string ⟨#[]⟩,.string ⟨#[]⟩,.int .u64 0,.int .i64 0,.int .i64 0,.int .i64 0,.int .i64 0] 115)).drew=w4g at hbkg hrowg ⊢
   refine zr 6 rfl (fun K hK => ?_)
   go_simp
   refine (HG.out _ hbkg).mono ?_
   rintro e w3g ⟨rfl,hb3⟩
   have hbk3:=hbkg.trans (hb3.mono (Nat.le_trans HN0.out hbkg.size))
   refine hK.out _ _ (HSK.out _ hbk3) (fun _ => ?_)
   clear hK K
   have hrowg:=(hb3.block bg (zx hrowg)).trans hrowg
   clear hbkg
   have hbkg:=hbk3
   clear hbk3 hb3
   try simp only [zq]
   try rw [<- hbqg]
   refine tq 7 rfl (.tuple #[.agg cs.toArray,.nilIface]) (HSK.out _ hbkg) ?_
   try simp only [zq]
   refine tq 8 rfl (.agg cs.toArray) (HSK.out _ hbkg) ?_
   try simp only [zq]
   refine tq 9 rfl .nilIface (HSK.out _ hbkg) ?_
   try simp only [zq]
   refine zr 11 rfl (fun K hK => ?_)
   rw [if_pos (by rfl)]
   refine wp_store_mid 115 (.tmp 8) (.tmp 31) (by rfl) bg 0 cs.toArray (by rfl) (by rfl) (Ag.there_row hrowg _ (by rw [List.size_toArray,HCL.out];decide)) (by rw [List.size_toArray,HCL.out];kernel_rfl) (all_oneCell_toArray HC1.out) ?_
   rw [List.toList_toArray]
   have hrow2:=Ag.setCells_row bg 115 cs 0 _ _ hrowg
   rw [Ag.put_all (by rw [HCL.out];rfl)] at hrow2
   have hbk2:=Ag.below_setCells (b:=bg) hgeg cs 0 _ hbkg
   refine hK.out _ _ (HSK.out _ hbk2) (fun _ => ?_)
   clear hK K hbkg hrowg
   have hbkg:=hbk2
   have hrowg:=hrow2
   clear hbk2 hrow2
   generalize hw5:World.setCells _ bg 0 cs=w5g at hbkg hrowg ⊢
   clear hw5
   try simp only [zq]
   refine tq 12 rfl .nilIface (HSK.out _ hbkg) ?_
   try simp only [zq]
   refine wpAnyH_done (by kernel_rfl) ?_ _
   try simp only [zq]
   clear hw4 hbqg
   have HB6:=zh (HBK.out.trans (hbkg.mono HBK.out.size))
   have hrs:w5g.heap[bg]? = some (.cells sx.cells.toArray 115 (0,0)):=by rw [<- HCS.out];exact hrowg
   have HRG:=zh (slot_sess hrs)
   have hz6:=(hbkg.block _ (zx HZ1.out)).trans HZ1.out
   have HTH:Hid (w5g.there (w.heap.size+1) 0 12):=Ag.there_row hz6 12 (by decide)
   have HPUT:=zh (put_sess hz6 (by rfl) sx.s)
   have HB7:Hid (Below w.heap.size w (World.setCells w5g (w.heap.size+1) 0 sx.s.cells)):=Ag.below_setCells (by omega) _ _ _ HB6.out
   clear hbkg hrowg hgeg hrs hz6
   go_wp2_with (first
    | (refine wpList_load_mid (by rfl) 30 _ (by rfl) _ _ (by rfl) sx.s.cells _ HRG.out Tryz.underlying30 rfl (by kernel_rfl) ?_)
    | (refine wpList_store_mid (by rfl) 30 (.tmp 4) (.tmp 34) (by rfl) (w.heap.size+1) 0 sx.s.cells.toArray (by rfl) (by rfl) HTH.out (by kernel_rfl) (all_oneCell_toArray (sess_one _)) ?_))
   refine bodyPost_ret (results_cell_tmp rfl _ _ (w.heap.size+1) _ sx.s.cells.toArray (0,0) _ rfl HPUT.out Tryz.underlying30 rfl (by kernel_rfl)) rfl ?_
   exact ⟨by rw [HO.out];rfl,HB7.out⟩
end
end Fr
end
section
namespace Pk
def sevF:Nat->Nat->List Nat
 | 0,v => [v]
 | n+1,v => if v<=127 then [v] else (v % 128+128) :: sevF n (v / 128)
def sevens (v:Nat):List Nat:=sevF 9 v
def bV (n:Nat):Value:=.int .u8 (n:Int)
def bts (s:ByteArray):List Nat:=s.data.toList.map UInt8.toNat
theorem bts_len (s:ByteArray):(bts s).length=s.size:=by unfold bts;rw [List.length_map];rfl
theorem sevF_len:∀ (n v:Nat),(sevF n v).length<=n+1
 | 0,v => Nat.le_refl _
 | n+1,v => by
  unfold sevF
  split
  ·simp
  ·rw [List.length_cons];have:=sevF_len n (v / 128);omega
theorem sevens_len (v:Nat):(sevens v).length<=10:=sevF_len 9 v
end Pk
end
section
open Go Go.RowKit
namespace Ap
section
variable {P:Program} (w:World)
end
end Ap
end
section
open Go Go.RowKit
namespace Ap
section
variable {P:Program} (w:World)
theorem run_str_at (base:Nat) (t u ty e:TypeId) (i:TypeInfo) (ht:P.underlying t=some (.slice e)) (hu:P.underlying u=some .string) (hi:P.info? e=some i) (hz:i.zero=some (.int .u8 0))
  (hsize:i.size=1) (hby:i.bytes=1) (v:Value) (n:Nat) (xs:List Value) (hown:w.ownsRow base e 1 v n xs) (s:ByteArray)
  (h63:n+s.size<=maxLen) (hbytes:n+s.size<=140737488355328) (hbase:base<=w.heap.size) :
  ∃ v' w',(Builtin.append_ #[t,u] ty #[v,.string s]).run P w = .ok v' w'/\w'.ownsRow base e 1 v' (n+s.size) (xs ++ Lib.strCells s)/\w.grownBy w' v.ownBlock/\(v'.ownBlock=v.ownBlock\/v'.ownBlock=some w.heap.size):=by
 obtain ⟨v',w',hr,h2,h3,h4⟩:=Lib.run_append_own_string (P:=P) w base t u ty e i ht hu hi hz hsize hby v n xs hown s h63 hbytes hbase
 refine ⟨v',w',hr,h2,h3,?_⟩
 have hsmall:n+s.size<=9223372036854775807:=by simp only [maxLen] at h63;omega
 have hxl:xs.length=n:=by simpa using hown.1
 rcases hown.2 with ⟨rfl,rfl⟩ | ⟨g,cap,cur,rfl,hbg,hg,hnc,hcm,hcs,htake⟩
 ·by_cases hm:s.size=0
  ·rw [h4.2 ⟨rfl,hm⟩];exact .inl rfl
  ·have hr2:=run_append_nil_string (P:=P) w t u ty e i (.int .u8 0) ht hu hi hz s (by omega) (by omega) (by rw [hby];omega)
   rw [hr] at hr2
   injection hr2 with e1 e2
   rw [e1];exact .inr rfl
 ·by_cases hroom:n+s.size<=cap
  ·have hr2:=Lib.run_append_room_string (P:=P) w t u ty e i ht hu hi hsize g n cap cur hg s hroom (by rw [hcs];omega)
   rw [hr] at hr2
   injection hr2 with e1 e2
   rw [e1];exact .inl rfl
  ·have holds:∀ j u,xs[j]? = some u->w.cell? ((⟨g,0,none⟩:Addr).add j)=some u:=hown.cells (g:=g) rfl
   have hr2:=Lib.run_append_grow_string (P:=P) w t u ty e i (.int .u8 0) ht hu hi hz ⟨g,0,none⟩ n cap xs (by rw [hsize];simpa using hxl) holds s (by omega) (by omega) (by rw [hby];exact growslice_fits (by omega) (by omega))
   rw [hr] at hr2
   injection hr2 with e1 e2
   rw [e1];exact .inr rfl
theorem wpList_str_at {ops:Array Oper} {rest:List Oper} {o:Oper} {a:Act} {Q:Exit->Act->World->Prop} (hgd:o.guard=none) (sl x:Operand) (t u:TypeId)
  (ho:o.op = .call { callee:=.builtin .append,args:=#[sl,x],argTypes:=#[t,u] })
  (base:Nat) (e:TypeId) (i:TypeInfo) (ht:P.underlying t=some (.slice e)) (hu:P.underlying u=some .string) (hi:P.info? e=some i) (hz:i.zero=some (.int .u8 0))
  (hsize:i.size=1) (hby:i.bytes=1) (v:Value) (n:Nat) (xs:List Value) (hs:a.eval sl=v) (hown:w.ownsRow base e 1 v n xs) (s:ByteArray) (hx:a.eval x = .string s)
  (h63:n+s.size<=maxLen) (hbytes:n+s.size<=140737488355328) (hbase:base<=w.heap.size)
  (h:∀ v' w',w'.ownsRow base e 1 v' (n+s.size) (xs ++ Lib.strCells s)->w.grownBy w' v.ownBlock->(v'.ownBlock=v.ownBlock\/v'.ownBlock=some w.heap.size)->wpList P ops Q rest (a.put o.dst v') w'):wpList P ops Q (o :: rest) a w:=by
 refine wpList_plain hgd fun K hK => ?_
 obtain ⟨v',w',hr,h2,h3,h4⟩:=run_str_at (P:=P) w base t u o.type e i ht hu hi hz hsize hby v n xs hown s h63 hbytes hbase
 unfold Oper.wp execOp
 simp only [ho,resolve,invoke,builtin,Sem.run_bind,Sem.run_pure,Result.andThen_ok,List.map_toArray,List.map_cons,List.map_nil,hs,hx,hr]
 exact hK _ _ (h v' w' h2 h3 h4)
end
end Ap
end
end Go.Proofs.YtimhglmfckfclaaGreatDoor
