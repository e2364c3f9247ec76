/- Parts of the proof. -/
import Derived.Test.YtimhglmfckfclaaGreatDoorM24
set_option linter.unusedVariables false
set_option linter.unusedSimpArgs false
set_option maxRecDepth 100000
set_option maxHeartbeats 16000000
namespace Go.Proofs.YtimhglmfckfclaaGreatDoor
section
open Go.RowKit Go.Maps
namespace Fr
open Vw (Sess)
theorem sess_one (s:Sess):∀ u ∈ s.cells,u.oneCell'=true:=by
 intro u hu
 simp only [Vw.Sess.cells,List.mem_cons,List.not_mem_nil,or_false] at hu
 rcases hu with rfl | rfl | rfl | rfl | rfl | rfl | rfl | rfl | rfl | rfl | rfl | rfl <;> rfl
theorem put_sess {w:World} {b:Nat} {t:TypeId} {Z:Array Value} (h:w.heap[b]? = some (.cells Z t (0,0))) (hz:Z.size=12) (s:Sess):(w.setCells b 0 s.cells).heap[b]? = some (.cells s.cells.toArray t (0,0)):=by
 have:=Ag.setCells_row b t s.cells 0 Z w h
 rwa [Ag.put_all (by rw [hz];rfl)] at this
theorem login_any (r:Req) (now births:Int) (full:Bool) (h1:r.user.size<=9223372036854775807) (h2:r.label.size<=9223372036854775807) (w:World) :
  Calls Tryz.prog 128 #[.agg r.cells.toArray,.int .i64 now,.int .i64 births,.bool full] w fun e w' => e = .returned (.tuple #[.agg (loginS r now births full).1.cells.toArray,erV (loginS r now births full).2])/\Below w.heap.size w w':=by
 obtain ⟨b,hb⟩:∃ b:Bth,b=⟨s0,r,now,births,full,tilOf now r.life 1099511627776⟩:=⟨_,rfl⟩
 have HA:Hid (∀ W,Calls Tryz.prog 211 #[.agg s0.cells.toArray,.agg r.cells.toArray,.int .i64 now,.int .i64 births,.bool full,.int .i64 1099511627776] W fun e w' => ∃ x,e = .returned (.pointer (some ⟨x,0,none⟩))/\BthAt x b w'/\Below W.heap.size W w'):=by rw [hb];exact fun W => asked_any s0 r now births full _ W
 obtain ⟨no,hno⟩:∃ no,no=(loginS r now births full).2:=⟨_,rfl⟩
 have HF:Hid (∀ (x:Nat) (W:World) (g:Nat) (ty:TypeId),BthAt x b W->W.heap[g]? = some (.cells (rulCells loginR).toArray ty (0,0))->Calls Tryz.prog 212 #[.pointer (some ⟨x,0,none⟩),.slice (some ⟨g,0,none⟩) 5 5] W fun e w' => e = .returned (erV no)/\Below W.heap.size W w'):=fun x W g ty hx hg => by
  have:=first_any hx (by rw [hb];exact h1) (by rw [hb];exact h2) loginR (by decide) (by decide) g ty hg
  rwa [show firstNo b loginR=no by rw [hb,login_no,hno]] at this
 obtain ⟨out,hout⟩:∃ out,out=(loginS r now births full).1:=⟨_,rfl⟩
 have HERR:Hid (no≠0->out=s0):=fun h => by rw [hout];exact login_err (by rw [<- hno];exact h)
 have HOK:Hid (no=0->(0<=births/\births<1048576)/\out={ sesOf b 0 with scopes:=r.scopes,level:=r.level }):=fun h => by rw [hout,hb];exact login_s (by rw [<- hno];exact h)
 have HBB:Hid (b.births=births):=by show _=_;rw [hb]
 rw [<- hno,<- hout]
 obtain ⟨b1,b2,b3,b4,b5⟩:=r
 simp only [Req.cells] at HA HOK ⊢
 clear h1 h2 hb hno hout
 obtain ⟨W0,hW0⟩:∃ W0,W0=(w.alloc (.cells #[.string b1,.string b2,.int .u64 (b3:Int),.int .i64 b4,.int .i64 b5] 55)).alloc (.cells #[.int .i64 0,.int .i64 0,.int .i64 0,.int .i64 0,.int .i64 0,.string ⟨#[]⟩,.string ⟨#[]⟩,.int .u64 0,.int .i64 0,.int .i64 0,.int .i64 0,.int .i64 0] 30):=⟨_,rfl⟩
 have HR0:Hid (W0.heap[w.heap.size]? = some (.cells #[.string b1,.string b2,.int .u64 (b3:Int),.int .i64 b4,.int .i64 b5] 55 (0,0))):=by show _=_;rw [hW0];exact (Below.heap_alloc _ _ _ (by simp)).trans (World.alloc_heap_new _ _)
 have HZ0:Hid (W0.heap[w.heap.size+1]? = some (.cells s0.cells.toArray 30 (0,0))):=by
  show _=_
  rw [hW0]
  have:=World.alloc_heap_new (w.alloc (.cells #[.string b1,.string b2,.int .u64 (b3:Int),.int .i64 b4,.int .i64 b5] 55)) (.cells s0.cells.toArray 30)
  rw [World.size_alloc] at this;exact this
 have HB0:Hid (Below w.heap.size w W0):=by show Below _ _ _;rw [hW0];exact ((Below.refl _ _).alloc (Nat.le_refl _) _).alloc (by simp) _
 have HW0:=zh hW0
 clear hW0
 go_enter Tryz.func128,Tryz.ntmps128
 go_wp2_with fail
 try rw [<- HW0.out]
 refine (HA.out _).mono ?_
 rintro e w1 ⟨x,rfl,hx,hb1⟩
 try rw [<- HW0.out] at hb1
 have l0:w.heap.size+1<W0.heap.size:=(zx HZ0.out)
 have hr1:=(hb1.block (w.heap.size) (by omega)).trans HR0.out
 have hz1:=(hb1.block (w.heap.size+1) l0).trans HZ0.out
 have l1:w.heap.size+1<w1.heap.size:=(zx hz1)
 have HX:=zh hx;have HR1:=zh hr1;have HZ1:=zh hz1;have HB1:Hid (Below w.heap.size w w1):=HB0.out.trans (hb1.mono HB0.out.size)
 have L1:=zh l1
 clear l0 l1 hr1 hz1 hx hb1
 go_wp2_with fail
 have hb1':Below w1.heap.size w1 (w1.alloc (.cells (rulCells loginR).toArray 328)):=(Below.refl _ _).alloc (Nat.le_refl _) _
 refine (HF.out x _ w1.heap.size _ (HX.out.below hb1') (Ut.alloc_at _ _)).mono ?_
 rintro e w2 ⟨rfl,hb2⟩
 have hb2':=hb1'.trans (hb2.mono hb1'.size)
 have HX2:=zh (HX.out.below hb2')
 have hl1:=L1.out
 have hr2:=(hb2'.block (w.heap.size) (by omega)).trans HR1.out
 have hz2:=(hb2'.block (w.heap.size+1) hl1).trans HZ1.out
 have HR2:=zh hr2;have HZ2:=zh hz2;have HB2:Hid (Below w.heap.size w w2):=HB1.out.trans (hb2'.mono HB1.out.size)
 have L2:Hid (w.heap.size+1<w2.heap.size):=Nat.lt_of_lt_of_le L1.out hb2'.size
 clear hb1' hb2 hb2' hr2 hz2 hl1
 by_cases hz:no=0
 ·obtain ⟨g1,g2⟩:=HOK.out hz
  have HS:Hid (∀ W,BthAt x b W->Calls Tryz.prog 218 #[.pointer (some ⟨x,0,none⟩),.int .i64 0] W fun e w' => e = .returned (.agg (sesOf b 0).cells.toArray)/\Below W.heap.size W w'):=fun W h => session_zero h (by rw [HBB.out];exact g1)
  obtain ⟨ss,hss⟩:∃ ss,ss=sesOf b 0:=⟨_,rfl⟩
  rw [<- hss] at g2 HS
  replace HS:Hid (∀ W,BthAt x b W->Calls Tryz.prog 218 #[.pointer (some ⟨x,0,none⟩),.int .i64 0] W fun e w' => e = .returned (.agg (#[.int .i64 ss.slot,.int .i64 ss.birth,.int .i64 ss.us,.int .i64 ss.ub,.int .i64 ss.kind,.string ss.user,.string ss.label,.int .u64 (ss.scopes:Int),.int .i64 ss.level,.int .i64 ss.born,.int .i64 ss.dl,.int .i64 ss.depth]))/\Below W.heap.size W w'):=HS.out
  have hev:erV no = .nilIface:=by rw [hz];rfl
  rw [hev]
  have G2:=zh g2;have HEV:=zh hev
  clear hz g1 g2 hss hev
  go_wp2_with fail
  refine (HS.out _ HX2.out).mono ?_
  rintro e w3 ⟨rfl,hb3⟩
  have l3:w.heap.size+1<w3.heap.size:=Nat.lt_of_lt_of_le L2.out hb3.size
  have l31:w.heap.size+1<w3.heap.size:=by omega
  have l30:w.heap.size<w3.heap.size:=by omega
  have hl2:=L2.out
  have hr3:=(hb3.block (w.heap.size) (by omega)).trans HR2.out
  have hz3:=(hb3.block (w.heap.size+1) hl2).trans HZ2.out
  have HB3:Hid (Below w.heap.size w w3):=HB2.out.trans (hb3.mono HB2.out.size)
  have cr2:w3.cell? ⟨w.heap.size,2,none⟩=some (.int .u64 (b3:Int)):=zl hr3 rfl
  have cr3:w3.cell? ⟨w.heap.size,3,none⟩=some (.int .i64 b4):=zl hr3 rfl
  have hz5:((w3.alloc (.cells (#[.int .i64 ss.slot,.int .i64 ss.birth,.int .i64 ss.us,.int .i64 ss.ub,.int .i64 ss.kind,.string ss.user,.string ss.label,.int .u64 (b3:Int),.int .i64 b4,.int .i64 ss.born,.int .i64 ss.dl,.int .i64 ss.depth]) 30)).drew).heap[w.heap.size+1]? = some (.cells s0.cells.toArray 30 (0,0)):=(Below.heap_alloc _ _ _ l3).trans hz3
  have HTH:Hid (((w3.alloc (.cells (#[.int .i64 ss.slot,.int .i64 ss.birth,.int .i64 ss.us,.int .i64 ss.ub,.int .i64 ss.kind,.string ss.user,.string ss.label,.int .u64 (b3:Int),.int .i64 b4,.int .i64 ss.born,.int .i64 ss.dl,.int .i64 ss.depth]) 30)).drew).there (w.heap.size+1) 0 12):=Ag.there_row hz5 12 (by decide)
  have HPUT:=zh (put_sess hz5 (by rfl) (Vw.Sess.mk ss.slot ss.birth ss.us ss.ub ss.kind ss.user ss.label b3 b4 ss.born ss.dl ss.depth))
  have HB5:Hid (Below w.heap.size w (World.setCells ((w3.alloc (.cells (#[.int .i64 ss.slot,.int .i64 ss.birth,.int .i64 ss.us,.int .i64 ss.ub,.int .i64 ss.kind,.string ss.user,.string ss.label,.int .u64 (b3:Int),.int .i64 b4,.int .i64 ss.born,.int .i64 ss.dl,.int .i64 ss.depth]) 30)).drew) (w.heap.size+1) 0 (Vw.Sess.mk ss.slot ss.birth ss.us ss.ub ss.kind ss.user ss.label b3 b4 ss.born ss.dl ss.depth).cells)):=Ag.below_setCells (by omega) _ _ _ ((HB3.out.alloc HB3.out.size _).drew)
  have HG:Hid (out=(Vw.Sess.mk ss.slot ss.birth ss.us ss.ub ss.kind ss.user ss.label b3 b4 ss.born ss.dl ss.depth)):=G2.out
  have HZ3:=zh hz3;have HR3:=zh hr3
  clear hr3 hb3 hz3 hz5 hl2
  go_wp2_with fail
  go_region
  go_wp2_with (refine wpList_store_mid (by rfl) 30 (.tmp 8) (.tmp 39) (by rfl) (w.heap.size+1) 0 (Vw.Sess.mk ss.slot ss.birth ss.us ss.ub ss.kind ss.user ss.label b3 b4 ss.born ss.dl ss.depth).cells.toArray (by rfl) (by rfl) HTH.out (by kernel_rfl) (all_oneCell_toArray (sess_one _)) ?_)
  refine bodyPost_ret (results_cell_tmp rfl _ _ (w.heap.size+1) _ (Vw.Sess.mk ss.slot ss.birth ss.us ss.ub ss.kind ss.user ss.label b3 b4 ss.born ss.dl ss.depth).cells.toArray (0,0) _ rfl HPUT.out Tryz.underlying30 rfl (by kernel_rfl)) rfl ?_
  exact ⟨by rw [HG.out,HEV.out];rfl,HB5.out⟩
 ·have HG:Hid (out=s0):=HERR.out hz
  have hev:erV no = .iface 101 (.int .i64 no):=by unfold erV;rw [if_neg hz]
  rw [hev]
  have HEV:=zh hev
  have HTH:Hid (w2.there (w.heap.size+1) 0 12):=Ag.there_row HZ2.out 12 (by decide)
  have HPUT:=zh (put_sess HZ2.out (by rfl) s0)
  have HB5:Hid (Below w.heap.size w (World.setCells w2 (w.heap.size+1) 0 s0.cells)):=Ag.below_setCells (by omega) _ _ _ HB2.out
  clear hz hev
  go_wp2_with (refine wpList_store_mid (by rfl) 30 (.tmp 8) (.tmp 29) (by rfl) (w.heap.size+1) 0 s0.cells.toArray (by rfl) (by rfl) HTH.out (by kernel_rfl) (all_oneCell_toArray (sess_one _)) ?_)
  refine bodyPost_ret (results_cell_tmp rfl _ _ (w.heap.size+1) _ s0.cells.toArray (0,0) _ rfl HPUT.out Tryz.underlying30 rfl (by kernel_rfl)) rfl ?_
  exact ⟨by rw [HG.out,HEV.out];rfl,HB5.out⟩
theorem child_any (p:Sess) (r:Req) (now births:Int) (full:Bool) (h1:r.user.size<=9223372036854775807) (h2:r.label.size<=9223372036854775807) (w:World) :
  Calls Tryz.prog 129 #[.agg p.cells.toArray,.agg r.cells.toArray,.int .i64 now,.int .i64 births,.bool full] w fun e w' => e = .returned (.tuple #[.agg (childS p r now births full).1.cells.toArray,erV (childS p r now births full).2])/\Below w.heap.size w w':=by
 obtain ⟨b,hb⟩:∃ b:Bth,b=⟨p,r,now,births,full,tilOf now r.life p.dl⟩:=⟨_,rfl⟩
 have HA:Hid (∀ W,Calls Tryz.prog 211 #[.agg p.cells.toArray,.agg r.cells.toArray,.int .i64 now,.int .i64 births,.bool full,.int .i64 p.dl] W fun e w' => ∃ x,e = .returned (.pointer (some ⟨x,0,none⟩))/\BthAt x b w'/\Below W.heap.size W w'):=by rw [hb];exact fun W => asked_any p r now births full _ W
 obtain ⟨no,hno⟩:∃ no,no=(childS p r now births full).2:=⟨_,rfl⟩
 have HF:Hid (∀ (x:Nat) (W:World) (g:Nat) (ty:TypeId),BthAt x b W->W.heap[g]? = some (.cells (rulCells childR).toArray ty (0,0))->Calls Tryz.prog 212 #[.pointer (some ⟨x,0,none⟩),.slice (some ⟨g,0,none⟩) 6 6] W fun e w' => e = .returned (erV no)/\Below W.heap.size W w'):=fun x W g ty hx hg => by
  have:=first_any hx (by rw [hb];exact h1) (by rw [hb];exact h2) childR (by decide) (by decide) g ty hg
  rwa [show firstNo b childR=no by rw [hb,child_no,hno]] at this
 obtain ⟨out,hout⟩:∃ out,out=(childS p r now births full).1:=⟨_,rfl⟩
 have HERR:Hid (no≠0->out=s0):=fun h => by rw [hout];exact child_err (by rw [<- hno];exact h)
 have HOK:Hid (no=0->(0<=births/\births<1048576)/\(0<=p.depth/\p.depth<6)/\out={ sesOf b 1 with scopes:=r.scopes,level:=p.level }):=fun h => by rw [hout,hb];exact child_s (by rw [<- hno];exact h)
 have HBB:Hid (b.births=births/\b.p.depth=p.depth):=by show _/\_;rw [hb];exact ⟨rfl,rfl⟩
 rw [<- hno,<- hout]
 obtain ⟨b1,b2,b3,b4,b5⟩:=r
 obtain ⟨a1,a2,a3,a4,a5,a6,a7,a8,a9,a10,a11,a12⟩:=p
 simp only [Req.cells,Vw.Sess.cells] at HA HOK ⊢
 clear h1 h2 hb hno hout
 obtain ⟨W0,hW0⟩:∃ W0,W0=((w.alloc (.cells #[.int .i64 a1,.int .i64 a2,.int .i64 a3,.int .i64 a4,.int .i64 a5,.string a6,.string a7,.int .u64 (a8:Int),.int .i64 a9,.int .i64 a10,.int .i64 a11,.int .i64 a12] 30)).alloc (.cells #[.string b1,.string b2,.int .u64 (b3:Int),.int .i64 b4,.int .i64 b5] 55)).alloc (.cells #[.int .i64 0,.int .i64 0,.int .i64 0,.int .i64 0,.int .i64 0,.string ⟨#[]⟩,.string ⟨#[]⟩,.int .u64 0,.int .i64 0,.int .i64 0,.int .i64 0,.int .i64 0] 30):=⟨_,rfl⟩
 have HP0:Hid (W0.heap[w.heap.size]? = some (.cells #[.int .i64 a1,.int .i64 a2,.int .i64 a3,.int .i64 a4,.int .i64 a5,.string a6,.string a7,.int .u64 (a8:Int),.int .i64 a9,.int .i64 a10,.int .i64 a11,.int .i64 a12] 30 (0,0))):=by show _=_;rw [hW0];exact (Below.heap_alloc _ _ _ (by simp;omega)).trans ((Below.heap_alloc _ _ _ (by simp)).trans (World.alloc_heap_new _ _))
 have HR0:Hid (W0.heap[w.heap.size+1]? = some (.cells #[.string b1,.string b2,.int .u64 (b3:Int),.int .i64 b4,.int .i64 b5] 55 (0,0))):=by
  show _=_
  rw [hW0]
  have:=World.alloc_heap_new (w.alloc (.cells #[.int .i64 a1,.int .i64 a2,.int .i64 a3,.int .i64 a4,.int .i64 a5,.string a6,.string a7,.int .u64 (a8:Int),.int .i64 a9,.int .i64 a10,.int .i64 a11,.int .i64 a12] 30)) (.cells #[.string b1,.string b2,.int .u64 (b3:Int),.int .i64 b4,.int .i64 b5] 55)
  rw [World.size_alloc] at this
  exact (Below.heap_alloc _ _ _ (by simp)).trans this
 have HZ0:Hid (W0.heap[w.heap.size+2]? = some (.cells s0.cells.toArray 30 (0,0))):=by show _=_;rw [hW0];exact at3 _ _ _ _
 have HB0:Hid (Below w.heap.size w W0):=by show Below _ _ _;rw [hW0];exact below3 _ _ _ _
 have HW0:=zh hW0
 clear hW0
 go_enter Tryz.func129,Tryz.ntmps129
 go_wp2_with fail
 try rw [<- HW0.out]
 refine (HA.out _).mono ?_
 rintro e w1 ⟨x,rfl,hx,hb1⟩
 try rw [<- HW0.out] at hb1
 have l0:w.heap.size+2<W0.heap.size:=(zx HZ0.out)
 have hr1:=(hb1.block (w.heap.size+1) (by omega)).trans HR0.out
 have hz1:=(hb1.block (w.heap.size+2) l0).trans HZ0.out
 have hp1:=(hb1.block w.heap.size (by omega)).trans HP0.out
 have l1:w.heap.size+2<w1.heap.size:=(zx hz1)
 have HX:=zh hx;have HR1:=zh hr1;have HZ1:=zh hz1;have HB1:Hid (Below w.heap.size w w1):=HB0.out.trans (hb1.mono HB0.out.size)
 have L1:=zh l1;have HP1:=zh hp1
 clear l0 l1 hr1 hz1 hx hb1 hp1
 go_wp2_with fail
 have hb1':Below w1.heap.size w1 (w1.alloc (.cells (rulCells childR).toArray 328)):=(Below.refl _ _).alloc (Nat.le_refl _) _
 refine (HF.out x _ w1.heap.size _ (HX.out.below hb1') (Ut.alloc_at _ _)).mono ?_
 rintro e w2 ⟨rfl,hb2⟩
 have hb2':=hb1'.trans (hb2.mono hb1'.size)
 have HX2:=zh (HX.out.below hb2')
 have hl1:=L1.out
 have hr2:=(hb2'.block (w.heap.size+1) (by omega)).trans HR1.out
 have hz2:=(hb2'.block (w.heap.size+2) hl1).trans HZ1.out
 have hp2:=(hb2'.block w.heap.size (by omega)).trans HP1.out
 have HR2:=zh hr2;have HZ2:=zh hz2;have HB2:Hid (Below w.heap.size w w2):=HB1.out.trans (hb2'.mono HB1.out.size)
 have L2:Hid (w.heap.size+2<w2.heap.size):=Nat.lt_of_lt_of_le L1.out hb2'.size
 have HP2:=zh hp2
 clear hb1' hb2 hb2' hr2 hz2 hl1 hp2
 by_cases hz:no=0
 ·obtain ⟨g1,gd,g2⟩:=HOK.out hz
  have HS:Hid (∀ W,BthAt x b W->Calls Tryz.prog 218 #[.pointer (some ⟨x,0,none⟩),.int .i64 1] W fun e w' => e = .returned (.agg (sesOf b 1).cells.toArray)/\Below W.heap.size W w'):=fun W h => session_kid h (by rw [HBB.out.1];exact g1) (by rw [HBB.out.2];exact gd) 1 (by decide)
  obtain ⟨ss,hss⟩:∃ ss,ss=sesOf b 1:=⟨_,rfl⟩
  rw [<- hss] at g2 HS
  replace HS:Hid (∀ W,BthAt x b W->Calls Tryz.prog 218 #[.pointer (some ⟨x,0,none⟩),.int .i64 1] W fun e w' => e = .returned (.agg (#[.int .i64 ss.slot,.int .i64 ss.birth,.int .i64 ss.us,.int .i64 ss.ub,.int .i64 ss.kind,.string ss.user,.string ss.label,.int .u64 (ss.scopes:Int),.int .i64 ss.level,.int .i64 ss.born,.int .i64 ss.dl,.int .i64 ss.depth]))/\Below W.heap.size W w'):=HS.out
  have hev:erV no = .nilIface:=by rw [hz];rfl
  rw [hev]
  have G2:=zh g2;have HEV:=zh hev
  clear hz g1 g2 hss hev gd
  go_wp2_with fail
  refine (HS.out _ HX2.out).mono ?_
  rintro e w3 ⟨rfl,hb3⟩
  have l3:w.heap.size+2<w3.heap.size:=Nat.lt_of_lt_of_le L2.out hb3.size
  have l31:w.heap.size+1<w3.heap.size:=by omega
  have l30:w.heap.size<w3.heap.size:=by omega
  have hl2:=L2.out
  have hr3:=(hb3.block (w.heap.size+1) (by omega)).trans HR2.out
  have hz3:=(hb3.block (w.heap.size+2) hl2).trans HZ2.out
  have hp3:=(hb3.block w.heap.size (by omega)).trans HP2.out
  have HB3:Hid (Below w.heap.size w w3):=HB2.out.trans (hb3.mono HB2.out.size)
  have cr2:w3.cell? ⟨w.heap.size+1,2,none⟩=some (.int .u64 (b3:Int)):=zl hr3 rfl
  have cp7:w3.cell? ⟨w.heap.size,7,none⟩=some (.int .u64 (a8:Int)):=zl hp3 rfl
  have cp8:w3.cell? ⟨w.heap.size,8,none⟩=some (.int .i64 a9):=zl hp3 rfl
  have hz5:((w3.alloc (.cells (#[.int .i64 ss.slot,.int .i64 ss.birth,.int .i64 ss.us,.int .i64 ss.ub,.int .i64 ss.kind,.string ss.user,.string ss.label,.int .u64 (b3:Int),.int .i64 a9,.int .i64 ss.born,.int .i64 ss.dl,.int .i64 ss.depth]) 30)).drew).heap[w.heap.size+2]? = some (.cells s0.cells.toArray 30 (0,0)):=(Below.heap_alloc _ _ _ l3).trans hz3
  have HTH:Hid (((w3.alloc (.cells (#[.int .i64 ss.slot,.int .i64 ss.birth,.int .i64 ss.us,.int .i64 ss.ub,.int .i64 ss.kind,.string ss.user,.string ss.label,.int .u64 (b3:Int),.int .i64 a9,.int .i64 ss.born,.int .i64 ss.dl,.int .i64 ss.depth]) 30)).drew).there (w.heap.size+2) 0 12):=Ag.there_row hz5 12 (by decide)
  have HPUT:=zh (put_sess hz5 (by rfl) (Vw.Sess.mk ss.slot ss.birth ss.us ss.ub ss.kind ss.user ss.label b3 a9 ss.born ss.dl ss.depth))
  have HB5:Hid (Below w.heap.size w (World.setCells ((w3.alloc (.cells (#[.int .i64 ss.slot,.int .i64 ss.birth,.int .i64 ss.us,.int .i64 ss.ub,.int .i64 ss.kind,.string ss.user,.string ss.label,.int .u64 (b3:Int),.int .i64 a9,.int .i64 ss.born,.int .i64 ss.dl,.int .i64 ss.depth]) 30)).drew) (w.heap.size+2) 0 (Vw.Sess.mk ss.slot ss.birth ss.us ss.ub ss.kind ss.user ss.label b3 a9 ss.born ss.dl ss.depth).cells)):=Ag.below_setCells (by omega) _ _ _ ((HB3.out.alloc HB3.out.size _).drew)
  have HG:Hid (out=(Vw.Sess.mk ss.slot ss.birth ss.us ss.ub ss.kind ss.user ss.label b3 a9 ss.born ss.dl ss.depth)):=G2.out
  have HZ3:=zh hz3;have HR3:=zh hr3
  clear hr3 hb3 hz3 hz5 hl2 hp3
  go_wp2_with fail
  go_region
  go_wp2_with (refine wpList_store_mid (by rfl) 30 (.tmp 10) (.tmp 44) (by rfl) (w.heap.size+2) 0 (Vw.Sess.mk ss.slot ss.birth ss.us ss.ub ss.kind ss.user ss.label b3 a9 ss.born ss.dl ss.depth).cells.toArray (by rfl) (by rfl) HTH.out (by kernel_rfl) (all_oneCell_toArray (sess_one _)) ?_)
  refine bodyPost_ret (results_cell_tmp rfl _ _ (w.heap.size+2) _ (Vw.Sess.mk ss.slot ss.birth ss.us ss.ub ss.kind ss.user ss.label b3 a9 ss.born ss.dl ss.depth).cells.toArray (0,0) _ rfl HPUT.out Tryz.underlying30 rfl (by kernel_rfl)) rfl ?_
  exact ⟨by rw [HG.out,HEV.out];rfl,HB5.out⟩
 ·have HG:Hid (out=s0):=HERR.out hz
  have hev:erV no = .iface 101 (.int .i64 no):=by unfold erV;rw [if_neg hz]
  rw [hev]
  have HEV:=zh hev
  have HTH:Hid (w2.there (w.heap.size+2) 0 12):=Ag.there_row HZ2.out 12 (by decide)
  have HPUT:=zh (put_sess HZ2.out (by rfl) s0)
  have HB5:Hid (Below w.heap.size w (World.setCells w2 (w.heap.size+2) 0 s0.cells)):=Ag.below_setCells (by omega) _ _ _ HB2.out
  clear hz hev
  go_wp2_with (refine wpList_store_mid (by rfl) 30 (.tmp 10) (.tmp 34) (by rfl) (w.heap.size+2) 0 s0.cells.toArray (by rfl) (by rfl) HTH.out (by kernel_rfl) (all_oneCell_toArray (sess_one _)) ?_)
  refine bodyPost_ret (results_cell_tmp rfl _ _ (w.heap.size+2) _ s0.cells.toArray (0,0) _ rfl HPUT.out Tryz.underlying30 rfl (by kernel_rfl)) rfl ?_
  exact ⟨by rw [HG.out,HEV.out];rfl,HB5.out⟩
theorem raised_any (p:Sess) (r:Req) (now births:Int) (full:Bool) (h1:r.user.size<=9223372036854775807) (h2:r.label.size<=9223372036854775807) (w:World) :
  Calls Tryz.prog 130 #[.agg p.cells.toArray,.agg r.cells.toArray,.int .i64 now,.int .i64 births,.bool full] w fun e w' => e = .returned (.tuple #[.agg (raisedS p r now births full).1.cells.toArray,erV (raisedS p r now births full).2])/\Below w.heap.size w w':=by
 obtain ⟨b,hb⟩:∃ b:Bth,b=⟨p,r,now,births,full,tilOf now r.life p.dl⟩:=⟨_,rfl⟩
 have HA:Hid (∀ W,Calls Tryz.prog 211 #[.agg p.cells.toArray,.agg r.cells.toArray,.int .i64 now,.int .i64 births,.bool full,.int .i64 p.dl] W fun e w' => ∃ x,e = .returned (.pointer (some ⟨x,0,none⟩))/\BthAt x b w'/\Below W.heap.size W w'):=by rw [hb];exact fun W => asked_any p r now births full _ W
 obtain ⟨no,hno⟩:∃ no,no=(raisedS p r now births full).2:=⟨_,rfl⟩
 have HF:Hid (∀ (x:Nat) (W:World) (g:Nat) (ty:TypeId),BthAt x b W->W.heap[g]? = some (.cells (rulCells raisedR).toArray ty (0,0))->Calls Tryz.prog 212 #[.pointer (some ⟨x,0,none⟩),.slice (some ⟨g,0,none⟩) 7 7] W fun e w' => e = .returned (erV no)/\Below W.heap.size W w'):=fun x W g ty hx hg => by
  have:=first_any hx (by rw [hb];exact h1) (by rw [hb];exact h2) raisedR (by decide) (by decide) g ty hg
  rwa [show firstNo b raisedR=no by rw [hb,raised_no,hno]] at this
 obtain ⟨out,hout⟩:∃ out,out=(raisedS p r now births full).1:=⟨_,rfl⟩
 have HERR:Hid (no≠0->out=s0):=fun h => by rw [hout];exact raised_err (by rw [<- hno];exact h)
 have HOK:Hid (no=0->(0<=births/\births<1048576)/\(0<=p.depth/\p.depth<6)/\out={ sesOf b 2 with scopes:=p.scopes,level:=r.level }):=fun h => by rw [hout,hb];exact raised_s (by rw [<- hno];exact h)
 have HBB:Hid (b.births=births/\b.p.depth=p.depth):=by show _/\_;rw [hb];exact ⟨rfl,rfl⟩
 rw [<- hno,<- hout]
 obtain ⟨b1,b2,b3,b4,b5⟩:=r
 obtain ⟨a1,a2,a3,a4,a5,a6,a7,a8,a9,a10,a11,a12⟩:=p
 simp only [Req.cells,Vw.Sess.cells] at HA HOK ⊢
 clear h1 h2 hb hno hout
 obtain ⟨W0,hW0⟩:∃ W0,W0=((w.alloc (.cells #[.int .i64 a1,.int .i64 a2,.int .i64 a3,.int .i64 a4,.int .i64 a5,.string a6,.string a7,.int .u64 (a8:Int),.int .i64 a9,.int .i64 a10,.int .i64 a11,.int .i64 a12] 30)).alloc (.cells #[.string b1,.string b2,.int .u64 (b3:Int),.int .i64 b4,.int .i64 b5] 55)).alloc (.cells #[.int .i64 0,.int .i64 0,.int .i64 0,.int .i64 0,.int .i64 0,.string ⟨#[]⟩,.string ⟨#[]⟩,.int .u64 0,.int .i64 0,.int .i64 0,.int .i64 0,.int .i64 0] 30):=⟨_,rfl⟩
 have HP0:Hid (W0.heap[w.heap.size]? = some (.cells #[.int .i64 a1,.int .i64 a2,.int .i64 a3,.int .i64 a4,.int .i64 a5,.string a6,.string a7,.int .u64 (a8:Int),.int .i64 a9,.int .i64 a10,.int .i64 a11,.int .i64 a12] 30 (0,0))):=by show _=_;rw [hW0];exact (Below.heap_alloc _ _ _ (by simp;omega)).trans ((Below.heap_alloc _ _ _ (by simp)).trans (World.alloc_heap_new _ _))
 have HR0:Hid (W0.heap[w.heap.size+1]? = some (.cells #[.string b1,.string b2,.int .u64 (b3:Int),.int .i64 b4,.int .i64 b5] 55 (0,0))):=by
  show _=_
  rw [hW0]
  have:=World.alloc_heap_new (w.alloc (.cells #[.int .i64 a1,.int .i64 a2,.int .i64 a3,.int .i64 a4,.int .i64 a5,.string a6,.string a7,.int .u64 (a8:Int),.int .i64 a9,.int .i64 a10,.int .i64 a11,.int .i64 a12] 30)) (.cells #[.string b1,.string b2,.int .u64 (b3:Int),.int .i64 b4,.int .i64 b5] 55)
  rw [World.size_alloc] at this
  exact (Below.heap_alloc _ _ _ (by simp)).trans this
 have HZ0:Hid (W0.heap[w.heap.size+2]? = some (.cells s0.cells.toArray 30 (0,0))):=by show _=_;rw [hW0];exact at3 _ _ _ _
 have HB0:Hid (Below w.heap.size w W0):=by show Below _ _ _;rw [hW0];exact below3 _ _ _ _
 have HW0:=zh hW0
 clear hW0
 go_enter Tryz.func130,Tryz.ntmps130
 go_wp2_with fail
 try rw [<- HW0.out]
 refine (HA.out _).mono ?_
 rintro e w1 ⟨x,rfl,hx,hb1⟩
 try rw [<- HW0.out] at hb1
 have l0:w.heap.size+2<W0.heap.size:=(zx HZ0.out)
 have hr1:=(hb1.block (w.heap.size+1) (by omega)).trans HR0.out
 have hz1:=(hb1.block (w.heap.size+2) l0).trans HZ0.out
 have hp1:=(hb1.block w.heap.size (by omega)).trans HP0.out
 have l1:w.heap.size+2<w1.heap.size:=(zx hz1)
 have HX:=zh hx;have HR1:=zh hr1;have HZ1:=zh hz1;have HB1:Hid (Below w.heap.size w w1):=HB0.out.trans (hb1.mono HB0.out.size)
 have L1:=zh l1;have HP1:=zh hp1
 clear l0 l1 hr1 hz1 hx hb1 hp1
 go_wp2_with fail
 have hb1':Below w1.heap.size w1 (w1.alloc (.cells (rulCells raisedR).toArray 328)):=(Below.refl _ _).alloc (Nat.le_refl _) _
 refine (HF.out x _ w1.heap.size _ (HX.out.below hb1') (Ut.alloc_at _ _)).mono ?_
 rintro e w2 ⟨rfl,hb2⟩
 have hb2':=hb1'.trans (hb2.mono hb1'.size)
 have HX2:=zh (HX.out.below hb2')
 have hl1:=L1.out
 have hr2:=(hb2'.block (w.heap.size+1) (by omega)).trans HR1.out
 have hz2:=(hb2'.block (w.heap.size+2) hl1).trans HZ1.out
 have hp2:=(hb2'.block w.heap.size (by omega)).trans HP1.out
 have HR2:=zh hr2;have HZ2:=zh hz2;have HB2:Hid (Below w.heap.size w w2):=HB1.out.trans (hb2'.mono HB1.out.size)
 have L2:Hid (w.heap.size+2<w2.heap.size):=Nat.lt_of_lt_of_le L1.out hb2'.size
 have HP2:=zh hp2
 clear hb1' hb2 hb2' hr2 hz2 hl1 hp2
 by_cases hz:no=0
 ·obtain ⟨g1,gd,g2⟩:=HOK.out hz
  have HS:Hid (∀ W,BthAt x b W->Calls Tryz.prog 218 #[.pointer (some ⟨x,0,none⟩),.int .i64 2] W fun e w' => e = .returned (.agg (sesOf b 2).cells.toArray)/\Below W.heap.size W w'):=fun W h => session_kid h (by rw [HBB.out.1];exact g1) (by rw [HBB.out.2];exact gd) 2 (by decide)
  obtain ⟨ss,hss⟩:∃ ss,ss=sesOf b 2:=⟨_,rfl⟩
  rw [<- hss] at g2 HS
  replace HS:Hid (∀ W,BthAt x b W->Calls Tryz.prog 218 #[.pointer (some ⟨x,0,none⟩),.int .i64 2] W fun e w' => e = .returned (.agg (#[.int .i64 ss.slot,.int .i64 ss.birth,.int .i64 ss.us,.int .i64 ss.ub,.int .i64 ss.kind,.string ss.user,.string ss.label,.int .u64 (ss.scopes:Int),.int .i64 ss.level,.int .i64 ss.born,.int .i64 ss.dl,.int .i64 ss.depth]))/\Below W.heap.size W w'):=HS.out
  have hev:erV no = .nilIface:=by rw [hz];rfl
  rw [hev]
  have G2:=zh g2;have HEV:=zh hev
  clear hz g1 g2 hss hev gd
  go_wp2_with fail
  refine (HS.out _ HX2.out).mono ?_
  rintro e w3 ⟨rfl,hb3⟩
  have l3:w.heap.size+2<w3.heap.size:=Nat.lt_of_lt_of_le L2.out hb3.size
  have l31:w.heap.size+1<w3.heap.size:=by omega
  have l30:w.heap.size<w3.heap.size:=by omega
  have hl2:=L2.out
  have hr3:=(hb3.block (w.heap.size+1) (by omega)).trans HR2.out
  have hz3:=(hb3.block (w.heap.size+2) hl2).trans HZ2.out
  have hp3:=(hb3.block w.heap.size (by omega)).trans HP2.out
  have HB3:Hid (Below w.heap.size w w3):=HB2.out.trans (hb3.mono HB2.out.size)
  have cr3:w3.cell? ⟨w.heap.size+1,3,none⟩=some (.int .i64 b4):=zl hr3 rfl
  have cp7:w3.cell? ⟨w.heap.size,7,none⟩=some (.int .u64 (a8:Int)):=zl hp3 rfl
  have cp8:w3.cell? ⟨w.heap.size,8,none⟩=some (.int .i64 a9):=zl hp3 rfl
  have hz5:((w3.alloc (.cells (#[.int .i64 ss.slot,.int .i64 ss.birth,.int .i64 ss.us,.int .i64 ss.ub,.int .i64 ss.kind,.string ss.user,.string ss.label,.int .u64 (a8:Int),.int .i64 b4,.int .i64 ss.born,.int .i64 ss.dl,.int .i64 ss.depth]) 30)).drew).heap[w.heap.size+2]? = some (.cells s0.cells.toArray 30 (0,0)):=(Below.heap_alloc _ _ _ l3).trans hz3
  have HTH:Hid (((w3.alloc (.cells (#[.int .i64 ss.slot,.int .i64 ss.birth,.int .i64 ss.us,.int .i64 ss.ub,.int .i64 ss.kind,.string ss.user,.string ss.label,.int .u64 (a8:Int),.int .i64 b4,.int .i64 ss.born,.int .i64 ss.dl,.int .i64 ss.depth]) 30)).drew).there (w.heap.size+2) 0 12):=Ag.there_row hz5 12 (by decide)
  have HPUT:=zh (put_sess hz5 (by rfl) (Vw.Sess.mk ss.slot ss.birth ss.us ss.ub ss.kind ss.user ss.label a8 b4 ss.born ss.dl ss.depth))
  have HB5:Hid (Below w.heap.size w (World.setCells ((w3.alloc (.cells (#[.int .i64 ss.slot,.int .i64 ss.birth,.int .i64 ss.us,.int .i64 ss.ub,.int .i64 ss.kind,.string ss.user,.string ss.label,.int .u64 (a8:Int),.int .i64 b4,.int .i64 ss.born,.int .i64 ss.dl,.int .i64 ss.depth]) 30)).drew) (w.heap.size+2) 0 (Vw.Sess.mk ss.slot ss.birth ss.us ss.ub ss.kind ss.user ss.label a8 b4 ss.born ss.dl ss.depth).cells)):=Ag.below_setCells (by omega) _ _ _ ((HB3.out.alloc HB3.out.size _).drew)
  have HG:Hid (out=(Vw.Sess.mk ss.slot ss.birth ss.us ss.ub ss.kind ss.user ss.label a8 b4 ss.born ss.dl ss.depth)):=G2.out
  have HZ3:=zh hz3;have HR3:=zh hr3
  clear hr3 hb3 hz3 hz5 hl2 hp3
  go_wp2_with fail
  go_region
  go_wp2_with (refine wpList_store_mid (by rfl) 30 (.tmp 10) (.tmp 45) (by rfl) (w.heap.size+2) 0 (Vw.Sess.mk ss.slot ss.birth ss.us ss.ub ss.kind ss.user ss.label a8 b4 ss.born ss.dl ss.depth).cells.toArray (by rfl) (by rfl) HTH.out (by kernel_rfl) (all_oneCell_toArray (sess_one _)) ?_)
  refine bodyPost_ret (results_cell_tmp rfl _ _ (w.heap.size+2) _ (Vw.Sess.mk ss.slot ss.birth ss.us ss.ub ss.kind ss.user ss.label a8 b4 ss.born ss.dl ss.depth).cells.toArray (0,0) _ rfl HPUT.out Tryz.underlying30 rfl (by kernel_rfl)) rfl ?_
  exact ⟨by rw [HG.out,HEV.out];rfl,HB5.out⟩
 ·have HG:Hid (out=s0):=HERR.out hz
  have hev:erV no = .iface 101 (.int .i64 no):=by unfold erV;rw [if_neg hz]
  rw [hev]
  have HEV:=zh hev
  have HTH:Hid (w2.there (w.heap.size+2) 0 12):=Ag.there_row HZ2.out 12 (by decide)
  have HPUT:=zh (put_sess HZ2.out (by rfl) s0)
  have HB5:Hid (Below w.heap.size w (World.setCells w2 (w.heap.size+2) 0 s0.cells)):=Ag.below_setCells (by omega) _ _ _ HB2.out
  clear hz hev
  go_wp2_with (refine wpList_store_mid (by rfl) 30 (.tmp 10) (.tmp 35) (by rfl) (w.heap.size+2) 0 s0.cells.toArray (by rfl) (by rfl) HTH.out (by kernel_rfl) (all_oneCell_toArray (sess_one _)) ?_)
  refine bodyPost_ret (results_cell_tmp rfl _ _ (w.heap.size+2) _ s0.cells.toArray (0,0) _ rfl HPUT.out Tryz.underlying30 rfl (by kernel_rfl)) rfl ?_
  exact ⟨by rw [HG.out,HEV.out];rfl,HB5.out⟩
end Fr
end
end Go.Proofs.YtimhglmfckfclaaGreatDoor
