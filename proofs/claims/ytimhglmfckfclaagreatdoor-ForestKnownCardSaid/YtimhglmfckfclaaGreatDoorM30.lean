/- Parts of the proof. -/
import Derived.Test.YtimhglmfckfclaaGreatDoorM29
set_option linter.unusedVariables false
set_option linter.unusedSimpArgs false
set_option maxRecDepth 100000
set_option maxHeartbeats 16000000
namespace Go.Proofs.YtimhglmfckfclaaGreatDoor
section
open Go.RowKit Go.Maps
namespace Fr
open Vw (Sess)
open Ex (Ent wo ExpAt)
section
variable {lo:Nat} {P:Pa} {st st1 st2:FS} {nw c d:Nat} {Fe:Nat->Prop} {w w' w'':World}
theorem flay_no (h:ForAt lo P st nw Fe w) (s:Sess) (hi:thr s.slot=true) (hfr:s.slot ∉ st.free) :
  Calls Tryz.prog 41 #[.pointer (some ⟨P.f,0,none⟩),.agg s.cells.toArray] w fun e w' => e = .returned (erV 9)/\Below w.heap.size w w':=by
 have hb0:Below w.heap.size w (w.alloc (.cells s.cells.toArray 30)):=(Below.refl _ _).alloc (Nat.le_refl _) _
 have HPL:Hid (∀ W,Below w.heap.size w W->Calls Tryz.prog 106 #[.pointer (some ⟨P.a,0,none⟩),.int .i64 s.slot] W fun e w' => e = .returned (.iface 101 (.int .i64 10))/\w'=W):=fun W hb => place_no (h.below hb).ar s.slot hi hfr
 have HSK:Hid (∀ W',Below (w.alloc (.cells s.cells.toArray 30)).heap.size (w.alloc (.cells s.cells.toArray 30)) W'->W'.cell? ⟨P.f,2,none⟩=some (.pointer (some ⟨P.a,0,none⟩))/\W'.cell? ⟨w.heap.size,0,none⟩=some (.int .i64 s.slot)):=fun W' hb => ⟨((h.below hb0).below hb).ptrs.1,by rw [zc ((hb.block w.heap.size (by simp)).trans (World.alloc_heap_new _ _))];rfl⟩
 have HB0:=zh hb0
 clear h hi hfr hb0
 obtain ⟨a1,a2,a3,a4,a5,a6,a7,a8,a9,a10,a11,a12⟩:=s
 simp only [Vw.Sess.cells] at HPL HSK HB0 ⊢
 go_enter Tryz.func41,Tryz.ntmps41
 go_wp2_with fail
 have hbk:Below (w.alloc (.cells #[.int .i64 a1,.int .i64 a2,.int .i64 a3,.int .i64 a4,.int .i64 a5,.string a6,.string a7,.int .u64 (a8:Int),.int .i64 a9,.int .i64 a10,.int .i64 a11,.int .i64 a12] 30)).heap.size (w.alloc (.cells #[.int .i64 a1,.int .i64 a2,.int .i64 a3,.int .i64 a4,.int .i64 a5,.string a6,.string a7,.int .u64 (a8:Int),.int .i64 a9,.int .i64 a10,.int .i64 a11,.int .i64 a12] 30)) (w.alloc (.cells #[.int .i64 a1,.int .i64 a2,.int .i64 a3,.int .i64 a4,.int .i64 a5,.string a6,.string a7,.int .u64 (a8:Int),.int .i64 a9,.int .i64 a10,.int .i64 a11,.int .i64 a12] 30)).drew:=(Below.refl _ _).drew
 refine wp_region_held_drew (S:=fun W' => W'.cell? ⟨P.f,2,none⟩=some (.pointer (some ⟨P.a,0,none⟩))/\W'.cell? ⟨w.heap.size,0,none⟩=some (.int .i64 a1)) (by kernel_rfl) (HSK.out _ hbk) (fun _ => ?_)
 refine tq 0 rfl (.pointer (some ⟨P.f,0,none⟩)) (HSK.out _ hbk) ?_
 try simp only [zq]
 refine tq 1 rfl (.pointer (some ⟨P.f,0,none⟩)) (HSK.out _ hbk) ?_
 try simp only [zq]
 refine tq 2 rfl (.pointer (some ⟨P.f,2,none⟩)) (HSK.out _ hbk) ?_
 try simp only [zq]
 refine tq 3 rfl (.pointer (some ⟨P.a,0,none⟩)) (HSK.out _ hbk) ?_
 try simp only [zq]
 refine tq 4 rfl (.pointer (some ⟨w.heap.size,0,none⟩)) (HSK.out _ hbk) ?_
 try simp only [zq]
 refine tq 5 rfl (.int .i64 a1) (HSK.out _ hbk) ?_
 try simp only [zq]
 refine zr 6 rfl (fun K hK => ?_)
 go_simp
 refine (HPL.out _ (HB0.out.drew)).mono ?_
 rintro e w3 ⟨rfl,hw3⟩
 rw [hw3]
 clear hw3
 refine hK.out _ _ (HSK.out _ hbk) (fun _ => ?_)
 clear hK K
 try simp only [zq]
 refine tq 7 rfl (.iface 101 (.int .i64 10)) (HSK.out _ hbk) ?_
 try simp only [zq]
 refine wpAnyH_done (by kernel_rfl) ?_ _
 try simp only [zq]
 have HE:Hid (Below w.heap.size w (w.alloc (.cells #[.int .i64 a1,.int .i64 a2,.int .i64 a3,.int .i64 a4,.int .i64 a5,.string a6,.string a7,.int .u64 (a8:Int),.int .i64 a9,.int .i64 a10,.int .i64 a11,.int .i64 a12] 30)).drew):=HB0.out.drew
 clear hbk
 go_wp2
 go_ret
 exact ⟨rfl,HE.out⟩
theorem turn_keep (st:FS) (us ub last:Int):(turn st us ub last).births=st.births/\(turn st us ub last).clock=st.clock:=by rw [turn_eq];exact ⟨rfl,rfl⟩
theorem addF_keep {i us ub:Int} (h:addF st i us ub=some st1):st1.births=st.births/\st1.clock=st.clock:=by
 unfold addF at h
 split at h
 ·cases h;exact turn_keep _ _ _ _
 ·cases h
theorem layF_keep {s:Sess} {no:Int} (h:layF st s=some (st2,no)):st2.births=st.births/\st2.clock=st.clock:=by
 unfold layF at h
 split at h
 ·obtain ⟨s1,h1,h2⟩:=Option.map_eq_some_iff.1 h
  cases h2
  have h3:=addF_keep h1
  exact h3
 ·cases h;exact ⟨rfl,rfl⟩
theorem flay (h:ForAt lo P st nw Fe w) (hw:nw<=1099511627776) (s:Sess) (hi:thr s.slot=true) (hok:Ex.okE s.slot s.birth s.dl) (no:Int) (hc:layF st s=some (st2,no)) :
  Calls Tryz.prog 41 #[.pointer (some ⟨P.f,0,none⟩),.agg s.cells.toArray] w fun e w' => e = .returned (erV no)/\FoTo lo P st2 6 nw Fe w w':=by
 unfold layF at hc
 split at hc
 ·rename_i hcc
  obtain ⟨s1,h1,h2⟩:=Option.map_eq_some_iff.1 hc
  cases h2
  exact flay_ok h hw s hi hok (by simpa using hcc) s1 h1
 ·rename_i hcc
  cases hc
  refine (flay_no h s hi (by simpa using hcc)).mono ?_
  rintro e w' ⟨rfl,hb⟩
  exact ⟨rfl,FoTo.of_below h hb⟩
theorem ForAt.setBirths (h:ForAt lo P st nw Fe w) (n:Int):ForAt lo P { st with births:=n } nw Fe (w.setCell ⟨P.f,1,none⟩ (.int .i64 n)):=by
 have ho:Only (fun b => b=P.f) w (w.setCell ⟨P.f,1,none⟩ (.int .i64 n)):=(Only.refl (fun b => b=P.f) w).setCell (p:=⟨P.f,1,none⟩) (fun _ => rfl) _
 refine ⟨?_,h.ar.keep (ho.block _ (h.lt (.inr (.inl rfl))).2 (fun e => h.ne.1.1 e.symm)),h.tr.keep (ho.block _ (h.lt (.inr (.inr (.inl rfl)))).2 (fun e => h.ne.1.2.1 e.symm)),(ho.block _ (h.lt (.inr (.inr (.inr (.inl rfl))))).2 (fun e => h.ne.1.2.2 e.symm)).trans h.gb,h.ex.only ho (fun k hk e => h.nf.1 (e ▸ hk)),h.ne,h.nf,h.lo4,Nat.le_trans h.los ho.size⟩
 rw [heap_setCell_same _ _ _ _ _ _ h.row];rfl
theorem ForAt.setClock (h:ForAt lo P st nw Fe w) (n:Int):ForAt lo P { st with clock:=n } nw Fe (w.setCell ⟨P.f,0,none⟩ (.int .i64 n)):=by
 have ho:Only (fun b => b=P.f) w (w.setCell ⟨P.f,0,none⟩ (.int .i64 n)):=(Only.refl (fun b => b=P.f) w).setCell (p:=⟨P.f,0,none⟩) (fun _ => rfl) _
 refine ⟨?_,h.ar.keep (ho.block _ (h.lt (.inr (.inl rfl))).2 (fun e => h.ne.1.1 e.symm)),h.tr.keep (ho.block _ (h.lt (.inr (.inr (.inl rfl)))).2 (fun e => h.ne.1.2.1 e.symm)),(ho.block _ (h.lt (.inr (.inr (.inr (.inl rfl))))).2 (fun e => h.ne.1.2.2 e.symm)).trans h.gb,h.ex.only ho (fun k hk e => h.nf.1 (e ▸ hk)),h.ne,h.nf,h.lo4,Nat.le_trans h.los ho.size⟩
 rw [heap_setCell_same _ _ _ _ _ _ h.row];rfl
theorem ForAt.free (h:ForAt lo P st nw Fe w) (k:Nat):w.frozen? ⟨P.f,k,none⟩=false:=by unfold World.frozen?;rw [h.row];rfl
structure BornIn (P:Pa) (st:FS) (s:Sess) (cl bi:Int) (mb:Bool) (w:World):Prop where
 sk:∀ W',Below (w.alloc (.cells s.cells.toArray 30)).heap.size (w.alloc (.cells s.cells.toArray 30)) W'->(W'.cell? ⟨P.f,0,none⟩=some (.int .i64 cl)/\W'.cell? ⟨P.f,1,none⟩=some (.int .i64 bi))/\W'.rangeAt w.heap.size 0 s.cells/\W'.cell? ⟨w.heap.size,1,none⟩=some (.int .i64 s.birth)/\W'.cell? ⟨w.heap.size,9,none⟩=some (.int .i64 s.born)
 al:∀ W,Calls Tryz.prog 39 #[.agg s.cells.toArray] W fun e w' => e = .returned (.bool mb)/\Below W.heap.size W w'
theorem born_in (h:ForAt lo P st nw Fe w) (s:Sess) (hu:s.user.size<=9223372036854775807) (hl:s.label.size<=9223372036854775807) (hsc:s.scopes<18446744073709551616):BornIn P st s st.clock st.births (mayS s) w:=by
 have hb0:Below w.heap.size w (w.alloc (.cells s.cells.toArray 30)):=(Below.refl _ _).alloc (Nat.le_refl _) _
 refine ⟨fun W' hb => ?_,fun W => alone_any s hu hl hsc W⟩
 have hr:=(hb.block w.heap.size (by simp)).trans (World.alloc_heap_new w (.cells s.cells.toArray 30))
 exact ⟨((h.below hb0).below hb).nums,box_rng hr,by rw [zc hr];rfl,by rw [zc hr];rfl⟩
theorem born_a {cl bi:Int} {s:Sess} (hB:BornIn P st s cl bi false w) :
  Calls Tryz.prog 24 #[.pointer (some ⟨P.f,0,none⟩),.agg s.cells.toArray] w fun e w' => e = .returned (erV 1)/\Below w.heap.size w w':=by
 obtain ⟨hsk,hal⟩:=hB
 have HSK:=zh hsk;have HAL:=zh hal
 have HB0:Hid (Below w.heap.size w (w.alloc (.cells s.cells.toArray 30))):=(Below.refl _ _).alloc (Nat.le_refl _) _
 clear hsk hal
 obtain ⟨a1,a2,a3,a4,a5,a6,a7,a8,a9,a10,a11,a12⟩:=s
 simp only [Vw.Sess.cells] at *
 go_enter Tryz.func24,Tryz.ntmps24
 go_wp2_with fail
 have hbk:Below (w.alloc (.cells #[.int .i64 a1,.int .i64 a2,.int .i64 a3,.int .i64 a4,.int .i64 a5,.string a6,.string a7,.int .u64 (a8:Int),.int .i64 a9,.int .i64 a10,.int .i64 a11,.int .i64 a12] 30)).heap.size (w.alloc (.cells #[.int .i64 a1,.int .i64 a2,.int .i64 a3,.int .i64 a4,.int .i64 a5,.string a6,.string a7,.int .u64 (a8:Int),.int .i64 a9,.int .i64 a10,.int .i64 a11,.int .i64 a12] 30)) (w.alloc (.cells #[.int .i64 a1,.int .i64 a2,.int .i64 a3,.int .i64 a4,.int .i64 a5,.string a6,.string a7,.int .u64 (a8:Int),.int .i64 a9,.int .i64 a10,.int .i64 a11,.int .i64 a12] 30)).drew:=(Below.refl _ _).drew
 refine wp_region_held_drew (S:=fun W' => (W'.cell? ⟨P.f,0,none⟩=some (.int .i64 cl)/\W'.cell? ⟨P.f,1,none⟩=some (.int .i64 bi))/\W'.rangeAt w.heap.size 0 [.int .i64 a1,.int .i64 a2,.int .i64 a3,.int .i64 a4,.int .i64 a5,.string a6,.string a7,.int .u64 (a8:Int),.int .i64 a9,.int .i64 a10,.int .i64 a11,.int .i64 a12]/\W'.cell? ⟨w.heap.size,1,none⟩=some (.int .i64 a2)/\W'.cell? ⟨w.heap.size,9,none⟩=some (.int .i64 a10)) (by kernel_rfl) (HSK.out _ hbk) (fun _ => ?_)
 refine tk 0 rfl (.agg #[.int .i64 a1,.int .i64 a2,.int .i64 a3,.int .i64 a4,.int .i64 a5,.string a6,.string a7,.int .u64 (a8:Int),.int .i64 a9,.int .i64 a10,.int .i64 a11,.int .i64 a12]) (fun wq hq => by obtain ⟨⟨hq0,hq1⟩,hq2,hq3,hq4⟩:=hq;exact St.exec_load 30 (.tmp 3) (by rfl) w.heap.size 0 (by rfl) [.int .i64 a1,.int .i64 a2,.int .i64 a3,.int .i64 a4,.int .i64 a5,.string a6,.string a7,.int .u64 (a8:Int),.int .i64 a9,.int .i64 a10,.int .i64 a11,.int .i64 a12] _ hq2 Tryz.underlying30 rfl (by kernel_rfl)) (HSK.out _ hbk) ?_
 try simp only [zq]
 refine zr 1 rfl (fun K hK => ?_)
 go_simp
 refine (HAL.out _).mono ?_
 rintro e w3 ⟨rfl,hb3⟩
 replace hbk:=hbk.trans (hb3.mono hbk.size)
 clear hb3
 refine hK.out _ _ (HSK.out _ hbk) (fun _ => ?_)
 clear hK K
 try simp only [zq]
 refine tq 2 rfl (.bool true) (HSK.out _ hbk) ?_
 try simp only [zq]
 refine tq 3 rfl (.bool true) (HSK.out _ hbk) ?_
 try simp only [zq]
 refine tu 4 rfl (HSK.out _ hbk) ?_
 try simp only [zq]
 refine tu 5 rfl (HSK.out _ hbk) ?_
 try simp only [zq]
 refine tu 6 rfl (HSK.out _ hbk) ?_
 try simp only [zq]
 refine tu 7 rfl (HSK.out _ hbk) ?_
 try simp only [zq]
 refine tu 8 rfl (HSK.out _ hbk) ?_
 try simp only [zq]
 refine tu 9 rfl (HSK.out _ hbk) ?_
 try simp only [zq]
 refine tu 10 rfl (HSK.out _ hbk) ?_
 try simp only [zq]
 refine tq 11 rfl (.bool true) (HSK.out _ hbk) ?_
 try simp only [zq]
 refine tq 12 rfl (.bool true) (HSK.out _ hbk) ?_
 try simp only [zq]
 refine wpAnyH_done (by kernel_rfl) ?_ _
 try simp only [zq]
 have HE:Hid (Below w.heap.size w w3):=HB0.out.trans (hbk.mono HB0.out.size)
 clear hbk
 go_wp2
 go_ret
 exact ⟨rfl,HE.out⟩
theorem born_b {cl bi:Int} {s:Sess} (hB:BornIn P st s cl bi true w) (hbo:(s.born != cl)=true) :
  Calls Tryz.prog 24 #[.pointer (some ⟨P.f,0,none⟩),.agg s.cells.toArray] w fun e w' => e = .returned (erV 1)/\Below w.heap.size w w':=by
 obtain ⟨hsk,hal⟩:=hB
 have HSK:=zh hsk;have HAL:=zh hal
 have HB0:Hid (Below w.heap.size w (w.alloc (.cells s.cells.toArray 30))):=(Below.refl _ _).alloc (Nat.le_refl _) _
 clear hsk hal
 obtain ⟨a1,a2,a3,a4,a5,a6,a7,a8,a9,a10,a11,a12⟩:=s
 simp only [Vw.Sess.cells] at *
 go_enter Tryz.func24,Tryz.ntmps24
 go_wp2_with fail
 have hbk:Below (w.alloc (.cells #[.int .i64 a1,.int .i64 a2,.int .i64 a3,.int .i64 a4,.int .i64 a5,.string a6,.string a7,.int .u64 (a8:Int),.int .i64 a9,.int .i64 a10,.int .i64 a11,.int .i64 a12] 30)).heap.size (w.alloc (.cells #[.int .i64 a1,.int .i64 a2,.int .i64 a3,.int .i64 a4,.int .i64 a5,.string a6,.string a7,.int .u64 (a8:Int),.int .i64 a9,.int .i64 a10,.int .i64 a11,.int .i64 a12] 30)) (w.alloc (.cells #[.int .i64 a1,.int .i64 a2,.int .i64 a3,.int .i64 a4,.int .i64 a5,.string a6,.string a7,.int .u64 (a8:Int),.int .i64 a9,.int .i64 a10,.int .i64 a11,.int .i64 a12] 30)).drew:=(Below.refl _ _).drew
 refine wp_region_held_drew (S:=fun W' => (W'.cell? ⟨P.f,0,none⟩=some (.int .i64 cl)/\W'.cell? ⟨P.f,1,none⟩=some (.int .i64 bi))/\W'.rangeAt w.heap.size 0 [.int .i64 a1,.int .i64 a2,.int .i64 a3,.int .i64 a4,.int .i64 a5,.string a6,.string a7,.int .u64 (a8:Int),.int .i64 a9,.int .i64 a10,.int .i64 a11,.int .i64 a12]/\W'.cell? ⟨w.heap.size,1,none⟩=some (.int .i64 a2)/\W'.cell? ⟨w.heap.size,9,none⟩=some (.int .i64 a10)) (by kernel_rfl) (HSK.out _ hbk) (fun _ => ?_)
 refine tk 0 rfl (.agg #[.int .i64 a1,.int .i64 a2,.int .i64 a3,.int .i64 a4,.int .i64 a5,.string a6,.string a7,.int .u64 (a8:Int),.int .i64 a9,.int .i64 a10,.int .i64 a11,.int .i64 a12]) (fun wq hq => by obtain ⟨⟨hq0,hq1⟩,hq2,hq3,hq4⟩:=hq;exact St.exec_load 30 (.tmp 3) (by rfl) w.heap.size 0 (by rfl) [.int .i64 a1,.int .i64 a2,.int .i64 a3,.int .i64 a4,.int .i64 a5,.string a6,.string a7,.int .u64 (a8:Int),.int .i64 a9,.int .i64 a10,.int .i64 a11,.int .i64 a12] _ hq2 Tryz.underlying30 rfl (by kernel_rfl)) (HSK.out _ hbk) ?_
 try simp only [zq]
 refine zr 1 rfl (fun K hK => ?_)
 go_simp
 refine (HAL.out _).mono ?_
 rintro e w3 ⟨rfl,hb3⟩
 replace hbk:=hbk.trans (hb3.mono hbk.size)
 clear hb3
 refine hK.out _ _ (HSK.out _ hbk) (fun _ => ?_)
 clear hK K
 try simp only [zq]
 refine tq 2 rfl (.bool false) (HSK.out _ hbk) ?_
 try simp only [zq]
 refine tq 3 rfl (.bool false) (HSK.out _ hbk) ?_
 try simp only [zq]
 refine tq 4 rfl (.pointer (some ⟨w.heap.size,9,none⟩)) (HSK.out _ hbk) ?_
 try simp only [zq]
 refine tq 5 rfl (.int .i64 a10) (HSK.out _ hbk) ?_
 try simp only [zq]
 refine tq 6 rfl (.pointer (some ⟨P.f,0,none⟩)) (HSK.out _ hbk) ?_
 try simp only [zq]
 refine tq 7 rfl (.pointer (some ⟨P.f,0,none⟩)) (HSK.out _ hbk) ?_
 try simp only [zq]
 refine tq 8 rfl (.pointer (some ⟨P.f,0,none⟩)) (HSK.out _ hbk) ?_
 try simp only [zq]
 refine tq 9 rfl (.int .i64 cl) (HSK.out _ hbk) ?_
 try simp only [zq]
 refine tq 10 rfl (.bool true) (HSK.out _ hbk) ?_
 try simp only [zq]
 refine tq 11 rfl (.bool true) (HSK.out _ hbk) ?_
 try simp only [zq]
 refine tq 12 rfl (.bool true) (HSK.out _ hbk) ?_
 try simp only [zq]
 refine wpAnyH_done (by kernel_rfl) ?_ _
 try simp only [zq]
 have HE:Hid (Below w.heap.size w w3):=HB0.out.trans (hbk.mono HB0.out.size)
 clear hbk
 go_wp2
 go_ret
 exact ⟨rfl,HE.out⟩
theorem born_c {cl bi:Int} {s:Sess} (hB:BornIn P st s cl bi true w) (hbo:(s.born != cl)=false) (hbi:(s.birth != bi+1)=true) (hwr:IntKind.i64.wrap (bi+1)=bi+1) :
  Calls Tryz.prog 24 #[.pointer (some ⟨P.f,0,none⟩),.agg s.cells.toArray] w fun e w' => e = .returned (erV 18)/\Below w.heap.size w w':=by
 obtain ⟨hsk,hal⟩:=hB
 have HSK:=zh hsk;have HAL:=zh hal
 have HB0:Hid (Below w.heap.size w (w.alloc (.cells s.cells.toArray 30))):=(Below.refl _ _).alloc (Nat.le_refl _) _
 clear hsk hal
 obtain ⟨a1,a2,a3,a4,a5,a6,a7,a8,a9,a10,a11,a12⟩:=s
 simp only [Vw.Sess.cells] at *
 go_enter Tryz.func24,Tryz.ntmps24
 go_wp2_with fail
 have hbk:Below (w.alloc (.cells #[.int .i64 a1,.int .i64 a2,.int .i64 a3,.int .i64 a4,.int .i64 a5,.string a6,.string a7,.int .u64 (a8:Int),.int .i64 a9,.int .i64 a10,.int .i64 a11,.int .i64 a12] 30)).heap.size (w.alloc (.cells #[.int .i64 a1,.int .i64 a2,.int .i64 a3,.int .i64 a4,.int .i64 a5,.string a6,.string a7,.int .u64 (a8:Int),.int .i64 a9,.int .i64 a10,.int .i64 a11,.int .i64 a12] 30)) (w.alloc (.cells #[.int .i64 a1,.int .i64 a2,.int .i64 a3,.int .i64 a4,.int .i64 a5,.string a6,.string a7,.int .u64 (a8:Int),.int .i64 a9,.int .i64 a10,.int .i64 a11,.int .i64 a12] 30)).drew:=(Below.refl _ _).drew
 refine wp_region_held_drew (S:=fun W' => (W'.cell? ⟨P.f,0,none⟩=some (.int .i64 cl)/\W'.cell? ⟨P.f,1,none⟩=some (.int .i64 bi))/\W'.rangeAt w.heap.size 0 [.int .i64 a1,.int .i64 a2,.int .i64 a3,.int .i64 a4,.int .i64 a5,.string a6,.string a7,.int .u64 (a8:Int),.int .i64 a9,.int .i64 a10,.int .i64 a11,.int .i64 a12]/\W'.cell? ⟨w.heap.size,1,none⟩=some (.int .i64 a2)/\W'.cell? ⟨w.heap.size,9,none⟩=some (.int .i64 a10)) (by kernel_rfl) (HSK.out _ hbk) (fun _ => ?_)
 refine tk 0 rfl (.agg #[.int .i64 a1,.int .i64 a2,.int .i64 a3,.int .i64 a4,.int .i64 a5,.string a6,.string a7,.int .u64 (a8:Int),.int .i64 a9,.int .i64 a10,.int .i64 a11,.int .i64 a12]) (fun wq hq => by obtain ⟨⟨hq0,hq1⟩,hq2,hq3,hq4⟩:=hq;exact St.exec_load 30 (.tmp 3) (by rfl) w.heap.size 0 (by rfl) [.int .i64 a1,.int .i64 a2,.int .i64 a3,.int .i64 a4,.int .i64 a5,.string a6,.string a7,.int .u64 (a8:Int),.int .i64 a9,.int .i64 a10,.int .i64 a11,.int .i64 a12] _ hq2 Tryz.underlying30 rfl (by kernel_rfl)) (HSK.out _ hbk) ?_
 try simp only [zq]
 refine zr 1 rfl (fun K hK => ?_)
 go_simp
 refine (HAL.out _).mono ?_
 rintro e w3 ⟨rfl,hb3⟩
 replace hbk:=hbk.trans (hb3.mono hbk.size)
 clear hb3
 refine hK.out _ _ (HSK.out _ hbk) (fun _ => ?_)
 clear hK K
 try simp only [zq]
 refine tq 2 rfl (.bool false) (HSK.out _ hbk) ?_
 try simp only [zq]
 refine tq 3 rfl (.bool false) (HSK.out _ hbk) ?_
 try simp only [zq]
 refine tq 4 rfl (.pointer (some ⟨w.heap.size,9,none⟩)) (HSK.out _ hbk) ?_
 try simp only [zq]
 refine tq 5 rfl (.int .i64 a10) (HSK.out _ hbk) ?_
 try simp only [zq]
 refine tq 6 rfl (.pointer (some ⟨P.f,0,none⟩)) (HSK.out _ hbk) ?_
 try simp only [zq]
 refine tq 7 rfl (.pointer (some ⟨P.f,0,none⟩)) (HSK.out _ hbk) ?_
 try simp only [zq]
 refine tq 8 rfl (.pointer (some ⟨P.f,0,none⟩)) (HSK.out _ hbk) ?_
 try simp only [zq]
 refine tq 9 rfl (.int .i64 cl) (HSK.out _ hbk) ?_
 try simp only [zq]
 refine tq 10 rfl (.bool false) (HSK.out _ hbk) ?_
 try simp only [zq]
 refine tq 11 rfl (.bool false) (HSK.out _ hbk) ?_
 try simp only [zq]
 refine tq 12 rfl (.bool false) (HSK.out _ hbk) ?_
 try simp only [zq]
 refine wpAnyH_done (by kernel_rfl) ?_ _
 try simp only [zq]
 have hck:=HSK.out _ hbk
 obtain ⟨⟨g0,g1⟩,g2,g3,g4⟩:=hck
 have HE3:Hid (Below w.heap.size w w3):=HB0.out.trans (hbk.mono HB0.out.size)
 have HRG:=zh g2
 have HBK:=zh hbk
 clear hbk g2 g4 g0
 go_wp2_with fail
 go_region
 have HE:Hid (Below w.heap.size w w3.drew):=HE3.out.drew
 go_wp2
 go_ret
 exact ⟨rfl,HE.out⟩
theorem born_d {cl bi:Int} {s:Sess} (hB:BornIn P st s cl bi true w) (hbo:(s.born != cl)=false) (hbi:(s.birth != bi+1)=false) (hwr:IntKind.i64.wrap (bi+1)=bi+1) (mf:Int) (hmf:mf≠0) (hmay:∀ W,Below (w.alloc (.cells s.cells.toArray 30)).heap.size (w.alloc (.cells s.cells.toArray 30)) W->Calls Tryz.prog 40 #[.pointer (some ⟨P.f,0,none⟩),.agg s.cells.toArray] W fun e w' => e = .returned (erV mf)/\Below W.heap.size W w') :
  Calls Tryz.prog 24 #[.pointer (some ⟨P.f,0,none⟩),.agg s.cells.toArray] w fun e w' => e = .returned (erV mf)/\Below w.heap.size w w':=by
 obtain ⟨hsk,hal⟩:=hB
 have HSK:=zh hsk;have HAL:=zh hal
 have HB0:Hid (Below w.heap.size w (w.alloc (.cells s.cells.toArray 30))):=(Below.refl _ _).alloc (Nat.le_refl _) _
 clear hsk hal
 have hev:erV mf = .iface 101 (.int .i64 mf):=if_neg hmf
 rw [hev] at hmay ⊢
 have HMAY:=zh hmay
 have HEV:=zh hev
 clear hmay hev hmf
 obtain ⟨a1,a2,a3,a4,a5,a6,a7,a8,a9,a10,a11,a12⟩:=s
 simp only [Vw.Sess.cells] at *
 go_enter Tryz.func24,Tryz.ntmps24
 go_wp2_with fail
 have hbk:Below (w.alloc (.cells #[.int .i64 a1,.int .i64 a2,.int .i64 a3,.int .i64 a4,.int .i64 a5,.string a6,.string a7,.int .u64 (a8:Int),.int .i64 a9,.int .i64 a10,.int .i64 a11,.int .i64 a12] 30)).heap.size (w.alloc (.cells #[.int .i64 a1,.int .i64 a2,.int .i64 a3,.int .i64 a4,.int .i64 a5,.string a6,.string a7,.int .u64 (a8:Int),.int .i64 a9,.int .i64 a10,.int .i64 a11,.int .i64 a12] 30)) (w.alloc (.cells #[.int .i64 a1,.int .i64 a2,.int .i64 a3,.int .i64 a4,.int .i64 a5,.string a6,.string a7,.int .u64 (a8:Int),.int .i64 a9,.int .i64 a10,.int .i64 a11,.int .i64 a12] 30)).drew:=(Below.refl _ _).drew
 refine wp_region_held_drew (S:=fun W' => (W'.cell? ⟨P.f,0,none⟩=some (.int .i64 cl)/\W'.cell? ⟨P.f,1,none⟩=some (.int .i64 bi))/\W'.rangeAt w.heap.size 0 [.int .i64 a1,.int .i64 a2,.int .i64 a3,.int .i64 a4,.int .i64 a5,.string a6,.string a7,.int .u64 (a8:Int),.int .i64 a9,.int .i64 a10,.int .i64 a11,.int .i64 a12]/\W'.cell? ⟨w.heap.size,1,none⟩=some (.int .i64 a2)/\W'.cell? ⟨w.heap.size,9,none⟩=some (.int .i64 a10)) (by kernel_rfl) (HSK.out _ hbk) (fun _ => ?_)
 refine tk 0 rfl (.agg #[.int .i64 a1,.int .i64 a2,.int .i64 a3,.int .i64 a4,.int .i64 a5,.string a6,.string a7,.int .u64 (a8:Int),.int .i64 a9,.int .i64 a10,.int .i64 a11,.int .i64 a12]) (fun wq hq => by obtain ⟨⟨hq0,hq1⟩,hq2,hq3,hq4⟩:=hq;exact St.exec_load 30 (.tmp 3) (by rfl) w.heap.size 0 (by rfl) [.int .i64 a1,.int .i64 a2,.int .i64 a3,.int .i64 a4,.int .i64 a5,.string a6,.string a7,.int .u64 (a8:Int),.int .i64 a9,.int .i64 a10,.int .i64 a11,.int .i64 a12] _ hq2 Tryz.underlying30 rfl (by kernel_rfl)) (HSK.out _ hbk) ?_
 try simp only [zq]
 refine zr 1 rfl (fun K hK => ?_)
 go_simp
 refine (HAL.out _).mono ?_
 rintro e w3 ⟨rfl,hb3⟩
 replace hbk:=hbk.trans (hb3.mono hbk.size)
 clear hb3
 refine hK.out _ _ (HSK.out _ hbk) (fun _ => ?_)
 clear hK K
 try simp only [zq]
 refine tq 2 rfl (.bool false) (HSK.out _ hbk) ?_
 try simp only [zq]
 refine tq 3 rfl (.bool false) (HSK.out _ hbk) ?_
 try simp only [zq]
 refine tq 4 rfl (.pointer (some ⟨w.heap.size,9,none⟩)) (HSK.out _ hbk) ?_
 try simp only [zq]
 refine tq 5 rfl (.int .i64 a10) (HSK.out _ hbk) ?_
 try simp only [zq]
 refine tq 6 rfl (.pointer (some ⟨P.f,0,none⟩)) (HSK.out _ hbk) ?_
 try simp only [zq]
 refine tq 7 rfl (.pointer (some ⟨P.f,0,none⟩)) (HSK.out _ hbk) ?_
 try simp only [zq]
 refine tq 8 rfl (.pointer (some ⟨P.f,0,none⟩)) (HSK.out _ hbk) ?_
 try simp only [zq]
 refine tq 9 rfl (.int .i64 cl) (HSK.out _ hbk) ?_
 try simp only [zq]
 refine tq 10 rfl (.bool false) (HSK.out _ hbk) ?_
 try simp only [zq]
 refine tq 11 rfl (.bool false) (HSK.out _ hbk) ?_
 try simp only [zq]
 refine tq 12 rfl (.bool false) (HSK.out _ hbk) ?_
 try simp only [zq]
 refine wpAnyH_done (by kernel_rfl) ?_ _
 try simp only [zq]
 have hck:=HSK.out _ hbk
 obtain ⟨⟨g0,g1⟩,g2,g3,g4⟩:=hck
 have HE3:Hid (Below w.heap.size w w3):=HB0.out.trans (hbk.mono HB0.out.size)
 have HRG:=zh g2
 have HBK:=zh hbk
 clear hbk g2 g4 g0
 go_wp2_with fail
 go_region
 have HRD:Hid (w3.drew.rangeAt w.heap.size 0 [.int .i64 a1,.int .i64 a2,.int .i64 a3,.int .i64 a4,.int .i64 a5,.string a6,.string a7,.int .u64 (a8:Int),.int .i64 a9,.int .i64 a10,.int .i64 a11,.int .i64 a12]):=(World.rangeAt_drew _ _ _ _).2 HRG.out
 have HB3:Hid (Below (w.alloc (.cells #[.int .i64 a1,.int .i64 a2,.int .i64 a3,.int .i64 a4,.int .i64 a5,.string a6,.string a7,.int .u64 (a8:Int),.int .i64 a9,.int .i64 a10,.int .i64 a11,.int .i64 a12] 30)).heap.size (w.alloc (.cells #[.int .i64 a1,.int .i64 a2,.int .i64 a3,.int .i64 a4,.int .i64 a5,.string a6,.string a7,.int .u64 (a8:Int),.int .i64 a9,.int .i64 a10,.int .i64 a11,.int .i64 a12] 30)) w3.drew):=HBK.out.drew
 clear g1 g3
 go_wp2_with (refine wpList_load_mid (by rfl) 30 (.tmp 3) (by rfl) _ _ (by rfl) [.int .i64 a1,.int .i64 a2,.int .i64 a3,.int .i64 a4,.int .i64 a5,.string a6,.string a7,.int .u64 (a8:Int),.int .i64 a9,.int .i64 a10,.int .i64 a11,.int .i64 a12] _ HRD.out Tryz.underlying30 rfl (by kernel_rfl) ?_)
 refine (HMAY.out _ HB3.out).mono ?_
 rintro e w4 ⟨rfl,hb4⟩
 have HE:Hid (Below w.heap.size w w4):=(HE3.out.drew).trans (hb4.mono (HE3.out.drew).size)
 clear hb4
 go_wp2
 go_ret
 exact ⟨rfl,HE.out⟩
theorem born_e {cl bi:Int} {s:Sess} (hB:BornIn P st s cl bi true w) (hbo:(s.born != cl)=false) (hbi:(s.birth != bi+1)=false) (hwr:IntKind.i64.wrap (bi+1)=bi+1) (hmay:∀ W,Below (w.alloc (.cells s.cells.toArray 30)).heap.size (w.alloc (.cells s.cells.toArray 30)) W->Calls Tryz.prog 40 #[.pointer (some ⟨P.f,0,none⟩),.agg s.cells.toArray] W fun e w' => e = .returned (.nilIface)/\Below W.heap.size W w') (hlay:∀ W,Below (w.alloc (.cells s.cells.toArray 30)).heap.size (w.alloc (.cells s.cells.toArray 30)) W->Calls Tryz.prog 41 #[.pointer (some ⟨P.f,0,none⟩),.agg s.cells.toArray] W fun e w' => e = .returned (.iface 101 (.int .i64 9))/\FoTo lo P st1 6 nw Fe W w') :
  Calls Tryz.prog 24 #[.pointer (some ⟨P.f,0,none⟩),.agg s.cells.toArray] w fun e w' => e = .returned (.iface 101 (.int .i64 9))/\FoTo lo P st1 6 nw Fe w w':=by
 obtain ⟨hsk,hal⟩:=hB
 have HSK:=zh hsk;have HAL:=zh hal
 have HB0:Hid (Below w.heap.size w (w.alloc (.cells s.cells.toArray 30))):=(Below.refl _ _).alloc (Nat.le_refl _) _
 clear hsk hal
 have HMAY:Hid (∀ W,Below (w.alloc (.cells s.cells.toArray 30)).heap.size (w.alloc (.cells s.cells.toArray 30)) W->Calls Tryz.prog 40 #[.pointer (some ⟨P.f,0,none⟩),.agg s.cells.toArray] W fun e w' => e = .returned .nilIface/\Below W.heap.size W w'):=hmay
 have HLAY:=zh hlay
 clear hmay hlay
 obtain ⟨a1,a2,a3,a4,a5,a6,a7,a8,a9,a10,a11,a12⟩:=s
 simp only [Vw.Sess.cells] at *
 go_enter Tryz.func24,Tryz.ntmps24
 go_wp2_with fail
 have hbk:Below (w.alloc (.cells #[.int .i64 a1,.int .i64 a2,.int .i64 a3,.int .i64 a4,.int .i64 a5,.string a6,.string a7,.int .u64 (a8:Int),.int .i64 a9,.int .i64 a10,.int .i64 a11,.int .i64 a12] 30)).heap.size (w.alloc (.cells #[.int .i64 a1,.int .i64 a2,.int .i64 a3,.int .i64 a4,.int .i64 a5,.string a6,.string a7,.int .u64 (a8:Int),.int .i64 a9,.int .i64 a10,.int .i64 a11,.int .i64 a12] 30)) (w.alloc (.cells #[.int .i64 a1,.int .i64 a2,.int .i64 a3,.int .i64 a4,.int .i64 a5,.string a6,.string a7,.int .u64 (a8:Int),.int .i64 a9,.int .i64 a10,.int .i64 a11,.int .i64 a12] 30)).drew:=(Below.refl _ _).drew
 refine wp_region_held_drew (S:=fun W' => (W'.cell? ⟨P.f,0,none⟩=some (.int .i64 cl)/\W'.cell? ⟨P.f,1,none⟩=some (.int .i64 bi))/\W'.rangeAt w.heap.size 0 [.int .i64 a1,.int .i64 a2,.int .i64 a3,.int .i64 a4,.int .i64 a5,.string a6,.string a7,.int .u64 (a8:Int),.int .i64 a9,.int .i64 a10,.int .i64 a11,.int .i64 a12]/\W'.cell? ⟨w.heap.size,1,none⟩=some (.int .i64 a2)/\W'.cell? ⟨w.heap.size,9,none⟩=some (.int .i64 a10)) (by kernel_rfl) (HSK.out _ hbk) (fun _ => ?_)
 refine tk 0 rfl (.agg #[.int .i64 a1,.int .i64 a2,.int .i64 a3,.int .i64 a4,.int .i64 a5,.string a6,.string a7,.int .u64 (a8:Int),.int .i64 a9,.int .i64 a10,.int .i64 a11,.int .i64 a12]) (fun wq hq => by obtain ⟨⟨hq0,hq1⟩,hq2,hq3,hq4⟩:=hq;exact St.exec_load 30 (.tmp 3) (by rfl) w.heap.size 0 (by rfl) [.int .i64 a1,.int .i64 a2,.int .i64 a3,.int .i64 a4,.int .i64 a5,.string a6,.string a7,.int .u64 (a8:Int),.int .i64 a9,.int .i64 a10,.int .i64 a11,.int .i64 a12] _ hq2 Tryz.underlying30 rfl (by kernel_rfl)) (HSK.out _ hbk) ?_
 try simp only [zq]
 refine zr 1 rfl (fun K hK => ?_)
 go_simp
 refine (HAL.out _).mono ?_
 rintro e w3 ⟨rfl,hb3⟩
 replace hbk:=hbk.trans (hb3.mono hbk.size)
 clear hb3
 refine hK.out _ _ (HSK.out _ hbk) (fun _ => ?_)
 clear hK K
 try simp only [zq]
 refine tq 2 rfl (.bool false) (HSK.out _ hbk) ?_
 try simp only [zq]
 refine tq 3 rfl (.bool false) (HSK.out _ hbk) ?_
 try simp only [zq]
 refine tq 4 rfl (.pointer (some ⟨w.heap.size,9,none⟩)) (HSK.out _ hbk) ?_
 try simp only [zq]
 refine tq 5 rfl (.int .i64 a10) (HSK.out _ hbk) ?_
 try simp only [zq]
 refine tq 6 rfl (.pointer (some ⟨P.f,0,none⟩)) (HSK.out _ hbk) ?_
 try simp only [zq]
 refine tq 7 rfl (.pointer (some ⟨P.f,0,none⟩)) (HSK.out _ hbk) ?_
 try simp only [zq]
 refine tq 8 rfl (.pointer (some ⟨P.f,0,none⟩)) (HSK.out _ hbk) ?_
 try simp only [zq]
 refine tq 9 rfl (.int .i64 cl) (HSK.out _ hbk) ?_
 try simp only [zq]
 refine tq 10 rfl (.bool false) (HSK.out _ hbk) ?_
 try simp only [zq]
 refine tq 11 rfl (.bool false) (HSK.out _ hbk) ?_
 try simp only [zq]
 refine tq 12 rfl (.bool false) (HSK.out _ hbk) ?_
 try simp only [zq]
 refine wpAnyH_done (by kernel_rfl) ?_ _
 try simp only [zq]
 have hck:=HSK.out _ hbk
 obtain ⟨⟨g0,g1⟩,g2,g3,g4⟩:=hck
 have HE3:Hid (Below w.heap.size w w3):=HB0.out.trans (hbk.mono HB0.out.size)
 have HRG:=zh g2
 have HBK:=zh hbk
 clear hbk g2 g4 g0
 go_wp2_with fail
 go_region
 have HRD:Hid (w3.drew.rangeAt w.heap.size 0 [.int .i64 a1,.int .i64 a2,.int .i64 a3,.int .i64 a4,.int .i64 a5,.string a6,.string a7,.int .u64 (a8:Int),.int .i64 a9,.int .i64 a10,.int .i64 a11,.int .i64 a12]):=(World.rangeAt_drew _ _ _ _).2 HRG.out
 have HB3:Hid (Below (w.alloc (.cells #[.int .i64 a1,.int .i64 a2,.int .i64 a3,.int .i64 a4,.int .i64 a5,.string a6,.string a7,.int .u64 (a8:Int),.int .i64 a9,.int .i64 a10,.int .i64 a11,.int .i64 a12] 30)).heap.size (w.alloc (.cells #[.int .i64 a1,.int .i64 a2,.int .i64 a3,.int .i64 a4,.int .i64 a5,.string a6,.string a7,.int .u64 (a8:Int),.int .i64 a9,.int .i64 a10,.int .i64 a11,.int .i64 a12] 30)) w3.drew):=HBK.out.drew
 clear g1 g3
 go_wp2_with (refine wpList_load_mid (by rfl) 30 (.tmp 3) (by rfl) _ _ (by rfl) [.int .i64 a1,.int .i64 a2,.int .i64 a3,.int .i64 a4,.int .i64 a5,.string a6,.string a7,.int .u64 (a8:Int),.int .i64 a9,.int .i64 a10,.int .i64 a11,.int .i64 a12] _ HRD.out Tryz.underlying30 rfl (by kernel_rfl) ?_)
 refine (HMAY.out _ HB3.out).mono ?_
 rintro e w4 ⟨rfl,hb4⟩
 have hr4:=(hb4.block w.heap.size (World.block_lt_of_cell? w3.drew _ (HRD.out 0 (.int .i64 a1) rfl)))
 have HRE:Hid (w4.rangeAt w.heap.size 0 [.int .i64 a1,.int .i64 a2,.int .i64 a3,.int .i64 a4,.int .i64 a5,.string a6,.string a7,.int .u64 (a8:Int),.int .i64 a9,.int .i64 a10,.int .i64 a11,.int .i64 a12]):=fun j u hu => (World.cell?_of_block (w:=w3.drew) (a:=⟨w.heap.size,0+j,none⟩) hr4).trans (HRD.out j u hu)
 have HB4:Hid (Below (w.alloc (.cells #[.int .i64 a1,.int .i64 a2,.int .i64 a3,.int .i64 a4,.int .i64 a5,.string a6,.string a7,.int .u64 (a8:Int),.int .i64 a9,.int .i64 a10,.int .i64 a11,.int .i64 a12] 30)).heap.size (w.alloc (.cells #[.int .i64 a1,.int .i64 a2,.int .i64 a3,.int .i64 a4,.int .i64 a5,.string a6,.string a7,.int .u64 (a8:Int),.int .i64 a9,.int .i64 a10,.int .i64 a11,.int .i64 a12] 30)) w4):=HB3.out.trans (hb4.mono HB3.out.size)
 have HE4:Hid (Below w.heap.size w w4):=(HE3.out.drew).trans (hb4.mono (HE3.out.drew).size)
 clear hb4 hr4
 go_wp2_with (refine wpList_load_mid (by rfl) 30 (.tmp 3) (by rfl) _ _ (by rfl) [.int .i64 a1,.int .i64 a2,.int .i64 a3,.int .i64 a4,.int .i64 a5,.string a6,.string a7,.int .u64 (a8:Int),.int .i64 a9,.int .i64 a10,.int .i64 a11,.int .i64 a12] _ HRE.out Tryz.underlying30 rfl (by kernel_rfl) ?_)
 refine (HLAY.out _ HB4.out).mono ?_
 rintro e w5 ⟨rfl,h5⟩
 have HE:Hid (FoTo lo P st1 6 nw Fe w w5):=FoTo.pre HE4.out h5
 clear h5
 go_wp2
 go_ret
 exact ⟨rfl,HE.out⟩
theorem born_f {cl bi:Int} {s:Sess} (hB:BornIn P st s cl bi true w) (hbo:(s.born != cl)=false) (hbi:(s.birth != bi+1)=false) (hwr:IntKind.i64.wrap (bi+1)=bi+1) (hbi1:st1.births=bi) (hmay:∀ W,Below (w.alloc (.cells s.cells.toArray 30)).heap.size (w.alloc (.cells s.cells.toArray 30)) W->Calls Tryz.prog 40 #[.pointer (some ⟨P.f,0,none⟩),.agg s.cells.toArray] W fun e w' => e = .returned (.nilIface)/\Below W.heap.size W w') (hlay:∀ W,Below (w.alloc (.cells s.cells.toArray 30)).heap.size (w.alloc (.cells s.cells.toArray 30)) W->Calls Tryz.prog 41 #[.pointer (some ⟨P.f,0,none⟩),.agg s.cells.toArray] W fun e w' => e = .returned (.nilIface)/\FoTo lo P st1 6 nw Fe W w') :
  Calls Tryz.prog 24 #[.pointer (some ⟨P.f,0,none⟩),.agg s.cells.toArray] w fun e w' => e = .returned .nilIface/\FoTo lo P { st1 with births:=bi+1 } 6 nw Fe w w':=by
 obtain ⟨hsk,hal⟩:=hB
 have HSK:=zh hsk;have HAL:=zh hal
 have HB0:Hid (Below w.heap.size w (w.alloc (.cells s.cells.toArray 30))):=(Below.refl _ _).alloc (Nat.le_refl _) _
 clear hsk hal
 have HMAY:Hid (∀ W,Below (w.alloc (.cells s.cells.toArray 30)).heap.size (w.alloc (.cells s.cells.toArray 30)) W->Calls Tryz.prog 40 #[.pointer (some ⟨P.f,0,none⟩),.agg s.cells.toArray] W fun e w' => e = .returned .nilIface/\Below W.heap.size W w'):=hmay
 have HLAY:=zh hlay
 clear hmay hlay
 obtain ⟨a1,a2,a3,a4,a5,a6,a7,a8,a9,a10,a11,a12⟩:=s
 simp only [Vw.Sess.cells] at *
 go_enter Tryz.func24,Tryz.ntmps24
 go_wp2_with fail
 have hbk:Below (w.alloc (.cells #[.int .i64 a1,.int .i64 a2,.int .i64 a3,.int .i64 a4,.int .i64 a5,.string a6,.string a7,.int .u64 (a8:Int),.int .i64 a9,.int .i64 a10,.int .i64 a11,.int .i64 a12] 30)).heap.size (w.alloc (.cells #[.int .i64 a1,.int .i64 a2,.int .i64 a3,.int .i64 a4,.int .i64 a5,.string a6,.string a7,.int .u64 (a8:Int),.int .i64 a9,.int .i64 a10,.int .i64 a11,.int .i64 a12] 30)) (w.alloc (.cells #[.int .i64 a1,.int .i64 a2,.int .i64 a3,.int .i64 a4,.int .i64 a5,.string a6,.string a7,.int .u64 (a8:Int),.int .i64 a9,.int .i64 a10,.int .i64 a11,.int .i64 a12] 30)).drew:=(Below.refl _ _).drew
 refine wp_region_held_drew (S:=fun W' => (W'.cell? ⟨P.f,0,none⟩=some (.int .i64 cl)/\W'.cell? ⟨P.f,1,none⟩=some (.int .i64 bi))/\W'.rangeAt w.heap.size 0 [.int .i64 a1,.int .i64 a2,.int .i64 a3,.int .i64 a4,.int .i64 a5,.string a6,.string a7,.int .u64 (a8:Int),.int .i64 a9,.int .i64 a10,.int .i64 a11,.int .i64 a12]/\W'.cell? ⟨w.heap.size,1,none⟩=some (.int .i64 a2)/\W'.cell? ⟨w.heap.size,9,none⟩=some (.int .i64 a10)) (by kernel_rfl) (HSK.out _ hbk) (fun _ => ?_)
 refine tk 0 rfl (.agg #[.int .i64 a1,.int .i64 a2,.int .i64 a3,.int .i64 a4,.int .i64 a5,.string a6,.string a7,.int .u64 (a8:Int),.int .i64 a9,.int .i64 a10,.int .i64 a11,.int .i64 a12]) (fun wq hq => by obtain ⟨⟨hq0,hq1⟩,hq2,hq3,hq4⟩:=hq;exact St.exec_load 30 (.tmp 3) (by rfl) w.heap.size 0 (by rfl) [.int .i64 a1,.int .i64 a2,.int .i64 a3,.int .i64 a4,.int .i64 a5,.string a6,.string a7,.int .u64 (a8:Int),.int .i64 a9,.int .i64 a10,.int .i64 a11,.int .i64 a12] _ hq2 Tryz.underlying30 rfl (by kernel_rfl)) (HSK.out _ hbk) ?_
 try simp only [zq]
 refine zr 1 rfl (fun K hK => ?_)
 go_simp
 refine (HAL.out _).mono ?_
 rintro e w3 ⟨rfl,hb3⟩
 replace hbk:=hbk.trans (hb3.mono hbk.size)
 clear hb3
 refine hK.out _ _ (HSK.out _ hbk) (fun _ => ?_)
 clear hK K
 try simp only [zq]
 refine tq 2 rfl (.bool false) (HSK.out _ hbk) ?_
 try simp only [zq]
 refine tq 3 rfl (.bool false) (HSK.out _ hbk) ?_
 try simp only [zq]
 refine tq 4 rfl (.pointer (some ⟨w.heap.size,9,none⟩)) (HSK.out _ hbk) ?_
 try simp only [zq]
 refine tq 5 rfl (.int .i64 a10) (HSK.out _ hbk) ?_
 try simp only [zq]
 refine tq 6 rfl (.pointer (some ⟨P.f,0,none⟩)) (HSK.out _ hbk) ?_
 try simp only [zq]
 refine tq 7 rfl (.pointer (some ⟨P.f,0,none⟩)) (HSK.out _ hbk) ?_
 try simp only [zq]
 refine tq 8 rfl (.pointer (some ⟨P.f,0,none⟩)) (HSK.out _ hbk) ?_
 try simp only [zq]
 refine tq 9 rfl (.int .i64 cl) (HSK.out _ hbk) ?_
 try simp only [zq]
 refine tq 10 rfl (.bool false) (HSK.out _ hbk) ?_
 try simp only [zq]
 refine tq 11 rfl (.bool false) (HSK.out _ hbk) ?_
 try simp only [zq]
 refine tq 12 rfl (.bool false) (HSK.out _ hbk) ?_
 try simp only [zq]
 refine wpAnyH_done (by kernel_rfl) ?_ _
 try simp only [zq]
 have hck:=HSK.out _ hbk
 obtain ⟨⟨g0,g1⟩,g2,g3,g4⟩:=hck
 have HE3:Hid (Below w.heap.size w w3):=HB0.out.trans (hbk.mono HB0.out.size)
 have HRG:=zh g2
 have HBK:=zh hbk
 clear hbk g2 g4 g0
 go_wp2_with fail
 go_region
 have HRD:Hid (w3.drew.rangeAt w.heap.size 0 [.int .i64 a1,.int .i64 a2,.int .i64 a3,.int .i64 a4,.int .i64 a5,.string a6,.string a7,.int .u64 (a8:Int),.int .i64 a9,.int .i64 a10,.int .i64 a11,.int .i64 a12]):=(World.rangeAt_drew _ _ _ _).2 HRG.out
 have HB3:Hid (Below (w.alloc (.cells #[.int .i64 a1,.int .i64 a2,.int .i64 a3,.int .i64 a4,.int .i64 a5,.string a6,.string a7,.int .u64 (a8:Int),.int .i64 a9,.int .i64 a10,.int .i64 a11,.int .i64 a12] 30)).heap.size (w.alloc (.cells #[.int .i64 a1,.int .i64 a2,.int .i64 a3,.int .i64 a4,.int .i64 a5,.string a6,.string a7,.int .u64 (a8:Int),.int .i64 a9,.int .i64 a10,.int .i64 a11,.int .i64 a12] 30)) w3.drew):=HBK.out.drew
 clear g1 g3
 go_wp2_with (refine wpList_load_mid (by rfl) 30 (.tmp 3) (by rfl) _ _ (by rfl) [.int .i64 a1,.int .i64 a2,.int .i64 a3,.int .i64 a4,.int .i64 a5,.string a6,.string a7,.int .u64 (a8:Int),.int .i64 a9,.int .i64 a10,.int .i64 a11,.int .i64 a12] _ HRD.out Tryz.underlying30 rfl (by kernel_rfl) ?_)
 refine (HMAY.out _ HB3.out).mono ?_
 rintro e w4 ⟨rfl,hb4⟩
 have hr4:=(hb4.block w.heap.size (World.block_lt_of_cell? w3.drew _ (HRD.out 0 (.int .i64 a1) rfl)))
 have HRE:Hid (w4.rangeAt w.heap.size 0 [.int .i64 a1,.int .i64 a2,.int .i64 a3,.int .i64 a4,.int .i64 a5,.string a6,.string a7,.int .u64 (a8:Int),.int .i64 a9,.int .i64 a10,.int .i64 a11,.int .i64 a12]):=fun j u hu => (World.cell?_of_block (w:=w3.drew) (a:=⟨w.heap.size,0+j,none⟩) hr4).trans (HRD.out j u hu)
 have HB4:Hid (Below (w.alloc (.cells #[.int .i64 a1,.int .i64 a2,.int .i64 a3,.int .i64 a4,.int .i64 a5,.string a6,.string a7,.int .u64 (a8:Int),.int .i64 a9,.int .i64 a10,.int .i64 a11,.int .i64 a12] 30)).heap.size (w.alloc (.cells #[.int .i64 a1,.int .i64 a2,.int .i64 a3,.int .i64 a4,.int .i64 a5,.string a6,.string a7,.int .u64 (a8:Int),.int .i64 a9,.int .i64 a10,.int .i64 a11,.int .i64 a12] 30)) w4):=HB3.out.trans (hb4.mono HB3.out.size)
 have HE4:Hid (Below w.heap.size w w4):=(HE3.out.drew).trans (hb4.mono (HE3.out.drew).size)
 clear hb4 hr4
 go_wp2_with (refine wpList_load_mid (by rfl) 30 (.tmp 3) (by rfl) _ _ (by rfl) [.int .i64 a1,.int .i64 a2,.int .i64 a3,.int .i64 a4,.int .i64 a5,.string a6,.string a7,.int .u64 (a8:Int),.int .i64 a9,.int .i64 a10,.int .i64 a11,.int .i64 a12] _ HRE.out Tryz.underlying30 rfl (by kernel_rfl) ?_)
 refine (HLAY.out _ HB4.out).mono ?_
 rintro e w5 ⟨rfl,h5⟩
 obtain ⟨n5,F5,k1,k2,k3,k4,k5⟩:=h5
 have e1:w5.cell? ⟨P.f,1,none⟩=some (.int .i64 bi):=by rw [k3.nums.2,hbi1]
 have e2:=k3.free 1
 have HE:Hid (FoTo lo P { st1 with births:=bi+1 } 6 nw Fe w (w5.setCell ⟨P.f,1,none⟩ (.int .i64 (bi+1)))):=FoTo.pre HE4.out ⟨n5,F5,k1,k2,k3.setBirths (bi+1),k4.setCell (p:=⟨P.f,1,none⟩) (fun _ => .inl rfl) _,k5⟩
 clear k1 k2 k3 k4 k5
 go_wp2
 go_ret
 exact ⟨rfl,HE.out⟩
end
end Fr
end
end Go.Proofs.YtimhglmfckfclaaGreatDoor
