/- Several texts in one: what each proves its own first comment says. -/
import Derived.Test.YtimhglmfckfclaaGreatQr
import Derived.Test.YtimhglmfckfclaaGreatM34
import Derived.Test.YtimhglmfckfclaaGreatM2
import Derived.Test.YtimhglmfckfclaaGreatM11
import Derived.Test.YtimhglmfckfclaaGreatM33
import Derived.Test.YtimhglmfckfclaaGreatM28
import Derived.Test.YtimhglmfckfclaaGreatM20
import Derived.Test.YtimhglmfckfclaaGreatM19
import Derived.RangeFuncCalls
set_option linter.unusedVariables false
set_option linter.unusedSimpArgs false
namespace Go.Proofs.YtimhglmfckfclaaGreat
open Go.RowKit Go.Maps Go.Shelf
namespace Fr
open Vw (Sess)
open Ex (Ent wo ExpAt)
attribute [local go_sem] Oper.semAt_some
set_option maxRecDepth 100000 in
set_option maxHeartbeats 4000000 in
theorem lask_any (level life:Int) (w:World):Calls Tryz.prog 9 #[.int .i64 level,.int .i64 life] w fun e w' => e = .returned (.agg (askR level life).cells.toArray)∧Below w.heap.size w w':=by
 have hb:Below w.heap.size w (w.alloc (.cells (askR level life).cells.toArray 41)):=(Below.refl _ _).alloc (Nat.le_refl _) _
 have HB:Hid (Below w.heap.size w (w.alloc (.cells #[.string ⟨#[97,110,110]⟩,.string ⟨#[116,118]⟩,.int .u64 7,.int .i64 level,.int .i64 life] 41))):=hb
 clear hb
 go_enter Tryz.func9,Tryz.ntmps9
 have hrow:(w.alloc (.cells #[.string ⟨#[97,110,110]⟩,.string ⟨#[116,118]⟩,.int .u64 7,.int .i64 level,.int .i64 life] 41)).heap[w.heap.size]? = some (.cells #[.string ⟨#[97,110,110]⟩,.string ⟨#[116,118]⟩,.int .u64 7,.int .i64 level,.int .i64 life] 41 (0,0)):=World.alloc_heap_new _ _
 have HROW:=Lib.hid hrow
 clear hrow
 go_wp2
 refine bodyPost_ret (results_cell_row rfl _ _ w.heap.size _ _ (0,0) _ rfl HROW.out Tryz.underlying41 rfl (by kernel_rfl)) rfl ?_
 exact ⟨rfl,HB.out⟩
section
variable {lo:Nat} {P:Pa} {st st1 st2:FS} {nw c d:Nat} {Fe:Nat→Prop} {w w' w'':World}
theorem FoTo.behind {w0:World} (h0:ForAt lo P st nw Fe w0) (hb:Below w0.heap.size w0 w) (h:FoTo lo P st1 c nw Fe w w') {G:Nat→Prop} (ho:Only G w' w'') (hG:∀ k,G k→w0.heap.size≤k∧k<w.heap.size):FoTo lo P st1 c nw Fe w0 w'':=by
 obtain ⟨n1,F1,a1,a2,hf,ho1,hn⟩:=h
 have hnF:∀ k,Fo P Fe k→k<w0.heap.size:=fun k hk => (h0.lt hk).2
 refine ⟨n1,F1,a1,a2,hf.only ho (fun k hk hg => ?_),((Only.of_below hb:Only (Fo P Fe) w0 w).trans ho1 (fun i hi h => h)).trans ho (fun i hi hg => absurd hi (by have:=(hG i hg).1;omega)),fun k hk => (hn k hk).imp id (Nat.le_trans hb.size)⟩
 have h1:=hG k hg
 exact Fo.new hn (fun hf => by have:=hnF k hf;omega) h1.2 hk
theorem FoTo.keepRow (h:FoTo lo P st1 c nw Fe w w') (h0:ForAt lo P st nw Fe w) {k:Nat} (hk:k<w.heap.size) (hn:¬ Fo P Fe k):w'.heap[k]? = w.heap[k]?:=by
 obtain ⟨n1,F1,a1,a2,hf,ho1,hnn⟩:=h
 exact ho1.block k hk hn
set_option maxRecDepth 100000 in
set_option maxHeartbeats 8000000 in
theorem lbirth_any (h:ForAt lo P st nw Fe w) (hw:nw+14≤1099511627776) (kind us ub:Int) (r:Req) (h1:r.user.size≤9223372036854775807) (h2:r.label.size≤9223372036854775807) (s:Sess) (hp:planF st kind us ub r=some (st1,s,0)) (hc:bornF st1 s=some (st2,0))
  (hD:DeepOk st1) (hbi:0≤st1.births∧st1.births≤1048576) (hu:s.user.size≤9223372036854775807) (hl:s.label.size≤9223372036854775807) (hsc:s.scopes<18446744073709551616) :
  Calls Tryz.prog 22 (planArgs P kind us ub r) w fun e w' => e = .returned (.tuple #[.agg s.cells.toArray,.bool true])∧FoTo lo P st2 14 nw Fe w w':=by
 obtain ⟨rs,hrs⟩:∃ rs,rs=r.cells:=⟨_,rfl⟩
 have HRL:Hid (rs.length=5):=by show _=_;rw [hrs];rfl
 obtain ⟨W0,hW0⟩:∃ W0,W0=((w.alloc (.cells #[.int .i64 us,.int .i64 ub] 28)).alloc (.cells r.cells.toArray 41)).alloc (.cells s0.cells.toArray 35):=⟨_,rfl⟩
 have hb0:Below w.heap.size w W0:=by rw [hW0];exact (((Below.refl _ _).alloc (Nat.le_refl _) _).alloc (by simp) _).alloc (by simp;omega) _
 have hs0:W0.heap.size=w.heap.size+3:=by rw [hW0,World.size_alloc,World.size_alloc,World.size_alloc]
 have hR0:W0.heap[w.heap.size+2]? = some (.cells s0.cells.toArray 35 (0,0)):=by
  have:=World.alloc_heap_new ((w.alloc (.cells #[.int .i64 us,.int .i64 ub] 28)).alloc (.cells r.cells.toArray 41)) (.cells s0.cells.toArray 35)
  rw [World.size_alloc,World.size_alloc] at this
  rw [hW0];exact this
 have hpl:=fplan (h.below hb0) (by omega) kind us ub r h1 h2 s 0 hp
 rw [show erV 0 = .nilIface from if_pos rfl] at hpl
 have HPL:=Lib.hid hpl
 clear hpl
 obtain ⟨ss,hss⟩:∃ ss,ss=s.cells:=⟨_,rfl⟩
 have HCL:Hid (ss.length=12):=by show _=_;rw [hss];rfl
 have HC1:Hid (∀ u ∈ ss,u.oneCell'=true):=by show ∀ _,_;rw [hss];exact sess_one _
 have HBORN:Hid (∀ (n1:Nat) (F1:Nat→Prop) (W:World),n1≤nw+8→ForAt lo P st1 n1 F1 W→Calls Tryz.prog 11 #[.pointer (some ⟨P.f,0,none⟩),.agg ss.toArray] W fun e w' => e = .returned (.nilIface)∧FoTo lo P st2 6 n1 F1 W w'):=fun n1 F1 W hn hf => by
  rw [hss]
  exact fborn hf hD hbi (by omega) s hu hl hsc 0 hc
 have HH:=Lib.hid h;have HB0:=Lib.hid hb0;have HS0:=Lib.hid hs0;have HR0:=Lib.hid hR0
 unfold planArgs
 rw [← hss]
 rw [← hss] at HPL
 obtain ⟨b1,b2,b3,b4,b5⟩:=r
 simp only [Req.cells] at *
 replace hW0:W0=((w.alloc (.cells #[.int .i64 us,.int .i64 ub] 28)).alloc (.cells #[.string b1,.string b2,.int .u64 (b3:Int),.int .i64 b4,.int .i64 b5] 41)).alloc (.cells #[.int .i64 0,.int .i64 0,.int .i64 0,.int .i64 0,.int .i64 0,.string ⟨#[]⟩,.string ⟨#[]⟩,.int .u64 0,.int .i64 0,.int .i64 0,.int .i64 0,.int .i64 0] 35):=hW0
 have HW0:=Lib.hid hW0
 have l0:W0.cell? ⟨w.heap.size,0,none⟩=some (.int .i64 us)∧W0.cell? ⟨w.heap.size,1,none⟩=some (.int .i64 ub):=by
  have k:W0.heap[w.heap.size]? = some (.cells #[.int .i64 us,.int .i64 ub] 28 (0,0)):=by
   rw [hW0,Below.heap_alloc _ _ _ (by simp;omega),Below.heap_alloc _ _ _ (by simp)];exact World.alloc_heap_new _ _
  exact ⟨by rw [cell_of_row _ _ _ _ _ _ k];rfl,by rw [cell_of_row _ _ _ _ _ _ k];rfl⟩
 have m0:W0.cell? ⟨w.heap.size+1,0,none⟩=some (.string b1)∧W0.cell? ⟨w.heap.size+1,1,none⟩=some (.string b2)∧W0.cell? ⟨w.heap.size+1,2,none⟩=some (.int .u64 (b3:Int))∧W0.cell? ⟨w.heap.size+1,3,none⟩=some (.int .i64 b4)∧W0.cell? ⟨w.heap.size+1,4,none⟩=some (.int .i64 b5):=by
  have k:W0.heap[w.heap.size+1]? = some (.cells #[.string b1,.string b2,.int .u64 (b3:Int),.int .i64 b4,.int .i64 b5] 41 (0,0)):=by
   have:=World.alloc_heap_new (w.alloc (.cells #[.int .i64 us,.int .i64 ub] 28)) (.cells #[.string b1,.string b2,.int .u64 (b3:Int),.int .i64 b4,.int .i64 b5] 41)
   rw [World.size_alloc] at this
   rw [hW0,Below.heap_alloc _ _ _ (by simp)];exact this
  exact ⟨by rw [cell_of_row _ _ _ _ _ _ k];rfl,by rw [cell_of_row _ _ _ _ _ _ k];rfl,by rw [cell_of_row _ _ _ _ _ _ k];rfl,by rw [cell_of_row _ _ _ _ _ _ k];rfl,by rw [cell_of_row _ _ _ _ _ _ k];rfl⟩
 obtain ⟨l0,l1⟩:=l0
 obtain ⟨m0,m1,m2,m3,m4⟩:=m0
 clear h h1 h2 hp hc hD hbi hu hl hsc hss hW0 hb0 hs0 hR0 hw hrs HRL
 go_enter Tryz.func22,Tryz.ntmps22
 go_upto_region 1 with fail
 rw [← HW0.out]
 go_wp2_with fail
 refine HPL.out.mono ?_
 rintro e w1 ⟨rfl,hf1⟩
 obtain ⟨n1,F1,a1,a2,hfa,hoa,hna⟩:=hf1
 obtain ⟨W4,hW4⟩:∃ W4,W4=w1.alloc (.cells ss.toArray 35):=⟨_,rfl⟩
 obtain ⟨sx,hsx⟩:∃ sx,sx=w1.heap.size:=⟨_,rfl⟩
 have hb14:Below w1.heap.size w1 W4:=by rw [hW4];exact (Below.refl _ _).alloc (Nat.le_refl _) _
 have hrs4:W4.heap[sx]? = some (.cells ss.toArray 35 (0,0)):=by rw [hW4,hsx];exact World.alloc_heap_new _ _
 have hsx0:W0.heap.size≤sx:=by rw [hsx];exact hoa.size
 have hnsx:¬ Fo P F1 sx:=fun hf => by have:=(hfa.lt hf).2;omega
 have hnR:¬ Fo P F1 (w.heap.size+2):=Fo.new hna (fun hf => by have:=(HH.out.lt hf).2;omega) (by rw [HS0.out];omega)
 have hf4:=hfa.below hb14
 have ho04:Only (Fo P Fe) w W4:=(((Only.of_below HB0.out:Only (Fo P Fe) w W0).trans hoa (fun i hi h => h)).trans (Only.of_below hb14:Only (Fo P Fe) w1 W4) (fun i hi h => h))
 have hna0:∀ k,F1 k→Fe k∨w.heap.size≤k:=fun k hk => (hna k hk).imp id (Nat.le_trans HB0.out.size)
 have HF4:=Lib.hid hf4
 have HBO:Hid (∀ W,ForAt lo P st1 n1 F1 W→Calls Tryz.prog 11 #[.pointer (some ⟨P.f,0,none⟩),.agg ss.toArray] W fun e w' => e = .returned (.nilIface)∧FoTo lo P st2 6 n1 F1 W w'):=fun W hf => HBORN.out n1 F1 W a2 hf
 have HSX:=Lib.hid (And.intro hnsx (Array.getElem?_eq_some_iff.1 hrs4).1)
 have hRW4:W4.heap[w.heap.size+2]? = some (.cells s0.cells.toArray 35 (0,0)):=(hb14.block _ (by have:=HS0.out;have:=hoa.size;omega)).trans ((hoa.block _ (by rw [HS0.out];omega) (fun hf => by have:=(HH.out.lt hf).2;omega)).trans HR0.out)
 have HR4:=Lib.hid hRW4
 have HRX:=Lib.hid (And.intro hnR (Array.getElem?_eq_some_iff.1 hRW4).1)
 have HKR:Hid (∀ A B:World,B.heap[sx]? = A.heap[sx]?→A.rangeAt sx 0 ss→B.rangeAt sx 0 ss):=fun A B e h i u hi => by
  have:=h i u hi
  simp only [World.cell?] at this ⊢
  rw [e];exact this
 have hS4:W4.drew.rangeAt sx 0 ss:=fun i u hi => by
  rw [cell_of_row W4.drew _ _ _ _ _ (show W4.drew.heap[sx]? = _ from hrs4)]
  simpa using hi
 have HS4:=Lib.hid hS4
 have hset:∀ A:World,A.heap[w.heap.size+2]? = some (.cells s0.cells.toArray 35 (0,0))→(World.setCells A (w.heap.size+2) 0 ss).heap[w.heap.size+2]? = some (.cells ss.toArray 35 (0,0)):=fun A hA => by
  have:=Ag.setCells_row (w.heap.size+2) 35 ss 0 _ A hA
  rwa [Ag.put_all (by rw [HCL.out];rfl)] at this
 have hne:sx≠w.heap.size+2:=by have:=HS0.out;omega
 have HFIN:Hid (∀ w5,FoTo lo P st2 6 n1 F1 W4.drew w5→w5.heap[w.heap.size+2]? = some (.cells s0.cells.toArray 35 (0,0))→w5.rangeAt sx 0 ss →
   (World.setCells w5 (w.heap.size+2) 0 ss).heap[w.heap.size+2]? = some (.cells ss.toArray 35 (0,0))∧FoTo lo P st2 14 nw Fe w (World.setCells w5 (w.heap.size+2) 0 ss)∧(World.setCells w5 (w.heap.size+2) 0 ss).rangeAt sx 0 ss):=fun w5 h5 hR hS => by
  have ho:Only (fun b => b=w.heap.size+2) w5 (World.setCells w5 (w.heap.size+2) 0 ss):=only_cells _ _ _ (Only.refl _ _)
  have hx:sx<w5.heap.size:=by
   obtain ⟨_,_,_,_,_,ho5,_⟩:=h5
   exact Nat.lt_of_lt_of_le HSX.out.2 ho5.size
  have h7:FoTo lo P st2 (8+6) nw Fe W0 w5:=FoTo.after a1 a2 (hoa.trans ((Only.of_below hb14:Only (Fo P Fe) w1 W4).drew) (fun i hi h => h)) hna h5
  exact ⟨hset w5 hR,FoTo.behind HH.out HB0.out h7 ho (fun k hk => by subst hk;exact ⟨by omega,by rw [HS0.out];omega⟩),HKR.out _ _ (ho.block _ hx hne) hS⟩
 have HST:Hid (W4.heap.size≤(World.setCells W4.drew (w.heap.size+2) 0 ss).heap.size∧ForAt lo P st1 n1 F1 (World.setCells W4.drew (w.heap.size+2) 0 ss)∧(World.setCells W4.drew (w.heap.size+2) 0 ss).rangeAt sx 0 ss∧(World.setCells W4.drew (w.heap.size+2) 0 ss).heap[w.heap.size+2]? = some (.cells ss.toArray 35 (0,0))∧Only (Fo P Fe) w (World.setCells W4.drew (w.heap.size+2) 0 ss)):=by
  have ho:Only (fun b => b=w.heap.size+2) W4.drew (World.setCells W4.drew (w.heap.size+2) 0 ss):=only_cells _ _ _ (Only.refl _ _)
  exact ⟨ho.size,hf4.drew.only ho (fun k hk e => by subst e;exact hnR hk),HKR.out _ _ (ho.block _ HSX.out.2 hne) hS4,hset _ hRW4,ho04.drew.trans ho (fun i hi e => by omega)⟩
 have HFB:Hid (∀ w5 w6,Only (Fo P Fe) w w5→FoTo lo P st2 6 n1 F1 w5 w6→FoTo lo P st2 14 nw Fe w w6):=fun w5 w6 ho h6 => FoTo.after (c:=8) (d:=6) a1 a2 ho hna0 h6
 have HW4:=Lib.hid hW4;have HSQ:=Lib.hid hsx
 clear hfa hoa hna hW4 hsx hb14 hrs4 hsx0 hnsx hnR hf4 ho04 hna0 hRW4 hS4 hset hne a1 a2 l0 l1 m0 m1 m2 m3 m4
 go_upto_region 4 with (first
  | (refine Ag.wpList_store_new (by rfl) 35 (.tmp 10) (.tmp 18) (by rfl) ss (by rfl) (by rfl) (by rw [HCL.out];kernel_rfl) (by rw [HCL.out];rfl) HC1.out ?_))
 rw [← HW4.out,← HSQ.out]
 refine wp_region_held_drew (S:=fun W' => W'.rangeAt sx 0 ss) (by kernel_rfl) HS4.out (fun _ => ?_)
 refine tk 0 rfl (.agg ss.toArray) (fun wq hq => by exact St.exec_load 35 (.tmp 10) (by rfl) sx 0 (by rfl) ss _ hq Tryz.underlying35 rfl (by rw [HCL.out];kernel_rfl)) HS4.out ?_
 (try simp only [Act.put,zq1,zq2,zq3,zq4,zq5,zq6])
 refine tq 1 rfl (.pointer (some ⟨P.f,0,none⟩)) HS4.out ?_
 (try simp only [Act.put,zq1,zq2,zq3,zq4,zq5,zq6])
 refine tk 2 rfl (.agg ss.toArray) (fun wq hq => by exact St.exec_load 35 (.tmp 10) (by rfl) sx 0 (by rfl) ss _ hq Tryz.underlying35 rfl (by rw [HCL.out];kernel_rfl)) HS4.out ?_
 (try simp only [Act.put,zq1,zq2,zq3,zq4,zq5,zq6])
 refine wpAnyH_ready (rs:=[3]) (by kernel_rfl) (by simp) (AllReadyH.cons rfl (fun K hK => ?_) AllReadyH.nil)
 ·go_simp
  refine (HBO.out W4.drew HF4.out.drew).mono ?_
  rintro e w5 ⟨rfl,h5⟩
  have hS5:w5.rangeAt sx 0 ss:=HKR.out _ _ (h5.keepRow HF4.out.drew HSX.out.2 HSX.out.1) HS4.out
  have hR5:=(h5.keepRow HF4.out.drew HRX.out.2 HRX.out.1).trans HR4.out
  refine hK.out _ _ hS5 (fun _ => ?_)
  clear hK K
  (try simp only [Act.put,zq1,zq2,zq3,zq4,zq5,zq6])
  refine tq 4 rfl (.bool true) hS5 ?_
  (try simp only [Act.put,zq1,zq2,zq3,zq4,zq5,zq6])
  refine wpAnyH_ready (rs:=[5]) (by kernel_rfl) (by simp) (AllReadyH.cons rfl (fun K hK => ?_) AllReadyH.nil)
  rw [if_pos (by rfl)]
  refine wp_store_mid 35 (.tmp 8) (.tmp 23) (by rfl) (w.heap.size+2) 0 ss.toArray (by rfl) (by rfl) (Ag.there_row hR5 _ (by rw [List.size_toArray,HCL.out];decide)) (by rw [List.size_toArray,HCL.out];kernel_rfl) (all_oneCell_toArray HC1.out) ?_
  rw [List.toList_toArray]
  have hfin:=HFIN.out _ h5 hR5 hS5
  generalize World.setCells w5 (w.heap.size+2) 0 ss=w6 at hfin ⊢
  refine hK.out _ _ hfin.2.2 (fun _ => ?_)
  clear hK K
  (try simp only [Act.put,zq1,zq2,zq3,zq4,zq5,zq6])
  refine tq 6 rfl (.bool true) hfin.2.2 ?_
  (try simp only [Act.put,zq1,zq2,zq3,zq4,zq5,zq6])
  refine wpAnyH_done (by kernel_rfl) ?_ _
  (try simp only [Act.put,zq1,zq2,zq3,zq4,zq5,zq6])
  clear h5 hS5 hR5
  have HFI:=Lib.hid hfin
  clear hfin
  go_wp2
  refine bodyPost_ret (results_cell_tmp rfl _ _ (w.heap.size+2) _ ss.toArray (0,0) _ rfl HFI.out.1 Tryz.underlying35 rfl (by rw [List.size_toArray,HCL.out];kernel_rfl)) rfl ?_
  exact ⟨rfl,HFI.out.2.1⟩
end
end Fr
end Go.Proofs.YtimhglmfckfclaaGreat
namespace Go.Proofs.YtimhglmfckfclaaGreat
open Go.RowKit Go.Maps
namespace Fr
open Vw (Sess)
attribute [local go_sem] Oper.semAt_some
def allC (ss:List Sess):List Value:=ss.flatMap Sess.cells
theorem allC_snoc (ss:List Sess) (s:Sess):allC (ss ++ [s])=allC ss ++ s.cells:=by simp [allC,List.flatMap_append]
theorem sess_one' (s:Sess):∀ u ∈ s.cells,u.oneCell'=true:=by
 intro u hu
 simp only [Vw.Sess.cells,List.mem_cons,List.not_mem_nil,or_false] at hu
 rcases hu with rfl | rfl | rfl | rfl | rfl | rfl | rfl | rfl | rfl | rfl | rfl | rfl <;> rfl
set_option maxRecDepth 100000 in
set_option maxHeartbeats 4000000 in
theorem values_any (q:Option Addr) (n c:Nat) (w:World):Calls Tryz.prog 51 #[.slice q n c] w fun e w' => e = .returned (.func (.func 83) #[] #[.pointer (some ⟨w.heap.size,0,none⟩)])∧w'=w.alloc (.cells #[.slice q n c] 62):=by
 go_enter Tryz.func51,Tryz.ntmps51
 go_wp2
 go_ret
 exact ⟨rfl,rfl⟩
end Fr
end Go.Proofs.YtimhglmfckfclaaGreat
namespace Go.Proofs.YtimhglmfckfclaaGreat
open Go.RowKit Go.Maps
namespace Fr
structure GR (t e:TypeId) (size:Nat) (cs:Value→Array Value) (B D:Nat) (w:World) (d:Value) (n:Nat) (xs:List Value) (Fp:Nat→Prop) (A:World):Prop where
 row:A.heap[B]? = some (.cells (cs d) t (0,0))
 r1:A.ownsRow D e size d n xs
 fp:∀ b,Fp b↔b=B∨d.ownBlock=some b
 lt:B<D
 bel:Below B w A
section
variable {t e:TypeId} {size:Nat} {cs:Value→Array Value} {B D n m:Nat} {w A A' w1:World} {d v:Value} {xs ys:List Value} {Fp F:Nat→Prop}
theorem GR.blt (h:GR t e size cs B D w d n xs Fp A):B<A.heap.size:=(Array.getElem?_eq_some_iff.1 h.row).1
theorem GR.cell (h:GR t e size cs B D w d n xs Fp A) (k:Nat):A.cell? ⟨B,k,none⟩=(cs d)[k]?:=cell_of_row _ _ _ _ _ _ h.row
theorem GR.far (h:GR t e size cs B D w d n xs Fp A) {b:Nat} (hb:Fp b):B≤b:=by
 rcases (h.fp b).1 hb with h1 | h1
 ·omega
 ·have:=(h.r1.lt b h1).1;have:=h.lt;omega
theorem GR.turn {row:Option Nat} (h:GR t e size cs B D w d n xs Fp A) (hg:A.grownBy A' row) (hrow:∀ r,row=some r→B<r∧¬ Fp r):GR t e size cs B D w d n xs Fp A' :=
 ⟨(hg.block _ h.blt (fun e2 => by have:=(hrow _ e2.symm).1;omega)).trans h.row,own_stay h.r1 (fun b e2 => hg.block b (h.r1.lt b e2).2 (fun e3 => (hrow b e3.symm).2 ((h.fp b).2 (.inr e2)))),h.fp,h.lt,h.bel.grown hg (Nat.le_of_lt h.blt) (fun k e2 => Nat.le_of_lt (hrow k e2).1)⟩
theorem GR.start (w:World):GR t e size cs w.heap.size (w.heap.size+1) w (.slice none 0 0) 0 [] (fun b => b=w.heap.size) (w.alloc (.cells (cs (.slice none 0 0)) t)) :=
 ⟨World.alloc_heap_new w _,World.ownsRow_nil _ _ _ _,fun b => ⟨.inl,fun h => h.elim id (fun h => by cases h)⟩,Nat.lt_succ_self _,(Below.refl _ _).alloc (Nat.le_refl _) _⟩
theorem GR.other (h:GR t e size cs B D w d n xs Fp A) (ho:Only F A A') (hF:∀ b,F b→B<b∧¬ Fp b):GR t e size cs B D w d n xs Fp A' :=
 ⟨(ho.block _ h.blt (fun hf => by have:=(hF _ hf).1;omega)).trans h.row,own_stay h.r1 (fun b e => ho.block b (h.r1.lt b e).2 (fun hf => (hF b hf).2 ((h.fp b).2 (.inr e)))),h.fp,h.lt,h.bel.trans (ho.below (Nat.le_of_lt h.blt) (fun i hi hf => by have:=(hF i hf).1;omega))⟩
theorem GR.after (h:GR t e size cs B D w d n xs Fp A) (hb:Below A.heap.size A A'):GR t e size cs B D w d n xs Fp A' :=
 h.other (Only.of_below (F:=fun _ => False) hb) (fun _ h => h.elim)
theorem GR.push {o1:Obj} (h:GR t e size cs B D w d n xs Fp A) (j:Nat) (hcs:(cs d).setIfInBounds j v=cs v)
  (hown':w1.ownsRow D e size v m ys) (hgrow:(A.alloc o1).grownBy w1 d.ownBlock) (hat:v.ownBlock=d.ownBlock∨v.ownBlock=some (A.alloc o1).heap.size) :
  w1.heap[B]? = some (.cells (cs d) t (0,0))∧Below B w w1∧∃ Fp',GR t e size cs B D w v m ys Fp' (w1.setCell ⟨B,j,none⟩ v)∧Only Fp A (w1.setCell ⟨B,j,none⟩ v)∧∀ b,Fp' b→Fp b∨A.heap.size≤b:=by
 have hlt:=h.blt
 have hnb:∀ b,d.ownBlock=some b→D≤b:=fun b e => (h.r1.lt b e).1
 have ho:Only Fp A w1:=((Only.refl _ A).alloc o1).grown hgrow (fun k hk e => (h.fp k).2 (.inr e))
 have hb1:w1.heap[B]? = some (.cells (cs d) t (0,0)):=(hgrow.block B (by rw [World.size_alloc];omega) (fun e2 => by have:=hnb _ e2.symm;have:=h.lt;omega)).trans ((Below.heap_alloc _ _ _ hlt).trans h.row)
 have hB:Fp B:=(h.fp B).2 (.inl rfl)
 have ho2:Only Fp A (w1.setCell ⟨B,j,none⟩ v):=ho.setCell (p:=⟨B,j,none⟩) (fun _ => hB) _
 refine ⟨hb1,(h.bel.alloc (Nat.le_of_lt hlt) o1).grown hgrow (by simp;omega) (fun k e2 => by have:=hnb k e2;have:=h.lt;omega),fun b => b=B∨v.ownBlock=some b,⟨?_,own_stay hown' (fun b e2 => Below.heap_setCell _ _ _ _ ?_),fun b => Iff.rfl,h.lt,h.bel.trans (ho2.below (Nat.le_of_lt hlt) (fun i hi hf => by have:=h.far hf;omega))⟩,ho2,?_⟩
 ·rw [heap_setCell_same _ _ _ _ _ _ hb1,hcs]
 ·have:=(hown'.lt b e2).1
  have:=h.lt
  show b≠B
  omega
 ·rintro b (h6 | h6)
  ·exact .inl ((h.fp b).2 (.inl h6))
  ·rcases hat with h7 | h7
   ·exact .inl ((h.fp b).2 (.inr (h7.symm.trans h6)))
   ·have e2:b=(A.alloc o1).heap.size:=Option.some.inj (h6.symm.trans h7)
    exact .inr (by rw [e2];simp)
end
theorem only_normal {c:Code} {K:Act→World→Prop} {Q:Exit→Act→World→Prop} {a:Act} {w:World} (h:c.wp Tryz.prog (Exit.then K fun _ _ _ => False) a w):c.wp Tryz.prog (Exit.then K Q) a w :=
 Code.wp_mono (fun e a w h => by cases e <;> first | exact h | exact h.elim) h
end Fr
end Go.Proofs.YtimhglmfckfclaaGreat
namespace Go.Proofs.YtimhglmfckfclaaGreat
open Go.RowKit Go.Maps Go.Shelf
namespace Fr
open Vw (Sess)
open Ex (Ent wo ExpAt)
attribute [local go_sem] Oper.semAt_some
theorem finfo_sess:(Tryz.prog.info? 35).map (fun i => (i.zero,i.size,i.bytes))=some (some (.agg #[.int .i64 0,.int .i64 0,.int .i64 0,.int .i64 0,.int .i64 0,.string ByteArray.empty,.string ByteArray.empty,.int .u64 0,.int .i64 0,.int .i64 0,.int .i64 0,.int .i64 0]),12,112):=by kernel_rfl
structure GS (t:TypeId) (B D:Nat) (w:World) (d:Value) (ls:List Sess) (Fp:Nat→Prop) (A:World):Prop where
 b1:Boxed A B t d
 r1:A.ownsRow D 35 12 d ls.length (allC ls)
 fp:∀ b,Fp b↔b=B∨d.ownBlock=some b
 lt:B<D
 bel:Below B w A
theorem GS.far {t:TypeId} {B D:Nat} {w A:World} {d:Value} {ls:List Sess} {Fp:Nat→Prop} (h:GS t B D w d ls Fp A) {b:Nat} (hb:Fp b):B≤b:=by
 rcases (h.fp b).1 hb with h1 | h1
 ·omega
 ·have:=(h.r1.lt b h1).1;have:=h.lt;omega
theorem GS.turn {t:TypeId} {B D:Nat} {w A A':World} {d:Value} {ls:List Sess} {Fp:Nat→Prop} {row:Option Nat} (h:GS t B D w d ls Fp A) (hg:A.grownBy A' row) (hrow:∀ r,row=some r→B<r∧¬ Fp r):GS t B D w d ls Fp A' :=
 ⟨h.b1.kept hg (fun e => by have:=(hrow _ e.symm).1;omega),own_stay h.r1 (fun b e => hg.block b (h.r1.lt b e).2 (fun e2 => (hrow b e2.symm).2 ((h.fp b).2 (.inr e)))),h.fp,h.lt,h.bel.grown hg (Nat.le_of_lt h.b1.lt) (fun k e => Nat.le_of_lt (hrow k e).1)⟩
theorem GS.start {t:TypeId} (w:World):GS t w.heap.size (w.heap.size+1) w (.slice none 0 0) [] (fun b => b=w.heap.size) (w.alloc (.cells #[.slice none 0 0] t)) :=
 ⟨Boxed.new w t _,World.ownsRow_nil _ _ _ _,fun b => ⟨.inl,fun h => h.elim id (fun h => by cases h)⟩,Nat.lt_succ_self _,(Below.refl _ _).alloc (Nat.le_refl _) _⟩
theorem GS.push {t:TypeId} {B D:Nat} {w A w1:World} {d v:Value} {ls:List Sess} {x:Sess} {Fp:Nat→Prop} {o1:Obj} (h:GS t B D w d ls Fp A)
  (hown':w1.ownsRow D 35 12 v (ls.length+1) (allC ls ++ x.cells)) (hgrow:(A.alloc o1).grownBy w1 d.ownBlock) (hat:v.ownBlock=d.ownBlock∨v.ownBlock=some (A.alloc o1).heap.size) :
  Boxed w1 B t d∧Below B w w1∧∃ Fp',GS t B D w v (ls ++ [x]) Fp' (w1.setCell ⟨B,0,none⟩ v)∧Only Fp A (w1.setCell ⟨B,0,none⟩ v)∧∀ b,Fp' b→Fp b∨A.heap.size≤b:=by
 obtain ⟨h1,h2,h3,h4,h5⟩:=push_in_box h.b1 h.lt h.r1 hown' hgrow hat
 have ho:Only Fp A (w1.setCell ⟨B,0,none⟩ v):=h4.mono (fun i _ hi => (h.fp i).2 hi)
 refine ⟨h1,(h.bel.alloc (Nat.le_of_lt h.b1.lt) o1).grown hgrow (by have:=h.b1.lt;simp;omega) (fun k e => by have:=(h.r1.lt k e).1;have:=h.lt;omega),fun b => b=B∨v.ownBlock=some b,⟨h2,?_,fun b => Iff.rfl,h.lt,h.bel.trans (ho.below (Nat.le_of_lt h.b1.lt) (fun i hi hf => by have:=h.far hf;omega))⟩,ho,?_⟩
 ·rw [List.length_append,allC_snoc];exact h3
 ·rintro b (h6 | h6)
  ·exact .inl ((h.fp b).2 (.inl h6))
  ·exact (h5 b h6).imp (fun h7 => (h.fp b).2 (.inr h7)) id
theorem GS.other {t:TypeId} {B D:Nat} {w A A':World} {d:Value} {ls:List Sess} {Fp F:Nat→Prop} (h:GS t B D w d ls Fp A) (ho:Only F A A') (hF:∀ b,F b→B<b∧¬ Fp b):GS t B D w d ls Fp A' :=
 ⟨(ho.block _ h.b1.lt (fun hf => by have:=(hF _ hf).1;omega)).trans h.b1,own_stay h.r1 (fun b e => ho.block b (h.r1.lt b e).2 (fun hf => (hF b hf).2 ((h.fp b).2 (.inr e)))),h.fp,h.lt,h.bel.trans (ho.below (Nat.le_of_lt h.b1.lt) (fun i hi hf => by have:=(hF i hf).1;omega))⟩
theorem GS.after {t:TypeId} {B D:Nat} {w A A':World} {d:Value} {ls:List Sess} {Fp:Nat→Prop} (h:GS t B D w d ls Fp A) (hb:Below A.heap.size A A'):GS t B D w d ls Fp A' :=
 h.other (Only.of_below (F:=fun _ => False) hb) (fun _ h => h.elim)
def FUndPost (L:List Sess) (w:World) (e:Ending) (w':World):Prop:=(∃ bx v,e = .returned (.func (.func 83) #[] #[.pointer (some ⟨bx,0,none⟩)])∧w.heap.size≤bx∧Boxed w' bx 62 v∧w'.ownsRow w.heap.size 35 12 v L.length (allC L))∧Below w.heap.size w w'
section
variable {lo:Nat} {P:Pa} {st st1 st2:FS} {nw c d:Nat} {Fe:Nat→Prop} {w w' w'':World}
theorem und_end {B:Nat} {t:TypeId} {W:World} {v:Value} {L:List Sess} {w A:World} {Fp:Nat→Prop} (h:GS t B (B+1) W v L Fp A) (hw:w.heap.size≤B) (hb:Below w.heap.size w W) (o:Obj) (t2:TypeId) (ho:o = .cells #[v] t2) :
  Boxed (A.alloc o) A.heap.size t2 v∧(A.alloc o).ownsRow w.heap.size 35 12 v L.length (allC L)∧Below w.heap.size w (A.alloc o)∧w.heap.size≤A.heap.size:=by
 have h1:w.heap.size≤A.heap.size:=by have:=h.b1.lt;omega
 subst ho
 exact ⟨Boxed.new _ _ _,own_down (own_stay h.r1 (fun b e => Below.heap_alloc _ _ _ (h.r1.lt b e).2)) (by omega),(hb.trans (h.bel.mono hw)).alloc h1 _,h1⟩
set_option maxRecDepth 100000 in
set_option maxHeartbeats 8000000 in
theorem funder_no (h:ForAt lo P st nw Fe w) (us ub:Int) (hl:lives st.S us ub=false) :
  Calls Tryz.prog 24 #[.pointer (some ⟨P.f,0,none⟩),.agg #[.int .i64 us,.int .i64 ub]] w (FUndPost (underF st us ub) w):=by
 have hund:underF st us ub=[]:=by unfold underF;rw [hl];rfl
 rw [hund]
 obtain ⟨W2,hW2⟩:∃ W2,W2=(w.alloc (.cells #[.pointer (some ⟨P.f,0,none⟩)] 24)).alloc (.cells #[.int .i64 us,.int .i64 ub] 28):=⟨_,rfl⟩
 have hs2:W2.heap.size=w.heap.size+2:=by rw [hW2,World.size_alloc,World.size_alloc]
 have hb2:Below w.heap.size w W2:=by rw [hW2];exact ((Below.refl _ _).alloc (Nat.le_refl _) _).alloc (by simp) _
 have hx0:Boxed W2 w.heap.size 24 (.pointer (some ⟨P.f,0,none⟩)):=by rw [hW2];exact (Boxed.new _ _ _).alloc _
 have hx1:W2.heap[w.heap.size+1]? = some (.cells #[.int .i64 us,.int .i64 ub] 28 (0,0)):=by
  have:=World.alloc_heap_new (w.alloc (.cells #[.pointer (some ⟨P.f,0,none⟩)] 24)) (.cells #[.int .i64 us,.int .i64 ub] 28)
  rw [World.size_alloc] at this
  rw [hW2];exact this
 obtain ⟨W3,hW3⟩:∃ W3,W3=W2.alloc (.cells #[.slice none 0 0] 62):=⟨_,rfl⟩
 have hu3:GS 62 (w.heap.size+2) (w.heap.size+3) W2 (.slice none 0 0) [] (fun b => b=w.heap.size+2) W3:=by
  have:=GS.start (t:=62) W2
  rw [hs2] at this
  rw [hW3];exact this
 have hs3:W3.heap.size=w.heap.size+3:=by rw [hW3,World.size_alloc,hs2]
 have hb23:Below W2.heap.size W2 W3:=by rw [hW3];exact (Below.refl _ _).alloc (Nat.le_refl _) _
 have hb3:Below w.heap.size w W3:=hb2.trans (hb23.mono (by omega))
 have HSES:=Lib.hid (fsession (h.below hb3) us ub)
 have HSK:Hid (∀ W',Below W3.heap.size W3 W'→W'.cell? ⟨w.heap.size,0,none⟩=some (.pointer (some ⟨P.f,0,none⟩))∧W'.cell? ⟨P.f,3,none⟩=some (.pointer (some ⟨P.t,0,none⟩))∧W'.cell? ⟨w.heap.size+1,0,none⟩=some (.int .i64 us)):=fun W' hb => by
  have hb4:Below W2.heap.size W2 W':=hb23.trans (hb.mono hb23.size)
  exact ⟨Boxed.cell (t:=24) ((hb4.block _ hx0.lt).trans hx0),(h.below (hb3.trans (hb.mono hb3.size))).ptrs.2.1,by rw [cell_of_row _ _ _ _ _ _ ((hb4.block _ (Array.getElem?_eq_some_iff.1 hx1).1).trans hx1)];rfl⟩
 have HW3:Hid (W3=((w.alloc (.cells #[.pointer (some ⟨P.f,0,none⟩)] 24)).alloc (.cells #[.int .i64 us,.int .i64 ub] 28)).alloc (.cells #[.slice none 0 0] 62)):=by show _=_;rw [hW3,hW2]
 have HU3:=Lib.hid hu3;have HS2:=Lib.hid hs2;have HS3:=Lib.hid hs3;have HB2:=Lib.hid hb2;have HB3:=Lib.hid hb3
 obtain ⟨cs,hcs⟩:∃ cs,cs=(sessionF st us ub).1.cells:=⟨_,rfl⟩
 have HCL:Hid (cs.length=12):=by show _=_;rw [hcs];rfl
 have HC1:Hid (∀ u ∈ cs,u.oneCell'=true):=by show ∀ _,_;rw [hcs];exact sess_one' _
 obtain ⟨no,hno⟩:∃ no,no=(sessionF st us ub).2:=⟨_,rfl⟩
 rw [← hcs,← hno] at HSES
 have hev:erV no = .iface 83 (.int .i64 16):=by
  rw [hno];unfold sessionF;rw [hl];rfl
 rw [hev] at HSES
 clear h hl hund hW2 hs2 hb2 hx0 hx1 hW3 hu3 hs3 hb23 hb3 hcs hno hev
 go_enter Tryz.func24,Tryz.ntmps24
 go_wp2_with fail
 rw [← HW3.out]
 refine HSES.out.mono ?_
 rintro e w4 ⟨rfl,hb4⟩
 obtain ⟨W5,hW5⟩:∃ W5,W5=w4.alloc (.cells cs.toArray 35):=⟨_,rfl⟩
 have hb5:Below W3.heap.size W3 W5:=by rw [hW5];exact hb4.alloc hb4.size _
 have hu5:=HU3.out.after hb5
 have c5:=hu5.b1.cell
 have HU5:=Lib.hid hu5;have HW5:=Lib.hid hW5
 clear hb4 hb5 hu5 hW5
 go_upto_region 3 with (first
  | (refine Ag.wpList_store_new (by rfl) 35 (.tmp 6) (.tmp 15) (by rfl) cs (by rfl) (by rfl) (by rw [HCL.out];kernel_rfl) (by rw [HCL.out];rfl) HC1.out ?_))
 rw [← HW5.out]
 have HV:=Lib.hid (values_any none 0 0 W5)
 go_wp2_with fail
 refine HV.out.mono ?_
 rintro e w6 ⟨rfl,h6⟩
 obtain ⟨k1,k2,k3,k4⟩:=und_end HU5.out (by omega) HB2.out _ 62 rfl
 rw [← h6] at k1 k2 k3
 have HK:=Lib.hid (And.intro k1 (And.intro k2 (And.intro k3 k4)))
 clear h6 k1 k2 k3 k4
 go_wp2
 go_ret
 exact ⟨⟨_,_,rfl,HK.out.2.2.2,HK.out.1,HK.out.2.1⟩,HK.out.2.2.1⟩
end
end Fr
end Go.Proofs.YtimhglmfckfclaaGreat
namespace Go.Proofs.YtimhglmfckfclaaGreat
open Go.RowKit Go.Maps Go.Shelf
namespace Fr
open Vw (Sess)
open Ex (Ent wo ExpAt)
attribute [local go_sem] Oper.semAt_some
section
variable {lo:Nat} {P:Pa} {st st1 st2:FS} {nw c d:Nat} {Fe:Nat→Prop} {w w' w'':World}
set_option maxRecDepth 100000 in
set_option maxHeartbeats 8000000 in
theorem funder_yes (h:ForAt lo P st nw Fe w) (us ub:Int) (hl:lives st.S us ub=true) {K:Int→List Int} {G:Int→Prop} {d:Int→Nat} (hB:BelOk st.S K G d) (hG:G us) (hd:d us≤33) :
  Calls Tryz.prog 24 #[.pointer (some ⟨P.f,0,none⟩),.agg #[.int .i64 us,.int .i64 ub]] w (FUndPost (underF st us ub) w):=by
 have hund:underF st us ub=(underI st.S us).map fun i => (sl st.S i).s:=by unfold underF;rw [if_pos hl]
 rw [hund]
 obtain ⟨L,hL⟩:∃ L,L=underI st.S us:=⟨_,rfl⟩
 have hnd:SlotsNd L:=by
  rw [hL];unfold underI;rw [if_pos (hB.th us hG)]
  exact hB.slots 33 us [] hG ⟨List.nodup_nil,fun _ h => by cases h⟩
 rw [← hL]
 obtain ⟨W2,hW2⟩:∃ W2,W2=(w.alloc (.cells #[.pointer (some ⟨P.f,0,none⟩)] 24)).alloc (.cells #[.int .i64 us,.int .i64 ub] 28):=⟨_,rfl⟩
 have hs2:W2.heap.size=w.heap.size+2:=by rw [hW2,World.size_alloc,World.size_alloc]
 have hb2:Below w.heap.size w W2:=by rw [hW2];exact ((Below.refl _ _).alloc (Nat.le_refl _) _).alloc (by simp) _
 have hx0:Boxed W2 w.heap.size 24 (.pointer (some ⟨P.f,0,none⟩)):=by rw [hW2];exact (Boxed.new _ _ _).alloc _
 have hx1:W2.heap[w.heap.size+1]? = some (.cells #[.int .i64 us,.int .i64 ub] 28 (0,0)):=by
  have:=World.alloc_heap_new (w.alloc (.cells #[.pointer (some ⟨P.f,0,none⟩)] 24)) (.cells #[.int .i64 us,.int .i64 ub] 28)
  rw [World.size_alloc] at this
  rw [hW2];exact this
 obtain ⟨W3,hW3⟩:∃ W3,W3=W2.alloc (.cells #[.slice none 0 0] 62):=⟨_,rfl⟩
 have hu3:GS 62 (w.heap.size+2) (w.heap.size+3) W2 (.slice none 0 0) [] (fun b => b=w.heap.size+2) W3:=by
  have:=GS.start (t:=62) W2
  rw [hs2] at this
  rw [hW3];exact this
 have hs3:W3.heap.size=w.heap.size+3:=by rw [hW3,World.size_alloc,hs2]
 have hb23:Below W2.heap.size W2 W3:=by rw [hW3];exact (Below.refl _ _).alloc (Nat.le_refl _) _
 have hb3:Below w.heap.size w W3:=hb2.trans (hb23.mono (by omega))
 have HSES:=Lib.hid (fsession (h.below hb3) us ub)
 have HSK:Hid (∀ W',Below W3.heap.size W3 W'→W'.cell? ⟨w.heap.size,0,none⟩=some (.pointer (some ⟨P.f,0,none⟩))∧W'.cell? ⟨P.f,3,none⟩=some (.pointer (some ⟨P.t,0,none⟩))∧W'.cell? ⟨w.heap.size+1,0,none⟩=some (.int .i64 us)):=fun W' hb => by
  have hb4:Below W2.heap.size W2 W':=hb23.trans (hb.mono hb23.size)
  exact ⟨Boxed.cell (t:=24) ((hb4.block _ hx0.lt).trans hx0),(h.below (hb3.trans (hb.mono hb3.size))).ptrs.2.1,by rw [cell_of_row _ _ _ _ _ _ ((hb4.block _ (Array.getElem?_eq_some_iff.1 hx1).1).trans hx1)];rfl⟩
 have HW3:Hid (W3=((w.alloc (.cells #[.pointer (some ⟨P.f,0,none⟩)] 24)).alloc (.cells #[.int .i64 us,.int .i64 ub] 28)).alloc (.cells #[.slice none 0 0] 62)):=by show _=_;rw [hW3,hW2]
 have HU3:=Lib.hid hu3;have HS2:=Lib.hid hs2;have HS3:=Lib.hid hs3;have HB2:=Lib.hid hb2;have HB3:=Lib.hid hb3
 obtain ⟨cs,hcs⟩:∃ cs,cs=(sessionF st us ub).1.cells:=⟨_,rfl⟩
 have HCL:Hid (cs.length=12):=by show _=_;rw [hcs];rfl
 have HC1:Hid (∀ u ∈ cs,u.oneCell'=true):=by show ∀ _,_;rw [hcs];exact sess_one' _
 obtain ⟨no,hno⟩:∃ no,no=(sessionF st us ub).2:=⟨_,rfl⟩
 rw [← hcs,← hno] at HSES
 have hev:erV no = .nilIface:=by
  rw [hno];unfold sessionF;rw [hl];rfl
 rw [hev] at HSES
 have HUND:Hid (∀ W,Below w.heap.size w W→Calls Tryz.prog 50 #[.pointer (some ⟨P.t,0,none⟩),.int .i64 us] W (UndPost L W)):=fun W hb => by
  rw [hL];exact under_any hB (h.below hb).tr (h.below hb).ar us hG hd
 have HH:=Lib.hid h;have HND:=Lib.hid hnd
 obtain ⟨i0,hi,hz0,hz1,hz2⟩:=info_parts finfo_sess
 have HX0:Hid (∀ A,Below W2.heap.size W2 A→A.cell? ⟨w.heap.size,0,none⟩=some (.pointer (some ⟨P.f,0,none⟩))):=fun A hb => Boxed.cell (t:=24) ((hb.block _ hx0.lt).trans hx0)
 clear h hl hund hL hnd hB hG hd hW2 hs2 hb2 hx0 hx1 hW3 hu3 hs3 hb23 hb3 hcs hno hev
 refine (callsIn_wide (n:=9)).1 ?_
 refine callsIn_of_wp_marks Tryz.func24 rfl trivial ?_ rfl
 simp only [Tryz.ntmps24,List.size_toArray,List.length_cons,List.length_nil,Nat.reduceAdd,Nat.reduceSub,Array.replicate_succ,Array.replicate_zero,List.push_toArray,List.append_toArray,List.nil_append,List.cons_append]
 refine wpIn_wide.2 ?_
 go_wp2_with fail
 rw [← HW3.out,show w.heap.size+1+1=w.heap.size+2 from rfl]
 refine HSES.out.mono ?_
 rintro e w4 ⟨rfl,hb4⟩
 obtain ⟨W5,hW5⟩:∃ W5,W5=w4.alloc (.cells cs.toArray 35):=⟨_,rfl⟩
 have hb5:Below W3.heap.size W3 W5:=by rw [hW5];exact hb4.alloc hb4.size _
 have HW5:=Lib.hid hW5;have HB5:=Lib.hid hb5
 clear hb4 hb5 hW5
 go_upto_region 4 with (first
  | (refine Ag.wpList_store_new (by rfl) 35 (.tmp 6) (.tmp 15) (by rfl) cs (by rfl) (by rfl) (by rw [HCL.out];kernel_rfl) (by rw [HCL.out];rfl) HC1.out ?_))
 rw [← HW5.out]
 have hbk:Below W3.heap.size W3 W5.drew:=HB5.out.drew
 refine only_normal ?_
 refine wp_region_held_drew (S:=fun W' => W'.cell? ⟨w.heap.size,0,none⟩=some (.pointer (some ⟨P.f,0,none⟩))∧W'.cell? ⟨P.f,3,none⟩=some (.pointer (some ⟨P.t,0,none⟩))∧W'.cell? ⟨w.heap.size+1,0,none⟩=some (.int .i64 us)) (by kernel_rfl) (HSK.out _ hbk) (fun _ => ?_)
 refine tq 0 rfl (.pointer (some ⟨P.f,0,none⟩)) (HSK.out _ hbk) ?_
 (try simp only [Act.put,zq1,zq2,zq3,zq4,zq5,zq6])
 refine tq 1 rfl (.pointer (some ⟨P.f,0,none⟩)) (HSK.out _ hbk) ?_
 (try simp only [Act.put,zq1,zq2,zq3,zq4,zq5,zq6])
 refine tq 2 rfl (.pointer (some ⟨P.f,3,none⟩)) (HSK.out _ hbk) ?_
 (try simp only [Act.put,zq1,zq2,zq3,zq4,zq5,zq6])
 refine tq 3 rfl (.pointer (some ⟨P.t,0,none⟩)) (HSK.out _ hbk) ?_
 (try simp only [Act.put,zq1,zq2,zq3,zq4,zq5,zq6])
 refine tq 4 rfl (.pointer (some ⟨w.heap.size+1,0,none⟩)) (HSK.out _ hbk) ?_
 (try simp only [Act.put,zq1,zq2,zq3,zq4,zq5,zq6])
 refine tq 5 rfl (.int .i64 us) (HSK.out _ hbk) ?_
 (try simp only [Act.put,zq1,zq2,zq3,zq4,zq5,zq6])
 refine wpAnyH_ready (rs:=[6]) (by kernel_rfl) (by simp) (AllReadyH.cons rfl (fun K hK => ?_) AllReadyH.nil)
 go_simp
 refine (HUND.out _ (HB3.out.trans (hbk.mono HB3.out.size))).mono ?_
 rintro e w6 ⟨⟨bx,v,rfl,k1,k2,k3⟩,hb6⟩
 replace k1:W5.heap.size≤bx:=k1
 have HB6:Hid (Below W3.heap.size W3 w6):=hbk.trans (hb6.mono hbk.size)
 clear hb6
 refine hK.out _ _ (HSK.out _ HB6.out) (fun _ => ?_)
 clear hK K
 (try simp only [Act.put,zq1,zq2,zq3,zq4,zq5,zq6])
 refine wpAnyH_done (by kernel_rfl) ?_ _
 (try simp only [Act.put,zq1,zq2,zq3,zq4,zq5,zq6])
 obtain ⟨bx',hbx'⟩:∃ bx',bx'=bx:=⟨_,rfl⟩
 have hu6:=HU3.out.after HB6.out
 have HU6:=Lib.hid hu6
 have HBX:=Lib.hid (And.intro k1 k2.lt)
 have HUX:=Lib.hid (fun b (e:v.ownBlock=some b) => k3.lt b e)
 have HSEQ:=Lib.hid (und_seq 8 bx v L (by have:=HND.out.len;omega) (fun b => b=bx∨v.ownBlock=some b) w6 (gathered k2 k3))
 clear k1 k2 k3 hu6 hbk hbx'
 go_wp2_with fail
 refine (wpIn_wide (n:=9)).1 ?_
 refine Fo.range_foot_sl (F:=Fence.wide) (n:=9) rfl (by omega) (gf:=82) (lb:=#[.pointer (some ⟨bx,0,none⟩)]) rfl trivial (enters_of Tryz.func82 (by kernel_rfl) rfl)
  HSEQ.out (fun _ => rfl) (fun b hb => ⟨by rcases hb with rfl | hb;exact HBX.out.2;exact (HUX.out b hb).2,rfl⟩)
  (fun pre Fp A => ∃ d,GS 62 (w.heap.size+2) (w.heap.size+3) W2 d (pre.map fun i => (sl st.S i).s) Fp A) (fun c pre Fp A => False)
  (fun b => b=w.heap.size+2)
  (fun b hb => ⟨by have h1:=HBX.out;have h2:=HS3.out;have h3:=HB5.out.size;omega,fun h => by
   have h1:=HBX.out;have h2:=HS3.out;have h3:=HB5.out.size
   rcases h with h | h
   ·omega
   ·have:=(HUX.out _ h).1;omega⟩)
  ?hU (fun _ _ _ _ _ _ h _ _ _ => h) ⟨_,HU6.out⟩ (fun T x => (T.setIfInBounds 26 (.int .i64 x)).setIfInBounds 8 (.int .i64 x)) ?assign ?body ?done (fun _ _ _ _ _ _ _ h _ _ => h.elim)
 case hU =>
  rintro pre Fp A A' row ⟨d,h1⟩ hsz hg hrow
  exact ⟨d,h1.turn hg (fun r e => ⟨by have:=(hrow r e).1;have h1:=HBX.out;have h2:=HS3.out;have h3:=HB5.out.size;omega,(hrow r e).2⟩)⟩
 case assign =>
  intro l2 x A K2 hK
  unfold encI
  gi_wp2
  exact hK
 case body =>
  rintro l2 pre x Fp A ⟨d,hu⟩ hszA hpre
  have hlen:pre.length+1≤32:=by
   have h1:=hpre.length_le
   simp only [List.length_append,List.length_singleton] at h1
   exact Nat.le_trans h1 HND.out.len
  have hx:thr x=true:=HND.out.2 x (hpre.subset (by simp))
  have hbA:Below w.heap.size w A:=HB2.out.trans (hu.bel.mono (by omega))
  have hfA:=HH.out.below hbA
  have HG:=Lib.hid (fget hfA x hx)
  have cF:=HX0.out A (by rw [HS2.out];exact hu.bel)
  have cA:=hfA.ptrs.1
  obtain ⟨sx,hsx⟩:∃ sx,sx=sl st.S x:=⟨_,rfl⟩
  obtain ⟨zs,hzs⟩:∃ zs,zs=sx.cells:=⟨_,rfl⟩
  have HZL:Hid (zs.length=17):=by show _=_;rw [hzs];rfl
  have HZ1:Hid (∀ u ∈ zs,u.oneCell'=true):=by show ∀ _,_;rw [hzs];exact sx.one
  rw [← hsx,← hzs] at HG
  obtain ⟨ls,hls⟩:∃ ls,ls=pre.map fun i => (sl st.S i).s:=⟨_,rfl⟩
  have hlen2:ls.length+1≤32:=by rw [hls,List.length_map];exact hlen
  have HLS:Hid ((pre ++ [x]).map (fun i => (sl st.S i).s)=ls ++ [sx.s]):=by show _=_;rw [List.map_append,hls,hsx];rfl
  rw [← hls] at hu
  have HU:=Lib.hid hu;have HZS:=Lib.hid hzs
  clear hu hszA hpre hlen hx hbA hfA hsx hls hzs
  gi_wp2_with fail
  refine ⟨trivial,(CallsIn.inRound _ (callsIn_wide.2 HG.out)).mono ?_⟩
  rintro e w7 ⟨rfl,hb7⟩
  obtain ⟨W8,hW8⟩:∃ W8,W8=w7.alloc (.cells zs.toArray 61):=⟨_,rfl⟩
  obtain ⟨b,hbq⟩:∃ b,b=w7.heap.size:=⟨_,rfl⟩
  have hb8:Below A.heap.size A W8:=by rw [hW8];exact hb7.alloc hb7.size _
  have hr8:W8.heap[b]? = some (.cells zs.toArray 61 (0,0)):=by rw [hW8,hbq];exact World.alloc_heap_new _ _
  have hu8:=HU.out.after hb8
  obtain ⟨q1,r1,rfl,-⟩:=own_shape hu8.r1
  have hc1:=hu8.b1.cell
  obtain ⟨ys,hys⟩:∃ ys,ys=sx.s.cells:=⟨_,rfl⟩
  have HYL:Hid (ys.length=12):=by show _=_;rw [hys];rfl
  have HY1:Hid (∀ u ∈ ys,u.oneCell'=true):=by show ∀ _,_;rw [hys];exact sess_one' _
  have HRG:Hid (W8.rangeAt b 5 ys):=by show World.rangeAt _ _ _ _;rw [hys];exact slot_sess (by rw [← HZS.out];exact hr8)
  obtain ⟨K,hK⟩:∃ K,K=ls.length:=⟨_,rfl⟩
  have am1:K+1≤maxLen:=by unfold maxLen;omega
  have am3:(K+1) * 112≤140737488355328:=by omega
  have k3:w.heap.size+3≤(W8.alloc (.cells ys.toArray 35)).heap.size:=by have:=hu8.b1.lt;simp;omega
  have hr1:=hu8.r1
  have HP1:=Lib.hid (fun (v1:Value) (w1:World) (o1:Obj) => GS.push (v:=v1) (w1:=w1) (o1:=o1) (x:=sx.s) hu8)
  rw [← hK] at hc1 hr1 HP1
  rw [← hys] at HP1
  have H1K:=Lib.hid hr1;have HW8:=Lib.hid hW8;have HBQ:=Lib.hid hbq;have HB8:=Lib.hid hb8
  clear hr1 hK hu8 hb7 hb8 hr8 hW8 hbq hys cF cA hlen2
  gi_wp2_with (first
   | (conv in World.alloc _ (Obj.cells #[.bool false,.bool false,_,_,_,_,_,_,_,_,_,_,_,_,_,_,_] _) => skip);(refine Ag.wpListIn_store_new (by rfl) 61 (.tmp 9) (.tmp 34) (by rfl) zs (by rfl) (by rfl) (by rw [HZL.out];kernel_rfl) (by rw [HZL.out];rfl) HZ1.out ?_;rw [← HW8.out,← HBQ.out])
   | (refine Ag.wpListIn_load (by rfl) 35 _ (by rfl) _ _ (by rfl) ys _ HRG.out Tryz.underlying35 rfl (by rw [HYL.out];kernel_rfl) ?_)
   | (refine Ag.wpListIn_one (by rfl) 62 35 _ (by rfl) ys (by rfl) i0 _ Tryz.underlying62 hi hz0 (by rw [hz1];exact HYL.out) (by rw [hz1];decide) (by rw [hz1];decide) ?_)
   | (gi_at_builtin;(refine wpListIn_append_own_at _ rfl _ _ 62 rfl (w.heap.size+3) 35 i0 (.agg #[.int .i64 0,.int .i64 0,.int .i64 0,.int .i64 0,.int .i64 0,.string ByteArray.empty,.string ByteArray.empty,.int .u64 0,.int .i64 0,.int .i64 0,.int .i64 0,.int .i64 0]) 12 112 Tryz.underlying62 hi hz0 hz1 hz2 rfl (by decide) _ _ _ rfl (H1K.out.alloc _) ⟨W8.heap.size,0,none⟩ 1 1 ys rfl HYL.out (World.news_of_block (Ut.alloc_at _ _)) HY1.out am1 am3 k3 ?_);(intro v1 w1 hown' hgrow hnil hat;obtain ⟨q',r',rfl,-⟩:=own_shape hown';obtain ⟨hb1,-,Fp',hn1⟩:=HP1.out _ _ _ hown' hgrow hat;(have hc1':=hb1.cell);(have hf1:=hb1.frozen);(have HN:=Lib.hid hn1);clear hown' hgrow hat hn1 hb1 hnil)))
  refine ⟨Fp',⟨_,by rw [HLS.out];exact HN.out.1⟩,(Only.of_below (F:=Fp) HB8.out).trans HN.out.2.1 (fun _ _ h => h),fun b hb => (HN.out.2.2 b hb).imp id (fun h => Nat.le_trans HB8.out.size h)⟩
 case done =>
  rintro D2 ys Fp A rfl hD ⟨d,hu⟩ hnf hK
  obtain ⟨q1,r1,rfl,-⟩:=own_shape hu.r1
  have hc1:=hu.b1.cell
  obtain ⟨LS,hLS⟩:∃ LS,LS=ys.map fun i => (sl st.S i).s:=⟨_,rfl⟩
  rw [← hLS] at hu hc1
  have HLS:=Lib.hid hLS
  have HV:=Lib.hid (values_any q1 LS.length r1 A)
  have HK:Hid ((A.alloc (.cells #[.slice q1 LS.length r1] 62)).heap[D2]? = some (.deferred (some []))):=(Below.heap_alloc _ _ _ (Array.getElem?_eq_some_iff.1 hK).1).trans hK
  have hDl:=(Array.getElem?_eq_some_iff.1 hK).1
  obtain ⟨k1,k2,k3,k4⟩:=und_end hu (by omega) HB2.out _ 62 rfl
  have hge:w.heap.size+3≤D2:=by have h1:=HBX.out;have h2:=HS3.out;have h3:=HB5.out.size;omega
  have e1:Boxed ((A.alloc (.cells #[.slice q1 LS.length r1] 62)).putObj D2 (.deferred none)) A.heap.size 62 (.slice q1 LS.length r1):=Boxed.kept k1 (grownBy_putObj' _ D2 (.deferred none)) (fun e => by have:=Option.some.inj e;omega)
  have e2:((A.alloc (.cells #[.slice q1 LS.length r1] 62)).putObj D2 (.deferred none)).ownsRow w.heap.size 35 12 (.slice q1 LS.length r1) LS.length (allC LS):=own_stay k2 (fun b e => (grownBy_putObj' _ D2 (.deferred none)).block b (k2.lt b e).2 (fun e2 => hnf ((hu.fp D2).2 (.inr (by rw [e,e2])))))
  have e3:Below w.heap.size w ((A.alloc (.cells #[.slice q1 LS.length r1] 62)).putObj D2 (.deferred none)):=k3.grown (grownBy_putObj' _ D2 (.deferred none)) (by simp;omega) (fun k e => by cases e;omega)
  have HE:=Lib.hid (And.intro e1 (And.intro e2 (And.intro e3 k4)))
  clear hLS hu hK hnf hDl k1 k2 k3 k4 e1 e2 e3 hge
  gi_wp2
  go_wp2_with fail
  refine HV.out.mono ?_
  rintro e w9 ⟨rfl,h9⟩
  rw [h9]
  clear h9
  go_wp2
  refine ⟨by simp,.inl ⟨_,_,rfl,run_takeDeferred (show _=_ from HK.out),?_⟩⟩
  rw [← HLS.out]
  exact ⟨_,results_tmp rfl _ _ _,⟨_,_,rfl,HE.out.2.2.2,HE.out.1,HE.out.2.1⟩,HE.out.2.2.1⟩
end
end Fr
end Go.Proofs.YtimhglmfckfclaaGreat
