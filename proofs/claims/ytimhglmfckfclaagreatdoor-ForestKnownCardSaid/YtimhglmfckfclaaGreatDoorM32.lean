/- Parts of the proof. -/
import Derived.Test.YtimhglmfckfclaaGreatDoorM31
set_option linter.unusedVariables false
set_option linter.unusedSimpArgs false
set_option maxRecDepth 100000
set_option maxHeartbeats 16000000
namespace Go.Proofs.YtimhglmfckfclaaGreatDoor
section
open Go.RowKit Go.Maps
namespace Fr
open Vw (Sess)
open Ex (Ent wo ExpAt)
section
variable {lo:Nat} {P:Pa} {st st1 st2:FS} {nw c d:Nat} {Fe:Nat->Prop} {w w' w'':World}
structure GrIn (P:Pa) (st:FS) (us ub:Int) (r:Req) (w W:World):Prop where
 bel:Below w.heap.size w W
 lk:W.heap[w.heap.size]? = some (.cells #[.int .i64 us,.int .i64 ub] 26 (0,0))
 rq:W.heap[w.heap.size+1]? = some (.cells r.cells.toArray 55 (0,0))
 rs:W.heap[w.heap.size+1+1]? = some (.cells s0.cells.toArray 30 (0,0))
theorem GrIn.next {us ub:Int} {r:Req} {w W W':World} (h:GrIn P st us ub r w W) (hb:Below W.heap.size W W'):GrIn P st us ub r w W' :=
 ⟨h.bel.trans (hb.mono h.bel.size),(hb.block _ (zx h.lk)).trans h.lk,(hb.block _ (zx h.rq)).trans h.rq,(hb.block _ (zx h.rs)).trans h.rs⟩
theorem gr_in (us ub:Int) (r:Req) (w:World):GrIn P st us ub r w (((w.alloc (.cells #[.int .i64 us,.int .i64 ub] 26)).alloc (.cells r.cells.toArray 55)).alloc (.cells s0.cells.toArray 30)):=by
 refine ⟨below3 _ _ _ _,(Below.heap_alloc _ _ _ (by simp;omega)).trans ((Below.heap_alloc _ _ _ (by simp)).trans (World.alloc_heap_new _ _)),?_,at3 _ _ _ _⟩
 have:=World.alloc_heap_new (w.alloc (.cells #[.int .i64 us,.int .i64 ub] 26)) (.cells r.cells.toArray 55)
 rw [World.size_alloc] at this
 exact (Below.heap_alloc _ _ _ (by simp)).trans this
theorem gr_login (h:ForAt lo P st nw Fe w) (us ub:Int) (r:Req) (fe fu:Bool) (hfe:fe=st.free.isEmpty) (hfu:fu=full st) (cs:List Value) (ev:Value) (hcl:cs.length=12) (hc1:∀ u ∈ cs,u.oneCell'=true)
  (hcall:∀ W,Calls Tryz.prog 128 #[.agg r.cells.toArray,.int .i64 st.clock,.int .i64 st.births,.bool fu] W fun e w' => e = .returned (.tuple #[.agg cs.toArray,ev])/\Below W.heap.size W w') :
  Calls Tryz.prog 63 #[.pointer (some ⟨P.f,0,none⟩),.int .i64 0,.agg #[.int .i64 us,.int .i64 ub],.agg r.cells.toArray] w fun e w' => e = .returned (.tuple #[.agg cs.toArray,ev])/\Below w.heap.size w w':=by
 have HCALL:=zh hcall;have HCL:=zh hcl;have HC1:=zh hc1
 clear hcall hcl hc1
 have HIN:=zh (gr_in (P:=P) (st:=st) us ub r w)
 have HFU:Hid (∀ W,Below w.heap.size w W->Calls Tryz.prog 64 #[.pointer (some ⟨P.f,0,none⟩)] W fun e w' => e = .returned (.tuple #[.bool fe,.bool fu])/\Below W.heap.size W w'):=by rw [hfe,hfu];exact fun W hb => ffull (h.below hb)
 have HH:=zh h
 clear hfe hfu h
 obtain ⟨b1,b2,b3,b4,b5⟩:=r
 simp only [Req.cells] at *
 obtain ⟨W0,hW0⟩:∃ W0,W0=((w.alloc (.cells #[.int .i64 us,.int .i64 ub] 26)).alloc (.cells #[.string b1,.string b2,.int .u64 (b3:Int),.int .i64 b4,.int .i64 b5] 55)).alloc (.cells #[.int .i64 0,.int .i64 0,.int .i64 0,.int .i64 0,.int .i64 0,.string ⟨#[]⟩,.string ⟨#[]⟩,.int .u64 0,.int .i64 0,.int .i64 0,.int .i64 0,.int .i64 0] 30):=⟨_,rfl⟩
 have HIN0:Hid (GrIn P st us ub ⟨b1,b2,b3,b4,b5⟩ w W0):=by show GrIn _ _ _ _ _ _ _;rw [hW0];exact HIN.out
 have HW0:=zh hW0
 clear HIN hW0
 go_enter Tryz.func63,Tryz.ntmps63
 go_wp2_with fail
 rw [<- HW0.out]
 refine (HFU.out _ HIN0.out.bel).mono ?_
 rintro e w1 ⟨rfl,hb1⟩
 have HIN1:=zh (HIN0.out.next hb1)
 clear hb1
 go_wp2_with fail
 have HSK:Hid (∀ W',GrIn P st us ub ⟨b1,b2,b3,b4,b5⟩ w W'->W'.cell? ⟨P.f,0,none⟩=some (.int .i64 st.clock)/\W'.cell? ⟨P.f,1,none⟩=some (.int .i64 st.births)/\W'.rangeAt (w.heap.size+1) 0 [.string b1,.string b2,.int .u64 (b3:Int),.int .i64 b4,.int .i64 b5]):=fun W' hin => ⟨(HH.out.below hin.bel).nums.1,(HH.out.below hin.bel).nums.2,box_rng (cs:=[.string b1,.string b2,.int .u64 (b3:Int),.int .i64 b4,.int .i64 b5]) hin.rq⟩
 have hin:=HIN1.out.next ((Below.refl _ _).drew)
 refine wp_region_held_drew (S:=fun W' => W'.cell? ⟨P.f,0,none⟩=some (.int .i64 st.clock)/\W'.cell? ⟨P.f,1,none⟩=some (.int .i64 st.births)/\W'.rangeAt (w.heap.size+1) 0 [.string b1,.string b2,.int .u64 (b3:Int),.int .i64 b4,.int .i64 b5]) (by kernel_rfl) (HSK.out _ hin) (fun _ => ?_)
 refine tk 0 rfl (.agg #[.string b1,.string b2,.int .u64 (b3:Int),.int .i64 b4,.int .i64 b5]) (fun wq hq => by obtain ⟨hq0,hq1,hq2⟩:=hq;exact St.exec_load 55 (.tmp 7) (by rfl) (w.heap.size+1) 0 (by rfl) [.string b1,.string b2,.int .u64 (b3:Int),.int .i64 b4,.int .i64 b5] _ hq2 Tryz.underlying55 rfl (by kernel_rfl)) (HSK.out _ hin) ?_
 try simp only [zq]
 refine tq 1 rfl (.pointer (some ⟨P.f,0,none⟩)) (HSK.out _ hin) ?_
 try simp only [zq]
 refine tq 2 rfl (.pointer (some ⟨P.f,0,none⟩)) (HSK.out _ hin) ?_
 try simp only [zq]
 refine tq 3 rfl (.pointer (some ⟨P.f,0,none⟩)) (HSK.out _ hin) ?_
 try simp only [zq]
 refine tq 4 rfl (.int .i64 st.clock) (HSK.out _ hin) ?_
 try simp only [zq]
 refine tq 5 rfl (.pointer (some ⟨P.f,0,none⟩)) (HSK.out _ hin) ?_
 try simp only [zq]
 refine tq 6 rfl (.pointer (some ⟨P.f,0,none⟩)) (HSK.out _ hin) ?_
 try simp only [zq]
 refine tq 7 rfl (.pointer (some ⟨P.f,1,none⟩)) (HSK.out _ hin) ?_
 try simp only [zq]
 refine tq 8 rfl (.int .i64 st.births) (HSK.out _ hin) ?_
 try simp only [zq]
 refine tq 9 rfl (.bool fu) (HSK.out _ hin) ?_
 try simp only [zq]
 refine zr 10 rfl (fun K hK => ?_)
 go_simp
 refine (HCALL.out _).mono ?_
 rintro e w9 ⟨rfl,hb9⟩
 replace hin:=hin.next hb9
 clear hb9
 refine hK.out _ _ (HSK.out _ hin) (fun _ => ?_)
 clear hK K
 try simp only [zq]
 refine tq 11 rfl (.agg cs.toArray) (HSK.out _ hin) ?_
 try simp only [zq]
 refine tq 12 rfl ev (HSK.out _ hin) ?_
 try simp only [zq]
 refine zr 13 rfl (fun K hK => ?_)
 rw [if_pos (by rfl)]
 refine wp_store_mid 30 (.tmp 8) (.tmp 32) (by rfl) (w.heap.size+1+1) 0 cs.toArray (by rfl) (by rfl) (Ag.there_row hin.rs _ (by rw [List.size_toArray,HCL.out];decide)) (by rw [List.size_toArray,HCL.out];kernel_rfl) (all_oneCell_toArray HC1.out) ?_
 rw [List.toList_toArray]
 obtain ⟨W7,hW7⟩:∃ W7,W7=World.setCells w9 (w.heap.size+1+1) 0 cs:=⟨_,rfl⟩
 have hrow2:=Ag.setCells_row (w.heap.size+1+1) 30 cs 0 _ _ hin.rs
 rw [Ag.put_all (by rw [HCL.out];rfl),<- hW7] at hrow2
 have ho7:Only (fun b => b=w.heap.size+1+1) w9 W7:=by rw [hW7];exact only_cells _ _ _ (Only.refl _ _)
 have hS7:W7.cell? ⟨P.f,0,none⟩=some (.int .i64 st.clock)/\W7.cell? ⟨P.f,1,none⟩=some (.int .i64 st.births)/\W7.rangeAt (w.heap.size+1) 0 [.string b1,.string b2,.int .u64 (b3:Int),.int .i64 b4,.int .i64 b5]:=by
  have hb7:Below w.heap.size w W7:=hin.bel.trans (ho7.below (by have:=hin.bel.size;omega) (fun i hi hf => by omega))
  refine ⟨(HH.out.below hb7).nums.1,(HH.out.below hb7).nums.2,box_rng (cs:=[.string b1,.string b2,.int .u64 (b3:Int),.int .i64 b4,.int .i64 b5]) ((ho7.block _ (zx hin.rq) (by omega)).trans hin.rq)⟩
 have HB7:Hid (Below w.heap.size w W7):=hin.bel.trans (ho7.below (by have:=hin.bel.size;omega) (fun i hi hf => by omega))
 have HPUT:=zh hrow2
 rw [<- hW7]
 refine hK.out _ _ hS7 (fun _ => ?_)
 clear hK K
 try simp only [zq]
 refine tq 14 rfl ev hS7 ?_
 try simp only [zq]
 refine wpAnyH_done (by kernel_rfl) ?_ _
 try simp only [zq]
 clear hin hS7 hrow2 ho7 hW7
 go_wp2_with fail
 refine bodyPost_ret (results_cell_tmp rfl _ _ (w.heap.size+1+1) _ cs.toArray (0,0) _ rfl HPUT.out Tryz.underlying30 rfl (by rw [List.size_toArray,HCL.out];kernel_rfl)) rfl ?_
 exact ⟨rfl,HB7.out⟩
theorem gr_child (h:ForAt lo P st nw Fe w) (us ub:Int) (r:Req) (p:Sess) (fe fu:Bool) (hfe:fe=st.free.isEmpty) (hfu:fu=full st) (hses:sessionF st us ub=(p,0)) (cs:List Value) (ev:Value) (hcl:cs.length=12) (hc1:∀ u ∈ cs,u.oneCell'=true)
  (hcall:∀ W,Calls Tryz.prog 129 #[.agg p.cells.toArray,.agg r.cells.toArray,.int .i64 st.clock,.int .i64 st.births,.bool fu] W fun e w' => e = .returned (.tuple #[.agg cs.toArray,ev])/\Below W.heap.size W w') :
  Calls Tryz.prog 63 #[.pointer (some ⟨P.f,0,none⟩),.int .i64 1,.agg #[.int .i64 us,.int .i64 ub],.agg r.cells.toArray] w fun e w' => e = .returned (.tuple #[.agg cs.toArray,ev])/\Below w.heap.size w w':=by
 have HCALL:=zh hcall;have HCL:=zh hcl;have HC1:=zh hc1
 have HSES:Hid (∀ W,Below w.heap.size w W->Calls Tryz.prog 60 #[.pointer (some ⟨P.f,0,none⟩),.agg #[.int .i64 us,.int .i64 ub]] W fun e w' => e = .returned (.tuple #[.agg p.cells.toArray,.nilIface])/\Below W.heap.size W w'):=fun W hb => by
  have:=fsession (h.below hb) us ub
  rwa [hses] at this
 obtain ⟨ps,hps⟩:∃ ps,ps=p.cells:=⟨_,rfl⟩
 rw [<- hps] at HSES HCALL
 have HPL:Hid (ps.length=12):=by show _=_;rw [hps];rfl
 have HP1:Hid (∀ u ∈ ps,u.oneCell'=true):=by show ∀ _,_;rw [hps];exact sess_one _
 clear hps hses
 clear hcall hcl hc1
 have HIN:=zh (gr_in (P:=P) (st:=st) us ub r w)
 have HFU:Hid (∀ W,Below w.heap.size w W->Calls Tryz.prog 64 #[.pointer (some ⟨P.f,0,none⟩)] W fun e w' => e = .returned (.tuple #[.bool fe,.bool fu])/\Below W.heap.size W w'):=by rw [hfe,hfu];exact fun W hb => ffull (h.below hb)
 have HH:=zh h
 clear hfe hfu h
 obtain ⟨b1,b2,b3,b4,b5⟩:=r
 simp only [Req.cells] at *
 obtain ⟨W0,hW0⟩:∃ W0,W0=((w.alloc (.cells #[.int .i64 us,.int .i64 ub] 26)).alloc (.cells #[.string b1,.string b2,.int .u64 (b3:Int),.int .i64 b4,.int .i64 b5] 55)).alloc (.cells #[.int .i64 0,.int .i64 0,.int .i64 0,.int .i64 0,.int .i64 0,.string ⟨#[]⟩,.string ⟨#[]⟩,.int .u64 0,.int .i64 0,.int .i64 0,.int .i64 0,.int .i64 0] 30):=⟨_,rfl⟩
 have HIN0:Hid (GrIn P st us ub ⟨b1,b2,b3,b4,b5⟩ w W0):=by show GrIn _ _ _ _ _ _ _;rw [hW0];exact HIN.out
 have HW0:=zh hW0
 clear HIN hW0
 go_enter Tryz.func63,Tryz.ntmps63
 go_wp2_with fail
 rw [<- HW0.out]
 refine (HFU.out _ HIN0.out.bel).mono ?_
 rintro e w1 ⟨rfl,hb1⟩
 have HIN1:=zh (HIN0.out.next hb1)
 clear hb1
 have l0:w1.cell? ⟨w.heap.size,0,none⟩=some (.int .i64 us):=zl HIN1.out.lk rfl
 have l1:w1.cell? ⟨w.heap.size,1,none⟩=some (.int .i64 ub):=zl HIN1.out.lk rfl
 go_wp2_with fail
 refine (HSES.out _ HIN1.out.bel).mono ?_
 rintro e w2 ⟨rfl,hb2⟩
 clear l0 l1
 obtain ⟨W3,hW3⟩:∃ W3,W3=w2.alloc (.cells ps.toArray 30):=⟨_,rfl⟩
 obtain ⟨pb,hpb⟩:∃ pb,pb=w2.heap.size:=⟨_,rfl⟩
 have hrp:W3.heap[pb]? = some (.cells ps.toArray 30 (0,0)):=by rw [hW3,hpb];exact World.alloc_heap_new _ _
 have hb3:Below w1.heap.size w1 W3:=by rw [hW3];exact hb2.alloc hb2.size _
 have HIN3:=zh (HIN1.out.next hb3)
 have HRP:=zh hrp;have HW3:=zh hW3;have HPB:=zh hpb
 have hpbl:Hid (w1.heap.size<=pb):=by show _<=_;rw [hpb];exact hb2.size
 clear hb2 hb3 hrp hW3 hpb
 go_upto_region 5 with (first
  | (refine Ag.wpList_store_new (by rfl) 30 (.tmp 12) (.tmp 38) (by rfl) ps (by rfl) (by rfl) (by rw [HPL.out];kernel_rfl) (by rw [HPL.out];rfl) HP1.out ?_))
 rw [<- HW3.out,<- HPB.out]
 go_wp2_with fail
 have HSK:Hid (∀ W',Below W3.heap.size W3 W'->GrIn P st us ub ⟨b1,b2,b3,b4,b5⟩ w W'->W'.cell? ⟨P.f,0,none⟩=some (.int .i64 st.clock)/\W'.cell? ⟨P.f,1,none⟩=some (.int .i64 st.births)/\W'.rangeAt (w.heap.size+1) 0 [.string b1,.string b2,.int .u64 (b3:Int),.int .i64 b4,.int .i64 b5]/\W'.rangeAt pb 0 ps):=fun W' hb hin => ⟨(HH.out.below hin.bel).nums.1,(HH.out.below hin.bel).nums.2,box_rng (cs:=[.string b1,.string b2,.int .u64 (b3:Int),.int .i64 b4,.int .i64 b5]) hin.rq,box_rng ((hb.block _ (zx HRP.out)).trans HRP.out)⟩
 have hb4:Below W3.heap.size W3 W3.drew:=(Below.refl _ _).drew
 have hin:=HIN3.out.next hb4
 refine wp_region_held_drew (S:=fun W' => W'.cell? ⟨P.f,0,none⟩=some (.int .i64 st.clock)/\W'.cell? ⟨P.f,1,none⟩=some (.int .i64 st.births)/\W'.rangeAt (w.heap.size+1) 0 [.string b1,.string b2,.int .u64 (b3:Int),.int .i64 b4,.int .i64 b5]/\W'.rangeAt pb 0 ps) (by kernel_rfl) (HSK.out _ hb4 hin) (fun _ => ?_)
 refine tk 0 rfl (.agg ps.toArray) (fun wq hq => by obtain ⟨hq0,hq1,hq2,hq3⟩:=hq;exact St.exec_load 30 (.tmp 12) (by rfl) pb 0 (by rfl) ps _ hq3 Tryz.underlying30 rfl (by rw [HPL.out];kernel_rfl)) (HSK.out _ hb4 hin) ?_
 try simp only [zq]
 refine tk 1 rfl (.agg #[.string b1,.string b2,.int .u64 (b3:Int),.int .i64 b4,.int .i64 b5]) (fun wq hq => by obtain ⟨hq0,hq1,hq2,hq3⟩:=hq;exact St.exec_load 55 (.tmp 7) (by rfl) (w.heap.size+1) 0 (by rfl) [.string b1,.string b2,.int .u64 (b3:Int),.int .i64 b4,.int .i64 b5] _ hq2 Tryz.underlying55 rfl (by kernel_rfl)) (HSK.out _ hb4 hin) ?_
 try simp only [zq]
 refine tq 2 rfl (.pointer (some ⟨P.f,0,none⟩)) (HSK.out _ hb4 hin) ?_
 try simp only [zq]
 refine tq 3 rfl (.pointer (some ⟨P.f,0,none⟩)) (HSK.out _ hb4 hin) ?_
 try simp only [zq]
 refine tq 4 rfl (.pointer (some ⟨P.f,0,none⟩)) (HSK.out _ hb4 hin) ?_
 try simp only [zq]
 refine tq 5 rfl (.int .i64 st.clock) (HSK.out _ hb4 hin) ?_
 try simp only [zq]
 refine tq 6 rfl (.pointer (some ⟨P.f,0,none⟩)) (HSK.out _ hb4 hin) ?_
 try simp only [zq]
 refine tq 7 rfl (.pointer (some ⟨P.f,0,none⟩)) (HSK.out _ hb4 hin) ?_
 try simp only [zq]
 refine tq 8 rfl (.pointer (some ⟨P.f,1,none⟩)) (HSK.out _ hb4 hin) ?_
 try simp only [zq]
 refine tq 9 rfl (.int .i64 st.births) (HSK.out _ hb4 hin) ?_
 try simp only [zq]
 refine tq 10 rfl (.bool fu) (HSK.out _ hb4 hin) ?_
 try simp only [zq]
 refine zr 11 rfl (fun K hK => ?_)
 go_simp
 refine (HCALL.out _).mono ?_
 rintro e w9 ⟨rfl,hb9⟩
 replace hin:=hin.next hb9
 replace hb4:=hb4.trans (hb9.mono hb4.size)
 clear hb9
 refine hK.out _ _ (HSK.out _ hb4 hin) (fun _ => ?_)
 clear hK K
 try simp only [zq]
 refine tq 12 rfl (.agg cs.toArray) (HSK.out _ hb4 hin) ?_
 try simp only [zq]
 refine tq 13 rfl ev (HSK.out _ hb4 hin) ?_
 try simp only [zq]
 refine zr 14 rfl (fun K hK => ?_)
 rw [if_pos (by rfl)]
 refine wp_store_mid 30 (.tmp 8) (.tmp 60) (by rfl) (w.heap.size+1+1) 0 cs.toArray (by rfl) (by rfl) (Ag.there_row hin.rs _ (by rw [List.size_toArray,HCL.out];decide)) (by rw [List.size_toArray,HCL.out];kernel_rfl) (all_oneCell_toArray HC1.out) ?_
 rw [List.toList_toArray]
 obtain ⟨W7,hW7⟩:∃ W7,W7=World.setCells w9 (w.heap.size+1+1) 0 cs:=⟨_,rfl⟩
 have hrow2:=Ag.setCells_row (w.heap.size+1+1) 30 cs 0 _ _ hin.rs
 rw [Ag.put_all (by rw [HCL.out];rfl),<- hW7] at hrow2
 have ho7:Only (fun b => b=w.heap.size+1+1) w9 W7:=by rw [hW7];exact only_cells _ _ _ (Only.refl _ _)
 have hrp9:=(hb4.block _ (zx HRP.out)).trans HRP.out
 have hpn:pb≠w.heap.size+1+1:=by have:=HPB.out;have h2:=(zx HIN1.out.rs);have:=hpbl.out;omega
 have hS7:W7.cell? ⟨P.f,0,none⟩=some (.int .i64 st.clock)/\W7.cell? ⟨P.f,1,none⟩=some (.int .i64 st.births)/\W7.rangeAt (w.heap.size+1) 0 [.string b1,.string b2,.int .u64 (b3:Int),.int .i64 b4,.int .i64 b5]/\W7.rangeAt pb 0 ps:=by
  have hb7:Below w.heap.size w W7:=hin.bel.trans (ho7.below (by have:=hin.bel.size;omega) (fun i hi hf => by omega))
  refine ⟨(HH.out.below hb7).nums.1,(HH.out.below hb7).nums.2,box_rng (cs:=[.string b1,.string b2,.int .u64 (b3:Int),.int .i64 b4,.int .i64 b5]) ((ho7.block _ (zx hin.rq) (by omega)).trans hin.rq),box_rng ((ho7.block _ (zx hrp9) (by omega)).trans hrp9)⟩
 have HB7:Hid (Below w.heap.size w W7):=hin.bel.trans (ho7.below (by have:=hin.bel.size;omega) (fun i hi hf => by omega))
 have HPUT:=zh hrow2
 rw [<- hW7]
 refine hK.out _ _ hS7 (fun _ => ?_)
 clear hK K
 try simp only [zq]
 refine tq 15 rfl ev hS7 ?_
 try simp only [zq]
 refine wpAnyH_done (by kernel_rfl) ?_ _
 try simp only [zq]
 clear hin hS7 hrow2 ho7 hW7 hb4 hrp9 hpn
 go_wp2_with fail
 refine bodyPost_ret (results_cell_tmp rfl _ _ (w.heap.size+1+1) _ cs.toArray (0,0) _ rfl HPUT.out Tryz.underlying30 rfl (by rw [List.size_toArray,HCL.out];kernel_rfl)) rfl ?_
 exact ⟨rfl,HB7.out⟩
theorem gr_raised (h:ForAt lo P st nw Fe w) (us ub:Int) (r:Req) (p:Sess) (fe fu:Bool) (hfe:fe=st.free.isEmpty) (hfu:fu=full st) (hses:sessionF st us ub=(p,0)) (cs:List Value) (ev:Value) (hcl:cs.length=12) (hc1:∀ u ∈ cs,u.oneCell'=true)
  (hcall:∀ W,Calls Tryz.prog 130 #[.agg p.cells.toArray,.agg r.cells.toArray,.int .i64 st.clock,.int .i64 st.births,.bool fu] W fun e w' => e = .returned (.tuple #[.agg cs.toArray,ev])/\Below W.heap.size W w') :
  Calls Tryz.prog 63 #[.pointer (some ⟨P.f,0,none⟩),.int .i64 2,.agg #[.int .i64 us,.int .i64 ub],.agg r.cells.toArray] w fun e w' => e = .returned (.tuple #[.agg cs.toArray,ev])/\Below w.heap.size w w':=by
 have HCALL:=zh hcall;have HCL:=zh hcl;have HC1:=zh hc1
 have HSES:Hid (∀ W,Below w.heap.size w W->Calls Tryz.prog 60 #[.pointer (some ⟨P.f,0,none⟩),.agg #[.int .i64 us,.int .i64 ub]] W fun e w' => e = .returned (.tuple #[.agg p.cells.toArray,.nilIface])/\Below W.heap.size W w'):=fun W hb => by
  have:=fsession (h.below hb) us ub
  rwa [hses] at this
 obtain ⟨ps,hps⟩:∃ ps,ps=p.cells:=⟨_,rfl⟩
 rw [<- hps] at HSES HCALL
 have HPL:Hid (ps.length=12):=by show _=_;rw [hps];rfl
 have HP1:Hid (∀ u ∈ ps,u.oneCell'=true):=by show ∀ _,_;rw [hps];exact sess_one _
 clear hps hses
 clear hcall hcl hc1
 have HIN:=zh (gr_in (P:=P) (st:=st) us ub r w)
 have HFU:Hid (∀ W,Below w.heap.size w W->Calls Tryz.prog 64 #[.pointer (some ⟨P.f,0,none⟩)] W fun e w' => e = .returned (.tuple #[.bool fe,.bool fu])/\Below W.heap.size W w'):=by rw [hfe,hfu];exact fun W hb => ffull (h.below hb)
 have HH:=zh h
 clear hfe hfu h
 obtain ⟨b1,b2,b3,b4,b5⟩:=r
 simp only [Req.cells] at *
 obtain ⟨W0,hW0⟩:∃ W0,W0=((w.alloc (.cells #[.int .i64 us,.int .i64 ub] 26)).alloc (.cells #[.string b1,.string b2,.int .u64 (b3:Int),.int .i64 b4,.int .i64 b5] 55)).alloc (.cells #[.int .i64 0,.int .i64 0,.int .i64 0,.int .i64 0,.int .i64 0,.string ⟨#[]⟩,.string ⟨#[]⟩,.int .u64 0,.int .i64 0,.int .i64 0,.int .i64 0,.int .i64 0] 30):=⟨_,rfl⟩
 have HIN0:Hid (GrIn P st us ub ⟨b1,b2,b3,b4,b5⟩ w W0):=by show GrIn _ _ _ _ _ _ _;rw [hW0];exact HIN.out
 have HW0:=zh hW0
 clear HIN hW0
 go_enter Tryz.func63,Tryz.ntmps63
 go_wp2_with fail
 rw [<- HW0.out]
 refine (HFU.out _ HIN0.out.bel).mono ?_
 rintro e w1 ⟨rfl,hb1⟩
 have HIN1:=zh (HIN0.out.next hb1)
 clear hb1
 have l0:w1.cell? ⟨w.heap.size,0,none⟩=some (.int .i64 us):=zl HIN1.out.lk rfl
 have l1:w1.cell? ⟨w.heap.size,1,none⟩=some (.int .i64 ub):=zl HIN1.out.lk rfl
 go_wp2_with fail
 refine (HSES.out _ HIN1.out.bel).mono ?_
 rintro e w2 ⟨rfl,hb2⟩
 clear l0 l1
 obtain ⟨W3,hW3⟩:∃ W3,W3=w2.alloc (.cells ps.toArray 30):=⟨_,rfl⟩
 obtain ⟨pb,hpb⟩:∃ pb,pb=w2.heap.size:=⟨_,rfl⟩
 have hrp:W3.heap[pb]? = some (.cells ps.toArray 30 (0,0)):=by rw [hW3,hpb];exact World.alloc_heap_new _ _
 have hb3:Below w1.heap.size w1 W3:=by rw [hW3];exact hb2.alloc hb2.size _
 have HIN3:=zh (HIN1.out.next hb3)
 have HRP:=zh hrp;have HW3:=zh hW3;have HPB:=zh hpb
 have hpbl:Hid (w1.heap.size<=pb):=by show _<=_;rw [hpb];exact hb2.size
 clear hb2 hb3 hrp hW3 hpb
 go_upto_region 5 with (first
  | (refine Ag.wpList_store_new (by rfl) 30 (.tmp 12) (.tmp 38) (by rfl) ps (by rfl) (by rfl) (by rw [HPL.out];kernel_rfl) (by rw [HPL.out];rfl) HP1.out ?_))
 rw [<- HW3.out,<- HPB.out]
 go_wp2_with fail
 have HSK:Hid (∀ W',Below W3.heap.size W3 W'->GrIn P st us ub ⟨b1,b2,b3,b4,b5⟩ w W'->W'.cell? ⟨P.f,0,none⟩=some (.int .i64 st.clock)/\W'.cell? ⟨P.f,1,none⟩=some (.int .i64 st.births)/\W'.rangeAt (w.heap.size+1) 0 [.string b1,.string b2,.int .u64 (b3:Int),.int .i64 b4,.int .i64 b5]/\W'.rangeAt pb 0 ps):=fun W' hb hin => ⟨(HH.out.below hin.bel).nums.1,(HH.out.below hin.bel).nums.2,box_rng (cs:=[.string b1,.string b2,.int .u64 (b3:Int),.int .i64 b4,.int .i64 b5]) hin.rq,box_rng ((hb.block _ (zx HRP.out)).trans HRP.out)⟩
 have hb4:Below W3.heap.size W3 W3.drew:=(Below.refl _ _).drew
 have hin:=HIN3.out.next hb4
 refine wp_region_held_drew (S:=fun W' => W'.cell? ⟨P.f,0,none⟩=some (.int .i64 st.clock)/\W'.cell? ⟨P.f,1,none⟩=some (.int .i64 st.births)/\W'.rangeAt (w.heap.size+1) 0 [.string b1,.string b2,.int .u64 (b3:Int),.int .i64 b4,.int .i64 b5]/\W'.rangeAt pb 0 ps) (by kernel_rfl) (HSK.out _ hb4 hin) (fun _ => ?_)
 refine tk 0 rfl (.agg ps.toArray) (fun wq hq => by obtain ⟨hq0,hq1,hq2,hq3⟩:=hq;exact St.exec_load 30 (.tmp 12) (by rfl) pb 0 (by rfl) ps _ hq3 Tryz.underlying30 rfl (by rw [HPL.out];kernel_rfl)) (HSK.out _ hb4 hin) ?_
 try simp only [zq]
 refine tk 1 rfl (.agg #[.string b1,.string b2,.int .u64 (b3:Int),.int .i64 b4,.int .i64 b5]) (fun wq hq => by obtain ⟨hq0,hq1,hq2,hq3⟩:=hq;exact St.exec_load 55 (.tmp 7) (by rfl) (w.heap.size+1) 0 (by rfl) [.string b1,.string b2,.int .u64 (b3:Int),.int .i64 b4,.int .i64 b5] _ hq2 Tryz.underlying55 rfl (by kernel_rfl)) (HSK.out _ hb4 hin) ?_
 try simp only [zq]
 refine tq 2 rfl (.pointer (some ⟨P.f,0,none⟩)) (HSK.out _ hb4 hin) ?_
 try simp only [zq]
 refine tq 3 rfl (.pointer (some ⟨P.f,0,none⟩)) (HSK.out _ hb4 hin) ?_
 try simp only [zq]
 refine tq 4 rfl (.pointer (some ⟨P.f,0,none⟩)) (HSK.out _ hb4 hin) ?_
 try simp only [zq]
 refine tq 5 rfl (.int .i64 st.clock) (HSK.out _ hb4 hin) ?_
 try simp only [zq]
 refine tq 6 rfl (.pointer (some ⟨P.f,0,none⟩)) (HSK.out _ hb4 hin) ?_
 try simp only [zq]
 refine tq 7 rfl (.pointer (some ⟨P.f,0,none⟩)) (HSK.out _ hb4 hin) ?_
 try simp only [zq]
 refine tq 8 rfl (.pointer (some ⟨P.f,1,none⟩)) (HSK.out _ hb4 hin) ?_
 try simp only [zq]
 refine tq 9 rfl (.int .i64 st.births) (HSK.out _ hb4 hin) ?_
 try simp only [zq]
 refine tq 10 rfl (.bool fu) (HSK.out _ hb4 hin) ?_
 try simp only [zq]
 refine zr 11 rfl (fun K hK => ?_)
 go_simp
 refine (HCALL.out _).mono ?_
 rintro e w9 ⟨rfl,hb9⟩
 replace hin:=hin.next hb9
 replace hb4:=hb4.trans (hb9.mono hb4.size)
 clear hb9
 refine hK.out _ _ (HSK.out _ hb4 hin) (fun _ => ?_)
 clear hK K
 try simp only [zq]
 refine tq 12 rfl (.agg cs.toArray) (HSK.out _ hb4 hin) ?_
 try simp only [zq]
 refine tq 13 rfl ev (HSK.out _ hb4 hin) ?_
 try simp only [zq]
 refine zr 14 rfl (fun K hK => ?_)
 rw [if_pos (by rfl)]
 refine wp_store_mid 30 (.tmp 8) (.tmp 74) (by rfl) (w.heap.size+1+1) 0 cs.toArray (by rfl) (by rfl) (Ag.there_row hin.rs _ (by rw [List.size_toArray,HCL.out];decide)) (by rw [List.size_toArray,HCL.out];kernel_rfl) (all_oneCell_toArray HC1.out) ?_
 rw [List.toList_toArray]
 obtain ⟨W7,hW7⟩:∃ W7,W7=World.setCells w9 (w.heap.size+1+1) 0 cs:=⟨_,rfl⟩
 have hrow2:=Ag.setCells_row (w.heap.size+1+1) 30 cs 0 _ _ hin.rs
 rw [Ag.put_all (by rw [HCL.out];rfl),<- hW7] at hrow2
 have ho7:Only (fun b => b=w.heap.size+1+1) w9 W7:=by rw [hW7];exact only_cells _ _ _ (Only.refl _ _)
 have hrp9:=(hb4.block _ (zx HRP.out)).trans HRP.out
 have hpn:pb≠w.heap.size+1+1:=by have:=HPB.out;have h2:=(zx HIN1.out.rs);have:=hpbl.out;omega
 have hS7:W7.cell? ⟨P.f,0,none⟩=some (.int .i64 st.clock)/\W7.cell? ⟨P.f,1,none⟩=some (.int .i64 st.births)/\W7.rangeAt (w.heap.size+1) 0 [.string b1,.string b2,.int .u64 (b3:Int),.int .i64 b4,.int .i64 b5]/\W7.rangeAt pb 0 ps:=by
  have hb7:Below w.heap.size w W7:=hin.bel.trans (ho7.below (by have:=hin.bel.size;omega) (fun i hi hf => by omega))
  refine ⟨(HH.out.below hb7).nums.1,(HH.out.below hb7).nums.2,box_rng (cs:=[.string b1,.string b2,.int .u64 (b3:Int),.int .i64 b4,.int .i64 b5]) ((ho7.block _ (zx hin.rq) (by omega)).trans hin.rq),box_rng ((ho7.block _ (zx hrp9) (by omega)).trans hrp9)⟩
 have HB7:Hid (Below w.heap.size w W7):=hin.bel.trans (ho7.below (by have:=hin.bel.size;omega) (fun i hi hf => by omega))
 have HPUT:=zh hrow2
 rw [<- hW7]
 refine hK.out _ _ hS7 (fun _ => ?_)
 clear hK K
 try simp only [zq]
 refine tq 15 rfl ev hS7 ?_
 try simp only [zq]
 refine wpAnyH_done (by kernel_rfl) ?_ _
 try simp only [zq]
 clear hin hS7 hrow2 ho7 hW7 hb4 hrp9 hpn
 go_wp2_with fail
 refine bodyPost_ret (results_cell_tmp rfl _ _ (w.heap.size+1+1) _ cs.toArray (0,0) _ rfl HPUT.out Tryz.underlying30 rfl (by rw [List.size_toArray,HCL.out];kernel_rfl)) rfl ?_
 exact ⟨rfl,HB7.out⟩
theorem gr_no (h:ForAt lo P st nw Fe w) (kind us ub:Int) (r:Req) (hk:(kind == 0)=false) (fe fu:Bool) (hfe:fe=st.free.isEmpty) (hfu:fu=full st) (hses:sessionF st us ub=(s0,16)) :
  Calls Tryz.prog 63 #[.pointer (some ⟨P.f,0,none⟩),.int .i64 kind,.agg #[.int .i64 us,.int .i64 ub],.agg r.cells.toArray] w fun e w' => e = .returned (.tuple #[.agg s0.cells.toArray,.iface 101 (.int .i64 16)])/\Below w.heap.size w w':=by
 obtain ⟨cs,hcs⟩:∃ cs,cs=s0.cells:=⟨_,rfl⟩
 rw [<- hcs]
 have HSES:Hid (∀ W,Below w.heap.size w W->Calls Tryz.prog 60 #[.pointer (some ⟨P.f,0,none⟩),.agg #[.int .i64 us,.int .i64 ub]] W fun e w' => e = .returned (.tuple #[.agg cs.toArray,.iface 101 (.int .i64 16)])/\Below W.heap.size W w'):=fun W hb => by
  have:=fsession (h.below hb) us ub
  rw [hses] at this
  rw [hcs];exact this
 have HCL:Hid (cs.length=12):=by show _=_;rw [hcs];rfl
 have HC1:Hid (∀ u ∈ cs,u.oneCell'=true):=by show ∀ _,_;rw [hcs];exact sess_one _
 have HCS:=zh hcs
 clear hses hcs
 have HIN:=zh (gr_in (P:=P) (st:=st) us ub r w)
 have HFU:Hid (∀ W,Below w.heap.size w W->Calls Tryz.prog 64 #[.pointer (some ⟨P.f,0,none⟩)] W fun e w' => e = .returned (.tuple #[.bool fe,.bool fu])/\Below W.heap.size W w'):=by rw [hfe,hfu];exact fun W hb => ffull (h.below hb)
 have HH:=zh h
 clear hfe hfu h
 obtain ⟨b1,b2,b3,b4,b5⟩:=r
 simp only [Req.cells] at *
 obtain ⟨W0,hW0⟩:∃ W0,W0=((w.alloc (.cells #[.int .i64 us,.int .i64 ub] 26)).alloc (.cells #[.string b1,.string b2,.int .u64 (b3:Int),.int .i64 b4,.int .i64 b5] 55)).alloc (.cells #[.int .i64 0,.int .i64 0,.int .i64 0,.int .i64 0,.int .i64 0,.string ⟨#[]⟩,.string ⟨#[]⟩,.int .u64 0,.int .i64 0,.int .i64 0,.int .i64 0,.int .i64 0] 30):=⟨_,rfl⟩
 have HIN0:Hid (GrIn P st us ub ⟨b1,b2,b3,b4,b5⟩ w W0):=by show GrIn _ _ _ _ _ _ _;rw [hW0];exact HIN.out
 have HW0:=zh hW0
 clear HIN hW0
 go_enter Tryz.func63,Tryz.ntmps63
 go_wp2_with fail
 rw [<- HW0.out]
 refine (HFU.out _ HIN0.out.bel).mono ?_
 rintro e w1 ⟨rfl,hb1⟩
 have HIN1:=zh (HIN0.out.next hb1)
 clear hb1
 have l0:w1.cell? ⟨w.heap.size,0,none⟩=some (.int .i64 us):=zl HIN1.out.lk rfl
 have l1:w1.cell? ⟨w.heap.size,1,none⟩=some (.int .i64 ub):=zl HIN1.out.lk rfl
 go_wp2_with fail
 refine (HSES.out _ HIN1.out.bel).mono ?_
 rintro e w2 ⟨rfl,hb2⟩
 clear l0 l1
 have hin:=HIN1.out.next (hb2.alloc hb2.size (.cells cs.toArray 30))
 have HTH:Hid ((w2.alloc (.cells cs.toArray 30)).there (w.heap.size+1+1) 0 12):=Ag.there_row hin.rs 12 (by decide)
 have HPUT:=zh (put_sess hin.rs (by rfl) s0)
 have HB7:Hid (Below w.heap.size w (World.setCells (w2.alloc (.cells cs.toArray 30)) (w.heap.size+1+1) 0 s0.cells)):=Ag.below_setCells (by omega) _ _ _ hin.bel
 clear hb2 hin
 go_wp2_with (first
  | (refine Ag.wpList_store_new (by rfl) 30 (.tmp 12) (.tmp 38) (by rfl) cs (by rfl) (by rfl) (by rw [HCL.out];kernel_rfl) (by rw [HCL.out];rfl) HC1.out ?_)
  | (refine wpList_store_mid (by rfl) 30 (.tmp 8) (.tmp 43) (by rfl) (w.heap.size+1+1) 0 s0.cells.toArray (by rfl) (by rfl) HTH.out (by kernel_rfl) (all_oneCell_toArray (sess_one _)) ?_))
 refine bodyPost_ret (results_cell_tmp rfl _ _ (w.heap.size+1+1) _ s0.cells.toArray (0,0) _ rfl HPUT.out Tryz.underlying30 rfl (by kernel_rfl)) rfl ?_
 exact ⟨by rw [HCS.out];rfl,HB7.out⟩
theorem fgranted (h:ForAt lo P st nw Fe w) (kind us ub:Int) (hk:0<=kind/\kind<=2) (r:Req) (h1:r.user.size<=9223372036854775807) (h2:r.label.size<=9223372036854775807) :
  Calls Tryz.prog 63 #[.pointer (some ⟨P.f,0,none⟩),.int .i64 kind,.agg #[.int .i64 us,.int .i64 ub],.agg r.cells.toArray] w fun e w' => e = .returned (.tuple #[.agg (grantF st kind us ub r).1.cells.toArray,erV (grantF st kind us ub r).2])/\Below w.heap.size w w':=by
 unfold grantF
 by_cases k0:kind=0
 ·rw [if_pos k0];subst k0
  exact gr_login h us ub r _ _ rfl rfl _ _ rfl (sess_one _) (fun W => login_any r st.clock st.births (full st) h1 h2 W)
 ·rw [if_neg k0]
  cases hl:lives st.S us ub with
  | false =>
   rw [if_pos rfl]
   exact gr_no h kind us ub r (by simpa using k0) _ _ rfl rfl (by unfold sessionF;rw [hl];rfl)
  | true =>
   rw [if_neg (by decide)]
   have hs:sessionF st us ub=((sl st.S us).s,0):=by unfold sessionF;rw [hl];rfl
   by_cases k1:kind=1
   ·rw [if_pos k1];subst k1
    exact gr_child h us ub r _ _ _ rfl rfl hs _ _ rfl (sess_one _) (fun W => child_any _ r st.clock st.births (full st) h1 h2 W)
   ·rw [if_neg k1]
    have k2:kind=2:=by omega
    subst k2
    exact gr_raised h us ub r _ _ _ rfl rfl hs _ _ rfl (sess_one _) (fun W => raised_any _ r st.clock st.births (full st) h1 h2 W)
end
end Fr
end
end Go.Proofs.YtimhglmfckfclaaGreatDoor
