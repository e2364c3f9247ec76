/- Parts of the proof. -/
import Derived.Test.YtimhglmfckfclaaGreatM28
set_option linter.unusedVariables false
set_option linter.unusedSimpArgs false
set_option maxRecDepth 100000
set_option maxHeartbeats 16000000
namespace Go.Proofs.YtimhglmfckfclaaGreat
section
open Go.RowKit Go.Maps
namespace Fr
open Vw (Sess)
open Ex (Ent wo ExpAt)
section
variable {lo:Nat} {P:Pa} {st st1 st2:FS} {nw c d:Nat} {Fe:Nat->Prop} {w w' w'':World}
def DeepOk (st:FS):Prop:=∀ i b,lives st.S i b=true->0<=(sl st.S i).s.depth/\(sl st.S i).s.depth<=6
theorem fmay (h:ForAt lo P st nw Fe w) (hD:DeepOk st) (s:Sess) :
  Calls Tryz.prog 35 #[.pointer (some ⟨P.f,0,none⟩),.agg s.cells.toArray] w fun e w' => e = .returned (erV (mayF st s))/\Below w.heap.size w w':=by
 obtain ⟨ev,hev⟩:∃ ev,ev=erV (mayF st s):=⟨_,rfl⟩
 have HEV:Hid (ev=erV (if s.us=0/\s.ub=0 then 0 else if lives st.S s.us s.ub=false then 16 else if belowB s (sl st.S s.us).s=false then 24 else 0)):=hev
 rw [<- hev]
 clear hev
 obtain ⟨W0,hW0⟩:∃ W0,W0=w.alloc (.cells s.cells.toArray 35):=⟨_,rfl⟩
 have hb0:Below w.heap.size w W0:=by rw [hW0];exact (Below.refl _ _).alloc (Nat.le_refl _) _
 have hr0:W0.heap[w.heap.size]? = some (.cells s.cells.toArray 35 (0,0)):=by rw [hW0];exact World.alloc_heap_new _ _
 have HSE:=zh (fsession (h.below hb0) s.us s.ub)
 have HB0:=zh hb0;have HR0:=zh hr0
 have HBEL:Hid (lives st.S s.us s.ub=true->∀ W,Calls Tryz.prog 63 #[.agg s.cells.toArray,.agg (sl st.S s.us).s.cells.toArray] W fun e w' => e = .returned (.bool (belowB s (sl st.S s.us).s))/\Below W.heap.size W w'):=fun hl W => below_s s _ (hD _ _ hl) W
 clear hb0 hr0 hD h
 obtain ⟨a1,a2,a3,a4,a5,a6,a7,a8,a9,a10,a11,a12⟩:=s
 simp only at HEV HSE HBEL
 simp only [Vw.Sess.cells] at hW0 HR0 ⊢
 have HW0:=zh hW0
 have c3:W0.cell? ⟨w.heap.size,2,none⟩=some (.int .i64 a3):=zl HR0.out rfl
 have c4:W0.cell? ⟨w.heap.size,3,none⟩=some (.int .i64 a4):=zl HR0.out rfl
 by_cases hz:a3=0/\a4=0
 ·obtain ⟨rfl,rfl⟩:=hz
  have HE:Hid (ev = .nilIface):=by show _=_;rw [HEV.out,if_pos ⟨rfl,rfl⟩];rfl
  clear c3 c4 hW0
  go_enter Tryz.func35,Tryz.ntmps35
  go_wp2
  rw [<- HW0.out]
  go_ret
  exact ⟨by rw [HE.out];rfl,HB0.out⟩
 ·have hne:=Ev.link_zero_no hz
  have HEV2:Hid (ev=erV (if lives st.S a3 a4=false then 16 else if belowB ⟨a1,a2,a3,a4,a5,a6,a7,a8,a9,a10,a11,a12⟩ (sl st.S a3).s=false then 24 else 0)):=by show _=_;rw [HEV.out,if_neg hz]
  clear hz hW0
  cases hl:lives st.S a3 a4 with
  | false =>
   have hsf:sessionF st a3 a4=(s0,16):=by unfold sessionF;rw [hl];rfl
   rw [hsf] at HSE
   obtain ⟨cs,hcs⟩:∃ cs,cs=s0.cells:=⟨_,rfl⟩
   simp only at HSE
   rw [<- hcs] at HSE
   have HCL:Hid (cs.length=12):=by show _=_;rw [hcs];rfl
   have HC1:Hid (∀ u ∈ cs,u.oneCell'=true):=by show ∀ _,_;rw [hcs];exact sess_one _
   replace HSE:Hid (Calls Tryz.prog 23 #[.pointer (some ⟨P.f,0,none⟩),.agg #[.int .i64 a3,.int .i64 a4]] W0 fun e w' => e = .returned (.tuple #[.agg cs.toArray,.iface 83 (.int .i64 16)])/\Below W0.heap.size W0 w'):=HSE.out
   have HE:Hid (ev = .iface 83 (.int .i64 16)):=by show _=_;rw [HEV2.out,if_pos hl];rfl
   clear hl hsf hcs c3 c4
   go_enter Tryz.func35,Tryz.ntmps35
   go_wp2_with fail
   rw [<- HW0.out]
   refine HSE.out.mono ?_
   rintro e w2 ⟨rfl,hb2⟩
   have HB3:Hid (Below w.heap.size w (w2.alloc (.cells cs.toArray 35))):=(HB0.out.trans (hb2.mono HB0.out.size)).alloc (Nat.le_trans HB0.out.size hb2.size) _
   clear hb2
   go_wp2_with (first
    | (refine Ag.wpList_store_new (by rfl) 35 (.tmp 5) (.tmp 16) (by rfl) cs (by rfl) (by rfl) (by rw [HCL.out];kernel_rfl) (by rw [HCL.out];rfl) HC1.out ?_))
   go_ret
   exact ⟨by rw [HE.out];rfl,HB3.out⟩
  | true =>
   have hsf:sessionF st a3 a4=((sl st.S a3).s,0):=by unfold sessionF;rw [hl];rfl
   rw [hsf] at HSE
   obtain ⟨ps,hps⟩:∃ ps,ps=(sl st.S a3).s:=⟨_,rfl⟩
   have HBL:Hid (∀ W,Calls Tryz.prog 63 #[.agg (Sess.mk a1 a2 a3 a4 a5 a6 a7 a8 a9 a10 a11 a12).cells.toArray,.agg ps.cells.toArray] W fun e w' => e = .returned (.bool (belowB ⟨a1,a2,a3,a4,a5,a6,a7,a8,a9,a10,a11,a12⟩ ps))/\Below W.heap.size W w'):=by rw [hps];exact HBEL.out hl
   obtain ⟨bl,hbl⟩:∃ bl,bl=belowB ⟨a1,a2,a3,a4,a5,a6,a7,a8,a9,a10,a11,a12⟩ ps:=⟨_,rfl⟩
   have HEV3:Hid (ev=erV (if bl=false then 24 else 0)):=by show _=_;rw [HEV2.out,if_neg (by rw [hl];decide),hbl,hps]
   rw [<- hbl] at HBL
   simp only at HSE
   rw [<- hps] at HSE
   obtain ⟨cs,hcs⟩:∃ cs,cs=ps.cells:=⟨_,rfl⟩
   rw [<- hcs] at HSE HBL
   have HCL:Hid (cs.length=12):=by show _=_;rw [hcs];rfl
   have HC1:Hid (∀ u ∈ cs,u.oneCell'=true):=by show ∀ _,_;rw [hcs];exact sess_one _
   replace HSE:Hid (Calls Tryz.prog 23 #[.pointer (some ⟨P.f,0,none⟩),.agg #[.int .i64 a3,.int .i64 a4]] W0 fun e w' => e = .returned (.tuple #[.agg cs.toArray,.nilIface])/\Below W0.heap.size W0 w'):=HSE.out
   clear hl hsf hcs hps hbl c3 c4
   go_enter Tryz.func35,Tryz.ntmps35
   go_wp2_with fail
   rw [<- HW0.out]
   refine HSE.out.mono ?_
   rintro e w2 ⟨rfl,hb2⟩
   obtain ⟨W3,hW3⟩:∃ W3,W3=w2.alloc (.cells cs.toArray 35):=⟨_,rfl⟩
   obtain ⟨N,hN⟩:∃ N,N=w2.heap.size:=⟨_,rfl⟩
   have hb3:Below W0.heap.size W0 W3:=by rw [hW3];exact hb2.alloc hb2.size _
   have HB3:Hid (Below w.heap.size w W3):=HB0.out.trans (hb3.mono HB0.out.size)
   have hr3:=(hb3.block _ (zx HR0.out)).trans HR0.out
   have hn3:W3.heap[N]? = some (.cells cs.toArray 35 (0,0)):=by rw [hW3,hN];exact World.alloc_heap_new _ _
   have HRG:=zh (box_rng (cs:=[.int .i64 a1,.int .i64 a2,.int .i64 a3,.int .i64 a4,.int .i64 a5,.string a6,.string a7,.int .u64 (a8:Int),.int .i64 a9,.int .i64 a10,.int .i64 a11,.int .i64 a12]) hr3)
   have HRN:=zh (box_rng hn3)
   have HW3:=zh hW3;have HN:=zh hN
   clear hb2 hb3 hr3 hn3 hW3 hN
   go_upto_region 4 with (first
    | (refine Ag.wpList_store_new (by rfl) 35 (.tmp 5) (.tmp 16) (by rfl) cs (by rfl) (by rfl) (by rw [HCL.out];kernel_rfl) (by rw [HCL.out];rfl) HC1.out ?_))
   rw [<- HW3.out,<- HN.out]
   go_wp2_with (first
    | (refine wpList_load_mid (by rfl) 35 (.tmp 3) (by rfl) _ _ (by rfl) [.int .i64 a1,.int .i64 a2,.int .i64 a3,.int .i64 a4,.int .i64 a5,.string a6,.string a7,.int .u64 (a8:Int),.int .i64 a9,.int .i64 a10,.int .i64 a11,.int .i64 a12] _ HRG.out Tryz.underlying35 rfl (by kernel_rfl) ?_)
    | (refine wpList_load_mid (by rfl) 35 (.tmp 5) (by rfl) _ _ (by rfl) cs _ HRN.out Tryz.underlying35 rfl (by rw [HCL.out];kernel_rfl) ?_))
   refine (HBL.out _).mono ?_
   rintro e w4 ⟨rfl,hb4⟩
   have HB4:Hid (Below w.heap.size w w4):=HB3.out.trans (hb4.mono HB3.out.size)
   clear hb4
   cases bl with
   | true =>
    have HE:Hid (ev = .nilIface):=by show _=_;rw [HEV3.out];rfl
    go_wp2
    go_ret
    exact ⟨by rw [HE.out];rfl,HB4.out⟩
   | false =>
    have HE:Hid (ev = .iface 83 (.int .i64 24)):=by show _=_;rw [HEV3.out];rfl
    go_wp2
    go_ret
    exact ⟨by rw [HE.out];rfl,HB4.out⟩
end
end Fr
end
section
open Go.RowKit Go.Maps
namespace Fr
open Vw (Sess)
open Ex (Ent wo ExpAt)
section
variable {lo:Nat} {P:Pa} {st st1 st2:FS} {nw c d:Nat} {Fe:Nat->Prop} {w w' w'':World}
theorem ForAt.block {b:Nat} (h:ForAt lo P st nw Fe w) (hb:w.heap.size<=b):¬ Fo P Fe b:=fun hf => by have:=(h.lt hf).2;omega
theorem ForAt.ptrs (h:ForAt lo P st nw Fe w):w.cell? ⟨P.f,2,none⟩=some (.pointer (some ⟨P.a,0,none⟩))/\w.cell? ⟨P.f,3,none⟩=some (.pointer (some ⟨P.t,0,none⟩))/\w.cell? ⟨P.f,4,none⟩=some (.pointer (some ⟨P.g,0,none⟩))/\w.cell? ⟨P.f,5,none⟩=some (.pointer (some ⟨P.E,0,none⟩)) :=
 ⟨by rw [h.cell 2];rfl,by rw [h.cell 3];rfl,by rw [h.cell 4];rfl,by rw [h.cell 5];rfl⟩
theorem ForAt.nums (h:ForAt lo P st nw Fe w):w.cell? ⟨P.f,0,none⟩=some (.int .i64 st.clock)/\w.cell? ⟨P.f,1,none⟩=some (.int .i64 st.births):=⟨by rw [h.cell 0];rfl,by rw [h.cell 1];rfl⟩
theorem fend (h:ForAt lo P st nw Fe w) (hw:nw+8<=4611686018427387904) (i:Int) (hi:thr i=true) (hc:endF st i=some st2) :
  Calls Tryz.prog 41 #[.pointer (some ⟨P.f,0,none⟩),.int .i64 i] w fun e w' => e = .returned .nilIface/\FoTo lo P st2 8 nw Fe w w':=by
 unfold endF at hc
 obtain ⟨s1,hc1,hc2⟩:=Option.bind_eq_some_iff.1 hc
 have HC:=zh (fcut h (by omega) i hc1)
 have c3:=h.ptrs.2.1
 have HLT:=zh (fun k (hk:Fo P Fe k) => (h.lt hk).2)
 have HW:=zh hw;have HI:=zh hi;have HC2:=zh hc2
 clear h hw hi hc hc1 hc2
 go_enter Tryz.func41,Tryz.ntmps41
 go_wp2_with fail
 refine HC.out.mono ?_
 rintro e w1 ⟨rfl,n1,F1,q1,q2,h1,q3,q4⟩
 have HQ1:=zh (And.intro q1 (And.intro q2 (And.intro q3 q4)))
 obtain ⟨x,hx⟩:∃ x,x={ sl s1.S i with dead:=true }:=⟨_,rfl⟩
 obtain ⟨cs,hcs⟩:∃ cs,cs=(sl s1.S i).cells:=⟨_,rfl⟩
 obtain ⟨ds,hds⟩:∃ ds,ds=x.cells:=⟨_,rfl⟩
 have hg:=fget h1 i HI.out
 rw [<- hcs] at hg
 have HG:=zh hg
 have HH1:=zh h1
 have d2:=h1.ptrs.1
 have HCL:Hid (cs.length=17):=by show _=_;rw [hcs];rfl
 have HC1:Hid (∀ u ∈ cs,u.oneCell'=true):=by show ∀ _,_;rw [hcs];exact (sl s1.S i).one
 have HCC:Hid (cs[1]? = some (.bool (sl s1.S i).dead)):=by show _=_;rw [hcs];rfl
 have HDL:Hid (ds.length=17):=by show _=_;rw [hds];rfl
 have HCD:Hid (cs.toArray.setIfInBounds 1 (.bool true)=ds.toArray):=by show _=_;rw [hcs,hds,hx];rfl
 have HPUT:Hid (∀ W n F,ForAt lo P s1 n F W->n+1<=4611686018427387904->Calls Tryz.prog 65 #[.pointer (some ⟨P.a,0,none⟩),.int .i64 i,.agg ds.toArray] W fun e w' => e = .returned .nilIface/\FoTo lo P { s1 with S:=put s1.S i x } 1 n F W w'):=fun W n F k kn => by
  rw [hds]
  refine (fput k kn i HI.out x).mono ?_
  rintro e w' ⟨h1,h2,-⟩
  exact ⟨h1,h2⟩
 have HADD:Hid (∀ W n F,ForAt lo P { s1 with S:=put s1.S i x,exp:=wo s1.exp i } n F W->n+3<=4611686018427387904->Calls Tryz.prog 71 #[.pointer (some ⟨P.g,0,none⟩),.int .i64 i] W fun e w' => e = .returned .nilIface/\FoTo lo P st2 3 n F W w'):=fun W n F k kn => fgadd k kn i (by rw [hx];exact HC2.out)
 clear q1 q2 q3 q4 hcs hds hg h1 c3 hx
 go_wp2_with fail
 refine HG.out.mono ?_
 rintro e w2 ⟨rfl,hb2⟩
 obtain ⟨W3,hW3⟩:∃ W3,W3=w2.alloc (.cells cs.toArray 61):=⟨_,rfl⟩
 obtain ⟨b,hbq⟩:∃ b,b=w2.heap.size:=⟨_,rfl⟩
 have hr3:W3.heap[b]? = some (.cells cs.toArray 61 (0,0)):=by rw [hW3,hbq];exact World.alloc_heap_new _ _
 have hb3:Below w1.heap.size w1 W3:=by rw [hW3];exact hb2.alloc hb2.size _
 have hge:w1.heap.size<=b:=by rw [hbq];exact hb2.size
 have f3:W3.frozen? ⟨b,1,none⟩=false:=by unfold World.frozen?;rw [hr3];rfl
 have e3:W3.cell? ⟨b,1,none⟩=some (.bool (sl s1.S i).dead):=by rw [zc hr3,List.getElem?_toArray];exact HCC.out
 obtain ⟨W4,hW4⟩:∃ W4,W4=W3.setCell ⟨b,1,none⟩ (.bool true):=⟨_,rfl⟩
 have hr4:W4.heap[b]? = some (.cells ds.toArray 61 (0,0)):=by rw [hW4,heap_setCell_same _ _ _ _ _ _ hr3,HCD.out]
 have hb4:Below w1.heap.size w1 W4:=by rw [hW4];exact hb3.setCell (p:=⟨b,1,none⟩) hge _
 have HH4:=zh (HH1.out.below hb4)
 have HB4:=zh hb4;have HW3:=zh hW3;have HW4:=zh hW4;have HBQ:=zh hbq;have HGE:=zh hge;have HR4:=zh hr4
 have HSK:Hid (∀ W' n F s,ForAt lo P s n F W'->Only (Fo P F1) W4 W'->W'.cell? ⟨P.f,2,none⟩=some (.pointer (some ⟨P.a,0,none⟩))/\W'.rangeAt b 0 ds):=fun W' n F s hf ho => ⟨hf.ptrs.1,box_rng ((ho.block b (zx HR4.out) (HH1.out.block HGE.out)).trans HR4.out)⟩
 clear hb2 hW3 hbq hr3 hb3 hge hW4 hr4 hb4 d2
 go_upto_region 7 with (first
  | (refine Ag.wpList_store_new (by rfl) 61 (.tmp 6) (.tmp 25) (by rfl) cs (by rfl) (by rfl) (by rw [HCL.out];kernel_rfl) (by rw [HCL.out];rfl) HC1.out ?_))
 rw [<- HW3.out,<- HBQ.out]
 go_upto_region 8 with fail
 rw [<- HW4.out]
 have hf5:=HH4.out.drew
 have ho5:Only (Fo P F1) W4 W4.drew:=(Only.refl _ _).drew
 refine wp_region_held_drew (S:=fun W' => W'.cell? ⟨P.f,2,none⟩=some (.pointer (some ⟨P.a,0,none⟩))/\W'.rangeAt b 0 ds) (by kernel_rfl) (HSK.out _ _ _ _ hf5 ho5) (fun _ => ?_)
 refine tq 0 rfl (.pointer (some ⟨P.f,0,none⟩)) (HSK.out _ _ _ _ hf5 ho5) ?_
 try simp only [zq]
 refine tq 1 rfl (.pointer (some ⟨P.f,0,none⟩)) (HSK.out _ _ _ _ hf5 ho5) ?_
 try simp only [zq]
 refine tq 2 rfl (.pointer (some ⟨P.f,2,none⟩)) (HSK.out _ _ _ _ hf5 ho5) ?_
 try simp only [zq]
 refine tq 3 rfl (.pointer (some ⟨P.a,0,none⟩)) (HSK.out _ _ _ _ hf5 ho5) ?_
 try simp only [zq]
 refine tq 4 rfl (.int .i64 i) (HSK.out _ _ _ _ hf5 ho5) ?_
 try simp only [zq]
 refine tk 5 rfl (.agg ds.toArray) (fun wq hq => by obtain ⟨hq0,hq1⟩:=hq;exact St.exec_load 61 (.tmp 6) (by rfl) b 0 (by rfl) ds _ hq1 Tryz.underlying61 rfl (by rw [HDL.out];kernel_rfl)) (HSK.out _ _ _ _ hf5 ho5) ?_
 try simp only [zq]
 refine zr 6 rfl (fun K hK => ?_)
 go_simp
 refine (HPUT.out _ _ _ hf5 (by obtain ⟨k1,k2,-⟩:=HQ1.out;have:=HW.out;omega)).mono ?_
 rintro e w5 ⟨rfl,n5,F5,p1,p2,h5,p3,p4⟩
 have hft:=And.intro p1 (And.intro p2 (And.intro p3 p4))
 clear hf5
 have hf5:=h5
 replace ho5:=ho5.trans p3 (fun _ _ h => h)
 clear p1 p2 h5 p3 p4
 refine hK.out _ _ (HSK.out _ _ _ _ hf5 ho5) (fun _ => ?_)
 clear hK K
 try simp only [zq]
 refine tq 7 rfl .nilIface (HSK.out _ _ _ _ hf5 ho5) ?_
 try simp only [zq]
 refine wpAnyH_done (by kernel_rfl) ?_ _
 try simp only [zq]
 have HBT:=zh hft
 have c5:=hf5.ptrs.2.2.2
 clear ho5
 have HF5:=zh hf5
 have HFO:=zh (fforget hf5 i HI.out)
 clear hf5 hft
 go_wp2_with fail
 refine HFO.out.mono ?_
 rintro e w6 ⟨⟨bb,rfl⟩,n6,F6,p1,p2,h6,p3,p4⟩
 have c4:=h6.ptrs.2.2.1
 have HADD2:=zh (HADD.out w6 n6 F6 h6 (by obtain ⟨k1,k2,-⟩:=HQ1.out;obtain ⟨k3,k4,-⟩:=HBT.out;have:=HW.out;omega))
 have HQ6:=zh (And.intro p1 (And.intro p2 (And.intro p3 p4)))
 clear h6 p1 p2 p3 p4 c5
 go_wp2_with fail
 refine HADD2.out.mono ?_
 rintro e w7 ⟨rfl,h7⟩
 have HE:Hid (FoTo lo P st2 8 nw Fe w w7):=by
  obtain ⟨k1,k2,k3,k4⟩:=HQ1.out
  obtain ⟨j1,j2,j3,j4⟩:=HBT.out
  obtain ⟨i1,i2,i3,i4⟩:=HQ6.out
  have t1:=FoTo.after i1 i2 i3 i4 h7
  have t2:=FoTo.after j1 j2 j3 j4 t1
  have t3:=FoTo.pre ((HB4.out).drew) t2
  exact FoTo.after k1 k2 k3 k4 t3
 clear h7
 go_wp2
 go_ret
 exact ⟨rfl,HE.out⟩
end
end Fr
end
section
open Go.RowKit Go.Maps
namespace Fr
open Vw (Sess)
open Ex (Ent wo ExpAt)
section
variable {lo:Nat} {P:Pa} {st st1 st2:FS} {nw c d:Nat} {Fe:Nat->Prop} {w w' w'':World}
theorem lives_thr {S:List Slt} {us ub:Int} (h:lives S us ub=true):thr us=true:=by
 have e3:livesN S 7 us ub=true:=h
 unfold livesN at e3
 rw [Bool.and_eq_true] at e3
 exact (holds_iff.1 e3.1).1
theorem frevoke (h:ForAt lo P st nw Fe w) (hw:nw+8<=4611686018427387904) (us ub no:Int) (hc:revokeF st us ub=some (st2,no)) :
  Calls Tryz.prog 14 #[.pointer (some ⟨P.f,0,none⟩),.agg #[.int .i64 us,.int .i64 ub]] w fun e w' => e = .returned (erV no)/\FoTo lo P st2 8 nw Fe w w':=by
 obtain ⟨W0,hW0⟩:∃ W0,W0=w.alloc (.cells #[.int .i64 us,.int .i64 ub] 28):=⟨_,rfl⟩
 have hb0:Below w.heap.size w W0:=by rw [hW0];exact (Below.refl _ _).alloc (Nat.le_refl _) _
 have hk0:W0.heap[w.heap.size]? = some (.cells #[.int .i64 us,.int .i64 ub] 28 (0,0)):=by rw [hW0];exact World.alloc_heap_new _ _
 have hf0:=h.below hb0
 have hse:=fsession hf0 us ub
 have HB0:=zh hb0;have HK0:=zh hk0;have HF0:=zh hf0;have HW0:=zh hW0
 unfold revokeF at hc
 cases hl:lives st.S us ub with
 | false =>
  rw [hl] at hc
  have hsf:sessionF st us ub=(s0,16):=by unfold sessionF;rw [hl];rfl
  rw [hsf] at hse
  have hcc:(st,(16:Int))=(st2,no):=Option.some.inj hc
  have e1:st2=st:=(Prod.mk.inj hcc).1.symm
  have e2:no=16:=(Prod.mk.inj hcc).2.symm
  subst e1 e2
  obtain ⟨cs,hcs⟩:∃ cs,cs=s0.cells:=⟨_,rfl⟩
  simp only at hse
  rw [<- hcs] at hse
  have HCL:Hid (cs.length=12):=by show _=_;rw [hcs];rfl
  have HC1:Hid (∀ u ∈ cs,u.oneCell'=true):=by show ∀ _,_;rw [hcs];exact sess_one _
  have HSE:Hid (Calls Tryz.prog 23 #[.pointer (some ⟨P.f,0,none⟩),.agg #[.int .i64 us,.int .i64 ub]] W0 fun e w' => e = .returned (.tuple #[.agg cs.toArray,.iface 83 (.int .i64 16)])/\Below W0.heap.size W0 w'):=hse
  have HH:=zh h
  clear hl hsf hcs hse hc hcc h hb0 hk0 hf0 hW0
  go_enter Tryz.func14,Tryz.ntmps14
  go_wp2_with fail
  rw [<- HW0.out]
  refine HSE.out.mono ?_
  rintro e w2 ⟨rfl,hb2⟩
  have HE:Hid (FoTo lo P st2 8 nw Fe w (w2.alloc (.cells cs.toArray 35))):=FoTo.of_below HH.out ((HB0.out.trans (hb2.mono HB0.out.size)).alloc (Nat.le_trans HB0.out.size hb2.size) _)
  clear hb2
  go_wp2_with (first
   | (refine Ag.wpList_store_new (by rfl) 35 (.tmp 5) (.tmp 11) (by rfl) cs (by rfl) (by rfl) (by rw [HCL.out];kernel_rfl) (by rw [HCL.out];rfl) HC1.out ?_))
  go_ret
  exact ⟨rfl,HE.out⟩
 | true =>
  rw [hl] at hc
  have hsf:sessionF st us ub=((sl st.S us).s,0):=by unfold sessionF;rw [hl];rfl
  rw [hsf] at hse
  obtain ⟨s2,hs2,hcc⟩:=Option.map_eq_some_iff.1 hc
  have e1:s2=st2:=(Prod.mk.inj hcc).1
  have e2:no=0:=(Prod.mk.inj hcc).2.symm
  subst e1 e2
  have hti:=lives_thr hl
  obtain ⟨cs,hcs⟩:∃ cs,cs=(sl st.S us).s.cells:=⟨_,rfl⟩
  simp only at hse
  rw [<- hcs] at hse
  have HCL:Hid (cs.length=12):=by show _=_;rw [hcs];rfl
  have HC1:Hid (∀ u ∈ cs,u.oneCell'=true):=by show ∀ _,_;rw [hcs];exact sess_one _
  have HSE:Hid (Calls Tryz.prog 23 #[.pointer (some ⟨P.f,0,none⟩),.agg #[.int .i64 us,.int .i64 ub]] W0 fun e w' => e = .returned (.tuple #[.agg cs.toArray,.nilIface])/\Below W0.heap.size W0 w'):=hse
  have HEND:Hid (∀ W,Below W0.heap.size W0 W->Calls Tryz.prog 41 #[.pointer (some ⟨P.f,0,none⟩),.int .i64 us] W fun e w' => e = .returned .nilIface/\FoTo lo P s2 8 nw Fe W w'):=fun W hb => fend (hf0.below hb) hw us hti hs2
  clear hl hsf hcs hse hc hcc h hb0 hk0 hf0 hW0 hti hs2
  go_enter Tryz.func14,Tryz.ntmps14
  go_wp2_with fail
  rw [<- HW0.out]
  refine HSE.out.mono ?_
  rintro e w2 ⟨rfl,hb2⟩
  obtain ⟨W3,hW3⟩:∃ W3,W3=w2.alloc (.cells cs.toArray 35):=⟨_,rfl⟩
  have hb3:Below W0.heap.size W0 W3:=by rw [hW3];exact hb2.alloc hb2.size _
  have hk3:=(hb3.block _ (zx HK0.out)).trans HK0.out
  have d0:W3.cell? ⟨w.heap.size,0,none⟩=some (.int .i64 us):=zl hk3 rfl
  have HEN:=zh (HEND.out W3 hb3)
  have HB3:Hid (Below w.heap.size w W3):=HB0.out.trans (hb3.mono HB0.out.size)
  have HW3:=zh hW3
  clear hb2 hb3 hk3
  rw [hW3] at d0
  clear hW3
  go_upto_region 4 with (first
   | (refine Ag.wpList_store_new (by rfl) 35 (.tmp 5) (.tmp 11) (by rfl) cs (by rfl) (by rfl) (by rw [HCL.out];kernel_rfl) (by rw [HCL.out];rfl) HC1.out ?_))
  rw [<- HW3.out] at d0 ⊢
  go_wp2_with fail
  refine HEN.out.mono ?_
  rintro e w4 ⟨rfl,h4⟩
  have HE:=zh (FoTo.pre HB3.out h4)
  clear h4
  go_wp2
  go_ret
  exact ⟨rfl,HE.out⟩
end
end Fr
end
end Go.Proofs.YtimhglmfckfclaaGreat
