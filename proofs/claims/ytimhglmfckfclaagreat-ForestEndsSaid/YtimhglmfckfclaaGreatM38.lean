/- Parts of the proof. -/
import Derived.Test.YtimhglmfckfclaaGreatM37
set_option linter.unusedVariables false
set_option linter.unusedSimpArgs false
set_option maxRecDepth 100000
set_option maxHeartbeats 16000000
namespace Go.Proofs.YtimhglmfckfclaaGreat
section
open Go.RowKit Go.Maps Go.Shelf
namespace Fr
open Vw (Sess)
open Ex (Ent wo ExpAt)
attribute [local go_sem] Oper.semAt_some
theorem IsN.session {st:FS} {A:List Sess} (h:IsN st A) {s:Sess} (hs:s ∈ A):sessionF st s.slot s.birth=(s,0):=by
 unfold sessionF
 rw [(h.lives_iff _ _).2 ⟨s,hs,rfl,rfl⟩,(h.may hs).2.2.2.1]
 rfl
section
variable {lo:Nat} {P:Pa} {st st1 st2:FS} {nw c d:Nat} {Fe:Nat->Prop} {w w' w'':World}
theorem FoTo.low (h:FoTo lo P st1 c nw Fe w w') (h0:ForAt lo P st nw Fe w):Below lo w w':=by
 obtain ⟨_,_,_,_,_,ho,_⟩:=h
 have:lo<=w.heap.size:=by have:=h0.lt (.inl rfl);omega
 exact ho.below this (fun i hi hf => by have:=(h0.lt hf).1;omega)
end
abbrev topCs:Array Value:=#[.int .i64 0,.int .i64 1,.int .i64 0,.int .i64 0,.int .i64 0,.string ⟨#[97,110,110]⟩,.string ⟨#[]⟩,.int .u64 7,.int .i64 1,.int .i64 0,.int .i64 100,.int .i64 0]
theorem seq_neq (k:Nat) (bs:Array Value) (w:World):(binOp .neq 71 (.func (.func k) #[] bs) .nilFunc).run Tryz.prog w = .ok (.bool true) w:=by kernel_rfl
theorem top_eql (w:World):(binOp .eql 35 (.agg topCs) (.agg topCs)).run Tryz.prog w = .ok (.bool true) w:=by kernel_rfl
theorem lworks_any (w:World):Calls Tryz.prog 5 #[] w fun e w' => e = .returned (.bool true)/\Below w.heap.size w w':=by
 obtain ⟨st2,hb2,hsw⟩:=Sw.first
 have HN:=zh (fnew_any w)
 have HBI:Hid (∀ (P:Pa) (Fe:Nat->Prop) (W:World),ForAt w.heap.size P newF 0 Fe W->Calls Tryz.prog 22 #[.pointer (some ⟨P.f,0,none⟩),.int .i64 0,.agg #[.int .i64 0,.int .i64 0],.agg #[.string ⟨#[97,110,110]⟩,.string ⟨#[116,118]⟩,.int .u64 7,.int .i64 1,.int .i64 100]] W fun e w' => e = .returned (.tuple #[.agg topCs,.bool true])/\FoTo w.heap.size P st2 14 0 Fe W w'):=fun P Fe W h =>
  lbirth_any h (by decide) 0 0 0 (askR 1 100) (by decide) (by decide) top1 plan_top hb2 is_new.1.deep (by decide) (by decide) (by decide) (by decide)
 have hse:sessionF st2 0 1=(top1,0):=hsw.seen.is.1.session (s:=top1) (by simp)
 have HSE:Hid (∀ (P:Pa) (Fe:Nat->Prop) (nw:Nat) (W:World),ForAt w.heap.size P st2 nw Fe W->Calls Tryz.prog 23 #[.pointer (some ⟨P.f,0,none⟩),.agg #[.int .i64 0,.int .i64 1]] W fun e w' => e = .returned (.tuple #[.agg topCs,.nilIface])/\Below W.heap.size W w'):=fun P Fe nw W h => by
  have:=fsession h 0 1
  rw [hse] at this
  exact this
 have HUN:Hid (∀ (P:Pa) (Fe:Nat->Prop) (nw:Nat) (W:World),ForAt w.heap.size P st2 nw Fe W->Calls Tryz.prog 24 #[.pointer (some ⟨P.f,0,none⟩),.agg #[.int .i64 0,.int .i64 1]] W (FUndPost (underF st2 0 1) W)):=fun P Fe nw W h => funder_any h hsw.seen.is.1 0 1
 have HAS:=zh (fun W => lask_any 1 100 W)
 have HEQ:=zh top_eql
 clear hb2 hsw hse
 go_enter Tryz.func5,Tryz.ntmps5
 go_wp2_with fail
 refine HN.out.mono ?_
 rintro e w1 ⟨P,Fe,rfl,hf1,hb1⟩
 have HF1:=zh hf1;have HB1:=zh hb1
 clear hf1 hb1
 go_wp2_with fail
 refine (HAS.out _).mono ?_
 rintro e w2 ⟨rfl,hb2⟩
 have hf2:=HF1.out.below hb2
 have HF2:=zh hf2
 have HB2:Hid (Below w.heap.size w w2):=HB1.out.trans (hb2.mono HB1.out.size)
 clear hb2 hf2
 go_wp2_with fail
 refine (HBI.out P Fe _ HF2.out).mono ?_
 rintro e w3 ⟨rfl,h3⟩
 have hb3:Below w.heap.size w w3:=HB2.out.trans (h3.low HF2.out)
 obtain ⟨n3,F3,-,-,hf3,-,-⟩:=h3
 have HB3:=zh hb3;have HF3:=zh hf3
 clear hb3 hf3
 go_wp2_with fail
 obtain ⟨W4,hW4⟩:∃ W4,W4=w3.alloc (.cells topCs 35):=⟨_,rfl⟩
 have hb34:Below w3.heap.size w3 W4:=by rw [hW4];exact (Below.refl _ _).alloc (Nat.le_refl _) _
 have hr4:W4.heap[w3.heap.size]? = some (.cells topCs 35 (0,0)):=by rw [hW4];exact World.alloc_heap_new _ _
 have HF4:=zh (HF3.out.below hb34)
 have HB4:Hid (Below w.heap.size w W4):=HB3.out.trans (hb34.mono HB3.out.size)
 have HR4:=zh hr4
 rw [<- hW4]
 clear hb34 hr4 hW4
 refine (HSE.out P F3 _ _ HF4.out).mono ?_
 rintro e w5 ⟨rfl,hb5⟩
 obtain ⟨W6,hW6⟩:∃ W6,W6=w5.alloc (.cells topCs 35):=⟨_,rfl⟩
 have hb6:Below W4.heap.size W4 W6:=by rw [hW6];exact hb5.alloc hb5.size _
 have hr6:W6.heap[w5.heap.size]? = some (.cells topCs 35 (0,0)):=by rw [hW6];exact World.alloc_heap_new _ _
 have hr5:W6.heap[w3.heap.size]? = some (.cells topCs 35 (0,0)):=(hb6.block _ (zx HR4.out)).trans HR4.out
 have HB6:Hid (Below w.heap.size w W6):=HB4.out.trans (hb6.mono HB4.out.size)
 have HF6:=zh (HF4.out.below hb6)
 have c51:W6.cell? ⟨w3.heap.size,1,none⟩=some (.int .i64 1):=zl hr5 rfl
 have c59:W6.cell? ⟨w3.heap.size,9+1,none⟩=some (.int .i64 100):=zl hr5 rfl
 have HG5:=zh hr5;have HG6:=zh hr6
 have HW6:=zh hW6
 clear hb5 hb6 hr6 hr5 hW6
 have heq:=HEQ.out
 go_upto_region 6 with fail
 rw [<- HW6.out]
 go_wp2_with (first
  | (refine Gd.load_row (by kernel_rfl) 35 (.tmp 4) rfl _ (by rfl) _ _ _ _ HG6.out Tryz.underlying35 rfl (by kernel_rfl) ?_)
  | (refine Gd.load_row (by kernel_rfl) 35 (.tmp 2) rfl _ (by rfl) _ _ _ _ HG5.out Tryz.underlying35 rfl (by kernel_rfl) ?_))
 refine (HUN.out P F3 _ _ HF6.out).mono ?_
 rintro e w7 ⟨⟨bx,v,rfl,-⟩,hb7⟩
 have HB7:Hid (Below w.heap.size w w7):=HB6.out.trans (hb7.mono HB6.out.size)
 clear hb7
 have hnq:=seq_neq 83 #[.pointer (some ⟨bx,0,none⟩)] w7
 go_wp2
 go_ret
 exact ⟨rfl,HB7.out⟩
section
variable {lo:Nat} {P:Pa} {st st1 st2:FS} {nw c d:Nat} {Fe:Nat->Prop} {w w' w'':World}
theorem seen_se {A:List Sess} {l:List Kn} (h:SeenK st A l) {i:Nat} (hi:i<l.length) :
  (liveK l i st.clock=true/\∃ s:Sess,sessionF st (kat l i).slot (kat l i).birth=(s,0)/\s.birth=(kat l i).birth/\s.dl=(kat l i).til) \/
  (liveK l i st.clock=false/\sessionF st (kat l i).slot (kat l i).birth=(s0,16)):=by
 have hl:=h.lvs hi
 cases hc:liveK l i st.clock with
 | true =>
  have hs:=h.session hi hc
  rw [hc] at hl
  exact .inl ⟨rfl,_,by unfold sessionF;rw [hl];rfl,hs.1,hs.2⟩
 | false =>
  rw [hc] at hl
  exact .inr ⟨rfl,by unfold sessionF;rw [hl];rfl⟩
theorem lseen_any {A:List Sess} {l:List Kn} (h:ForAt lo P st nw Fe w) (hS:SeenK st A l) (hlen:l.length<=1000) (v:Value) (hv:KIn w v l) :
  Calls Tryz.prog 17 #[.pointer (some ⟨P.f,0,none⟩),v,.int .i64 st.clock] w fun e w' => e = .returned (.bool true)/\Below w.heap.size w w':=by
 obtain ⟨p,c,rfl,-⟩:=id hv
 have HV:=zh (fun (w':World) (hb:Below w.heap.size w w') => hv.below hb)
 have HL:=zh (fun (i:Nat) (hi:i<l.length) (w':World) (hb:Below w.heap.size w w') => llives_any l hS.ups hlen (.slice p l.length c) i hi st.clock w' (hv.below hb))
 have HSE:=zh (fun (us ub:Int) (w':World) (hb:Below w.heap.size w w') => fsession (h.below hb) us ub)
 have HSS:=zh (fun (i:Nat) (hi:i<l.length) => seen_se hS hi)
 obtain ⟨now,hnow⟩:∃ now,now=st.clock:=⟨_,rfl⟩
 rw [<- hnow] at HL HSS ⊢
 clear h hS hv hnow
 go_enter Tryz.func17,Tryz.ntmps17
 go_wp2
 go_loopw [7] (fun a wr => ∃ n:Nat,n<=l.length/\a = .int .i64 n/\Below w.heap.size w wr) (fun a _ => l.length-(intOf a).toNat)
 case atStart => exact ⟨0,Nat.zero_le _,rfl,Below.refl _ _⟩
 case round =>
  obtain ⟨n,hn,rfl,hb⟩:=hrel
  have b0:(0:Int)<=(n:Int):=by omega
  have b4:(n:Int)<=1000:=by omega
  by_cases hc:n<l.length
  ·have b1:(n:Int)<(l.length:Int):=by omega
   obtain ⟨g,o,rfl,hg,x0,x1,x2,x3,x4⟩:=(HV.out wr hb).at hc
   have HSN:=zh (HSE.out (kat l n).slot (kat l n).birth wr hb)
   have HSX:=zh (HSS.out n hc)
   obtain ⟨sl_,hsl⟩:∃ sl_,sl_=(kat l n).slot:=⟨_,rfl⟩
   obtain ⟨bi,hbi⟩:∃ bi,bi=(kat l n).birth:=⟨_,rfl⟩
   obtain ⟨ti,hti⟩:∃ ti,ti=(kat l n).til:=⟨_,rfl⟩
   rw [<- hsl,<- hbi] at HSN
   rw [<- hsl,<- hbi,<- hti] at HSX
   rw [<- hsl] at x0;rw [<- hbi] at x1;rw [<- hti] at x3
   have HXX:Hid (∀ W,Below w.heap.size w W->W.cell? ⟨g,o+n * 5+1,none⟩=some (.int .i64 bi)/\W.cell? ⟨g,o+n * 5+3,none⟩=some (.int .i64 ti)):=fun W hbW => by
    obtain ⟨g',o',e,-,-,y1,-,y3,-⟩:=(HV.out W hbW).at hc
    cases e
    exact ⟨by rw [hbi];exact y1,by rw [hti];exact y3⟩
   have HB:=zh hb;have HN:=zh hc
   clear hb hc hn hsl hbi hti x2 x3 x4 hg
   rcases HSX.out with ⟨hlv,sx,hse,e1,e2⟩ | ⟨hlv,hse⟩
   ·obtain ⟨cs,hcs⟩:∃ cs,cs=sx.cells:=⟨_,rfl⟩
    have HCL:Hid (cs.length=12):=by show _=_;rw [hcs];rfl
    have HC1:Hid (∀ u ∈ cs,u.oneCell'=true):=by show ∀ _,_;rw [hcs];exact sess_one _
    have k1:cs[1]? = some (.int .i64 bi):=by rw [hcs,<- e1];rfl
    have k10:cs[10]? = some (.int .i64 ti):=by rw [hcs,<- e2];rfl
    rw [hse] at HSN
    simp only at HSN
    rw [show erV 0 = .nilIface from if_pos rfl] at HSN
    rw [<- hcs] at HSN
    have HCALL:=zh (fun (W:World) (hb:Below w.heap.size w W) => HL.out n HN.out W hb)
    rw [hlv] at HCALL
    clear hcs hse hlv e1 e2
    go_wp2_with fail
    refine HSN.out.mono ?_
    rintro e w2 ⟨rfl,hb2⟩
    obtain ⟨W3,hW3⟩:∃ W3,W3=w2.alloc (.cells cs.toArray 35):=⟨_,rfl⟩
    obtain ⟨b2,hbq⟩:∃ b2,b2=w2.heap.size:=⟨_,rfl⟩
    have hb3:Below wr.heap.size wr W3:=by rw [hW3];exact hb2.alloc hb2.size _
    have hr3:W3.heap[b2]? = some (.cells cs.toArray 35 (0,0)):=by rw [hW3,hbq];exact World.alloc_heap_new _ _
    have HB3:Hid (Below w.heap.size w W3):=HB.out.trans (hb3.mono HB.out.size)
    have HSK:Hid (∀ W',Below W3.heap.size W3 W'->W'.cell? ⟨b2,1,none⟩=some (.int .i64 bi)/\W'.cell? ⟨b2,10,none⟩=some (.int .i64 ti)/\W'.cell? ⟨g,o+n * 5+1,none⟩=some (.int .i64 bi)/\W'.cell? ⟨g,o+n * 5+3,none⟩=some (.int .i64 ti)):=fun W' hb => by
     have hr:=(hb.block _ (zx hr3)).trans hr3
     have hx:=HXX.out W' (HB3.out.trans (hb.mono HB3.out.size))
     exact ⟨by rw [zc hr];simpa using k1,by rw [zc hr];simpa using k10,hx.1,hx.2⟩
    have HW3:=zh hW3;have HBQ:=zh hbq
    clear hb2 hb3 hr3 hW3 hbq x0 x1 k1 k10
    go_upto_region 5 with (first
     | (refine Ag.wpList_store_new (by rfl) 35 (.tmp 8) (.tmp 24) (by rfl) cs (by rfl) (by rfl) (by rw [HCL.out];kernel_rfl) (by rw [HCL.out];rfl) HC1.out ?_))
    rw [<- HW3.out,<- HBQ.out]
    have hbk:Below W3.heap.size W3 W3.drew:=(Below.refl _ _).drew
    refine wp_region_held_drew (S:=fun W' => W'.cell? ⟨b2,1,none⟩=some (.int .i64 bi)/\W'.cell? ⟨b2,10,none⟩=some (.int .i64 ti)/\W'.cell? ⟨g,o+n * 5+1,none⟩=some (.int .i64 bi)/\W'.cell? ⟨g,o+n * 5+3,none⟩=some (.int .i64 ti)) (by kernel_rfl) (HSK.out _ hbk) (fun _ => ?_)
    refine tq 0 rfl .nilIface (HSK.out _ hbk) ?_
    try simp only [zq]
    refine tq 1 rfl (.bool true) (HSK.out _ hbk) ?_
    try simp only [zq]
    refine tq 2 rfl (.slice (some ⟨g,o,none⟩) l.length c) (HSK.out _ hbk) ?_
    try simp only [zq]
    refine tq 3 rfl (.int .i64 (n:Int)) (HSK.out _ hbk) ?_
    try simp only [zq]
    refine tq 4 rfl (.int .i64 now) (HSK.out _ hbk) ?_
    try simp only [zq]
    refine zr 5 rfl (fun K hK => ?_)
    go_simp
    refine (HCALL.out _ (HB3.out.trans (hbk.mono HB3.out.size))).mono ?_
    rintro e w4 ⟨rfl,hb4⟩
    have hbk4:Below W3.heap.size W3 w4:=hbk.trans (hb4.mono hbk.size)
    refine hK.out _ _ (HSK.out _ hbk4) (fun _ => ?_)
    clear hK K
    try simp only [zq]
    refine tq 6 rfl (.bool false) (HSK.out _ hbk4) ?_
    try simp only [zq]
    refine tq 7 rfl (.bool false) (HSK.out _ hbk4) ?_
    try simp only [zq]
    refine tq 8 rfl .nilIface (HSK.out _ hbk4) ?_
    try simp only [zq]
    refine tq 9 rfl (.bool true) (HSK.out _ hbk4) ?_
    try simp only [zq]
    refine tq 10 rfl (.bool true) (HSK.out _ hbk4) ?_
    try simp only [zq]
    refine tq 11 rfl (.pointer (some ⟨b2,1,none⟩)) (HSK.out _ hbk4) ?_
    try simp only [zq]
    refine tq 12 rfl (.int .i64 bi) (HSK.out _ hbk4) ?_
    try simp only [zq]
    refine tq 13 rfl (.slice (some ⟨g,o,none⟩) l.length c) (HSK.out _ hbk4) ?_
    try simp only [zq]
    refine tq 14 rfl (.int .i64 (n:Int)) (HSK.out _ hbk4) ?_
    try simp only [zq]
    refine tq 15 rfl (.pointer (some ⟨g,o+n * 5,none⟩)) (HSK.out _ hbk4) ?_
    try simp only [zq]
    refine tq 16 rfl (.pointer (some ⟨g,o+n * 5,none⟩)) (HSK.out _ hbk4) ?_
    try simp only [zq]
    refine tq 17 rfl (.pointer (some ⟨g,o+n * 5+1,none⟩)) (HSK.out _ hbk4) ?_
    try simp only [zq]
    refine tq 18 rfl (.int .i64 bi) (HSK.out _ hbk4) ?_
    try simp only [zq]
    refine tq 19 rfl (.bool false) (HSK.out _ hbk4) ?_
    try simp only [zq]
    refine tq 20 rfl (.bool false) (HSK.out _ hbk4) ?_
    try simp only [zq]
    refine tq 21 rfl (.pointer (some ⟨b2,10,none⟩)) (HSK.out _ hbk4) ?_
    try simp only [zq]
    refine tq 22 rfl (.int .i64 ti) (HSK.out _ hbk4) ?_
    try simp only [zq]
    refine tq 23 rfl (.slice (some ⟨g,o,none⟩) l.length c) (HSK.out _ hbk4) ?_
    try simp only [zq]
    refine tq 24 rfl (.int .i64 (n:Int)) (HSK.out _ hbk4) ?_
    try simp only [zq]
    refine tq 25 rfl (.pointer (some ⟨g,o+n * 5,none⟩)) (HSK.out _ hbk4) ?_
    try simp only [zq]
    refine tq 26 rfl (.pointer (some ⟨g,o+n * 5+3,none⟩)) (HSK.out _ hbk4) ?_
    try simp only [zq]
    refine tq 27 rfl (.int .i64 ti) (HSK.out _ hbk4) ?_
    try simp only [zq]
    refine tq 28 rfl (.bool false) (HSK.out _ hbk4) ?_
    try simp only [zq]
    refine tq 29 rfl (.bool false) (HSK.out _ hbk4) ?_
    try simp only [zq]
    refine tq 30 rfl (.bool false) (HSK.out _ hbk4) ?_
    try simp only [zq]
    refine tq 31 rfl (.bool false) (HSK.out _ hbk4) ?_
    try simp only [zq]
    refine wpAnyH_done (by kernel_rfl) ?_ _
    try simp only [zq]
    have HB4:Hid (Below w.heap.size w w4):=HB3.out.trans (hbk4.mono HB3.out.size)
    clear hbk hbk4 hb4
    go_wp2
    go_roundw
    case rel => have:=HN.out;exact ⟨n+1,by omega,by go_num,HB4.out⟩
    case measure => have:=HN.out;simp [intOf];omega
   ·obtain ⟨sx,hsx⟩:∃ sx,sx=s0:=⟨_,rfl⟩
    rw [<- hsx] at hse
    clear hsx
    obtain ⟨cs,hcs⟩:∃ cs,cs=sx.cells:=⟨_,rfl⟩
    have HCL:Hid (cs.length=12):=by show _=_;rw [hcs];rfl
    have HC1:Hid (∀ u ∈ cs,u.oneCell'=true):=by show ∀ _,_;rw [hcs];exact sess_one _
    rw [hse] at HSN
    simp only at HSN
    rw [show erV 16 = .iface 83 (.int .i64 16) from if_neg (by decide)] at HSN
    rw [<- hcs] at HSN
    have HCALL:=zh (fun (W:World) (hb:Below w.heap.size w W) => HL.out n HN.out W hb)
    rw [hlv] at HCALL
    clear hcs hse hlv
    go_wp2_with fail
    refine HSN.out.mono ?_
    rintro e w2 ⟨rfl,hb2⟩
    obtain ⟨W3,hW3⟩:∃ W3,W3=w2.alloc (.cells cs.toArray 35):=⟨_,rfl⟩
    obtain ⟨b2,hbq⟩:∃ b2,b2=w2.heap.size:=⟨_,rfl⟩
    have hb3:Below wr.heap.size wr W3:=by rw [hW3];exact hb2.alloc hb2.size _
    have hr3:W3.heap[b2]? = some (.cells cs.toArray 35 (0,0)):=by rw [hW3,hbq];exact World.alloc_heap_new _ _
    have HB3:Hid (Below w.heap.size w W3):=HB.out.trans (hb3.mono HB.out.size)
    have HSK:Hid (∀ W',Below W3.heap.size W3 W'->W'.cell? ⟨g,o+n * 5+1,none⟩=some (.int .i64 bi)/\W'.cell? ⟨g,o+n * 5+3,none⟩=some (.int .i64 ti)):=fun W' hb => by
     have hr:=(hb.block _ (zx hr3)).trans hr3
     have hx:=HXX.out W' (HB3.out.trans (hb.mono HB3.out.size))
     exact ⟨hx.1,hx.2⟩
    have HW3:=zh hW3;have HBQ:=zh hbq
    clear hb2 hb3 hr3 hW3 hbq x0 x1
    go_upto_region 5 with (first
     | (refine Ag.wpList_store_new (by rfl) 35 (.tmp 8) (.tmp 24) (by rfl) cs (by rfl) (by rfl) (by rw [HCL.out];kernel_rfl) (by rw [HCL.out];rfl) HC1.out ?_))
    rw [<- HW3.out,<- HBQ.out]
    have hbk:Below W3.heap.size W3 W3.drew:=(Below.refl _ _).drew
    refine wp_region_held_drew (S:=fun W' => W'.cell? ⟨g,o+n * 5+1,none⟩=some (.int .i64 bi)/\W'.cell? ⟨g,o+n * 5+3,none⟩=some (.int .i64 ti)) (by kernel_rfl) (HSK.out _ hbk) (fun _ => ?_)
    refine tq 0 rfl (.iface 83 (.int .i64 16)) (HSK.out _ hbk) ?_
    try simp only [zq]
    refine tq 1 rfl (.bool false) (HSK.out _ hbk) ?_
    try simp only [zq]
    refine tq 2 rfl (.slice (some ⟨g,o,none⟩) l.length c) (HSK.out _ hbk) ?_
    try simp only [zq]
    refine tq 3 rfl (.int .i64 (n:Int)) (HSK.out _ hbk) ?_
    try simp only [zq]
    refine tq 4 rfl (.int .i64 now) (HSK.out _ hbk) ?_
    try simp only [zq]
    refine zr 5 rfl (fun K hK => ?_)
    go_simp
    refine (HCALL.out _ (HB3.out.trans (hbk.mono HB3.out.size))).mono ?_
    rintro e w4 ⟨rfl,hb4⟩
    have hbk4:Below W3.heap.size W3 w4:=hbk.trans (hb4.mono hbk.size)
    refine hK.out _ _ (HSK.out _ hbk4) (fun _ => ?_)
    clear hK K
    try simp only [zq]
    refine tq 6 rfl (.bool false) (HSK.out _ hbk4) ?_
    try simp only [zq]
    refine tq 7 rfl (.bool false) (HSK.out _ hbk4) ?_
    try simp only [zq]
    refine tq 8 rfl (.iface 83 (.int .i64 16)) (HSK.out _ hbk4) ?_
    try simp only [zq]
    refine tq 9 rfl (.bool false) (HSK.out _ hbk4) ?_
    try simp only [zq]
    refine tq 10 rfl (.bool false) (HSK.out _ hbk4) ?_
    try simp only [zq]
    refine tu 11 rfl (HSK.out _ hbk4) ?_
    try simp only [zq]
    refine tu 12 rfl (HSK.out _ hbk4) ?_
    try simp only [zq]
    refine tu 13 rfl (HSK.out _ hbk4) ?_
    try simp only [zq]
    refine tu 14 rfl (HSK.out _ hbk4) ?_
    try simp only [zq]
    refine tu 15 rfl (HSK.out _ hbk4) ?_
    try simp only [zq]
    refine tu 16 rfl (HSK.out _ hbk4) ?_
    try simp only [zq]
    refine tu 17 rfl (HSK.out _ hbk4) ?_
    try simp only [zq]
    refine tu 18 rfl (HSK.out _ hbk4) ?_
    try simp only [zq]
    refine tu 19 rfl (HSK.out _ hbk4) ?_
    try simp only [zq]
    refine tu 20 rfl (HSK.out _ hbk4) ?_
    try simp only [zq]
    refine tu 21 rfl (HSK.out _ hbk4) ?_
    try simp only [zq]
    refine tu 22 rfl (HSK.out _ hbk4) ?_
    try simp only [zq]
    refine tu 23 rfl (HSK.out _ hbk4) ?_
    try simp only [zq]
    refine tu 24 rfl (HSK.out _ hbk4) ?_
    try simp only [zq]
    refine tu 25 rfl (HSK.out _ hbk4) ?_
    try simp only [zq]
    refine tu 26 rfl (HSK.out _ hbk4) ?_
    try simp only [zq]
    refine tu 27 rfl (HSK.out _ hbk4) ?_
    try simp only [zq]
    refine tu 28 rfl (HSK.out _ hbk4) ?_
    try simp only [zq]
    refine tu 29 rfl (HSK.out _ hbk4) ?_
    try simp only [zq]
    refine tq 30 rfl (.bool false) (HSK.out _ hbk4) ?_
    try simp only [zq]
    refine tq 31 rfl (.bool false) (HSK.out _ hbk4) ?_
    try simp only [zq]
    refine wpAnyH_done (by kernel_rfl) ?_ _
    try simp only [zq]
    have HB4:Hid (Below w.heap.size w w4):=HB3.out.trans (hbk4.mono HB3.out.size)
    clear hbk hbk4 hb4
    go_wp2
    go_roundw
    case rel => have:=HN.out;exact ⟨n+1,by omega,by go_num,HB4.out⟩
    case measure => have:=HN.out;simp [intOf];omega
  ·have b1:(l.length:Int)<=(n:Int):=by omega
   have HB:=zh hb
   clear hb hn
   go_wp2
   go_ret
   exact ⟨rfl,HB.out⟩
end
end Fr
end
end Go.Proofs.YtimhglmfckfclaaGreat
