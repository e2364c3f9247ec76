/- Parts of the proof. -/
import Derived.Test.YtimhglmfckfclaaGreatDoorM40
import Derived.Deep.CutBlock
import Derived.RowKit
import Derived.Laws.StructEq
set_option linter.unusedVariables false
set_option linter.unusedSimpArgs false
set_option maxRecDepth 100000
set_option maxHeartbeats 16000000
namespace Go.Proofs.YtimhglmfckfclaaGreatDoor
section
open Go.RowKit Go.Maps
namespace Fr
open Vw (Sess)
open Ex (Ent wo ExpAt)
theorem from_step {births:Int} (hb:0<=births/\births<=1048576) {s:Sess} {last:Int} {st:FS} {A:List Sess} (h:Is st A) (h1:st.births=births) (h3:∀ i,thr i=true->(sl st.S i).used=true->(sl st.S i).s.birth<=last)
  (hc:¬ (mayS s=false\/s.birth<=last\/births<s.birth\/st.clock<s.born\/s.dl<=st.clock)) (hm0:mayF st s=0) :
  layF st s=some (st,9)\/∃ st1,layF st s=some (st1,0)/\Is st1 (A ++ [s])/\st1.clock=st.clock/\st1.births=births/\(∀ i,thr i=true->(sl st1.S i).used=true->(sl st1.S i).s.birth<=s.birth):=by
 have hmS:mayS s=true:=by cases hq:mayS s with
  | true => rfl
  | false => exact absurd (.inl hq) hc
 by_cases hf:s.slot ∈ st.free
 ·obtain ⟨st1,e,hi,k1,k2,k3,k4,k5,k6⟩:=h.1.lay (births':=st.births) hmS hf ((h.1.mayF_zero s).1 hm0) (by rw [h1];omega) (Int.le_refl _) (by rw [h1];exact hb.2) (fun i hi hu => by have:=h3 i hi hu;omega)
  have hi':IsN st1 (A ++ [s]):=by rw [<- k2] at hi;exact hi
  have hI:Is st1 (A ++ [s]):=⟨hi',fun x hx => by
   rw [k4] at hx
   rw [k1]
   rcases put_mem.1 hx with rfl | hx
   ·show st.clock<s.dl
    omega
   ·exact h.2 x (wo_mem.1 hx).1⟩
  exact .inr ⟨st1,e,hI,k1,k2.trans h1,k6⟩
 ·left
  have hcon:st.free.contains s.slot=false:=by simpa using hf
  unfold layF;rw [hcon];rfl
theorem from_zero (c b:Int):∀ i,thr i=true->(sl ({ newF with clock:=c,births:=b }:FS).S i).used=true->(sl ({ newF with clock:=c,births:=b }:FS).S i).s.birth<=0:=fun i hi hu => by
 exfalso
 have e:(sl newF.S i).used=false:=by
  show ((List.replicate 32 bare).getD i.toNat bare).used=false
  rw [List.getD_eq_getElem?_getD,List.getElem?_replicate]
  split <;> rfl
 rw [show (sl ({ newF with clock:=c,births:=b }:FS).S i).used=(sl newF.S i).used from rfl,e] at hu
 cases hu
theorem SesIn.below {w w':World} {v:Value} {ss:List Sess} (h:SesIn w v ss) (hb:Below w.heap.size w w'):SesIn w' v ss:=by
 obtain ⟨p,cap,rfl,h⟩:=h
 refine ⟨p,cap,rfl,fun j s hj => ?_⟩
 obtain ⟨g,o,e,hr⟩:=h j s hj
 refine ⟨g,o,e,fun i u hi => ?_⟩
 exact (hb.cell (p:=⟨g,o+j * 12+i,none⟩) (World.block_lt_of_cell? w _ (hr i u hi))).trans (hr i u hi)
structure FmAt (c b:Int) (ss:List Sess) (W0:World) (RES:Option (Option FS)) (k:Nat) (last:Int) (st:FS) (nw:Nat) (F:Nat->Prop) (P:Pa) (W:World):Prop where
 fa:ForAt W0.heap.size P st nw F W
 bel:Below W0.heap.size W0 W
 is:Is st (ss.take k)
 res:fromN b (ss.drop k) last st=RES
 clk:st.clock=c
 bir:st.births=b
 low:∀ i,thr i=true->(sl st.S i).used=true->(sl st.S i).s.birth<=last
 nw6:nw<=6 * k
def FromPost (c b:Int) (ss:List Sess) (w:World) (e:Ending) (w':World):Prop :=
 (fromF c b ss=some none/\e = .returned (.tuple #[.pointer none,.iface 101 (.int .i64 24)])/\Below w.heap.size w w') \/
 ∃ lo P st nw F,fromF c b ss=some (some st)/\e = .returned (.tuple #[.pointer (some ⟨P.f,0,none⟩),.nilIface])/\ForAt lo P st nw F w'/\nw<=192/\w.heap.size<=lo/\Below w.heap.size w w'
theorem FmAt.step {c b:Int} {ss:List Sess} {W0 W W':World} {RES:Option (Option FS)} {k:Nat} {last:Int} {st st1:FS} {nw:Nat} {F:Nat->Prop} {P:Pa} (h:FmAt c b ss W0 RES k last st nw F P W) (hb:0<=b/\b<=1048576) (hk:k<ss.length)
  (hc:¬ (mayS ss[k]=false\/ss[k].birth<=last\/b<ss[k].birth\/c<ss[k].born\/ss[k].dl<=c)) (hm:mayF st ss[k]=0) (hl:layF st ss[k]=some (st1,0)) (h2:FoTo W0.heap.size P st1 6 nw F W W') :
  ∃ n2 F2,FmAt c b ss W0 RES (k+1) ss[k].birth st1 n2 F2 P W':=by
 have hc':¬ (mayS ss[k]=false\/ss[k].birth<=last\/b<ss[k].birth\/st.clock<ss[k].born\/ss[k].dl<=st.clock):=by rw [h.clk];exact hc
 rcases from_step hb h.is h.bir h.low hc' hm with h9 | ⟨s1,e1,e2,e3,e4,e5⟩
 ·rw [h9] at hl;exact absurd (show (9:Int)=0 from congrArg Prod.snd (Option.some.inj hl)) (by decide)
 ·have:s1=st1:=congrArg Prod.fst (Option.some.inj (e1.symm.trans hl))
  subst this
  have hlow:=FoTo.low h2 h.fa
  obtain ⟨n2,F2,a1,a2,a3,a4,a5⟩:=h2
  refine ⟨n2,F2,a3,h.bel.trans hlow,?_,?_,e3.trans h.clk,e4,e5,by have:=h.nw6;omega⟩
  ·rw [List.take_succ_eq_append_getElem hk];exact e2
  ·have hr:=h.res
   rw [List.drop_eq_getElem_cons hk] at hr
   unfold fromN at hr
   rw [if_neg hc',if_neg (by rw [hm];exact fun h => h rfl),e1,Option.bind_some,if_neg (fun h => h rfl)] at hr
   exact hr
theorem FmAt.no1 {c b:Int} {ss:List Sess} {W0 W:World} {RES:Option (Option FS)} {k:Nat} {last:Int} {st:FS} {nw:Nat} {F:Nat->Prop} {P:Pa} (h:FmAt c b ss W0 RES k last st nw F P W) (hk:k<ss.length)
  (hc:mayS ss[k]=false\/ss[k].birth<=last\/b<ss[k].birth\/c<ss[k].born\/ss[k].dl<=c):RES=some none:=by
 have hr:=h.res
 rw [List.drop_eq_getElem_cons hk] at hr
 unfold fromN at hr
 rw [if_pos (by rw [h.clk];exact hc)] at hr
 exact hr.symm
theorem FmAt.no2 {c b:Int} {ss:List Sess} {W0 W:World} {RES:Option (Option FS)} {k:Nat} {last:Int} {st:FS} {nw:Nat} {F:Nat->Prop} {P:Pa} (h:FmAt c b ss W0 RES k last st nw F P W) (hk:k<ss.length)
  (hc:¬ (mayS ss[k]=false\/ss[k].birth<=last\/b<ss[k].birth\/c<ss[k].born\/ss[k].dl<=c)) (hm:mayF st ss[k]≠0):RES=some none:=by
 have hr:=h.res
 rw [List.drop_eq_getElem_cons hk] at hr
 unfold fromN at hr
 rw [if_neg (by rw [h.clk];exact hc),if_pos hm] at hr
 exact hr.symm
theorem FmAt.no3 {c b:Int} {ss:List Sess} {W0 W:World} {RES:Option (Option FS)} {k:Nat} {last:Int} {st:FS} {nw:Nat} {F:Nat->Prop} {P:Pa} (h:FmAt c b ss W0 RES k last st nw F P W) (hk:k<ss.length)
  (hc:¬ (mayS ss[k]=false\/ss[k].birth<=last\/b<ss[k].birth\/c<ss[k].born\/ss[k].dl<=c)) (hm:mayF st ss[k]=0) (hl:layF st ss[k]=some (st,9)):RES=some none:=by
 have hr:=h.res
 rw [List.drop_eq_getElem_cons hk] at hr
 unfold fromN at hr
 rw [if_neg (by rw [h.clk];exact hc),if_neg (by rw [hm];exact fun h => h rfl),hl,Option.bind_some,if_pos (show (9:Int)≠0 by decide)] at hr
 exact hr.symm
theorem mayF_vals (st:FS) (s:Sess):mayF st s=0\/mayF st s=16\/mayF st s=24:=by
 unfold mayF
 repeat' split
 all_goals simp
theorem FmAt.cells {c b:Int} {ss:List Sess} {W0 W:World} {RES:Option (Option FS)} {k:Nat} {last:Int} {st:FS} {nw:Nat} {F:Nat->Prop} {P:Pa} (h:FmAt c b ss W0 RES k last st nw F P W) {W':World} (hb:Below W.heap.size W W'):FmAt c b ss W0 RES k last st nw F P W' :=
 ⟨h.fa.below hb,h.bel.trans (hb.mono h.bel.size),h.is,h.res,h.clk,h.bir,h.low,h.nw6⟩
def FroPost (RF:Option (Option FS)) (w:World) (e:Ending) (w':World):Prop :=
 (RF=some none/\e = .returned (.tuple #[.pointer none,.iface 101 (.int .i64 24)])/\Below w.heap.size w w') \/
 ∃ lo P st nw F,RF=some (some st)/\e = .returned (.tuple #[.pointer (some ⟨P.f,0,none⟩),.nilIface])/\ForAt lo P st nw F w'/\nw<=192/\w.heap.size<=lo/\Below w.heap.size w w'
theorem ffrom (c b:Int) (v:Value) (ss:List Sess) (hsz:∀ s ∈ ss,s.user.size<=9223372036854775807/\s.label.size<=9223372036854775807/\s.scopes<18446744073709551616) (hlen:(ss.length:Int)<=9223372036854775807) (w:World) (hv:SesIn w v ss) :
  Calls Tryz.prog 8 #[.agg #[.int .i64 c,.int .i64 b,v]] w (FromPost c b ss w):=by
 obtain ⟨p,cap,rfl,hvr⟩:=id hv
 obtain ⟨W0,hW0⟩:∃ W0,W0=w.alloc (.cells #[.int .i64 c,.int .i64 b,.slice p ss.length cap] 24):=⟨_,rfl⟩
 have hb0:Below w.heap.size w W0:=by rw [hW0];exact (Below.refl _ _).alloc (Nat.le_refl _) _
 have hz0:w.heap.size<W0.heap.size:=by rw [hW0];simp
 have x0:W0.cell? ⟨w.heap.size,0,none⟩=some (.int .i64 c):=by rw [hW0];simp [go_sem]
 have x1:W0.cell? ⟨w.heap.size,1,none⟩=some (.int .i64 b):=by rw [hW0];simp [go_sem]
 have x2:W0.cell? ⟨w.heap.size,2,none⟩=some (.slice p ss.length cap):=by rw [hW0];simp [go_sem]
 have HSI:=zh (fun W (h:Below W0.heap.size W0 W) => (hv.below hb0).below h)
 have HCE:Hid (∀ W,Below W0.heap.size W0 W->W.cell? ⟨w.heap.size,0,none⟩=some (.int .i64 c)/\W.cell? ⟨w.heap.size,1,none⟩=some (.int .i64 b)/\W.cell? ⟨w.heap.size,2,none⟩=some (.slice p ss.length cap)):=fun W h =>
  ⟨(h.cell (p:=⟨w.heap.size,0,none⟩) hz0).trans x0,(h.cell (p:=⟨w.heap.size,1,none⟩) hz0).trans x1,(h.cell (p:=⟨w.heap.size,2,none⟩) hz0).trans x2⟩
 have HNW:=zh (fnew_any W0)
 have HB0:=zh hb0;have HW0:=zh hW0;have HSZ:=zh hsz
 obtain ⟨RF,hRF⟩:∃ RF,RF=fromF c b ss:=⟨_,rfl⟩
 unfold FromPost
 rw [<- hRF]
 have HNO:Hid (∀ (e:Ending) (W:World),RF=some none->e = .returned (.tuple #[.pointer none,.iface 101 (.int .i64 24)])->Below W0.heap.size W0 W->FroPost RF w e W):=fun e W h1 h2 h3 => .inl ⟨h1,h2,hb0.trans (h3.mono hb0.size)⟩
 show Calls _ _ _ _ (FroPost RF w)
 clear hv hvr hb0 hW0 hsz hz0
 have HRF:=zh hRF
 clear hRF
 by_cases hq:c<0
 ·have HN:Hid (RF=some none):=by show _=_;rw [HRF.out];unfold fromF;rw [if_pos (by omega)]
  go_enter Tryz.func8,Tryz.ntmps8
  go_wp2
  rw [<- HW0.out]
  go_ret2
  exact HNO.out _ _ HN.out rfl (Below.refl _ _)
 have c0:0<=c:=by omega
 clear hq
 by_cases hq:1099511627776<c
 ·have HN:Hid (RF=some none):=by show _=_;rw [HRF.out];unfold fromF;rw [if_pos (by omega)]
  go_enter Tryz.func8,Tryz.ntmps8
  go_wp2
  rw [<- HW0.out]
  go_ret2
  exact HNO.out _ _ HN.out rfl (Below.refl _ _)
 have c1:c<=1099511627776:=by omega
 clear hq
 by_cases hq:b<0
 ·have HN:Hid (RF=some none):=by show _=_;rw [HRF.out];unfold fromF;rw [if_pos (by omega)]
  go_enter Tryz.func8,Tryz.ntmps8
  go_wp2
  rw [<- HW0.out]
  go_ret2
  exact HNO.out _ _ HN.out rfl (Below.refl _ _)
 have b0:0<=b:=by omega
 clear hq
 by_cases hq:1048576<b
 ·have HN:Hid (RF=some none):=by show _=_;rw [HRF.out];unfold fromF;rw [if_pos (by omega)]
  go_enter Tryz.func8,Tryz.ntmps8
  go_wp2
  rw [<- HW0.out]
  go_ret2
  exact HNO.out _ _ HN.out rfl (Below.refl _ _)
 have b1:b<=1048576:=by omega
 clear hq
 by_cases hq:(32:Int)<(ss.length:Int)
 ·have HN:Hid (RF=some none):=by show _=_;rw [HRF.out];unfold fromF;rw [if_pos (by omega)]
  go_enter Tryz.func8,Tryz.ntmps8
  go_wp2
  rw [<- HW0.out]
  go_ret2
  exact HNO.out _ _ HN.out rfl (Below.refl _ _)
 have l1:(ss.length:Int)<=32:=by omega
 clear hq
 have HRN:Hid (fromN b ss 0 { newF with clock:=c,births:=b }=RF):=by show _=_;rw [HRF.out];unfold fromF;rw [if_neg (by omega)]
 have HCB:Hid ((0<=c/\c<=1099511627776)/\(0<=b/\b<=1048576)):=⟨⟨c0,c1⟩,b0,b1⟩
 have HL1:Hid (ss.length<=32):=by show _<=_;omega
 go_enter Tryz.func8,Tryz.ntmps8
 go_wp2_with fail
 rw [<- HW0.out]
 refine HNW.out.mono ?_
 rintro e w1 ⟨P,F1,rfl,hf1,hb1⟩
 obtain ⟨x0',x1',x2'⟩:=HCE.out w1 hb1
 have g0:=hf1.nums.1;have g1:=hf1.nums.2
 have g2:=hf1.free 0;have g3:=hf1.free 1
 have HB1:=zh hb1;have HF1:=zh hf1
 clear hb1 hf1 x0 x1 x2
 go_wp2_with fail
 go_region
 have hf2:=((HF1.out.setClock c).setBirths b).drew
 have hb2:Below W0.heap.size W0 ((w1.setCell ⟨P.f,0,none⟩ (.int .i64 c)).setCell ⟨P.f,1,none⟩ (.int .i64 b)).drew:=((HB1.out.setCell (p:=⟨P.f,0,none⟩) HF1.out.lo4.1 _).setCell (p:=⟨P.f,1,none⟩) HF1.out.lo4.1 _).drew
 clear x0' x1' x2' g0 g1 g2 g3
 generalize ((w1.setCell ⟨P.f,0,none⟩ (.int .i64 c)).setCell ⟨P.f,1,none⟩ (.int .i64 b)).drew=w2 at hf2 hb2 ⊢
 obtain ⟨-,-,x2'⟩:=HCE.out w2 hb2
 have HM0:Hid (FmAt c b ss W0 RF 0 0 { newF with clock:=c,births:=b } 0 F1 P w2):=⟨hf2,hb2,by rw [List.take_zero];exact is_from HCB.out.1 HCB.out.2,by rw [List.drop_zero];exact HRN.out,rfl,rfl,from_zero c b,by omega⟩
 clear hf2 hb2
 go_wp2
 go_loopw [5,47] (fun l i wr => ∃ (k:Nat) (last:Int) (st:FS) (nw:Nat) (F:Nat->Prop),k<=ss.length/\i = .int .i64 (k:Int)/\l = .int .i64 last/\FmAt c b ss W0 RF k last st nw F P wr) (fun _ i _ => ss.length-(intOf i).toNat)
 case atStart => exact ⟨0,0,_,0,F1,Nat.zero_le _,rfl,rfl,HM0.out⟩
 case round =>
  obtain ⟨k,last,st,nw,F,hk,rfl,rfl,hM⟩:=hrel
  have k0:(0:Int)<=(k:Int):=by omega
  have k2:(k:Int)<=32:=by have:=HL1.out;omega
  by_cases hlt:k<ss.length
  ·have k1:(k:Int)<(ss.length:Int):=by omega
   obtain ⟨p2,cap2,heq,hr⟩:=HSI.out wr hM.bel
   cases heq
   obtain ⟨s,hse⟩:∃ s,s=ss[k]:=⟨_,rfl⟩
   obtain ⟨g,o,rfl,hrx⟩:=hr k s (by rw [hse];exact List.getElem?_eq_getElem hlt)
   obtain ⟨cs,hcs⟩:∃ cs,cs=s.cells:=⟨_,rfl⟩
   rw [<- hcs] at hrx
   obtain ⟨bi0,hbi⟩:∃ q,s.birth=q:=⟨_,rfl⟩
   obtain ⟨bo0,hbo⟩:∃ q,s.born=q:=⟨_,rfl⟩
   obtain ⟨dl0,hdl⟩:∃ q,s.dl=q:=⟨_,rfl⟩
   have HC:Hid (cs[1]? = some (.int .i64 bi0)/\cs[9]? = some (.int .i64 bo0)/\cs[10]? = some (.int .i64 dl0)):=by show _/\_/\_;rw [hcs,<- hbi,<- hbo,<- hdl];exact ⟨rfl,rfl,rfl⟩
   have HCL:Hid (cs.length=12):=by show _=_;rw [hcs];rfl
   have HC1:Hid (∀ u ∈ cs,u.oneCell'=true):=by show ∀ _,_;rw [hcs];exact sess_one' _
   obtain ⟨b7,hb7⟩:∃ b7,b7=wr.heap.size:=⟨_,rfl⟩
   obtain ⟨w8,hw8⟩:∃ W,W=wr.alloc (.cells cs.toArray 30):=⟨_,rfl⟩
   have HK8:Hid (w8.heap[b7]? = some (.cells cs.toArray 30 (0,0))):=by show _=_;rw [hw8,hb7];exact World.alloc_heap_new _ _
   have HM8:Hid (FmAt c b ss W0 RF k last st nw F P w8):=hM.cells (by rw [hw8];exact (Below.refl _ _).alloc (Nat.le_refl _) _)
   obtain ⟨z1,z2,z3⟩:=HSZ.out s (by rw [hse];exact List.getElem_mem hlt)
   have HAL:=zh (alone_any s z1 z2 z3 w8)
   have HRX:=zh hrx;have HW8:=zh hw8;have HB7:=zh hb7;have HLT:=zh hlt;have HSE:Hid (s=ss[k]'HLT.out):=hse;have HBI:=zh hbi;have HCS:=zh hcs
   clear hr hrx hw8 hb7 hM hlt hse hcs z1 z2 z3 hk
   go_upto_region 9 with (first
    | (refine wpList_load_mid (by rfl) 30 _ (by rfl) _ _ (by rfl) cs _ HRX.out Tryz.underlying30 rfl (by rw [HCL.out];kernel_rfl) ?_)
    | (refine Ag.wpList_store_new (by rfl) 30 (.tmp 7) (.tmp 50) (by rfl) cs (by rfl) (by rfl) (by rw [HCL.out];kernel_rfl) (by rw [HCL.out];rfl) HC1.out ?_))
   rw [<- HW8.out,<- HB7.out]
   go_wp2_with (refine wpList_load_row (by rfl) 30 (.tmp 7) (by rfl) b7 (by rfl) _ cs.toArray _ _ HK8.out Tryz.underlying30 rfl (by rw [List.size_toArray,HCL.out];kernel_rfl) ?_)
   rw [HCS.out]
   cases hmy:mayS s with
   | false =>
    have HN:Hid (RF=some none):=FmAt.no1 HM8.out HLT.out (by rw [<- HSE.out];exact .inl hmy)
    rw [hmy] at HAL
    clear hbi hbo hdl hmy
    refine HAL.out.mono ?_
    rintro e w9 ⟨rfl,hb9⟩
    have HM9:=zh (HM8.out.cells hb9)
    have HK9:=zh ((hb9.block b7 (zx HK8.out)).trans HK8.out)
    clear hb9
    have HBW:Hid (Below W0.heap.size W0 w9):=HM9.out.bel
    obtain ⟨x0,x1,-⟩:=HCE.out w9 HBW.out
    have xa9:w9.cell? ⟨b7,1,none⟩=some (.int .i64 bi0):=by rw [zc HK9.out,List.getElem?_toArray];exact HC.out.1
    have xb9:w9.cell? ⟨b7,9,none⟩=some (.int .i64 bo0):=by rw [zc HK9.out,List.getElem?_toArray];exact HC.out.2.1
    have xc9:w9.cell? ⟨b7,10,none⟩=some (.int .i64 dl0):=by rw [zc HK9.out,List.getElem?_toArray];exact HC.out.2.2
    clear xa9 xb9 xc9 x0 x1
    go_wp2
    go_ret2
    exact HNO.out _ _ HN.out rfl HBW.out
   | true =>
    rw [hmy] at HAL
    refine HAL.out.mono ?_
    rintro e w9 ⟨rfl,hb9⟩
    have HM9:=zh (HM8.out.cells hb9)
    have HK9:=zh ((hb9.block b7 (zx HK8.out)).trans HK8.out)
    clear hb9
    have HBW:Hid (Below W0.heap.size W0 w9):=HM9.out.bel
    obtain ⟨x0,x1,-⟩:=HCE.out w9 HBW.out
    have xa9:w9.cell? ⟨b7,1,none⟩=some (.int .i64 bi0):=by rw [zc HK9.out,List.getElem?_toArray];exact HC.out.1
    have xb9:w9.cell? ⟨b7,9,none⟩=some (.int .i64 bo0):=by rw [zc HK9.out,List.getElem?_toArray];exact HC.out.2.1
    have xc9:w9.cell? ⟨b7,10,none⟩=some (.int .i64 dl0):=by rw [zc HK9.out,List.getElem?_toArray];exact HC.out.2.2
    by_cases hq:bi0<=last
    ·have HN:Hid (RF=some none):=FmAt.no1 HM9.out HLT.out (by rw [<- HSE.out];exact .inr (.inl (by rw [hbi];exact hq)))
     clear hbi hbo hdl hmy
     go_wp2
     go_ret2
     exact HNO.out _ _ HN.out rfl HBW.out
    have t0:last<bi0:=by omega
    clear hq
    by_cases hq:b<bi0
    ·have HN:Hid (RF=some none):=FmAt.no1 HM9.out HLT.out (by rw [<- HSE.out];exact .inr (.inr (.inl (by rw [hbi];exact hq))))
     clear hbi hbo hdl hmy
     go_wp2
     go_ret2
     exact HNO.out _ _ HN.out rfl HBW.out
    have t1:bi0<=b:=by omega
    clear hq
    by_cases hq:c<bo0
    ·have HN:Hid (RF=some none):=FmAt.no1 HM9.out HLT.out (by rw [<- HSE.out];exact .inr (.inr (.inr (.inl (by rw [hbo];exact hq)))))
     clear hbi hbo hdl hmy
     go_wp2
     go_ret2
     exact HNO.out _ _ HN.out rfl HBW.out
    have t2:bo0<=c:=by omega
    clear hq
    by_cases hq:dl0<=c
    ·have HN:Hid (RF=some none):=FmAt.no1 HM9.out HLT.out (by rw [<- HSE.out];exact .inr (.inr (.inr (.inr (by rw [hdl];exact hq)))))
     clear hbi hbo hdl hmy
     go_wp2
     go_ret2
     exact HNO.out _ _ HN.out rfl HBW.out
    have t3:c<dl0:=by omega
    clear hq
    have HCN:Hid (¬ (mayS s=false\/s.birth<=last\/b<s.birth\/c<s.born\/s.dl<=c)):=by show ¬ _;rw [hmy,hbi,hbo,hdl];simp only [Bool.true_eq_false,false_or];omega
    clear hmy hbi hbo hdl
    go_upto_region 12 with fail
    clear xa9 xb9 xc9 x0 x1
    have HMY:=zh (fmay HM9.out.fa HM9.out.is.1.deep s)
    go_wp2_with (refine wpList_load_row (by rfl) 30 (.tmp 7) (by rfl) b7 (by rfl) _ cs.toArray _ _ HK9.out Tryz.underlying30 rfl (by rw [List.size_toArray,HCL.out];kernel_rfl) ?_)
    rw [HCS.out]
    refine HMY.out.mono ?_
    rcases mayF_vals st s with hmf | hmf | hmf
    ·have HMF:=zh hmf
     rw [hmf,show erV 0 = .nilIface from if_pos rfl]
     clear hmf
     rintro e w10 ⟨rfl,hb10⟩
     have HM10:=zh (HM9.out.cells hb10)
     have HK10:=zh ((hb10.block b7 (zx HK9.out)).trans HK9.out)
     clear hb10
     have hcn:¬ (mayS s=false\/s.birth<=last\/b<s.birth\/st.clock<s.born\/s.dl<=st.clock):=by rw [HM10.out.clk];exact HCN.out
     have hms:mayS s=true:=by cases hq:mayS s with
     | true => rfl
     | false => exact absurd (.inl hq) hcn
     obtain ⟨k1,k2⟩:=may_okE hms
     rcases from_step HCB.out.2 HM10.out.is HM10.out.bir HM10.out.low hcn HMF.out with h9 | ⟨st1,h9,-,-,-,-⟩
     ·have HLY:=zh (flay HM10.out.fa (by have:=HM10.out.nw6;have:=HL1.out;have:=HLT.out;omega) s k1 k2 9 h9)
      have HN:Hid (RF=some none):=FmAt.no3 HM10.out HLT.out (by rw [<- HSE.out];exact HCN.out) (by rw [<- HSE.out];exact HMF.out) (by rw [<- HSE.out];exact h9)
      clear hcn hms k1 k2 h9
      go_wp2_with (refine Gd.load_row (by kernel_rfl) 30 (.tmp 7) rfl _ (by rfl) _ _ _ _ HK10.out Tryz.underlying30 rfl (by rw [List.size_toArray,HCL.out];kernel_rfl) ?_)
      rw [HCS.out]
      refine HLY.out.mono ?_
      rintro e w11 ⟨rfl,h11⟩
      rw [show erV 9 = .iface 101 (.int .i64 9) from if_neg (by decide)]
      have HBW:Hid (Below W0.heap.size W0 w11):=HM10.out.bel.trans (FoTo.low h11 HM10.out.fa)
      clear h11
      go_wp2
      go_ret2
      exact HNO.out _ _ HN.out rfl HBW.out
     ·have HLY:=zh (flay HM10.out.fa (by have:=HM10.out.nw6;have:=HL1.out;have:=HLT.out;omega) s k1 k2 0 h9)
      have HST:=zh (fun (W':World) (h2:FoTo W0.heap.size P st1 6 nw F w10 W') => FmAt.step HM10.out HCB.out.2 HLT.out (by rw [<- HSE.out];exact HCN.out) (by rw [<- HSE.out];exact HMF.out) (by rw [<- HSE.out];exact h9) h2)
      clear hcn hms k1 k2 h9
      go_wp2_with (refine Gd.load_row (by kernel_rfl) 30 (.tmp 7) rfl _ (by rfl) _ _ _ _ HK10.out Tryz.underlying30 rfl (by rw [List.size_toArray,HCL.out];kernel_rfl) ?_)
      rw [HCS.out]
      refine HLY.out.mono ?_
      rintro e w11 ⟨rfl,h11⟩
      rw [show erV 0 = .nilIface from if_pos rfl]
      obtain ⟨n11,F11,h12⟩:=HST.out w11 h11
      rw [<- HSE.out,HBI.out] at h12
      have HM12:=zh h12
      clear h11 h12
      go_wp2
      go_roundw
      case rel => exact ⟨k+1,bi0,st1,n11,F11,by have:=HLT.out;omega,by go_num,rfl,HM12.out⟩
      case measure => have:=HLT.out;simp [intOf];omega
    ·rw [hmf]
     have HN:Hid (RF=some none):=FmAt.no2 HM9.out HLT.out (by rw [<- HSE.out];exact HCN.out) (by rw [<- HSE.out,hmf];decide)
     rintro e w10 ⟨rfl,hb10⟩
     have HBW:Hid (Below W0.heap.size W0 w10):=HM9.out.bel.trans (hb10.mono HM9.out.bel.size)
     rw [show erV 16 = .iface 101 (.int .i64 16) from if_neg (by decide)]
     clear hb10 hmf
     go_wp2
     go_ret2
     exact HNO.out _ _ HN.out rfl HBW.out
    ·rw [hmf]
     have HN:Hid (RF=some none):=FmAt.no2 HM9.out HLT.out (by rw [<- HSE.out];exact HCN.out) (by rw [<- HSE.out,hmf];decide)
     rintro e w10 ⟨rfl,hb10⟩
     have HBW:Hid (Below W0.heap.size W0 w10):=HM9.out.bel.trans (hb10.mono HM9.out.bel.size)
     rw [show erV 24 = .iface 101 (.int .i64 24) from if_neg (by decide)]
     clear hb10 hmf
     go_wp2
     go_ret2
     exact HNO.out _ _ HN.out rfl HBW.out
  ·have k1:(ss.length:Int)<=(k:Int):=by omega
   have e:k=ss.length:=by omega
   have hr:=hM.res
   rw [e,List.drop_length] at hr
   have HN:Hid (RF=some (some st)):=hr.symm
   have HNW6:Hid (nw<=192):=by have:=hM.nw6;have:=HL1.out;show nw<=192;omega
   have HM:=zh hM
   clear hr hM hlt hk e
   go_wp2
   go_ret2
   exact .inr ⟨_,P,st,nw,F,HN.out,rfl,HM.out.fa,HNW6.out,HB0.out.size,HB0.out.trans (HM.out.bel.mono HB0.out.size)⟩
end Fr
end
section
open Go.RowKit Go.Maps
namespace Fr
open Vw (Sess)
namespace Fk
attribute [local go_sem] Oper.semAt_some
def ses1:Sess:=⟨3,1,0,0,0,annB,ByteArray.empty,7,1,0,301,0⟩
def ses2:Sess:=⟨4,2,3,1,1,annB,tvB,5,1,0,301,1⟩
def kk:FS:=(((fromF 300 2 [ses1,ses2]).getD none).getD newF)
theorem from_ok:fromF 300 2 [ses1,ses2]=some (some kk):=by kernel_rfl
theorem from_0:fromF 300 2 [ses1,{ ses2 with scopes:=8 }]=some none:=by kernel_rfl
theorem from_1:fromF 300 2 [ses1,{ ses2 with dl:=302 }]=some none:=by kernel_rfl
theorem from_2:fromF 300 2 [ses1,{ ses2 with depth:=2 }]=some none:=by kernel_rfl
theorem from_3:fromF 300 2 [ses1,{ ses2 with level:=2 }]=some none:=by kernel_rfl
theorem from_4:fromF 300 2 [ses1,{ ses2 with ub:=2 }]=some none:=by kernel_rfl
theorem from_5:fromF 300 2 [ses1,{ ses2 with us:=4 }]=some none:=by kernel_rfl
theorem from_6:fromF 300 2 [ses1,{ ses2 with user:=⟨#[98,111,98]⟩ }]=some none:=by kernel_rfl
theorem from_7:fromF 300 2 [ses1,{ ses2 with kind:=2 }]=some none:=by kernel_rfl
theorem from_8:fromF 300 2 [ses1,{ ses2 with born:=301 }]=some none:=by kernel_rfl
theorem from_9:fromF 300 2 [ses1,{ ses2 with birth:=3 }]=some none:=by kernel_rfl
theorem from_10:fromF 300 2 [ses1,{ ses2 with slot:=3 }]=some none:=by kernel_rfl
theorem from_11:fromF 300 1 [ses1,ses2]=some none:=by kernel_rfl
theorem from_12:fromF 301 2 [ses1,ses2]=some none:=by kernel_rfl
theorem from_13:fromF 300 2 [ses1,{ ses2 with birth:=1 }]=some none:=by kernel_rfl
def TwoPost (w:World) (e:Ending) (w':World):Prop:=∃ g,e = .returned (.agg #[.int .i64 300,.int .i64 2,.slice (some ⟨g,0,none⟩) 2 2])/\w.heap.size<=g/\w'.heap[g]? = some (.cells (allC [ses1,ses2]).toArray 30 (0,0))/\Below w.heap.size w w'
theorem two_any (w:World):Calls Tryz.prog 70 #[] w (TwoPost w):=by
 go_enter Tryz.func70,Tryz.ntmps70
 go_wp2
 refine bodyPost_ret (v:=.agg #[.int .i64 300,.int .i64 2,.slice (some ⟨w.heap.size+1,0,none⟩) 2 2]) (by simp [results,Tryz.results70,go_sem]) rfl ?_
 refine ⟨w.heap.size+1,rfl,by omega,?_,((Below.refl _ _).alloc (Nat.le_refl _) _).alloc (by simp) _⟩
 have h:=World.alloc_heap_new (w.alloc (.cells #[.int .i64 300,.int .i64 2,.slice (some ⟨w.heap.size+1,0,none⟩) 2 2] 24)) (.cells (allC [ses1,ses2]).toArray 30)
 rw [World.size_alloc] at h
 exact h
theorem ses_in {W:World} {g:Nat} {ss:List Sess} (h:W.heap[g]? = some (.cells (allC ss).toArray 30 (0,0))) (hl:ss.length<=65536):SesIn W (.slice (some ⟨g,0,none⟩) ss.length ss.length) ss:=by
 refine ⟨_,_,rfl,fun j s hj => ⟨g,0,rfl,fun i u hi => ?_⟩⟩
 obtain ⟨hjl,rfl⟩:=List.getElem?_eq_some_iff.1 hj
 have hi2:i<12:=(List.getElem?_eq_some_iff.1 hi).1
 rw [zc h,List.getElem?_toArray,Nat.zero_add,allC_cell hjl hi2];exact hi
structure StAt (w:World) (b g:Nat) (c n:Int) (ss:List Sess) (W:World):Prop where
 bel:Below w.heap.size w W
 rowb:W.heap[b]? = some (.cells #[.int .i64 c,.int .i64 n,.slice (some ⟨g,0,none⟩) 2 2] 24 (0,0))
 rowg:W.heap[g]? = some (.cells (allC ss).toArray 30 (0,0))
 ge:w.heap.size<=b/\w.heap.size<=g/\b≠g
def No (c n:Int) (s:Sess):Prop:=fromF c n [ses1,s]=some none/\s.user.size<=9223372036854775807/\s.label.size<=9223372036854775807/\s.scopes<18446744073709551616
theorem only_cellq {w:World} {b j:Nat} (u:Value):Only (fun k => k=b) w (w.setCell ⟨b,j,none⟩ u):=(Only.refl (fun k => k=b) w).setCell (p:=⟨b,j,none⟩) (fun _ => rfl) _
theorem StAt.setg {w W:World} {b g:Nat} {c n:Int} {ss ss':List Sess} (h:StAt w b g c n ss W) (j:Nat) (u:Value) (he:(allC ss').toArray=(allC ss).toArray.setIfInBounds j u):StAt w b g c n ss' (W.setCell ⟨g,j,none⟩ u):=by
 have ho:Only (fun k => k=g) W (W.setCell ⟨g,j,none⟩ u):=only_cellq u
 exact ⟨h.bel.trans (ho.below h.bel.size (fun i hi e => by have:=h.ge;omega)),(ho.block b (zx h.rowb) h.ge.2.2).trans h.rowb,by rw [he];exact heap_setCell_same _ _ _ _ _ _ h.rowg,h.ge⟩
theorem StAt.setb {w W:World} {b g:Nat} {c n c' n':Int} {ss:List Sess} (h:StAt w b g c n ss W) (j:Nat) (u:Value) (he:(#[.int .i64 c',.int .i64 n',.slice (some ⟨g,0,none⟩) 2 2]:Array Value)=(#[.int .i64 c,.int .i64 n,.slice (some ⟨g,0,none⟩) 2 2]:Array Value).setIfInBounds j u):StAt w b g c' n' ss (W.setCell ⟨b,j,none⟩ u):=by
 have ho:Only (fun k => k=b) W (W.setCell ⟨b,j,none⟩ u):=only_cellq u
 exact ⟨h.bel.trans (ho.below h.bel.size (fun i hi e => by have:=h.ge;omega)),by rw [he];exact heap_setCell_same _ _ _ _ _ _ h.rowb,(ho.block g (zx h.rowg) (fun e => h.ge.2.2 e.symm)).trans h.rowg,h.ge⟩
theorem states_any (w:World) (hg:erHandle w):Calls Tryz.prog 29 #[] w fun e w' => e = .returned (.bool true)/\Below w.heap.size w w':=by
 have HG:=zh (fun (W:World) (hb:Below w.heap.size w W) => hg.below hg.lt hb)
 have HT:=zh (fun w => two_any w)
 clear hg
 go_enter Tryz.func29,Tryz.ntmps29
 go_wp2_with fail
 refine (HT.out _).mono ?_
 rintro e w1 ⟨g,rfl,hge,hrow,hb1⟩
 have HB1:=zh hb1
 have HFR:=zh (ffrom 300 2 _ [ses1,ses2] (fun s hs => by simp only [List.mem_cons,List.not_mem_nil,or_false] at hs;rcases hs with rfl | rfl <;> exact ⟨by decide,by decide,by decide⟩) (by decide) w1 (ses_in hrow (by decide)))
 clear hb1 hge hrow
 go_wp2_with fail
 refine HFR.out.mono ?_
 rintro e w2 (⟨h1,-,-⟩ | ⟨lo,P,st,nw,F,-,rfl,-,-,-,hb2⟩)
 ·rw [from_ok] at h1;cases h1
 have HB2:=zh (HB1.out.trans (hb2.mono HB1.out.size))
 clear hb2 HFR
 go_wp2
 go_loopw [3] (fun i wr => ∃ k:Nat,k<=14/\i = .int .i64 (k:Int)/\Below w.heap.size w wr) (fun i _ => 15-(intOf i).toNat)
 case atStart => exact ⟨0,by omega,rfl,HB2.out⟩
 case round =>
  obtain ⟨k,hk,rfl,hbr⟩:=hrel
  have HB:=zh hbr
  have b0:(0:Int)<=(k:Int):=by omega
  have w1':IntKind.i64.wrap ((k:Int)+1)=((k+1:Nat):Int):=by rw [IntWalk.i64_in _ (by omega)];rfl
  clear hbr
  by_cases hlt:k<14
  ·have b1:(k:Int)<14:=by omega
   go_wp2_with fail
   refine (HT.out _).mono ?_
   rintro e w3 ⟨g,rfl,hge,hrow,hb3⟩
   have h4:StAt w w3.heap.size g 300 2 [ses1,ses2] (w3.alloc (.cells #[.int .i64 300,.int .i64 2,.slice (some ⟨g,0,none⟩) 2 2] 24)) :=
    ⟨(HB.out.trans (hb3.mono HB.out.size)).alloc (Nat.le_trans HB.out.size hb3.size) _,World.alloc_heap_new _ _,by rw [Below.heap_alloc _ _ _ (zx hrow)];exact hrow,Nat.le_trans HB.out.size hb3.size,Nat.le_trans HB.out.size hge,Ne.symm (Nat.ne_of_lt (zx hrow))⟩
   have H4:=zh h4
   have HLT:=zh hlt
   clear hge hrow hb3 h4 hlt
   go_upto_region 8 with fail
   generalize w3.heap.size=b at H4 ⊢
   generalize (w3.alloc (.cells #[.int .i64 300,.int .i64 2,.slice (some ⟨g,0,none⟩) 2 2] 24))=w4 at H4 ⊢
   obtain ⟨KI,hKI⟩:∃ KI:Int,KI=(k:Int):=⟨_,rfl⟩
   rw [<- hKI]
   have HKI:=zh hKI
   have hcase:KI=0\/KI=1\/KI=2\/KI=3\/KI=4\/KI=5\/KI=6\/KI=7\/KI=8\/KI=9\/KI=10\/KI=11\/KI=12\/KI=13:=by have:=HLT.out;omega
   have HCASE:=zh hcase
   clear hKI hcase b0 b1 w1'
   have HC4:Hid (∀ j:Nat,w4.cell? ⟨g,j,none⟩=(allC [ses1,ses2])[j]?/\w4.frozen? ⟨g,j,none⟩=false):=fun j => ⟨by rw [zc H4.out.rowg,List.getElem?_toArray],by unfold World.frozen?;rw [H4.out.rowg];rfl⟩
   have HD4:Hid (∀ j:Nat,w4.cell? ⟨b,j,none⟩=(#[.int .i64 300,.int .i64 2,.slice (some ⟨g,0,none⟩) 2 2]:Array Value)[j]?/\w4.frozen? ⟨b,j,none⟩=false):=fun j => ⟨by rw [zc H4.out.rowb],by unfold World.frozen?;rw [H4.out.rowb];rfl⟩
   have y2:w4.cell? ⟨b,2,none⟩=some (.slice (some ⟨g,0,none⟩) 2 2):=by rw [(HD4.out 2).1];rfl
   go_upto_block 2 with fail
   clear y2
   go_cut [] from 24 to 91 (fun wc => ∃ (c n:Int) (s:Sess),No c n s/\StAt w b g c n [ses1,s] wc)
   case first =>
    rcases HCASE.out with rfl | rfl | rfl | rfl | rfl | rfl | rfl | rfl | rfl | rfl | rfl | rfl | rfl | rfl
    ·have x:=(HC4.out 19).2
     obtain ⟨u,hu⟩:∃ u,w4.cell? ⟨g,19,none⟩=some u:=⟨_,by rw [(HC4.out 19).1];rfl⟩
     go_wp2_with fail
     go_meet
     case rel => exact ⟨300,2,{ ses2 with scopes:=8 },⟨from_0,by decide,by decide,by decide⟩,H4.out.setg (ss':=[ses1,{ ses2 with scopes:=8 }]) 19 (.int .u64 8) (by rfl)⟩
    ·have x:=(HC4.out 22).2
     obtain ⟨u,hu⟩:∃ u,w4.cell? ⟨g,22,none⟩=some u:=⟨_,by rw [(HC4.out 22).1];rfl⟩
     go_wp2_with fail
     go_meet
     case rel => exact ⟨300,2,{ ses2 with dl:=302 },⟨from_1,by decide,by decide,by decide⟩,H4.out.setg (ss':=[ses1,{ ses2 with dl:=302 }]) 22 (.int .i64 302) (by rfl)⟩
    ·have x:=(HC4.out 23).2
     obtain ⟨u,hu⟩:∃ u,w4.cell? ⟨g,23,none⟩=some u:=⟨_,by rw [(HC4.out 23).1];rfl⟩
     go_wp2_with fail
     go_meet
     case rel => exact ⟨300,2,{ ses2 with depth:=2 },⟨from_2,by decide,by decide,by decide⟩,H4.out.setg (ss':=[ses1,{ ses2 with depth:=2 }]) 23 (.int .i64 2) (by rfl)⟩
    ·have x:=(HC4.out 20).2
     obtain ⟨u,hu⟩:∃ u,w4.cell? ⟨g,20,none⟩=some u:=⟨_,by rw [(HC4.out 20).1];rfl⟩
     go_wp2_with fail
     go_meet
     case rel => exact ⟨300,2,{ ses2 with level:=2 },⟨from_3,by decide,by decide,by decide⟩,H4.out.setg (ss':=[ses1,{ ses2 with level:=2 }]) 20 (.int .i64 2) (by rfl)⟩
    ·have x:=(HC4.out 15).2
     obtain ⟨u,hu⟩:∃ u,w4.cell? ⟨g,15,none⟩=some u:=⟨_,by rw [(HC4.out 15).1];rfl⟩
     go_wp2_with fail
     go_meet
     case rel => exact ⟨300,2,{ ses2 with ub:=2 },⟨from_4,by decide,by decide,by decide⟩,H4.out.setg (ss':=[ses1,{ ses2 with ub:=2 }]) 15 (.int .i64 2) (by rfl)⟩
    ·have x:=(HC4.out 14).2
     obtain ⟨u,hu⟩:∃ u,w4.cell? ⟨g,14,none⟩=some u:=⟨_,by rw [(HC4.out 14).1];rfl⟩
     go_wp2_with fail
     go_meet
     case rel => exact ⟨300,2,{ ses2 with us:=4 },⟨from_5,by decide,by decide,by decide⟩,H4.out.setg (ss':=[ses1,{ ses2 with us:=4 }]) 14 (.int .i64 4) (by rfl)⟩
    ·have x:=(HC4.out 17).2
     obtain ⟨u,hu⟩:∃ u,w4.cell? ⟨g,17,none⟩=some u:=⟨_,by rw [(HC4.out 17).1];rfl⟩
     go_wp2_with fail
     go_meet
     case rel => exact ⟨300,2,{ ses2 with user:=⟨#[98,111,98]⟩ },⟨from_6,by decide,by decide,by decide⟩,H4.out.setg (ss':=[ses1,{ ses2 with user:=⟨#[98,111,98]⟩ }]) 17 (.string ⟨#[98,111,98]⟩) (by rfl)⟩
    ·have x:=(HC4.out 16).2
     obtain ⟨u,hu⟩:∃ u,w4.cell? ⟨g,16,none⟩=some u:=⟨_,by rw [(HC4.out 16).1];rfl⟩
     go_wp2_with fail
     go_meet
     case rel => exact ⟨300,2,{ ses2 with kind:=2 },⟨from_7,by decide,by decide,by decide⟩,H4.out.setg (ss':=[ses1,{ ses2 with kind:=2 }]) 16 (.int .i64 2) (by rfl)⟩
    ·have x:=(HC4.out 21).2
     obtain ⟨u,hu⟩:∃ u,w4.cell? ⟨g,21,none⟩=some u:=⟨_,by rw [(HC4.out 21).1];rfl⟩
     go_wp2_with fail
     go_meet
     case rel => exact ⟨300,2,{ ses2 with born:=301 },⟨from_8,by decide,by decide,by decide⟩,H4.out.setg (ss':=[ses1,{ ses2 with born:=301 }]) 21 (.int .i64 301) (by rfl)⟩
    ·have x:=(HC4.out 13).2
     obtain ⟨u,hu⟩:∃ u,w4.cell? ⟨g,13,none⟩=some u:=⟨_,by rw [(HC4.out 13).1];rfl⟩
     go_wp2_with fail
     go_meet
     case rel => exact ⟨300,2,{ ses2 with birth:=3 },⟨from_9,by decide,by decide,by decide⟩,H4.out.setg (ss':=[ses1,{ ses2 with birth:=3 }]) 13 (.int .i64 3) (by rfl)⟩
    ·have x:=(HC4.out 12).2
     obtain ⟨u,hu⟩:∃ u,w4.cell? ⟨g,12,none⟩=some u:=⟨_,by rw [(HC4.out 12).1];rfl⟩
     go_wp2_with fail
     go_meet
     case rel => exact ⟨300,2,{ ses2 with slot:=3 },⟨from_10,by decide,by decide,by decide⟩,H4.out.setg (ss':=[ses1,{ ses2 with slot:=3 }]) 12 (.int .i64 3) (by rfl)⟩
    ·have x:=(HD4.out 1).2
     obtain ⟨u,hu⟩:∃ u,w4.cell? ⟨b,1,none⟩=some u:=⟨_,by rw [(HD4.out 1).1];rfl⟩
     go_wp2_with fail
     go_meet
     case rel => exact ⟨300,1,ses2,⟨from_11,by decide,by decide,by decide⟩,H4.out.setb (c':=300) (n':=1) 1 (.int .i64 1) (by rfl)⟩
    ·have x:=(HD4.out 0).2
     obtain ⟨u,hu⟩:∃ u,w4.cell? ⟨b,0,none⟩=some u:=⟨_,by rw [(HD4.out 0).1];rfl⟩
     go_wp2_with fail
     go_meet
     case rel => exact ⟨301,2,ses2,⟨from_12,by decide,by decide,by decide⟩,H4.out.setb (c':=301) (n':=2) 0 (.int .i64 301) (by rfl)⟩
    ·have x:=(HC4.out 13).2
     obtain ⟨u,hu⟩:∃ u,w4.cell? ⟨g,13,none⟩=some u:=⟨_,by rw [(HC4.out 13).1];rfl⟩
     go_wp2_with fail
     go_meet
     case rel => exact ⟨300,2,{ ses2 with birth:=1 },⟨from_13,by decide,by decide,by decide⟩,H4.out.setg (ss':=[ses1,{ ses2 with birth:=1 }]) 13 (.int .i64 1) (by rfl)⟩
   case rest =>
    obtain ⟨c,n,s,hno,h5⟩:=hcut
    obtain ⟨w5,rfl⟩:∃ x:World,x=wc:=⟨_,rfl⟩
    have H5:=zh h5
    have HFR:=zh (ffrom c n _ [ses1,s] (fun x hx => by simp only [List.mem_cons,List.not_mem_nil,or_false] at hx;exact hx.elim (fun e => by subst e;exact ⟨by decide,by decide,by decide⟩) (fun e => by subst e;exact hno.2)) (by show ((2:Nat):Int)<=9223372036854775807;decide) w5 (ses_in h5.rowg (by show 2<=65536;decide)))
    have HN:=zh hno.1
    clear hno h5 HC4 HD4 HCASE
    go_wp2_with (refine wpList_load_row (by rfl) 24 (.tmp 4) (by rfl) b (by rfl) _ _ _ _ H5.out.rowb Tryz.underlying24 rfl (by kernel_rfl) ?_)
    refine HFR.out.mono ?_
    rintro e w6 (⟨-,rfl,hb6⟩ | ⟨lo,P',st',nw',F',h1,-⟩)
    ·have HB6:=zh (H5.out.bel.trans (hb6.mono H5.out.bel.size))
     have HPL:=zh (plain_errno 24 24 (by decide) (by decide) w6 (HG.out w6 HB6.out))
     clear hb6
     go_wp2_with fail
     refine HPL.out.mono ?_
     rintro e w7 ⟨rfl,hb7⟩
     have HB7:=zh (HB6.out.trans (hb7.mono HB6.out.size))
     have b0:(0:Int)<=(k:Int):=by omega
     have b1:(k:Int)<14:=by have:=HLT.out;omega
     have w1':IntKind.i64.wrap ((k:Int)+1)=((k+1:Nat):Int):=by rw [IntWalk.i64_in _ (by omega)];rfl
     clear hb7
     rw [HKI.out]
     go_wp2
     go_roundw
     case rel => exact ⟨k+1,by have:=HLT.out;omega,by go_num,HB7.out⟩
     case measure => have:=HLT.out;simp [intOf];omega
    ·rw [HN.out] at h1;cases h1
  ·have b1:(14:Int)<=(k:Int):=by omega
   clear hlt
   go_wp2
   go_ret
   exact ⟨rfl,HB.out⟩
end Fk
end Fr
end
section
namespace Vt
def pre (kids:Nat->List Nat):Nat->Nat->List Nat->List (Nat × Nat)
 | 0,_,_ => []
 | f+1,far,l => l.flatMap fun i => (far,i) :: pre kids f (far+1) (kids i)
end Vt
end
section
namespace Vt
def lastTo (l:List (Int × Int)) (up:Int):Nat->Option Nat
 | 0 => none
 | k+1 => if (l[k]?).map (·.1)=some up then some k else lastTo l up k
theorem lastTo_lt (l:List (Int × Int)) (up:Int):∀ (n k:Nat),lastTo l up n=some k->k<n
 | 0,k,h => by cases h
 | n+1,k,h => by
  unfold lastTo at h
  split at h
  ·cases h;omega
  ·have:=lastTo_lt l up n k h;omega
def par (l:List (Int × Int)) (n:Nat):Option Nat:=match l[n]? with
 | none => none
 | some x => if x.2=0 then none else lastTo l x.2 n
theorem par_lt {l:List (Int × Int)} {n p:Nat} (h:par l n=some p):p<n:=by
 unfold par at h
 split at h
 ·cases h
 ·split at h
  ·cases h
  ·exact lastTo_lt _ _ _ _ h
def roots (l:List (Int × Int)):Nat->List Nat
 | 0 => []
 | n+1 => match par l n with
  | none => roots l n ++ [n]
  | some _ => roots l n
def depth (l:List (Int × Int)):Nat->Nat->Nat
 | 0,_ => 0
 | f+1,n => match par l n with
  | none => 0
  | some p => depth l f p+1
end Vt
end
section
namespace Vt
def blk (p:Nat):List (Nat × Nat)->List (Nat × Nat)
 | [] => []
 | x :: r => if x.2=p then (0,p) :: (r.takeWhile (fun y => decide (x.1<y.1))).map (fun y => (y.1-x.1,y.2)) else blk p r
end Vt
end
section
open Go.RowKit
namespace Vw
def SessArg (w:World) (v:Value) (ss:List Sess):Prop :=
 ∃ p cap,v = .slice p ss.length cap/\∀ j (hj:j<ss.length),∃ g o,p=some ⟨g,o,none⟩/\g<w.heap.size/\∀ (i:Nat) (u:Value),ss[j].cells[i]? = some u->w.cell? ⟨g,o+j * 12+i,none⟩=some u
end Vw
end
section
open Go.RowKit
namespace Vw
theorem equal_sess (x:Sess) (W:World):(Op.equalIn 10000 30 (.agg x.cells.toArray) (.agg x.cells.toArray)).run Tryz.prog W = .ok true W:=by
 obtain ⟨a1,a2,a3,a4,a5,a6,a7,a8,a9,a10,a11,a12⟩:=x
 unfold Sess.cells
 go_simp
theorem neq_sess (x:Sess) (W:World):(binOp .neq 30 (.agg x.cells.toArray) (.agg x.cells.toArray)).run Tryz.prog W = .ok (.bool false) W:=by
 rw [run_neq_struct,equal_sess];rfl
section
variable {ops:Array Oper} {C:World->Prop} {Q:Act->Prop} {a:Act} {o:Oper} {rest:List Oper}
theorem wpQuiet_value {P:Program} (v:Value) (hw:Region.wanted o (yielded ops a.tmps)=true) (hv:∀ w,C w->(execOp a.eval o).run P w = .ok (.value v) w) (h:wpQuiet P ops C Q rest (a.put o.dst v)):wpQuiet P ops C Q (o :: rest) a :=
 wpQuiet_step fun K hK => by
  rw [if_pos hw]
  exact ⟨v,fun w hC => by unfold Oper.quietAt;rw [hv w hC];exact ⟨rfl,rfl⟩,hK _ h⟩
theorem wpQuiet_load_mid {P:Program} (hw:Region.wanted o (yielded ops a.tmps)=true) (ty:TypeId) (x:Operand) (ho:o.op = .load ty x)
  (b k:Nat) (hx:a.eval x = .pointer (some ⟨b,k,none⟩)) (cs:List Value) (d:TypeDesc) (hS:∀ w,C w->w.rangeAt b k cs)
  (hu:P.underlying ty=some d) (hd:d.isRow=true) (hi:(P.info? ty).map (·.size)=some cs.length) (h:wpQuiet P ops C Q rest (a.put o.dst (.agg cs.toArray))):wpQuiet P ops C Q (o :: rest) a :=
 wpQuiet_value (.agg cs.toArray) hw (fun w hw' => by
  unfold execOp
  simp only [ho,hx,Instr.loadAt,Instr.sureAddr,Sem.run_bind,Sem.run_pure,Result.andThen_ok,run_loadVar_mid w b k ty cs d (hS w hw') hu hd hi]) h
theorem exec_neq_sess (s:Sess) (tt:TypeId) (x y:Operand) (ho:o.op = .binOp .neq 30 x y tt) (hx:a.eval x = .agg s.cells.toArray) (hy:a.eval y = .agg s.cells.toArray) (w:World) :
  (execOp a.eval o).run Tryz.prog w = .ok (.value (.bool false)) w:=by
 have e1:=run_eqGuard_agg (P:=Tryz.prog) w .neq 30 x y s.cells.toArray s.cells.toArray (by kernel_rfl)
 unfold execOp
 simp only [ho,hx,hy,Sem.run_bind,e1,Result.andThen_ok,neq_sess,Sem.run_pure]
end
theorem SessArg.at {w:World} {q:Option Addr} {n c:Nat} {ss:List Sess} (h:SessArg w (.slice q n c) ss) {k:Nat} (hk:k<ss.length) :
  ∃ g o,q=some ⟨g,o,none⟩/\g<w.heap.size/\w.rangeAt g (o+k * 12) ss[k].cells:=by
 obtain ⟨p,cap,e,h⟩:=h
 cases e
 obtain ⟨g,o,rfl,hg,hc⟩:=h k hk
 exact ⟨g,o,rfl,hg,fun j v hv => hc j v hv⟩
def SameRel (n:Nat) (w:World) (i:Value) (wr:World):Prop :=
 ∃ k:Nat,k<=n/\i = .int .i64 k/\Below w.heap.size w wr
theorem sameS_any (v u:Value) (ss:List Sess) (hl:(ss.length:Int)<=9223372036854775807) (w:World) (h1:SessArg w v ss) (h2:SessArg w u ss) :
  Calls Tryz.prog 22 #[v,u] w fun e w' => e = .returned (.bool true)/\Below w.heap.size w w':=by
 obtain ⟨p,cp,rfl,-⟩:=id h1
 obtain ⟨q,cq,rfl,-⟩:=id h2
 have H1:=zh h1;have H2:=zh h2
 clear h1 h2
 have e1:((ss.length:Int) != (ss.length:Int))=false:=by simp
 go_enter Tryz.func22,Tryz.ntmps22
 go_wp2
 go_loopw [5] (fun i wr => SameRel ss.length w i wr) (fun i _ => ss.length-(intOf i).toNat)
 case atStart => exact ⟨0,Nat.zero_le _,rfl,Below.refl _ _⟩
 case round =>
  obtain ⟨k,hk,rfl,hbr⟩:=hrel
  by_cases h:k<ss.length
  ·obtain ⟨g1,o1,rfl,hg1,k1⟩:=H1.out.at h
   obtain ⟨g2,o2,rfl,hg2,k2⟩:=H2.out.at h
   have k1':wr.rangeAt g1 (o1+k * 12) ss[k].cells:=fun j x hx => (hbr.cell (p:=⟨g1,o1+k * 12+j,none⟩) hg1).trans (k1 j x hx)
   have k2':wr.rangeAt g2 (o2+k * 12) ss[k].cells:=fun j x hx => (hbr.cell (p:=⟨g2,o2+k * 12+j,none⟩) hg2).trans (k2 j x hx)
   have b1:(0:Int)<=(k:Int):=by omega
   have b2:(k:Int)<(ss.length:Int):=by omega
   obtain ⟨sk,hsk⟩:∃ sk,sk=ss[k]:=⟨_,rfl⟩
   have r1:∀ w',(∃ n,w'=wr.drewN n)->w'.rangeAt g1 (o1+k * 12) sk.cells:=by rintro w' ⟨n,rfl⟩ j x hx;rw [World.cell?_drewN];rw [hsk] at hx;exact k1' j x hx
   have r2:∀ w',(∃ n,w'=wr.drewN n)->w'.rangeAt g2 (o2+k * 12) sk.cells:=by rintro w' ⟨n,rfl⟩ j x hx;rw [World.cell?_drewN];rw [hsk] at hx;exact k2' j x hx
   clear k1 k2 k1' k2' hsk
   have R1:=zh r1;have R2:=zh r2
   clear r1 r2
   go_wp2
   refine wp_region_quiet_lit (by kernel_rfl) (by kernel_rfl) ?_
   quiet_step (fail)
   quiet_step (fail)
   quiet_step (fail)
   refine wpQuiet_load_mid (by rfl) 30 (.tmp 19) rfl g1 (o1+k * 12) rfl sk.cells _ R1.out Tryz.underlying30 rfl (by kernel_rfl) ?_
   quiet_step (fail)
   quiet_step (fail)
   quiet_step (fail)
   refine wpQuiet_load_mid (by rfl) 30 (.tmp 23) rfl g2 (o2+k * 12) rfl sk.cells _ R2.out Tryz.underlying30 rfl (by kernel_rfl) ?_
   refine wpQuiet_value (.bool false) (by rfl) (fun w' _ => exec_neq_sess sk _ (.tmp 20) (.tmp 24) rfl rfl rfl w') ?_
   refine wpQuiet_nil ?_
   rintro _ ⟨nq,rfl⟩
   go_wp2
   go_roundw
   case rel => exact ⟨k+1,by omega,by go_num,Ut.below_drewN hbr _⟩
   case measure => simp [intOf];omega
  ·have b2:(ss.length:Int)<=(k:Int):=by omega
   go_wp2
   go_ret
   exact ⟨rfl,hbr⟩
end Vw
end
end Go.Proofs.YtimhglmfckfclaaGreatDoor
