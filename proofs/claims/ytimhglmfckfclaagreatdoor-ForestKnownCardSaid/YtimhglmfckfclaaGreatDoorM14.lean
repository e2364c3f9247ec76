/- Parts of the proof. -/
import Derived.Test.YtimhglmfckfclaaGreatDoorM12
set_option linter.unusedVariables false
set_option linter.unusedSimpArgs false
set_option maxRecDepth 100000
set_option maxHeartbeats 16000000
namespace Go.Proofs.YtimhglmfckfclaaGreatDoor
section
open Go.RowKit
namespace Fr
open Vw (Sess)
section
variable {a:Nat} {S:List Slt} {nx:List Int} {fi:Int} {wr:Nat}
theorem well_ok {w:World} (h:ArW a S nx fi wr w) (i:Int) (hw:well S i=true) :
  Calls Tryz.prog 249 #[.pointer (some ⟨a,0,none⟩),.int .i64 i] w fun e w' => e = .returned (.bool true)/\Below w.heap.size w w':=by
 obtain ⟨w1,w2,w3,w4,w5⟩:=well_iff.1 hw
 have HOF:=zh (fun (W:World) (j:Int) (hj:thr j=true) (hb:Below w.heap.size w W) => of_ok (h.below hb) j hj)
 obtain ⟨p,hp⟩:∃ p,p=(sl S i).prev:=⟨_,rfl⟩
 obtain ⟨n,hn⟩:∃ n,n=(sl S i).next:=⟨_,rfl⟩
 rw [<- hp] at w2 w4
 rw [<- hn] at w3 w5
 have HP:=zh hp;have HN:=zh hn
 have T1:=zh w1;have T2:=zh w2;have T3:=zh w3
 have HTP:=zh (fun w => rthere_yes p w2 w)
 have HTN:=zh (fun w => rthere_yes n w3 w)
 have H4:=zh w4;have H5:=zh w5
 clear hp hn w1 w2 w3 w4 w5 h hw
 have kf0:=lk_prev;have kf1:=lk_next
 go_enter Tryz.func249,Tryz.ntmps249
 go_wp2_with fail
 refine (HOF.out w i T1.out (Below.refl _ _)).mono ?_
 rintro e v1 ⟨rfl,hb1⟩
 rw [<- HP.out,<- HN.out]
 have HB1:Hid (Below w.heap.size w (v1.alloc (.cells #[.int .i64 p,.int .i64 n] 299))):=hb1.alloc hb1.size _
 obtain ⟨W,hW⟩:∃ W,W=v1.alloc (.cells #[.int .i64 p,.int .i64 n] 299):=⟨_,rfl⟩
 obtain ⟨N,hN⟩:∃ N,N=v1.heap.size:=⟨_,rfl⟩
 have r1:W.heap[N]? = some (.cells #[.int .i64 p,.int .i64 n] 299 (0,0)):=by rw [hW,hN];exact Ut.alloc_at _ _
 have R1:=zh r1
 rw [<- hW] at HB1
 have HW:=zh hW
 have HNN:=zh hN
 clear hb1 r1 hW hN
 go_upto_region 2 with (fail)
 rw [<- HW.out,<- HNN.out]
 have c0:W.cell? ⟨N,0,none⟩=some (.int .i64 p):=zl R1.out rfl
 have c1:W.cell? ⟨N,1,none⟩=some (.int .i64 n):=zl R1.out rfl
 go_wp2_with (first
  | (go_at_call 190;(with_reducible refine (HTP.out _).mono ?_);rintro e w' ⟨rfl,rfl⟩)
  | (go_at_call 190;(with_reducible refine (HTN.out _).mono ?_);rintro e w' ⟨rfl,rfl⟩))
 refine (HOF.out W p T2.out HB1.out).mono ?_
 rintro e v2 ⟨rfl,hb2⟩
 rw [H4.out]
 have HB2:Hid (Below w.heap.size w v2):=HB1.out.trans (hb2.mono HB1.out.size)
 have r2:=(hb2.block _ (zx R1.out)).trans R1.out
 have c2:v2.cell? ⟨N,1,none⟩=some (.int .i64 n):=zl r2 rfl
 clear hb2 c0 c1 r2
 go_wp2_with fail
 refine (HOF.out v2 n T3.out HB2.out).mono ?_
 rintro e v3 ⟨rfl,hb3⟩
 rw [H5.out]
 have HB3:Hid (Below w.heap.size w v3):=HB2.out.trans (hb3.mono HB2.out.size)
 clear hb3 c2
 go_wp2
 go_ret
 exact ⟨rfl,HB3.out⟩
theorem canPush_iff {S:List Slt} {last i:Int}:canPush S last i=true↔thr i=true/\(last = -1\/(well S last=true/\i≠last/\i≠(sl S last).next)):=by
 unfold canPush;simp
theorem push_ok {w:World} (h:ArW a S nx fi wr w) (hw:wr+3<=4611686018427387904) (last i:Int) (hc:canPush S last i=true) :
  Calls Tryz.prog 183 #[.pointer (some ⟨a,0,none⟩),.int .i64 last,.int .i64 i] w fun e w' => e = .returned (.tuple #[.int .i64 i,.nilIface])/\(∃ wr',wr<=wr'/\wr'<=wr+3/\ArW a (pushS S last i) nx fi wr' w')/\Only (fun b => b=a) w w':=by
 obtain ⟨hi,hl⟩:=canPush_iff.1 hc
 have HTI:=zh (fun w => rthere_yes i hi w)
 have HA:=zh h;have HI:=zh hi;have HWR:=zh hw
 have HLS:=zh h.ls
 by_cases h1:last = -1
 ·subst h1
  have HS:=zh (set_ok h (by omega) i i i hi)
  have HE:=zh (push_none S HLS.out i hi)
  clear h hi hw hc hl
  go_enter Tryz.func183,Tryz.ntmps183
  go_wp2_with (first
   | (go_at_call 190;(with_reducible refine (HTI.out _).mono ?_);rintro e w' ⟨rfl,rfl⟩))
  refine HS.out.mono ?_
  rintro e w1 ⟨rfl,⟨wr1,g1,g2,hA1⟩,hO1⟩
  rw [HE.out] at hA1
  have HR:Hid ((∃ wr',wr<=wr'/\wr'<=wr+3/\ArW a (pushS S (-1) i) nx fi wr' w1)/\Only (fun b => b=a) w w1):=⟨⟨wr1,g1,by omega,hA1⟩,hO1⟩
  clear g1 g2 hA1 hO1
  go_wp2
  go_ret2
  exact ⟨rfl,HR.out⟩
 ·obtain ⟨hwl,hil,hif⟩:well S last=true/\i≠last/\i≠(sl S last).next:=by
   rcases hl with e | e
   ·exact absurd e h1
   ·exact e
  obtain ⟨q1,q2,q3,q4,q5⟩:=well_iff.1 hwl
  obtain ⟨l0,l1⟩:=thr_iff.1 q1
  have HTL:=zh (fun w => rthere_yes last q1 w)
  have HWL:=zh (fun (W:World) (hb:Below w.heap.size w W) => well_ok (h.below hb) last hwl)
  have HOF:=zh (fun (W:World) (hb:Below w.heap.size w W) => of_ok (h.below hb) last q1)
  obtain ⟨f,hf⟩:∃ f,f=(sl S last).next:=⟨_,rfl⟩
  rw [<- hf] at hif q3
  have HF:=zh hf
  have HWW:=zh hwl;have HQ1:=zh q1;have HQ3:=zh q3
  have n1:(last == -1)=false:=by rw [beq_eq_false_iff_ne];omega
  have n1':(last != -1)=true:=by rw [bne_iff_ne];omega
  have n2:(i == last)=false:=by rw [beq_eq_false_iff_ne];exact hil
  have n3:(i == f)=false:=by rw [beq_eq_false_iff_ne];exact hif
  have HIL:=zh hil;have HIF:=zh hif
  have HS1:=zh (fun (W:World) (hb:Below w.heap.size w W) => set_ok (h.below hb) (by omega) i last f hi)
  by_cases hfl:f=last
  ·have HE:=zh (push_one S h.ls last i hwl hi hil (hf.symm.trans hfl))
   have n4:(f == last)=true:=by rw [beq_iff_eq];exact hfl
   have HFL:=zh hfl
   clear h hi hw hc hl hwl hil hif q1 q2 q3 q4 q5 hf h1 hfl
   have kf0:=lk_prev;have kf1:=lk_next
   go_enter Tryz.func183,Tryz.ntmps183
   go_wp2_with (first
    | (go_at_call 190;(with_reducible refine (HTI.out _).mono ?_);rintro e w' ⟨rfl,rfl⟩)
    | (go_at_call 190;(with_reducible refine (HTL.out _).mono ?_);rintro e w' ⟨rfl,rfl⟩))
   refine (HWL.out w (Below.refl _ _)).mono ?_
   rintro e v1 ⟨rfl,hb1⟩
   have B1:=zh hb1
   clear hb1
   go_wp2_with fail
   refine (HOF.out v1 B1.out).mono ?_
   rintro e v2 ⟨rfl,hb2⟩
   rw [<- HF.out]
   have B2:Hid (Below w.heap.size w v2):=B1.out.trans (hb2.mono B1.out.size)
   clear hb2
   go_wp2_with fail
   refine (HS1.out v2 B2.out).mono ?_
   rintro e v3 ⟨rfl,⟨wr1,g1,g2,hA1⟩,hO1⟩
   have HS2:=zh (set_ok hA1 (by have:=HWR.out;omega) last i i HQ1.out)
   have B3:Hid (Only (fun b => b=a) w v3):=(Only.of_below B2.out).trans hO1 (fun _ _ h => h)
   have G1:=zh g1;have G2:=zh g2
   clear g1 g2 hA1 hO1
   go_wp2_with fail
   refine HS2.out.mono ?_
   rintro e v4 ⟨rfl,⟨wr2,g3,g4,hA2⟩,hO2⟩
   have eS:setS (setS S i last f) last i i=pushS S last i:=by rw [HFL.out];exact HE.out
   rw [eS] at hA2
   have HR:Hid ((∃ wr',wr<=wr'/\wr'<=wr+3/\ArW a (pushS S last i) nx fi wr' v4)/\Only (fun b => b=a) w v4):=⟨⟨wr2,by have:=G1.out;omega,by have:=G2.out;omega,hA2⟩,B3.out.trans hO2 (fun _ _ h => h)⟩
   clear g3 g4 hA2 hO2 eS
   go_wp2
   go_ret2
   exact ⟨rfl,HR.out⟩
  ·have HE:=zh (push_more S h.ls last i f hwl hi hil hif hf.symm hfl)
   have n4:(f == last)=false:=by rw [beq_eq_false_iff_ne];exact hfl
   clear h hi hw hc hl hwl hil hif q1 q2 q3 q4 q5 hf h1 hfl
   have kf0:=lk_prev;have kf1:=lk_next
   go_enter Tryz.func183,Tryz.ntmps183
   go_wp2_with (first
    | (go_at_call 190;(with_reducible refine (HTI.out _).mono ?_);rintro e w' ⟨rfl,rfl⟩)
    | (go_at_call 190;(with_reducible refine (HTL.out _).mono ?_);rintro e w' ⟨rfl,rfl⟩))
   refine (HWL.out w (Below.refl _ _)).mono ?_
   rintro e v1 ⟨rfl,hb1⟩
   have B1:=zh hb1
   clear hb1
   go_wp2_with fail
   refine (HOF.out v1 B1.out).mono ?_
   rintro e v2 ⟨rfl,hb2⟩
   rw [<- HF.out]
   have B2:Hid (Below w.heap.size w v2):=B1.out.trans (hb2.mono B1.out.size)
   clear hb2
   go_wp2_with fail
   refine (HS1.out v2 B2.out).mono ?_
   rintro e v3 ⟨rfl,⟨wr1,g1,g2,hA1⟩,hO1⟩
   have HA1:=zh hA1
   have HO2:=zh (of_ok hA1 last HQ1.out)
   have B3:Hid (Only (fun b => b=a) w v3):=(Only.of_below B2.out).trans hO1 (fun _ _ h => h)
   have G1:=zh g1;have G2:=zh g2
   clear g1 g2 hA1 hO1
   go_wp2_with fail
   refine HO2.out.mono ?_
   rintro e v4 ⟨rfl,hb4⟩
   obtain ⟨p2,hp2⟩:∃ p2,p2=(sl (setS S i last f) last).prev:=⟨_,rfl⟩
   rw [<- hp2]
   have HP2:=zh hp2
   have HS2:=zh (set_ok (HA1.out.below hb4) (by have:=HWR.out;have:=G2.out;omega) last p2 i HQ1.out)
   have B4:Hid (Only (fun b => b=a) w v4):=B3.out.trans (Only.of_below hb4) (fun _ _ h => h)
   clear hp2 hb4
   go_wp2_with fail
   refine HS2.out.mono ?_
   rintro e v5 ⟨rfl,⟨wr2,g3,g4,hA2⟩,hO2⟩
   have HA2:=zh hA2
   have HO3:=zh (of_ok hA2 f HQ3.out)
   have B5:Hid (Only (fun b => b=a) w v5):=B4.out.trans hO2 (fun _ _ h => h)
   have G3:=zh g3;have G4:=zh g4
   clear g3 g4 hA2 hO2
   go_wp2_with fail
   refine HO3.out.mono ?_
   rintro e v6 ⟨rfl,hb6⟩
   obtain ⟨n2',hn2⟩:∃ n2',n2'=(sl (setS (setS S i last f) last p2 i) f).next:=⟨_,rfl⟩
   rw [<- hn2]
   have HN2:=zh hn2
   have HS3:=zh (set_ok (HA2.out.below hb6) (by have:=HWR.out;have:=G2.out;have:=G4.out;omega) f i n2' HQ3.out)
   have B6:Hid (Only (fun b => b=a) w v6):=B5.out.trans (Only.of_below hb6) (fun _ _ h => h)
   clear hn2 hb6
   go_wp2_with fail
   refine HS3.out.mono ?_
   rintro e v7 ⟨rfl,⟨wr3,g5,g6,hA3⟩,hO3⟩
   have eS:setS (setS (setS S i last f) last p2 i) f i n2'=pushS S last i:=by rw [HN2.out,HP2.out];exact HE.out
   rw [eS] at hA3
   have HR:Hid ((∃ wr',wr<=wr'/\wr'<=wr+3/\ArW a (pushS S last i) nx fi wr' v7)/\Only (fun b => b=a) w v7):=⟨⟨wr3,by have:=G1.out;have:=G3.out;omega,by have:=G2.out;have:=G4.out;omega,hA3⟩,B6.out.trans hO3 (fun _ _ h => h)⟩
   clear g5 g6 hA3 hO3 eS
   go_wp2
   go_ret2
   exact ⟨rfl,HR.out⟩
end
end Fr
end
section
open Go.RowKit
namespace Fr
open Vw (Sess)
theorem Only.cellA {a N o:Nat} {w w':World} {v:Value} (h:Only (fun b => b=a) w w') (hc:w.cell? ⟨N,o,none⟩=some v) (hN:N<w.heap.size) (hne:N≠a):w'.cell? ⟨N,o,none⟩=some v:=(h.cell (p:=⟨N,o,none⟩) hN hne).trans hc
section
variable {a:Nat} {S:List Slt} {nx:List Int} {fi:Int} {wr:Nat}
def DropPost (a:Nat) (S:List Slt) (nx:List Int) (fi:Int) (wr:Nat) (last i:Int) (w:World) (e:Ending) (w':World):Prop :=
 e = .returned (.tuple #[.int .i64 (dropL S last i),.nilIface])/\(∃ wr',wr<=wr'/\wr'<=wr+3/\ArW a (dropS S i) nx fi wr' w')/\Only (fun b => b=a) w w'
theorem drop_Ay {w:World} (h:ArW a S nx fi wr w) (hw:wr+3<=4611686018427387904) (last i:Int) (hl:thr last=true) (hwl:well S i=true) (hpi:(sl S i).prev=i) (hil:i=last) :
  Calls Tryz.prog 226 #[.pointer (some ⟨a,0,none⟩),.int .i64 last,.int .i64 i] w (DropPost a S nx fi wr last i w):=by
 obtain ⟨q1,q2,q3,q4,q5⟩:=well_iff.1 hwl
 have HTI:=zh (fun w => rthere_yes i q1 w)
 have HTL:=zh (fun w => rthere_yes last hl w)
 have HWR:=zh hw;have HLS:=zh h.ls;have HALT:=zh h.lt
 have HA:=zh h
 have HWL:=zh (fun (W:World) (hb:Below w.heap.size w W) => well_ok (h.below hb) i hwl)
 have HOF:=zh (fun (W:World) (hb:Below w.heap.size w W) => of_ok (h.below hb) i q1)
 obtain ⟨p,hp⟩:∃ p,p=(sl S i).prev:=⟨_,rfl⟩
 obtain ⟨n,hn⟩:∃ n,n=(sl S i).next:=⟨_,rfl⟩
 rw [<- hp] at q2 q4 hpi
 rw [<- hn] at q3 q5
 have HQ1:=zh q1;have HQ2:=zh q2;have HQ3:=zh q3
 have HP:=zh hp;have HN:=zh hn
 have n9:(i != last)=false:=by rw [hil];simp
 have HD:Hid (dropL S last i = -1):=by show _=_;unfold dropL;rw [if_neg (by simp [hil]),<- hp,if_pos hpi]
 have HK:Hid (∀ W:World,(∃ wr',wr<=wr'/\wr'<=wr+3/\ArW a (dropS S i) nx fi wr' W)/\Only (fun b => b=a) w W->DropPost a S nx fi wr last i w (.returned (.tuple #[.int .i64 (dropL S last i),.nilIface])) W):=fun W h => ⟨rfl,h.1,h.2⟩
 rw [HD.out] at HK
 have n1:(p == i)=true:=by rw [beq_iff_eq];exact hpi
 have HE:=zh (drop_self S HLS.out i hwl (hp.symm.trans hpi))
 have kf0:=lk_prev;have kf1:=lk_next
 clear h hw hl hwl q1 q2 q3 q4 q5 hp hn hpi hil
 go_enter Tryz.func226,Tryz.ntmps226
 go_wp2_with (first
  | (go_at_call 190;(with_reducible refine (HTI.out _).mono ?_);rintro e w' ⟨rfl,rfl⟩)
  | (go_at_call 190;(with_reducible refine (HTL.out _).mono ?_);rintro e w' ⟨rfl,rfl⟩))
 refine (HWL.out w (Below.refl _ _)).mono ?_
 rintro e v1 ⟨rfl,hb1⟩
 have B1:=zh hb1
 clear hb1
 go_wp2_with fail
 refine (HOF.out v1 B1.out).mono ?_
 rintro e v2 ⟨rfl,hb2⟩
 rw [<- HP.out,<- HN.out]
 have B2:Hid (Below w.heap.size w (v2.alloc (.cells #[.int .i64 p,.int .i64 n] 299))):=(B1.out.trans (hb2.mono B1.out.size)).alloc (Nat.le_trans B1.out.size hb2.size) _
 obtain ⟨W,hW⟩:∃ W,W=v2.alloc (.cells #[.int .i64 p,.int .i64 n] 299):=⟨_,rfl⟩
 obtain ⟨N,hN⟩:∃ N,N=v2.heap.size:=⟨_,rfl⟩
 have r1:W.heap[N]? = some (.cells #[.int .i64 p,.int .i64 n] 299 (0,0)):=by rw [hW,hN];exact Ut.alloc_at _ _
 have HNA:Hid (N≠a/\N<W.heap.size):=⟨by have h1:=HALT.out;have h2:=B1.out.size;have h3:=hb2.size;omega,(zx r1)⟩
 have R1:=zh r1
 rw [<- hW] at B2
 have HW:=zh hW
 have HNN:=zh hN
 clear hb2 r1 hW hN
 go_upto_region 8 with (fail)
 rw [<- HW.out,<- HNN.out]
 have c0:W.cell? ⟨N,0,none⟩=some (.int .i64 p):=zl R1.out rfl
 have c1:W.cell? ⟨N,1,none⟩=some (.int .i64 n):=zl R1.out rfl
 have HAW:=zh (HA.out.below B2.out)
 have OW:Hid (Only (fun b => b=a) w W):=Only.of_below B2.out
 have HS:=zh (set_ok HAW.out (by have:=HWR.out;omega) i (-1) (-1) HQ1.out)
 go_wp2_with fail
 refine HS.out.mono ?_
 rintro e v5 ⟨rfl,⟨wr5,g1,g2,hA5⟩,hO5⟩
 rw [HE.out] at hA5
 have d0:=Only.cellA hO5 c0 HNA.out.2 HNA.out.1
 have HR:Hid ((∃ wr',wr<=wr'/\wr'<=wr+3/\ArW a (dropS S i) nx fi wr' v5)/\Only (fun b => b=a) w v5):=⟨⟨wr5,by omega,by omega,hA5⟩,OW.out.trans hO5 (fun _ _ h => h)⟩
 clear g1 g2 hA5 hO5 c0 c1
 go_wp2
 go_ret2
 exact HK.out _ HR.out
theorem drop_An {w:World} (h:ArW a S nx fi wr w) (hw:wr+3<=4611686018427387904) (last i:Int) (hl:thr last=true) (hwl:well S i=true) (hpi:(sl S i).prev=i) (hil:i≠last) :
  Calls Tryz.prog 226 #[.pointer (some ⟨a,0,none⟩),.int .i64 last,.int .i64 i] w (DropPost a S nx fi wr last i w):=by
 obtain ⟨q1,q2,q3,q4,q5⟩:=well_iff.1 hwl
 have HTI:=zh (fun w => rthere_yes i q1 w)
 have HTL:=zh (fun w => rthere_yes last hl w)
 have HWR:=zh hw;have HLS:=zh h.ls;have HALT:=zh h.lt
 have HA:=zh h
 have HWL:=zh (fun (W:World) (hb:Below w.heap.size w W) => well_ok (h.below hb) i hwl)
 have HOF:=zh (fun (W:World) (hb:Below w.heap.size w W) => of_ok (h.below hb) i q1)
 obtain ⟨p,hp⟩:∃ p,p=(sl S i).prev:=⟨_,rfl⟩
 obtain ⟨n,hn⟩:∃ n,n=(sl S i).next:=⟨_,rfl⟩
 rw [<- hp] at q2 q4 hpi
 rw [<- hn] at q3 q5
 have HQ1:=zh q1;have HQ2:=zh q2;have HQ3:=zh q3
 have HP:=zh hp;have HN:=zh hn
 have n9:(i != last)=true:=by rw [bne_iff_ne];exact hil
 have HD:Hid (dropL S last i=last):=by show _=_;unfold dropL;rw [if_pos hil]
 have HK:Hid (∀ W:World,(∃ wr',wr<=wr'/\wr'<=wr+3/\ArW a (dropS S i) nx fi wr' W)/\Only (fun b => b=a) w W->DropPost a S nx fi wr last i w (.returned (.tuple #[.int .i64 (dropL S last i),.nilIface])) W):=fun W h => ⟨rfl,h.1,h.2⟩
 rw [HD.out] at HK
 have n1:(p == i)=true:=by rw [beq_iff_eq];exact hpi
 have HE:=zh (drop_self S HLS.out i hwl (hp.symm.trans hpi))
 have kf0:=lk_prev;have kf1:=lk_next
 clear h hw hl hwl q1 q2 q3 q4 q5 hp hn hpi hil
 go_enter Tryz.func226,Tryz.ntmps226
 go_wp2_with (first
  | (go_at_call 190;(with_reducible refine (HTI.out _).mono ?_);rintro e w' ⟨rfl,rfl⟩)
  | (go_at_call 190;(with_reducible refine (HTL.out _).mono ?_);rintro e w' ⟨rfl,rfl⟩))
 refine (HWL.out w (Below.refl _ _)).mono ?_
 rintro e v1 ⟨rfl,hb1⟩
 have B1:=zh hb1
 clear hb1
 go_wp2_with fail
 refine (HOF.out v1 B1.out).mono ?_
 rintro e v2 ⟨rfl,hb2⟩
 rw [<- HP.out,<- HN.out]
 have B2:Hid (Below w.heap.size w (v2.alloc (.cells #[.int .i64 p,.int .i64 n] 299))):=(B1.out.trans (hb2.mono B1.out.size)).alloc (Nat.le_trans B1.out.size hb2.size) _
 obtain ⟨W,hW⟩:∃ W,W=v2.alloc (.cells #[.int .i64 p,.int .i64 n] 299):=⟨_,rfl⟩
 obtain ⟨N,hN⟩:∃ N,N=v2.heap.size:=⟨_,rfl⟩
 have r1:W.heap[N]? = some (.cells #[.int .i64 p,.int .i64 n] 299 (0,0)):=by rw [hW,hN];exact Ut.alloc_at _ _
 have HNA:Hid (N≠a/\N<W.heap.size):=⟨by have h1:=HALT.out;have h2:=B1.out.size;have h3:=hb2.size;omega,(zx r1)⟩
 have R1:=zh r1
 rw [<- hW] at B2
 have HW:=zh hW
 have HNN:=zh hN
 clear hb2 r1 hW hN
 go_upto_region 8 with (fail)
 rw [<- HW.out,<- HNN.out]
 have c0:W.cell? ⟨N,0,none⟩=some (.int .i64 p):=zl R1.out rfl
 have c1:W.cell? ⟨N,1,none⟩=some (.int .i64 n):=zl R1.out rfl
 have HAW:=zh (HA.out.below B2.out)
 have OW:Hid (Only (fun b => b=a) w W):=Only.of_below B2.out
 have HS:=zh (set_ok HAW.out (by have:=HWR.out;omega) i (-1) (-1) HQ1.out)
 go_wp2_with fail
 refine HS.out.mono ?_
 rintro e v5 ⟨rfl,⟨wr5,g1,g2,hA5⟩,hO5⟩
 rw [HE.out] at hA5
 have d0:=Only.cellA hO5 c0 HNA.out.2 HNA.out.1
 have HR:Hid ((∃ wr',wr<=wr'/\wr'<=wr+3/\ArW a (dropS S i) nx fi wr' v5)/\Only (fun b => b=a) w v5):=⟨⟨wr5,by omega,by omega,hA5⟩,OW.out.trans hO5 (fun _ _ h => h)⟩
 clear g1 g2 hA5 hO5 c0 c1
 go_wp2
 go_ret2
 exact HK.out _ HR.out
theorem drop_By {w:World} (h:ArW a S nx fi wr w) (hw:wr+3<=4611686018427387904) (last i:Int) (hl:thr last=true) (hwl:well S i=true) (hpi:(sl S i).prev≠i) (hpn:(sl S i).prev=(sl S i).next) (hil:i=last) :
  Calls Tryz.prog 226 #[.pointer (some ⟨a,0,none⟩),.int .i64 last,.int .i64 i] w (DropPost a S nx fi wr last i w):=by
 obtain ⟨q1,q2,q3,q4,q5⟩:=well_iff.1 hwl
 have HTI:=zh (fun w => rthere_yes i q1 w)
 have HTL:=zh (fun w => rthere_yes last hl w)
 have HWR:=zh hw;have HLS:=zh h.ls;have HALT:=zh h.lt
 have HA:=zh h
 have HWL:=zh (fun (W:World) (hb:Below w.heap.size w W) => well_ok (h.below hb) i hwl)
 have HOF:=zh (fun (W:World) (hb:Below w.heap.size w W) => of_ok (h.below hb) i q1)
 obtain ⟨p,hp⟩:∃ p,p=(sl S i).prev:=⟨_,rfl⟩
 obtain ⟨n,hn⟩:∃ n,n=(sl S i).next:=⟨_,rfl⟩
 rw [<- hp] at q2 q4 hpi hpn
 rw [<- hn] at q3 q5 hpn
 have HQ1:=zh q1;have HQ2:=zh q2;have HQ3:=zh q3
 have HP:=zh hp;have HN:=zh hn
 have n9:(i != last)=false:=by rw [hil];simp
 have HD:Hid (dropL S last i=p):=by show _=_;unfold dropL;rw [if_neg (by simp [hil]),<- hp,if_neg hpi]
 have HK:Hid (∀ W:World,(∃ wr',wr<=wr'/\wr'<=wr+3/\ArW a (dropS S i) nx fi wr' W)/\Only (fun b => b=a) w W->DropPost a S nx fi wr last i w (.returned (.tuple #[.int .i64 (dropL S last i),.nilIface])) W):=fun W h => ⟨rfl,h.1,h.2⟩
 rw [HD.out] at HK
 have n1:(p == i)=false:=by rw [beq_eq_false_iff_ne];exact hpi
 have n2:(p == n)=true:=by rw [beq_iff_eq];exact hpn
 have HE:Hid (setS (setS S p n n) i (-1) (-1)=dropS S i):=by show _=_;rw [<- hpn];exact drop_two S HLS.out i p hwl hp.symm (hn.symm.trans hpn.symm) hpi
 have kf0:=lk_prev;have kf1:=lk_next
 clear h hw hl hwl q1 q2 q3 q4 q5 hp hn hpi hil hpn
 go_enter Tryz.func226,Tryz.ntmps226
 go_wp2_with (first
  | (go_at_call 190;(with_reducible refine (HTI.out _).mono ?_);rintro e w' ⟨rfl,rfl⟩)
  | (go_at_call 190;(with_reducible refine (HTL.out _).mono ?_);rintro e w' ⟨rfl,rfl⟩))
 refine (HWL.out w (Below.refl _ _)).mono ?_
 rintro e v1 ⟨rfl,hb1⟩
 have B1:=zh hb1
 clear hb1
 go_wp2_with fail
 refine (HOF.out v1 B1.out).mono ?_
 rintro e v2 ⟨rfl,hb2⟩
 rw [<- HP.out,<- HN.out]
 have B2:Hid (Below w.heap.size w (v2.alloc (.cells #[.int .i64 p,.int .i64 n] 299))):=(B1.out.trans (hb2.mono B1.out.size)).alloc (Nat.le_trans B1.out.size hb2.size) _
 obtain ⟨W,hW⟩:∃ W,W=v2.alloc (.cells #[.int .i64 p,.int .i64 n] 299):=⟨_,rfl⟩
 obtain ⟨N,hN⟩:∃ N,N=v2.heap.size:=⟨_,rfl⟩
 have r1:W.heap[N]? = some (.cells #[.int .i64 p,.int .i64 n] 299 (0,0)):=by rw [hW,hN];exact Ut.alloc_at _ _
 have HNA:Hid (N≠a/\N<W.heap.size):=⟨by have h1:=HALT.out;have h2:=B1.out.size;have h3:=hb2.size;omega,(zx r1)⟩
 have R1:=zh r1
 rw [<- hW] at B2
 have HW:=zh hW
 have HNN:=zh hN
 clear hb2 r1 hW hN
 go_upto_region 8 with (fail)
 rw [<- HW.out,<- HNN.out]
 have c0:W.cell? ⟨N,0,none⟩=some (.int .i64 p):=zl R1.out rfl
 have c1:W.cell? ⟨N,1,none⟩=some (.int .i64 n):=zl R1.out rfl
 have HAW:=zh (HA.out.below B2.out)
 have OW:Hid (Only (fun b => b=a) w W):=Only.of_below B2.out
 have HS:=zh (set_ok HAW.out (by have:=HWR.out;omega) p n n HQ2.out)
 go_wp2_with fail
 refine HS.out.mono ?_
 rintro e v4 ⟨rfl,⟨wr4,g1,g2,hA4⟩,hO4⟩
 have HS5:=zh (set_ok hA4 (by have:=HWR.out;omega) i (-1) (-1) HQ1.out)
 have d0:=Only.cellA hO4 c0 HNA.out.2 HNA.out.1
 have O4:Hid (Only (fun b => b=a) w v4):=OW.out.trans hO4 (fun _ _ h => h)
 have N4:Hid (N<v4.heap.size):=Nat.lt_of_lt_of_le HNA.out.2 hO4.size
 have G1:=zh g1;have G2:=zh g2
 clear g1 g2 hA4 hO4 c0 c1
 go_wp2_with fail
 refine HS5.out.mono ?_
 rintro e v5 ⟨rfl,⟨wr5,g1,g2,hA5⟩,hO5⟩
 rw [HE.out] at hA5
 have d1:=Only.cellA hO5 d0 N4.out HNA.out.1
 have HR:Hid ((∃ wr',wr<=wr'/\wr'<=wr+3/\ArW a (dropS S i) nx fi wr' v5)/\Only (fun b => b=a) w v5):=⟨⟨wr5,by have:=G1.out;omega,by have:=G2.out;omega,hA5⟩,O4.out.trans hO5 (fun _ _ h => h)⟩
 clear g1 g2 hA5 hO5 d0
 go_wp2
 go_ret2
 exact HK.out _ HR.out
theorem drop_Bn {w:World} (h:ArW a S nx fi wr w) (hw:wr+3<=4611686018427387904) (last i:Int) (hl:thr last=true) (hwl:well S i=true) (hpi:(sl S i).prev≠i) (hpn:(sl S i).prev=(sl S i).next) (hil:i≠last) :
  Calls Tryz.prog 226 #[.pointer (some ⟨a,0,none⟩),.int .i64 last,.int .i64 i] w (DropPost a S nx fi wr last i w):=by
 obtain ⟨q1,q2,q3,q4,q5⟩:=well_iff.1 hwl
 have HTI:=zh (fun w => rthere_yes i q1 w)
 have HTL:=zh (fun w => rthere_yes last hl w)
 have HWR:=zh hw;have HLS:=zh h.ls;have HALT:=zh h.lt
 have HA:=zh h
 have HWL:=zh (fun (W:World) (hb:Below w.heap.size w W) => well_ok (h.below hb) i hwl)
 have HOF:=zh (fun (W:World) (hb:Below w.heap.size w W) => of_ok (h.below hb) i q1)
 obtain ⟨p,hp⟩:∃ p,p=(sl S i).prev:=⟨_,rfl⟩
 obtain ⟨n,hn⟩:∃ n,n=(sl S i).next:=⟨_,rfl⟩
 rw [<- hp] at q2 q4 hpi hpn
 rw [<- hn] at q3 q5 hpn
 have HQ1:=zh q1;have HQ2:=zh q2;have HQ3:=zh q3
 have HP:=zh hp;have HN:=zh hn
 have n9:(i != last)=true:=by rw [bne_iff_ne];exact hil
 have HD:Hid (dropL S last i=last):=by show _=_;unfold dropL;rw [if_pos hil]
 have HK:Hid (∀ W:World,(∃ wr',wr<=wr'/\wr'<=wr+3/\ArW a (dropS S i) nx fi wr' W)/\Only (fun b => b=a) w W->DropPost a S nx fi wr last i w (.returned (.tuple #[.int .i64 (dropL S last i),.nilIface])) W):=fun W h => ⟨rfl,h.1,h.2⟩
 rw [HD.out] at HK
 have n1:(p == i)=false:=by rw [beq_eq_false_iff_ne];exact hpi
 have n2:(p == n)=true:=by rw [beq_iff_eq];exact hpn
 have HE:Hid (setS (setS S p n n) i (-1) (-1)=dropS S i):=by show _=_;rw [<- hpn];exact drop_two S HLS.out i p hwl hp.symm (hn.symm.trans hpn.symm) hpi
 have kf0:=lk_prev;have kf1:=lk_next
 clear h hw hl hwl q1 q2 q3 q4 q5 hp hn hpi hil hpn
 go_enter Tryz.func226,Tryz.ntmps226
 go_wp2_with (first
  | (go_at_call 190;(with_reducible refine (HTI.out _).mono ?_);rintro e w' ⟨rfl,rfl⟩)
  | (go_at_call 190;(with_reducible refine (HTL.out _).mono ?_);rintro e w' ⟨rfl,rfl⟩))
 refine (HWL.out w (Below.refl _ _)).mono ?_
 rintro e v1 ⟨rfl,hb1⟩
 have B1:=zh hb1
 clear hb1
 go_wp2_with fail
 refine (HOF.out v1 B1.out).mono ?_
 rintro e v2 ⟨rfl,hb2⟩
 rw [<- HP.out,<- HN.out]
 have B2:Hid (Below w.heap.size w (v2.alloc (.cells #[.int .i64 p,.int .i64 n] 299))):=(B1.out.trans (hb2.mono B1.out.size)).alloc (Nat.le_trans B1.out.size hb2.size) _
 obtain ⟨W,hW⟩:∃ W,W=v2.alloc (.cells #[.int .i64 p,.int .i64 n] 299):=⟨_,rfl⟩
 obtain ⟨N,hN⟩:∃ N,N=v2.heap.size:=⟨_,rfl⟩
 have r1:W.heap[N]? = some (.cells #[.int .i64 p,.int .i64 n] 299 (0,0)):=by rw [hW,hN];exact Ut.alloc_at _ _
 have HNA:Hid (N≠a/\N<W.heap.size):=⟨by have h1:=HALT.out;have h2:=B1.out.size;have h3:=hb2.size;omega,(zx r1)⟩
 have R1:=zh r1
 rw [<- hW] at B2
 have HW:=zh hW
 have HNN:=zh hN
 clear hb2 r1 hW hN
 go_upto_region 8 with (fail)
 rw [<- HW.out,<- HNN.out]
 have c0:W.cell? ⟨N,0,none⟩=some (.int .i64 p):=zl R1.out rfl
 have c1:W.cell? ⟨N,1,none⟩=some (.int .i64 n):=zl R1.out rfl
 have HAW:=zh (HA.out.below B2.out)
 have OW:Hid (Only (fun b => b=a) w W):=Only.of_below B2.out
 have HS:=zh (set_ok HAW.out (by have:=HWR.out;omega) p n n HQ2.out)
 go_wp2_with fail
 refine HS.out.mono ?_
 rintro e v4 ⟨rfl,⟨wr4,g1,g2,hA4⟩,hO4⟩
 have HS5:=zh (set_ok hA4 (by have:=HWR.out;omega) i (-1) (-1) HQ1.out)
 have d0:=Only.cellA hO4 c0 HNA.out.2 HNA.out.1
 have O4:Hid (Only (fun b => b=a) w v4):=OW.out.trans hO4 (fun _ _ h => h)
 have N4:Hid (N<v4.heap.size):=Nat.lt_of_lt_of_le HNA.out.2 hO4.size
 have G1:=zh g1;have G2:=zh g2
 clear g1 g2 hA4 hO4 c0 c1
 go_wp2_with fail
 refine HS5.out.mono ?_
 rintro e v5 ⟨rfl,⟨wr5,g1,g2,hA5⟩,hO5⟩
 rw [HE.out] at hA5
 have d1:=Only.cellA hO5 d0 N4.out HNA.out.1
 have HR:Hid ((∃ wr',wr<=wr'/\wr'<=wr+3/\ArW a (dropS S i) nx fi wr' v5)/\Only (fun b => b=a) w v5):=⟨⟨wr5,by have:=G1.out;omega,by have:=G2.out;omega,hA5⟩,O4.out.trans hO5 (fun _ _ h => h)⟩
 clear g1 g2 hA5 hO5 d0
 go_wp2
 go_ret2
 exact HK.out _ HR.out
theorem drop_Cy {w:World} (h:ArW a S nx fi wr w) (hw:wr+3<=4611686018427387904) (last i:Int) (hl:thr last=true) (hwl:well S i=true) (hpi:(sl S i).prev≠i) (hpn:(sl S i).prev≠(sl S i).next) (hil:i=last) :
  Calls Tryz.prog 226 #[.pointer (some ⟨a,0,none⟩),.int .i64 last,.int .i64 i] w (DropPost a S nx fi wr last i w):=by
 obtain ⟨q1,q2,q3,q4,q5⟩:=well_iff.1 hwl
 have HTI:=zh (fun w => rthere_yes i q1 w)
 have HTL:=zh (fun w => rthere_yes last hl w)
 have HWR:=zh hw;have HLS:=zh h.ls;have HALT:=zh h.lt
 have HA:=zh h
 have HWL:=zh (fun (W:World) (hb:Below w.heap.size w W) => well_ok (h.below hb) i hwl)
 have HOF:=zh (fun (W:World) (hb:Below w.heap.size w W) => of_ok (h.below hb) i q1)
 obtain ⟨p,hp⟩:∃ p,p=(sl S i).prev:=⟨_,rfl⟩
 obtain ⟨n,hn⟩:∃ n,n=(sl S i).next:=⟨_,rfl⟩
 rw [<- hp] at q2 q4 hpi hpn
 rw [<- hn] at q3 q5 hpn
 have HQ1:=zh q1;have HQ2:=zh q2;have HQ3:=zh q3
 have HP:=zh hp;have HN:=zh hn
 have n9:(i != last)=false:=by rw [hil];simp
 have HD:Hid (dropL S last i=p):=by show _=_;unfold dropL;rw [if_neg (by simp [hil]),<- hp,if_neg hpi]
 have HK:Hid (∀ W:World,(∃ wr',wr<=wr'/\wr'<=wr+3/\ArW a (dropS S i) nx fi wr' W)/\Only (fun b => b=a) w W->DropPost a S nx fi wr last i w (.returned (.tuple #[.int .i64 (dropL S last i),.nilIface])) W):=fun W h => ⟨rfl,h.1,h.2⟩
 rw [HD.out] at HK
 have n1:(p == i)=false:=by rw [beq_eq_false_iff_ne];exact hpi
 have n2:(p == n)=false:=by rw [beq_eq_false_iff_ne];exact hpn
 have HE:=zh (drop_more S HLS.out i p n hwl hp.symm hn.symm hpi hpn)
 have kf0:=lk_prev;have kf1:=lk_next
 clear h hw hl hwl q1 q2 q3 q4 q5 hp hn hpi hil hpn
 go_enter Tryz.func226,Tryz.ntmps226
 go_wp2_with (first
  | (go_at_call 190;(with_reducible refine (HTI.out _).mono ?_);rintro e w' ⟨rfl,rfl⟩)
  | (go_at_call 190;(with_reducible refine (HTL.out _).mono ?_);rintro e w' ⟨rfl,rfl⟩))
 refine (HWL.out w (Below.refl _ _)).mono ?_
 rintro e v1 ⟨rfl,hb1⟩
 have B1:=zh hb1
 clear hb1
 go_wp2_with fail
 refine (HOF.out v1 B1.out).mono ?_
 rintro e v2 ⟨rfl,hb2⟩
 rw [<- HP.out,<- HN.out]
 have B2:Hid (Below w.heap.size w (v2.alloc (.cells #[.int .i64 p,.int .i64 n] 299))):=(B1.out.trans (hb2.mono B1.out.size)).alloc (Nat.le_trans B1.out.size hb2.size) _
 obtain ⟨W,hW⟩:∃ W,W=v2.alloc (.cells #[.int .i64 p,.int .i64 n] 299):=⟨_,rfl⟩
 obtain ⟨N,hN⟩:∃ N,N=v2.heap.size:=⟨_,rfl⟩
 have r1:W.heap[N]? = some (.cells #[.int .i64 p,.int .i64 n] 299 (0,0)):=by rw [hW,hN];exact Ut.alloc_at _ _
 have HNA:Hid (N≠a/\N<W.heap.size):=⟨by have h1:=HALT.out;have h2:=B1.out.size;have h3:=hb2.size;omega,(zx r1)⟩
 have R1:=zh r1
 rw [<- hW] at B2
 have HW:=zh hW
 have HNN:=zh hN
 clear hb2 r1 hW hN
 go_upto_region 8 with (fail)
 rw [<- HW.out,<- HNN.out]
 have c0:W.cell? ⟨N,0,none⟩=some (.int .i64 p):=zl R1.out rfl
 have c1:W.cell? ⟨N,1,none⟩=some (.int .i64 n):=zl R1.out rfl
 have HAW:=zh (HA.out.below B2.out)
 have OW:Hid (Only (fun b => b=a) w W):=Only.of_below B2.out
 have HOD:=zh (of_ok (HAW.out.below ((Below.refl _ _).drew)) p HQ2.out)
 go_wp2_with fail
 go_region_held3 (fun w' => w'.cell? ⟨N,0,none⟩=some (.int .i64 p)/\w'.cell? ⟨N,1,none⟩=some (.int .i64 n)) (go_keep) (first
  | (go_at_call 192;refine HOD.out.mono ?_;rintro e v3 ⟨rfl,hb3⟩;(have d0:v3.cell? ⟨N,0,none⟩=some (.int .i64 p):=(hb3.cell (p:=⟨N,0,none⟩) HNA.out.2).trans c0);(have d1:v3.cell? ⟨N,1,none⟩=some (.int .i64 n):=(hb3.cell (p:=⟨N,1,none⟩) HNA.out.2).trans c1);(have HS:=zh (set_ok ((HAW.out.below ((Below.refl _ _).drew)).below hb3) (by have:=HWR.out;omega) p (sl S p).prev n HQ2.out));(have O3:Hid (Only (fun b => b=a) w v3):=OW.out.drew.trans (Only.of_below hb3) (fun _ _ h => h));(have N3:Hid (N<v3.heap.size):=Nat.lt_of_lt_of_le HNA.out.2 hb3.size);clear hb3)
  | (go_at_call 248;refine HS.out.mono ?_;rintro e v4 ⟨rfl,⟨wr4,g1,g2,hA4⟩,hO4⟩;(have e0:v4.cell? ⟨N,0,none⟩=some (.int .i64 p):=Only.cellA hO4 d0 N3.out HNA.out.1);(have e1:v4.cell? ⟨N,1,none⟩=some (.int .i64 n):=Only.cellA hO4 d1 N3.out HNA.out.1);(have HA4:=zh hA4);(have O4:Hid (Only (fun b => b=a) w v4):=O3.out.trans hO4 (fun _ _ h => h));(have N4:Hid (N<v4.heap.size):=Nat.lt_of_lt_of_le N3.out hO4.size);(have G1:=zh g1);(have G2:=zh g2);clear g1 g2 hA4 hO4))
 have HOD2:=zh (of_ok (HA4.out.below ((Below.refl _ _).drew)) n HQ3.out)
 clear d0 d1 c0 c1
 go_wp2_with fail
 go_region_held3 (fun w' => w'.cell? ⟨N,0,none⟩=some (.int .i64 p)/\w'.cell? ⟨N,1,none⟩=some (.int .i64 n)) (go_keep) (first
  | (go_at_call 192;refine HOD2.out.mono ?_;rintro e v5 ⟨rfl,hb5⟩;(have d0:v5.cell? ⟨N,0,none⟩=some (.int .i64 p):=(hb5.cell (p:=⟨N,0,none⟩) N4.out).trans e0);(have d1:v5.cell? ⟨N,1,none⟩=some (.int .i64 n):=(hb5.cell (p:=⟨N,1,none⟩) N4.out).trans e1);(have HS2:=zh (set_ok ((HA4.out.below ((Below.refl _ _).drew)).below hb5) (by have:=HWR.out;have:=G2.out;omega) n p (sl (setS S p (sl S p).prev n) n).next HQ3.out));(have O5:Hid (Only (fun b => b=a) w v5):=O4.out.drew.trans (Only.of_below hb5) (fun _ _ h => h));(have N5:Hid (N<v5.heap.size):=Nat.lt_of_lt_of_le N4.out hb5.size);clear hb5)
  | (go_at_call 248;refine HS2.out.mono ?_;rintro e v6 ⟨rfl,⟨wr6,g1,g2,hA6⟩,hO6⟩;(have b0:v6.cell? ⟨N,0,none⟩=some (.int .i64 p):=Only.cellA hO6 d0 N5.out HNA.out.1);(have b1:v6.cell? ⟨N,1,none⟩=some (.int .i64 n):=Only.cellA hO6 d1 N5.out HNA.out.1);(have HA6:=zh hA6);(have O6:Hid (Only (fun b => b=a) w v6):=O5.out.trans hO6 (fun _ _ h => h));(have N6:Hid (N<v6.heap.size):=Nat.lt_of_lt_of_le N5.out hO6.size);(have G3:=zh g1);(have G4:=zh g2);clear g1 g2 hA6 hO6))
 have HS7:=zh (set_ok (HA6.out.below ((Below.refl _ _).drew)) (by have:=HWR.out;have:=G2.out;have:=G4.out;omega) i (-1) (-1) HQ1.out)
 have HS8:=zh (set_ok HA6.out (by have:=HWR.out;have:=G2.out;have:=G4.out;omega) i (-1) (-1) HQ1.out)
 clear d0 d1 e0 e1
 go_wp2_with fail
 first
  | refine HS8.out.mono ?_
  | refine HS7.out.mono ?_
 rintro e v8 ⟨rfl,⟨wr8,g1,g2,hA8⟩,hO8⟩
 rw [HE.out] at hA8
 have d8:=Only.cellA hO8 b0 N6.out HNA.out.1
 have HR:Hid ((∃ wr',wr<=wr'/\wr'<=wr+3/\ArW a (dropS S i) nx fi wr' v8)/\Only (fun b => b=a) w v8):=⟨⟨wr8,by have:=G1.out;have:=G3.out;omega,by have:=G2.out;have:=G4.out;omega,hA8⟩,O6.out.trans hO8 (fun _ _ h => h)⟩
 clear g1 g2 hA8 hO8 b0 b1
 go_wp2
 go_ret2
 exact HK.out _ HR.out
theorem drop_Cn {w:World} (h:ArW a S nx fi wr w) (hw:wr+3<=4611686018427387904) (last i:Int) (hl:thr last=true) (hwl:well S i=true) (hpi:(sl S i).prev≠i) (hpn:(sl S i).prev≠(sl S i).next) (hil:i≠last) :
  Calls Tryz.prog 226 #[.pointer (some ⟨a,0,none⟩),.int .i64 last,.int .i64 i] w (DropPost a S nx fi wr last i w):=by
 obtain ⟨q1,q2,q3,q4,q5⟩:=well_iff.1 hwl
 have HTI:=zh (fun w => rthere_yes i q1 w)
 have HTL:=zh (fun w => rthere_yes last hl w)
 have HWR:=zh hw;have HLS:=zh h.ls;have HALT:=zh h.lt
 have HA:=zh h
 have HWL:=zh (fun (W:World) (hb:Below w.heap.size w W) => well_ok (h.below hb) i hwl)
 have HOF:=zh (fun (W:World) (hb:Below w.heap.size w W) => of_ok (h.below hb) i q1)
 obtain ⟨p,hp⟩:∃ p,p=(sl S i).prev:=⟨_,rfl⟩
 obtain ⟨n,hn⟩:∃ n,n=(sl S i).next:=⟨_,rfl⟩
 rw [<- hp] at q2 q4 hpi hpn
 rw [<- hn] at q3 q5 hpn
 have HQ1:=zh q1;have HQ2:=zh q2;have HQ3:=zh q3
 have HP:=zh hp;have HN:=zh hn
 have n9:(i != last)=true:=by rw [bne_iff_ne];exact hil
 have HD:Hid (dropL S last i=last):=by show _=_;unfold dropL;rw [if_pos hil]
 have HK:Hid (∀ W:World,(∃ wr',wr<=wr'/\wr'<=wr+3/\ArW a (dropS S i) nx fi wr' W)/\Only (fun b => b=a) w W->DropPost a S nx fi wr last i w (.returned (.tuple #[.int .i64 (dropL S last i),.nilIface])) W):=fun W h => ⟨rfl,h.1,h.2⟩
 rw [HD.out] at HK
 have n1:(p == i)=false:=by rw [beq_eq_false_iff_ne];exact hpi
 have n2:(p == n)=false:=by rw [beq_eq_false_iff_ne];exact hpn
 have HE:=zh (drop_more S HLS.out i p n hwl hp.symm hn.symm hpi hpn)
 have kf0:=lk_prev;have kf1:=lk_next
 clear h hw hl hwl q1 q2 q3 q4 q5 hp hn hpi hil hpn
 go_enter Tryz.func226,Tryz.ntmps226
 go_wp2_with (first
  | (go_at_call 190;(with_reducible refine (HTI.out _).mono ?_);rintro e w' ⟨rfl,rfl⟩)
  | (go_at_call 190;(with_reducible refine (HTL.out _).mono ?_);rintro e w' ⟨rfl,rfl⟩))
 refine (HWL.out w (Below.refl _ _)).mono ?_
 rintro e v1 ⟨rfl,hb1⟩
 have B1:=zh hb1
 clear hb1
 go_wp2_with fail
 refine (HOF.out v1 B1.out).mono ?_
 rintro e v2 ⟨rfl,hb2⟩
 rw [<- HP.out,<- HN.out]
 have B2:Hid (Below w.heap.size w (v2.alloc (.cells #[.int .i64 p,.int .i64 n] 299))):=(B1.out.trans (hb2.mono B1.out.size)).alloc (Nat.le_trans B1.out.size hb2.size) _
 obtain ⟨W,hW⟩:∃ W,W=v2.alloc (.cells #[.int .i64 p,.int .i64 n] 299):=⟨_,rfl⟩
 obtain ⟨N,hN⟩:∃ N,N=v2.heap.size:=⟨_,rfl⟩
 have r1:W.heap[N]? = some (.cells #[.int .i64 p,.int .i64 n] 299 (0,0)):=by rw [hW,hN];exact Ut.alloc_at _ _
 have HNA:Hid (N≠a/\N<W.heap.size):=⟨by have h1:=HALT.out;have h2:=B1.out.size;have h3:=hb2.size;omega,(zx r1)⟩
 have R1:=zh r1
 rw [<- hW] at B2
 have HW:=zh hW
 have HNN:=zh hN
 clear hb2 r1 hW hN
 go_upto_region 8 with (fail)
 rw [<- HW.out,<- HNN.out]
 have c0:W.cell? ⟨N,0,none⟩=some (.int .i64 p):=zl R1.out rfl
 have c1:W.cell? ⟨N,1,none⟩=some (.int .i64 n):=zl R1.out rfl
 have HAW:=zh (HA.out.below B2.out)
 have OW:Hid (Only (fun b => b=a) w W):=Only.of_below B2.out
 have HOD:=zh (of_ok (HAW.out.below ((Below.refl _ _).drew)) p HQ2.out)
 go_wp2_with fail
 go_region_held3 (fun w' => w'.cell? ⟨N,0,none⟩=some (.int .i64 p)/\w'.cell? ⟨N,1,none⟩=some (.int .i64 n)) (go_keep) (first
  | (go_at_call 192;refine HOD.out.mono ?_;rintro e v3 ⟨rfl,hb3⟩;(have d0:v3.cell? ⟨N,0,none⟩=some (.int .i64 p):=(hb3.cell (p:=⟨N,0,none⟩) HNA.out.2).trans c0);(have d1:v3.cell? ⟨N,1,none⟩=some (.int .i64 n):=(hb3.cell (p:=⟨N,1,none⟩) HNA.out.2).trans c1);(have HS:=zh (set_ok ((HAW.out.below ((Below.refl _ _).drew)).below hb3) (by have:=HWR.out;omega) p (sl S p).prev n HQ2.out));(have O3:Hid (Only (fun b => b=a) w v3):=OW.out.drew.trans (Only.of_below hb3) (fun _ _ h => h));(have N3:Hid (N<v3.heap.size):=Nat.lt_of_lt_of_le HNA.out.2 hb3.size);clear hb3)
  | (go_at_call 248;refine HS.out.mono ?_;rintro e v4 ⟨rfl,⟨wr4,g1,g2,hA4⟩,hO4⟩;(have e0:v4.cell? ⟨N,0,none⟩=some (.int .i64 p):=Only.cellA hO4 d0 N3.out HNA.out.1);(have e1:v4.cell? ⟨N,1,none⟩=some (.int .i64 n):=Only.cellA hO4 d1 N3.out HNA.out.1);(have HA4:=zh hA4);(have O4:Hid (Only (fun b => b=a) w v4):=O3.out.trans hO4 (fun _ _ h => h));(have N4:Hid (N<v4.heap.size):=Nat.lt_of_lt_of_le N3.out hO4.size);(have G1:=zh g1);(have G2:=zh g2);clear g1 g2 hA4 hO4))
 have HOD2:=zh (of_ok (HA4.out.below ((Below.refl _ _).drew)) n HQ3.out)
 clear d0 d1 c0 c1
 go_wp2_with fail
 go_region_held3 (fun w' => w'.cell? ⟨N,0,none⟩=some (.int .i64 p)/\w'.cell? ⟨N,1,none⟩=some (.int .i64 n)) (go_keep) (first
  | (go_at_call 192;refine HOD2.out.mono ?_;rintro e v5 ⟨rfl,hb5⟩;(have d0:v5.cell? ⟨N,0,none⟩=some (.int .i64 p):=(hb5.cell (p:=⟨N,0,none⟩) N4.out).trans e0);(have d1:v5.cell? ⟨N,1,none⟩=some (.int .i64 n):=(hb5.cell (p:=⟨N,1,none⟩) N4.out).trans e1);(have HS2:=zh (set_ok ((HA4.out.below ((Below.refl _ _).drew)).below hb5) (by have:=HWR.out;have:=G2.out;omega) n p (sl (setS S p (sl S p).prev n) n).next HQ3.out));(have O5:Hid (Only (fun b => b=a) w v5):=O4.out.drew.trans (Only.of_below hb5) (fun _ _ h => h));(have N5:Hid (N<v5.heap.size):=Nat.lt_of_lt_of_le N4.out hb5.size);clear hb5)
  | (go_at_call 248;refine HS2.out.mono ?_;rintro e v6 ⟨rfl,⟨wr6,g1,g2,hA6⟩,hO6⟩;(have b0:v6.cell? ⟨N,0,none⟩=some (.int .i64 p):=Only.cellA hO6 d0 N5.out HNA.out.1);(have b1:v6.cell? ⟨N,1,none⟩=some (.int .i64 n):=Only.cellA hO6 d1 N5.out HNA.out.1);(have HA6:=zh hA6);(have O6:Hid (Only (fun b => b=a) w v6):=O5.out.trans hO6 (fun _ _ h => h));(have N6:Hid (N<v6.heap.size):=Nat.lt_of_lt_of_le N5.out hO6.size);(have G3:=zh g1);(have G4:=zh g2);clear g1 g2 hA6 hO6))
 have HS7:=zh (set_ok (HA6.out.below ((Below.refl _ _).drew)) (by have:=HWR.out;have:=G2.out;have:=G4.out;omega) i (-1) (-1) HQ1.out)
 have HS8:=zh (set_ok HA6.out (by have:=HWR.out;have:=G2.out;have:=G4.out;omega) i (-1) (-1) HQ1.out)
 clear d0 d1 e0 e1
 go_wp2_with fail
 first
  | refine HS8.out.mono ?_
  | refine HS7.out.mono ?_
 rintro e v8 ⟨rfl,⟨wr8,g1,g2,hA8⟩,hO8⟩
 rw [HE.out] at hA8
 have d8:=Only.cellA hO8 b0 N6.out HNA.out.1
 have HR:Hid ((∃ wr',wr<=wr'/\wr'<=wr+3/\ArW a (dropS S i) nx fi wr' v8)/\Only (fun b => b=a) w v8):=⟨⟨wr8,by have:=G1.out;have:=G3.out;omega,by have:=G2.out;have:=G4.out;omega,hA8⟩,O6.out.trans hO8 (fun _ _ h => h)⟩
 clear g1 g2 hA8 hO8 b0 b1
 go_wp2
 go_ret2
 exact HK.out _ HR.out
theorem drop_ok {w:World} (h:ArW a S nx fi wr w) (hw:wr+3<=4611686018427387904) (last i:Int) (hc:canDrop S last i=true) :
  Calls Tryz.prog 226 #[.pointer (some ⟨a,0,none⟩),.int .i64 last,.int .i64 i] w (DropPost a S nx fi wr last i w):=by
 obtain ⟨hl,hwl⟩:thr last=true/\well S i=true:=by unfold canDrop at hc;simpa using hc
 by_cases hpi:(sl S i).prev=i
 ·by_cases hil:i=last
  ·exact drop_Ay h hw last i hl hwl hpi hil
  ·exact drop_An h hw last i hl hwl hpi hil
 ·by_cases hpn:(sl S i).prev=(sl S i).next
  ·by_cases hil:i=last
   ·exact drop_By h hw last i hl hwl hpi hpn hil
   ·exact drop_Bn h hw last i hl hwl hpi hpn hil
  ·by_cases hil:i=last
   ·exact drop_Cy h hw last i hl hwl hpi hpn hil
   ·exact drop_Cn h hw last i hl hwl hpi hpn hil
end
end Fr
end
end Go.Proofs.YtimhglmfckfclaaGreatDoor
