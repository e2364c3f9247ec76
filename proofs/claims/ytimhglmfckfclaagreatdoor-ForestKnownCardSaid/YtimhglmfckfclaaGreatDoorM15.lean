/- Parts of the proof. -/
import Derived.Test.YtimhglmfckfclaaGreatDoorM14
import Derived.Deep.LoopGhost
import Derived.Test.YtimhglmfckfclaaGreatDoorM13
set_option linter.unusedVariables false
set_option linter.unusedSimpArgs false
set_option maxRecDepth 100000
set_option maxHeartbeats 16000000
namespace Go.Proofs.YtimhglmfckfclaaGreatDoor
section
open Go.RowKit
namespace Fr
open Vw (Sess)
section
variable {a:Nat} {S:List Slt} {nx:List Int} {fi:Int} {nw:Nat}
def SplR (a:Nat) (S:List Slt) (nx:List Int) (fi:Int) (nw:Nat) (one two f g:Int) (L:List Int) (W:World) (t:Value) (W':World):Prop :=
 ∃ j wr',j<=4/\t = .int .i64 (j:Nat)/\nw<=wr'/\wr'<=nw+j/\ArW a ((L.take j).foldl (spl one two f g) S) nx fi wr' W'/\Only (fun b => b=a) W W'
theorem splice_ok {w:World} (h:ArW a S nx fi nw w) (hw:nw+4<=4611686018427387904) (one two:Int) (hc:canSplice S one two=true) :
  Calls Tryz.prog 225 #[.pointer (some ⟨a,0,none⟩),.int .i64 one,.int .i64 two] w fun e w' => e = .returned (.tuple #[.int .i64 two,.nilIface])/\(∃ wr',nw<=wr'/\wr'<=nw+4/\ArW a (spliceS S one two) nx fi wr' w')/\Only (fun b => b=a) w w':=by
 have HSP:=zh (splice_eq S h.ls one two hc)
 unfold canSplice at hc
 simp only [Bool.and_eq_true,bne_iff_ne,ne_eq] at hc
 obtain ⟨h12,hw1,hw2,hf2,hg1⟩:=hc
 obtain ⟨u1,u2,u3,u4,u5⟩:=well_iff.1 hw1
 obtain ⟨x1,x2,x3,x4,x5⟩:=well_iff.1 hw2
 obtain ⟨f,hf⟩:∃ f,f=(sl S one).next:=⟨_,rfl⟩
 obtain ⟨g,hg⟩:∃ g,g=(sl S two).next:=⟨_,rfl⟩
 rw [<- hf] at u3
 rw [<- hg] at x3
 rw [<- hf,<- hg] at HSP
 obtain ⟨o0,o1⟩:=thr_iff.1 u1
 obtain ⟨t0,t1⟩:=thr_iff.1 x1
 have HT1:=zh (fun w => rthere_yes one u1 w)
 have HT2:=zh (fun w => rthere_yes two x1 w)
 have HWL1:=zh (fun (W:World) (hb:Below w.heap.size w W) => well_ok (h.below hb) one hw1)
 have HWL2:=zh (fun (W:World) (hb:Below w.heap.size w W) => well_ok (h.below hb) two hw2)
 have HOF1:=zh (fun (W:World) (hb:Below w.heap.size w W) => of_ok (h.below hb) one u1)
 have HOF2:=zh (fun (W:World) (hb:Below w.heap.size w W) => of_ok (h.below hb) two x1)
 have HU1:=zh u1;have HX1:=zh x1;have HU3:=zh u3;have HX3:=zh x3
 have HWR:=zh hw;have HA:=zh h;have HF:=zh hf;have HG:=zh hg;have HALT:=zh h.lt
 have n1:(one == -1)=false:=by rw [beq_eq_false_iff_ne];omega
 have n1':(one != -1)=true:=by rw [bne_iff_ne];omega
 have n2:(two == -1)=false:=by rw [beq_eq_false_iff_ne];omega
 have n2':(two != -1)=true:=by rw [bne_iff_ne];omega
 have n3:(one == two)=false:=by rw [beq_eq_false_iff_ne];exact h12
 have kf0:=lk_prev;have kf1:=lk_next
 clear h hw h12 hw1 hw2 hf2 hg1 u1 u2 u3 u4 u5 x1 x2 x3 x4 x5 hf hg o0 o1 t0 t1
 go_enter Tryz.func225,Tryz.ntmps225
 go_wp2_with (first
  | (go_at_call 190;(with_reducible refine (HT1.out _).mono ?_);rintro e w' ⟨rfl,rfl⟩)
  | (go_at_call 190;(with_reducible refine (HT2.out _).mono ?_);rintro e w' ⟨rfl,rfl⟩))
 obtain ⟨W0,hW0⟩:∃ W0,W0=w.alloc (.cells #[.int .i64 one,.int .i64 two] 3):=⟨_,rfl⟩
 have B0:Hid (Below w.heap.size w W0):=by show Below _ _ _;rw [hW0];exact (Below.refl _ _).alloc (Nat.le_refl _) _
 have hr0:W0.heap[w.heap.size]? = some (.cells #[.int .i64 one,.int .i64 two] 3 (0,0)):=by rw [hW0];exact Ut.alloc_at _ _
 have HC0:Hid (∀ W,Below W0.heap.size W0 W->W.cell? ⟨w.heap.size,0,none⟩=some (.int .i64 one)/\W.cell? ⟨w.heap.size,1,none⟩=some (.int .i64 two)):=fun W hb => by
  have r:=(hb.block _ (zx hr0)).trans hr0
  exact ⟨by rw [zc r];rfl,by rw [zc r];rfl⟩
 rw [<- hW0]
 clear hW0 hr0
 go_loopw [50] (fun t wr1 => ∃ k:Nat,k<=2/\t = .int .i64 k/\Below W0.heap.size W0 wr1) (fun t _ => 2-(intOf t).toNat)
 case atStart => exact ⟨0,by omega,rfl,Below.refl _ _⟩
 case round =>
  obtain ⟨k,hk,rfl,hb⟩:=hrel
  have HB:=zh hb
  have z0:(0:Int)<=(k:Int):=by omega
  obtain ⟨c0,c1⟩:=HC0.out _ hb
  clear hb
  by_cases h0:k=0
  ·subst h0
   go_wp2_with fail
   refine (HWL1.out _ (B0.out.trans (HB.out.mono B0.out.size))).mono ?_
   rintro e v1 ⟨rfl,hb1⟩
   have B1:=zh (HB.out.trans (hb1.mono HB.out.size))
   clear hb1 c0 c1
   go_wp2
   go_roundw
   case rel => exact ⟨1,by omega,rfl,B1.out⟩
   case measure => simp [intOf]
  ·by_cases h1:k=1
   ·subst h1
    clear h0
    go_wp2_with fail
    refine (HWL2.out _ (B0.out.trans (HB.out.mono B0.out.size))).mono ?_
    rintro e v1 ⟨rfl,hb1⟩
    have B1:=zh (HB.out.trans (hb1.mono HB.out.size))
    clear hb1 c0 c1
    go_wp2
    go_roundw
    case rel => exact ⟨2,by omega,rfl,B1.out⟩
    case measure => simp [intOf]
   ·have z2:(2:Int)<=(k:Int):=by omega
    have HBW:Hid (Below w.heap.size w wr):=B0.out.trans (HB.out.mono B0.out.size)
    have hk2:k=2:=by omega
    subst hk2
    clear h0 h1 hk c0 c1
    obtain ⟨V,hV⟩:∃ V,V=wr:=⟨_,rfl⟩
    rw [<- hV] at HBW ⊢
    clear HB hV
    go_wp2_with fail
    refine (HOF1.out V HBW.out).mono ?_
    rintro e v1 ⟨rfl,hb1⟩
    rw [<- HF.out]
    have B1:Hid (Below w.heap.size w v1):=HBW.out.trans (hb1.mono HBW.out.size)
    clear hb1
    go_wp2_with fail
    refine (HOF2.out v1 B1.out).mono ?_
    rintro e v2 ⟨rfl,hb2⟩
    rw [<- HG.out]
    have B2:Hid (Below w.heap.size w v2):=B1.out.trans (hb2.mono B1.out.size)
    clear hb2
    go_wp2_with fail
    obtain ⟨W2,hW2⟩:∃ W2,W2=v2.alloc (.cells #[.int .i64 one,.int .i64 two,.int .i64 f,.int .i64 g] 3):=⟨_,rfl⟩
    obtain ⟨M,hM⟩:∃ M,M=v2.heap.size:=⟨_,rfl⟩
    have hr2:W2.heap[M]? = some (.cells #[.int .i64 one,.int .i64 two,.int .i64 f,.int .i64 g] 3 (0,0)):=by rw [hW2,hM];exact Ut.alloc_at _ _
    have hBW2:Below w.heap.size w W2:=by rw [hW2];exact B2.out.alloc B2.out.size _
    have HMA:Hid (M≠a):=by have h1:=HALT.out;have h2:=B2.out.size;show _≠_;omega
    have HL:Hid (∀ W,Only (fun b => b=a) W2 W->∀ j (x:Int),[one,two,f,g][j]? = some x->W.cell? ⟨M,j,none⟩=some (.int .i64 x)):=fun W ho j x hx => by
     have r:=(ho.block M (zx hr2) HMA.out).trans hr2
     rw [zc r]
     have hj:j<4:=(List.getElem?_eq_some_iff.1 hx).1
     match j,hj with
     | 0,_ => cases hx;rfl
     | 1,_ => cases hx;rfl
     | 2,_ => cases hx;rfl
     | 3,_ => cases hx;rfl
    have HTH:Hid (∀ (j:Nat) (x:Int),[one,two,f,g][j]? = some x->thr x=true):=fun j x hx => by
     have hj:j<4:=(List.getElem?_eq_some_iff.1 hx).1
     match j,hj with
     | 0,_ => cases hx;exact HU1.out
     | 1,_ => cases hx;exact HX1.out
     | 2,_ => cases hx;exact HU3.out
     | 3,_ => cases hx;exact HX3.out
    have HST:Hid (SplR a S nx fi nw one two f g [one,two,f,g] W2 (.int .i64 0) W2):=⟨0,nw,by omega,rfl,Nat.le_refl _,by omega,HA.out.below hBW2,Only.refl _ _⟩
    have HBW2:=zh hBW2
    rw [<- hW2,<- hM]
    clear hW2 hr2 hBW2 hM
    go_loopw [76] (fun t W' => SplR a S nx fi nw one two f g [one,two,f,g] W2 t W') (fun t _ => 4-(intOf t).toNat)
    case atStart => exact HST.out
    case round =>
     obtain ⟨j,wr',hj,rfl,g1,g2,hA,hO⟩:=hrel
     have HAJ:=zh hA;have HOJ:=zh hO;have G1:=zh g1;have G2:=zh g2
     have y0:(0:Int)<=(j:Int):=by omega
     by_cases h4:j<4
     ·have y1:(j:Int)<4:=by omega
      obtain ⟨x,hx⟩:∃ x,[one,two,f,g][j]? = some x:=⟨_,List.getElem?_eq_getElem h4⟩
      have hc:=HL.out _ hO j x hx
      have htx:=HTH.out j x hx
      obtain ⟨T,hT⟩:∃ T,T=(List.take j [one,two,f,g]).foldl (spl one two f g) S:=⟨_,rfl⟩
      rw [<- hT] at HAJ hA
      have HNX:Hid (List.foldl (spl one two f g) S (List.take (j+1) [one,two,f,g])=spl one two f g T x):=by
       show _=_
       rw [List.take_add_one,hx,Option.toList_some,List.foldl_append,<- hT];rfl
      have HOF:=zh (of_ok hA x htx)
      have HTX:=zh htx
      have HJ4:=zh h4
      clear hA hO g1 g2 hx hT h4 hj htx
      go_wp2_with fail
      refine HOF.out.mono ?_
      rintro e v3 ⟨rfl,hb3⟩
      obtain ⟨p,hp⟩:∃ p,p=(sl T x).prev:=⟨_,rfl⟩
      obtain ⟨n,hn⟩:∃ n,n=(sl T x).next:=⟨_,rfl⟩
      rw [<- hp,<- hn]
      have HP:=zh hp;have HN:=zh hn
      obtain ⟨W4,hW4⟩:∃ W4,W4=v3.alloc (.cells #[.int .i64 p,.int .i64 n] 299):=⟨_,rfl⟩
      obtain ⟨N,hN⟩:∃ N,N=v3.heap.size:=⟨_,rfl⟩
      have hr4:W4.heap[N]? = some (.cells #[.int .i64 p,.int .i64 n] 299 (0,0)):=by rw [hW4,hN];exact Ut.alloc_at _ _
      have hb4:Below wr.heap.size wr W4:=by rw [hW4];exact hb3.alloc hb3.size _
      have HNA:Hid (N≠a):=by have h1:=HALT.out;have h2:=HBW2.out.size;have h3:=HOJ.out.size;have h5:=hb3.size;show _≠_;omega
      have HB4:=zh hb4;have HR4:=zh hr4;have HW4:=zh hW4;have HNN:=zh hN
      have HSZ:Hid (wr.heap.size<=N):=by show _<=_;rw [hN];exact hb3.size
      clear hp hn hb3 hW4 hN hr4 hb4 hc
      go_upto_region 20 with (fail)
      rw [<- HW4.out,<- HNN.out]
      have c0:W4.cell? ⟨N,0,none⟩=some (.int .i64 p):=zl HR4.out rfl
      have c1:W4.cell? ⟨N,1,none⟩=some (.int .i64 n):=zl HR4.out rfl
      have f0:W4.frozen? ⟨N,0,none⟩=false:=by unfold World.frozen?;rw [HR4.out];rfl
      have f1:W4.frozen? ⟨N,1,none⟩=false:=by unfold World.frozen?;rw [HR4.out];rfl
      -- what is stored into the two links,and the call
      have HCALL:Hid (∀ (W5:World) (p' n':Int),W5.heap.size=W4.heap.size->(∀ b,b<N->W5.heap[b]? = W4.heap[b]?)->W5.os=W4.os->W5.tape=W4.tape->W5.output=W4.output->p'=(if x=g then one else if x=f then two else p)->n'=(if x=one then g else if x=two then f else n) ->
        Calls Tryz.prog 248 #[.pointer (some ⟨a,0,none⟩),.int .i64 x,.agg #[.int .i64 p',.int .i64 n']] W5 fun e w' => e = .returned (.tuple #[])/\SplR a S nx fi nw one two f g [one,two,f,g] W2 (.int .i64 ((j:Int)+1)) w'):=fun W5 p' n' hs hk e1 e2 e3 hp' hn' => by
       have ho:Only (fun b => b=a) wr W5:=⟨e1.trans HB4.out.os,e2.trans HB4.out.tape,e3.trans HB4.out.output,by rw [hs];exact HB4.out.size,fun b hb _ => (hk b (Nat.lt_of_lt_of_le hb HSZ.out)).trans (HB4.out.block b hb)⟩
       have hA5:ArW a T nx fi wr' W5:=HAJ.out.keep ((hk a (Nat.lt_of_lt_of_le HAJ.out.lt HSZ.out)).trans (HB4.out.block a HAJ.out.lt))
       refine (set_ok hA5 (by have:=HWR.out;have:=G2.out;have:=HJ4.out;omega) x p' n' HTX.out).mono ?_
       rintro e w' ⟨rfl,⟨wq,k1,k2,k3⟩,k4⟩
       refine ⟨rfl,j+1,wq,by have:=HJ4.out;omega,by go_num,by have:=G1.out;omega,by have:=G2.out;omega,?_,(HOJ.out.trans ho (fun _ _ h => h)).trans k4 (fun _ _ h => h)⟩
       rw [HNX.out]
       unfold spl
       rw [<- HP.out,<- HN.out,<- hp',<- hn']
       exact k3
      have hkb:∀ (o:Nat) (v:Value) (W:World) (b:Nat),b<N->(W.setCell ⟨N,o,none⟩ v).heap[b]? = W.heap[b]?:=fun o v W b hb => Below.heap_setCell _ _ _ _ (by show b≠N;omega)
      have HKB:=zh hkb
      clear hkb
      by_cases e1:x=one
      ·skip
       by_cases e3:x=g
       ·have t1:(x == one)=true:=by rw [beq_iff_eq];exact e1
        have t3:(x == g)=true:=by rw [beq_iff_eq];exact e3
        have HN2:Hid (g=(if x=one then g else if x=two then f else n)):=by show _=_;rw [if_pos e1]
        have HP2:Hid (one=(if x=g then one else if x=f then two else p)):=by show _=_;rw [if_pos e3]
        clear e1 e3
        go_wp2_with fail
        refine (HCALL.out ((W4.setCell ⟨N,1,none⟩ (.int .i64 g)).setCell ⟨N,0,none⟩ (.int .i64 one)) one g (by first | rfl | simp [World.setCell]) (fun b hb => by first | rfl | exact HKB.out _ _ _ b hb | exact (HKB.out _ _ _ b hb).trans (HKB.out _ _ _ b hb)) rfl rfl rfl HP2.out HN2.out).mono ?_
        rintro e w7 ⟨rfl,hq⟩
        have HQ:=zh hq
        clear hq
        go_wp2
        go_roundw
        case rel => exact HQ.out
        case measure => have:=HJ4.out;simp [intOf];omega
       ·by_cases e4:x=f
        ·have t1:(x == one)=true:=by rw [beq_iff_eq];exact e1
         have t3:(x == g)=false:=by rw [beq_eq_false_iff_ne];exact e3
         have t4:(x == f)=true:=by rw [beq_iff_eq];exact e4
         have HN2:Hid (g=(if x=one then g else if x=two then f else n)):=by show _=_;rw [if_pos e1]
         have HP2:Hid (two=(if x=g then one else if x=f then two else p)):=by show _=_;rw [if_neg e3,if_pos e4]
         clear e1 e3 e4
         go_wp2_with fail
         refine (HCALL.out ((W4.setCell ⟨N,1,none⟩ (.int .i64 g)).setCell ⟨N,0,none⟩ (.int .i64 two)) two g (by first | rfl | simp [World.setCell]) (fun b hb => by first | rfl | exact HKB.out _ _ _ b hb | exact (HKB.out _ _ _ b hb).trans (HKB.out _ _ _ b hb)) rfl rfl rfl HP2.out HN2.out).mono ?_
         rintro e w7 ⟨rfl,hq⟩
         have HQ:=zh hq
         clear hq
         go_wp2
         go_roundw
         case rel => exact HQ.out
         case measure => have:=HJ4.out;simp [intOf];omega
        ·have t1:(x == one)=true:=by rw [beq_iff_eq];exact e1
         have t3:(x == g)=false:=by rw [beq_eq_false_iff_ne];exact e3
         have t4:(x == f)=false:=by rw [beq_eq_false_iff_ne];exact e4
         have HN2:Hid (g=(if x=one then g else if x=two then f else n)):=by show _=_;rw [if_pos e1]
         have HP2:Hid (p=(if x=g then one else if x=f then two else p)):=by show _=_;rw [if_neg e3,if_neg e4]
         clear e1 e3 e4
         go_wp2_with fail
         refine (HCALL.out (W4.setCell ⟨N,1,none⟩ (.int .i64 g)) p g (by first | rfl | simp [World.setCell]) (fun b hb => by first | rfl | exact HKB.out _ _ _ b hb | exact (HKB.out _ _ _ b hb).trans (HKB.out _ _ _ b hb)) rfl rfl rfl HP2.out HN2.out).mono ?_
         rintro e w7 ⟨rfl,hq⟩
         have HQ:=zh hq
         clear hq
         go_wp2
         go_roundw
         case rel => exact HQ.out
         case measure => have:=HJ4.out;simp [intOf];omega
      ·by_cases e2:x=two
       ·skip
        by_cases e3:x=g
        ·have t1:(x == one)=false:=by rw [beq_eq_false_iff_ne];exact e1
         have t2:(x == two)=true:=by rw [beq_iff_eq];exact e2
         have t3:(x == g)=true:=by rw [beq_iff_eq];exact e3
         have HN2:Hid (f=(if x=one then g else if x=two then f else n)):=by show _=_;rw [if_neg e1,if_pos e2]
         have HP2:Hid (one=(if x=g then one else if x=f then two else p)):=by show _=_;rw [if_pos e3]
         clear e1 e3 e2
         go_wp2_with fail
         refine (HCALL.out ((W4.setCell ⟨N,1,none⟩ (.int .i64 f)).setCell ⟨N,0,none⟩ (.int .i64 one)) one f (by first | rfl | simp [World.setCell]) (fun b hb => by first | rfl | exact HKB.out _ _ _ b hb | exact (HKB.out _ _ _ b hb).trans (HKB.out _ _ _ b hb)) rfl rfl rfl HP2.out HN2.out).mono ?_
         rintro e w7 ⟨rfl,hq⟩
         have HQ:=zh hq
         clear hq
         go_wp2
         go_roundw
         case rel => exact HQ.out
         case measure => have:=HJ4.out;simp [intOf];omega
        ·by_cases e4:x=f
         ·have t1:(x == one)=false:=by rw [beq_eq_false_iff_ne];exact e1
          have t2:(x == two)=true:=by rw [beq_iff_eq];exact e2
          have t3:(x == g)=false:=by rw [beq_eq_false_iff_ne];exact e3
          have t4:(x == f)=true:=by rw [beq_iff_eq];exact e4
          have HN2:Hid (f=(if x=one then g else if x=two then f else n)):=by show _=_;rw [if_neg e1,if_pos e2]
          have HP2:Hid (two=(if x=g then one else if x=f then two else p)):=by show _=_;rw [if_neg e3,if_pos e4]
          clear e1 e3 e2 e4
          go_wp2_with fail
          refine (HCALL.out ((W4.setCell ⟨N,1,none⟩ (.int .i64 f)).setCell ⟨N,0,none⟩ (.int .i64 two)) two f (by first | rfl | simp [World.setCell]) (fun b hb => by first | rfl | exact HKB.out _ _ _ b hb | exact (HKB.out _ _ _ b hb).trans (HKB.out _ _ _ b hb)) rfl rfl rfl HP2.out HN2.out).mono ?_
          rintro e w7 ⟨rfl,hq⟩
          have HQ:=zh hq
          clear hq
          go_wp2
          go_roundw
          case rel => exact HQ.out
          case measure => have:=HJ4.out;simp [intOf];omega
         ·have t1:(x == one)=false:=by rw [beq_eq_false_iff_ne];exact e1
          have t2:(x == two)=true:=by rw [beq_iff_eq];exact e2
          have t3:(x == g)=false:=by rw [beq_eq_false_iff_ne];exact e3
          have t4:(x == f)=false:=by rw [beq_eq_false_iff_ne];exact e4
          have HN2:Hid (f=(if x=one then g else if x=two then f else n)):=by show _=_;rw [if_neg e1,if_pos e2]
          have HP2:Hid (p=(if x=g then one else if x=f then two else p)):=by show _=_;rw [if_neg e3,if_neg e4]
          clear e1 e3 e2 e4
          go_wp2_with fail
          refine (HCALL.out (W4.setCell ⟨N,1,none⟩ (.int .i64 f)) p f (by first | rfl | simp [World.setCell]) (fun b hb => by first | rfl | exact HKB.out _ _ _ b hb | exact (HKB.out _ _ _ b hb).trans (HKB.out _ _ _ b hb)) rfl rfl rfl HP2.out HN2.out).mono ?_
          rintro e w7 ⟨rfl,hq⟩
          have HQ:=zh hq
          clear hq
          go_wp2
          go_roundw
          case rel => exact HQ.out
          case measure => have:=HJ4.out;simp [intOf];omega
       ·skip
        by_cases e3:x=g
        ·have t1:(x == one)=false:=by rw [beq_eq_false_iff_ne];exact e1
         have t2:(x == two)=false:=by rw [beq_eq_false_iff_ne];exact e2
         have t3:(x == g)=true:=by rw [beq_iff_eq];exact e3
         have HN2:Hid (n=(if x=one then g else if x=two then f else n)):=by show _=_;rw [if_neg e1,if_neg e2]
         have HP2:Hid (one=(if x=g then one else if x=f then two else p)):=by show _=_;rw [if_pos e3]
         clear e1 e3 e2
         go_wp2_with fail
         refine (HCALL.out (W4.setCell ⟨N,0,none⟩ (.int .i64 one)) one n (by first | rfl | simp [World.setCell]) (fun b hb => by first | rfl | exact HKB.out _ _ _ b hb | exact (HKB.out _ _ _ b hb).trans (HKB.out _ _ _ b hb)) rfl rfl rfl HP2.out HN2.out).mono ?_
         rintro e w7 ⟨rfl,hq⟩
         have HQ:=zh hq
         clear hq
         go_wp2
         go_roundw
         case rel => exact HQ.out
         case measure => have:=HJ4.out;simp [intOf];omega
        ·by_cases e4:x=f
         ·have t1:(x == one)=false:=by rw [beq_eq_false_iff_ne];exact e1
          have t2:(x == two)=false:=by rw [beq_eq_false_iff_ne];exact e2
          have t3:(x == g)=false:=by rw [beq_eq_false_iff_ne];exact e3
          have t4:(x == f)=true:=by rw [beq_iff_eq];exact e4
          have HN2:Hid (n=(if x=one then g else if x=two then f else n)):=by show _=_;rw [if_neg e1,if_neg e2]
          have HP2:Hid (two=(if x=g then one else if x=f then two else p)):=by show _=_;rw [if_neg e3,if_pos e4]
          clear e1 e3 e2 e4
          go_wp2_with fail
          refine (HCALL.out (W4.setCell ⟨N,0,none⟩ (.int .i64 two)) two n (by first | rfl | simp [World.setCell]) (fun b hb => by first | rfl | exact HKB.out _ _ _ b hb | exact (HKB.out _ _ _ b hb).trans (HKB.out _ _ _ b hb)) rfl rfl rfl HP2.out HN2.out).mono ?_
          rintro e w7 ⟨rfl,hq⟩
          have HQ:=zh hq
          clear hq
          go_wp2
          go_roundw
          case rel => exact HQ.out
          case measure => have:=HJ4.out;simp [intOf];omega
         ·have t1:(x == one)=false:=by rw [beq_eq_false_iff_ne];exact e1
          have t2:(x == two)=false:=by rw [beq_eq_false_iff_ne];exact e2
          have t3:(x == g)=false:=by rw [beq_eq_false_iff_ne];exact e3
          have t4:(x == f)=false:=by rw [beq_eq_false_iff_ne];exact e4
          have HN2:Hid (n=(if x=one then g else if x=two then f else n)):=by show _=_;rw [if_neg e1,if_neg e2]
          have HP2:Hid (p=(if x=g then one else if x=f then two else p)):=by show _=_;rw [if_neg e3,if_neg e4]
          clear e1 e3 e2 e4
          go_wp2_with fail
          refine (HCALL.out W4 p n (by first | rfl | simp [World.setCell]) (fun b hb => by first | rfl | exact HKB.out _ _ _ b hb | exact (HKB.out _ _ _ b hb).trans (HKB.out _ _ _ b hb)) rfl rfl rfl HP2.out HN2.out).mono ?_
          rintro e w7 ⟨rfl,hq⟩
          have HQ:=zh hq
          clear hq
          go_wp2
          go_roundw
          case rel => exact HQ.out
          case measure => have:=HJ4.out;simp [intOf];omega
     ·have h44:j=4:=by omega
      have y1:(4:Int)<=(j:Int):=by omega
      have HR:Hid ((∃ wr',nw<=wr'/\wr'<=nw+4/\ArW a (spliceS S one two) nx fi wr' wr)/\Only (fun b => b=a) w wr):=by
       have hA2:=hA
       rw [h44,show List.take 4 [one,two,f,g]=[one,two,f,g] from rfl,HSP.out] at hA2
       exact ⟨⟨wr',g1,by omega,hA2⟩,(Only.of_below HBW2.out).trans hO (fun _ _ h => h)⟩
      clear hA hO g1 g2 h4 hj h44
      go_wp2
      go_ret2
      exact ⟨rfl,HR.out⟩
end
end Fr
end
section
open Go.RowKit
namespace Fr
open Vw (Sess)
def frPtr (a:Nat):List Int->Addr
 | [] => ⟨a,576,none⟩
 | p => ⟨a,544+(p.getLastD 0).toNat,none⟩
theorem FrL.right {nx:List Int}:∀ (pre:List Int) {fi:Int} {post:List Int},FrL nx fi (pre ++ post)->(pre=[]/\FrL nx fi post)\/(pre≠[]/\FrL nx (nx.getD (pre.getLastD 0).toNat 0) post)
 | [],fi,post,h => .inl ⟨rfl,h⟩
 | [q],fi,post,h => .inr ⟨by simp,h.2.2⟩
 | q :: r :: t,fi,post,h => by
  rcases FrL.right (r :: t) h.2.2 with ⟨e,_⟩ | ⟨_,h2⟩
  ·cases e
  ·exact .inr ⟨by simp,by simpa using h2⟩
theorem FrL.cut {nx:List Int} (hl:nx.length=32) {i:Int} (hi:Fr.thr i=true):∀ {pre post:List Int} {fi:Int},FrL nx fi (pre ++ i :: post)->(pre ++ i :: post).Nodup ->
  (pre=[]->FrL (nx.set i.toNat (-2)) (nx.getD i.toNat 0) post)/\(pre≠[]->FrL ((nx.set (pre.getLastD 0).toNat (nx.getD i.toNat 0)).set i.toNat (-2)) fi (pre ++ post)):=by
 have h0:=thr_iff.1 hi
 have ei:((i.toNat:Nat):Int)=i:=by omega
 intro pre
 induction pre with
 | nil =>
  intro post fi h hd
  refine ⟨fun _ => ?_,fun e => absurd rfl e⟩
  have hn:=(List.nodup_cons.1 hd).1
  exact h.2.2.set (by omega) (-2) (by rw [ei];exact hn)
 | cons q t ih =>
  intro post fi h hd
  refine ⟨fun e => (by cases e),fun _ => ?_⟩
  have hq:=thr_iff.1 h.2.1
  have hd2:=List.nodup_cons.1 hd
  have hqi:q≠i:=fun e => hd2.1 (by rw [e];simp)
  refine ⟨h.1,h.2.1,?_⟩
  cases t with
  | nil =>
   have eg:([q]:List Int).getLastD 0=q:=rfl
   rw [eg]
   show FrL _ (((nx.set q.toNat (nx.getD i.toNat 0)).set i.toNat (-2)).getD q.toNat 0) post
   rw [getD_set _ _ _ _ (by rw [List.length_set];omega),if_neg (by omega),getD_set _ _ _ _ (by omega),if_pos rfl]
   have h2:=h.2.2
   have hn:=(List.nodup_cons.1 hd2.2).1
   have hqp:q ∉ post:=fun e => hd2.1 (by simp [e])
   exact (h2.2.2.set (by omega) _ (by rw [show ((q.toNat:Nat):Int)=q by omega];exact hqp)).set (by rw [List.length_set];omega) _ (by rw [ei];exact hn)
  | cons r s =>
   have e1:((q :: r :: s).getLastD 0)=(r :: s).getLastD 0:=by simp
   rw [e1]
   obtain ⟨L,hL⟩:∃ L,L=(r :: s).getLastD 0:=⟨_,rfl⟩
   have hLm:L ∈ r :: s:=by
    rw [hL,List.getLastD_eq_getLast?]
    cases hg:(r :: s).getLast? with
    | none => simp at hg
    | some x => exact List.mem_of_getLast? hg
   have hqL:q≠L:=fun e => hd2.1 (by rw [e];exact List.mem_append_left _ hLm)
   have tL:=thr_iff.1 (FrL.thr h.2.2 L (List.mem_append_left _ hLm))
   rw [<- hL,getD_set _ _ _ _ (by rw [List.length_set];omega),if_neg (by omega),getD_set _ _ _ _ (by omega),if_neg (by omega)]
   have:=(ih (fi:=nx.getD q.toNat 0) h.2.2 hd2.2).2 (by simp)
   rw [<- hL] at this
   exact this
section
variable {a:Nat} {S:List Slt} {fr:List Int} {nw:Nat} {w:World}
theorem frPtr_cell {nx:List Int} {fi:Int} (hA:ArW a S nx fi nw w) {pre post:List Int} {j:Int} (hF:FrL nx fi (pre ++ j :: post)):w.cell? (frPtr a pre)=some (.int .i64 j):=by
 rcases hF.right pre with ⟨rfl,h⟩ | ⟨hne,h⟩
 ·rw [show frPtr a []=⟨a,576,none⟩ from rfl,hA.first,h.1]
 ·have hm:pre.getLastD 0 ∈ pre:=by
   rw [List.getLastD_eq_getLast?]
   cases hg:pre.getLast? with
   | none => exact absurd (List.getLast?_eq_none_iff.1 hg) hne
   | some x => exact List.mem_of_getLast? hg
  have ht:=thr_iff.1 (hF.thr _ (List.mem_append_left _ hm))
  have e:frPtr a pre=⟨a,544+(pre.getLastD 0).toNat,none⟩:=by
   cases pre with
   | nil => exact absurd rfl hne
   | cons q t => rfl
  rw [e,hA.next (by omega),h.1]
theorem frPtr_step (pre:List Int) (j:Int):frPtr a (pre ++ [j])=⟨a,544+j.toNat,none⟩:=by
 unfold frPtr
 cases h:pre ++ [j] with
 | nil => simp at h
 | cons q t =>
  rw [<- h];simp
theorem frPtr_plain (pre:List Int):∃ o,frPtr a pre=⟨a,o,none⟩:=by
 cases pre with
 | nil => exact ⟨576,rfl⟩
 | cons q t => exact ⟨_,rfl⟩
theorem place_ok (h:ArAt a S fr nw w) (i:Int) (hi:thr i=true) (hm:i ∈ fr) :
  Calls Tryz.prog 106 #[.pointer (some ⟨a,0,none⟩),.int .i64 i] w fun e w' => e = .returned .nilIface/\ArAt a S (fr.erase i) nw w'/\Only (fun b => b=a) w w':=by
 obtain ⟨⟨nx,fi,hA,hF,hT⟩,hd⟩:=h
 obtain ⟨h0,h1⟩:=thr_iff.1 hi
 obtain ⟨k,rfl⟩:=Int.eq_ofNat_of_zero_le h0
 have hk:k<32:=by omega
 -- where it stands
 obtain ⟨p0,q0,hpq⟩:=List.append_of_mem hm
 have hvn:nx.getD k 0≠-2:=by
  rw [hpq] at hF
  have h2:FrL nx (nx.getD k 0) q0:=by
   rcases hF.right p0 with ⟨_,h⟩ | ⟨_,h⟩
   ·have:=h.2.2;rwa [Int.toNat_natCast] at this
   ·have:=h.2.2;rwa [Int.toNat_natCast] at this
  cases q0 with
  | nil => rw [show nx.getD k 0 = -1 from h2];decide
  | cons r s => rw [h2.1];have:=thr_iff.1 h2.2.1;omega
 have c5:=hA.next hk
 have t5:(nx.getD k 0 == -2)=false:=by rw [beq_eq_false_iff_ne];exact hvn
 have HTY:=zh (fun w => there_yes (k:Int) hi w)
 have HA:=zh hA;have HF:=zh hF;have HT:=zh hT;have HD:=zh hd;have HM:=zh hm;have HI:=zh hi
 have HX:Hid (∀ (wr:World),Below w.heap.size w wr->ArW a S nx fi nw wr):=fun wr hb => hA.below hb
 obtain ⟨vk,hvk⟩:∃ vk,vk=nx.getD k 0:=⟨_,rfl⟩
 rw [<- hvk] at c5 t5
 have HVK:=zh hvk
 clear hA hF hT hd hm hi hpq hvn h0 hvk
 go_enter Tryz.func106,Tryz.ntmps106
 go_wp2_with (go_at_call 115;(with_reducible refine (HTY.out _).mono ?_);rintro e w' ⟨rfl,rfl⟩)
 go_loopg [5] fr.length (fun g t wr => ∃ pre post,fr=pre ++ post/\(k:Int) ∈ post/\t = .pointer (some (frPtr a pre))/\g=post.length/\Below w.heap.size w wr)
 case atStart => exact ⟨[],fr,rfl,HM.out,rfl,rfl,Below.refl _ _⟩
 case round =>
  obtain ⟨pre,post,hfr,hkp,rfl,rfl,hb⟩:=hrel
  obtain ⟨j,post',rfl⟩:∃ j post',post=j :: post':=by
   cases post with
   | nil => cases hkp
   | cons j p => exact ⟨j,p,rfl⟩
  obtain ⟨o,ho⟩:=frPtr_plain (a:=a) pre
  have hAr:=HX.out _ hb
  have hF2:=HF.out
  rw [hfr] at hF2
  have hc:=frPtr_cell hAr hF2
  rw [ho] at hc ⊢
  have HHO:=zh ho;have HFR:=zh hfr;have HB:=zh hb;have HKP:=zh hkp;have HAR:=zh hAr
  have tj:=thr_iff.1 (hF2.thr j (by simp))
  by_cases hjk:j=(k:Int)
  ·subst hjk
   have hfne:o≠544+k/\(pre=[]->o=576)/\(pre≠[]->o=544+(pre.getLastD 0).toNat):=by
    have hdd:=HD.out
    rw [hfr] at hdd
    cases pre with
    | nil => cases ho;exact ⟨by omega,fun _ => rfl,fun e => absurd rfl e⟩
    | cons q t =>
     have e1:544+((q :: t).getLastD 0).toNat=o:=congrArg Addr.off ho
     have hm:(q :: t).getLastD 0 ∈ q :: t:=by
      rw [List.getLastD_eq_getLast?]
      cases hg:(q :: t).getLast? with
      | none => simp at hg
      | some x => exact List.mem_of_getLast? hg
     have ht:=thr_iff.1 (hF2.thr _ (List.mem_append_left _ hm))
     have hne:(q :: t).getLastD 0≠(k:Int):=fun e => (List.nodup_append.1 hdd).2.2 _ hm (k:Int) (by simp) e
     exact ⟨by omega,fun e => (by cases e),fun _ => e1.symm⟩
   obtain ⟨hne,hp1,hp2⟩:=hfne
   have c6:wr.cell? ⟨a,544+k,none⟩=some (.int .i64 vk):=by rw [HAR.out.next hk,HVK.out]
   have f6:wr.frozen? ⟨a,o,none⟩=false:=HAR.out.free _
   have f7:wr.frozen? ⟨a,544+k,none⟩=false:=HAR.out.free _
   have hln:k<nx.length:=by rw [HAR.out.ln];exact hk
   have HR:Hid (∀ V:World,V.heap=((wr.setCell ⟨a,o,none⟩ (.int .i64 vk)).setCell ⟨a,544+k,none⟩ (.int .i64 (-2))).heap->V.os=wr.os->V.tape=wr.tape->V.output=wr.output->ArAt a S (fr.erase (k:Int)) nw V/\Only (fun b => b=a) w V):=fun V hV v1 v2 v3 => by
    have hO:Only (fun b => b=a) w ((wr.setCell ⟨a,o,none⟩ (.int .i64 vk)).setCell ⟨a,544+k,none⟩ (.int .i64 (-2))):=((Only.of_below (F:=fun b => b=a) HB.out).setCell (p:=⟨a,o,none⟩) (fun _ => rfl) _).setCell (p:=⟨a,544+k,none⟩) (fun _ => rfl) _
    refine ⟨?_,⟨v1.trans HB.out.os,v2.trans HB.out.tape,v3.trans HB.out.output,by rw [hV];exact hO.size,fun b hb h => by rw [hV];exact hO.block b hb h⟩⟩
    have hdd:=HD.out
    rw [hfr] at hdd
    have her:fr.erase (k:Int)=pre ++ post':=by
     rw [hfr,List.erase_append_right _ (fun e => (List.nodup_append.1 hdd).2.2 _ e (k:Int) (by simp) rfl)];simp
    obtain ⟨g1,g2⟩:=FrL.cut HAR.out.ln HI.out hF2 hdd
    rw [Int.toNat_natCast] at g1 g2
    rw [her]
    have hnd:(pre ++ post').Nodup:=(nodup_mid hdd).2.2.1
    have hnot:∀ j,Fr.thr j=true->j ∉ pre ++ post'->j≠(k:Int)->nx.getD j.toNat 0 = -2:=fun j hj h1 h2 => HT.out j hj (fun e => by
     rw [hfr] at e
     rcases List.mem_append.1 e with e | e
     ·exact h1 (List.mem_append_left _ e)
     ·rcases List.mem_cons.1 e with e | e
      ·exact h2 e
      ·exact h1 (List.mem_append_right _ e))
    by_cases hpre:pre=[]
    ·have hA2:=(HAR.out.setF vk).setN hk (-2)
     have ho6:=hp1 hpre
     rw [ho6] at hV
     refine ⟨⟨_,_,⟨by rw [hV];exact hA2.row,hA2.ls,hA2.ln⟩,?_,fun j hj hjn => ?_⟩,hnd⟩
     ·rw [hpre,HVK.out];exact g1 hpre
     ·have hj0:=thr_iff.1 hj
      rw [getD_set nx k j.toNat (-2) hln]
      split
      ·rfl
      ·rename_i e;exact hnot j hj hjn (fun e2 => e (by rw [e2];rfl))
    ·have ho6:=hp2 hpre
     obtain ⟨L,hL⟩:∃ L,L=pre.getLastD 0:=⟨_,rfl⟩
     have hLm:L ∈ pre:=by
      rw [hL,List.getLastD_eq_getLast?]
      cases hg:pre.getLast? with
      | none => exact absurd (List.getLast?_eq_none_iff.1 hg) hpre
      | some x => exact List.mem_of_getLast? hg
     have tL:=thr_iff.1 (hF2.thr L (List.mem_append_left _ hLm))
     rw [<- hL] at ho6 g2
     have hA2:=(HAR.out.setN (k:=L.toNat) (by omega) vk).setN hk (-2)
     rw [ho6] at hV
     refine ⟨⟨_,_,⟨by rw [hV];exact hA2.row,hA2.ls,hA2.ln⟩,?_,fun j hj hjn => ?_⟩,hnd⟩
     ·rw [HVK.out];exact g2 hpre
     ·have hj0:=thr_iff.1 hj
      rw [getD_set _ k j.toNat (-2) (by rw [List.length_set];exact hln)]
      split
      ·rfl
      ·rename_i e
       rw [getD_set _ _ _ _ (by rw [HAR.out.ln];omega)]
       split
       ·rename_i e2
        exact absurd (show j ∈ pre ++ post' by rw [show j=L by omega];exact List.mem_append_left _ hLm) hjn
       ·exact hnot j hj hjn (fun e3 => e (by rw [e3];rfl))
   clear hfr hkp hb hAr hF2 ho hp1 hp2 tj hln
   go_wp2_with fail
   go_region
   go_wp2
   go_ret
   exact ⟨rfl,HR.out _ rfl rfl rfl rfl⟩
  ·have n1:(j != (k:Int))=true:=by rw [bne_iff_ne];exact hjk
   obtain ⟨m,rfl⟩:=Int.eq_ofNat_of_zero_le tj.1
   have m32:(m:Int)<32:=tj.2
   have hkp2:(k:Int) ∈ post':=by
    rcases List.mem_cons.1 hkp with e | e
    ·exact absurd e.symm hjk
    ·exact e
   have HK2:=zh hkp2
   clear hfr hkp hb hAr hF2 ho hjk tj hkp2
   go_wp2_with fail
   go_quiet (fail)
   go_wp2_with fail
   go_roundg post'.length
   case rel => exact ⟨pre ++ [(m:Int)],post',by rw [HFR.out];simp,HK2.out,by rw [frPtr_step,Int.toNat_natCast],rfl,Ut.below_drewN HB.out _⟩
   case measure => simp
end
end Fr
end
section
open Go.RowKit Go.Maps
namespace Fr
open Vw (Sess)
section
variable {a:Nat} {S:List Slt} {fr:List Int} {nw:Nat} {w:World}
theorem aget_ok (h:ArAt a S fr nw w) (i:Int) (hi:thr i=true) :
  Calls Tryz.prog 46 #[.pointer (some ⟨a,0,none⟩),.int .i64 i] w fun e w' => e = .returned (.tuple #[.agg (sl S i).cells.toArray,.nilIface])/\Below w.heap.size w w':=by
 obtain ⟨⟨nx,fi,h1,h2,h3⟩,h4⟩:=h
 exact get_ok h1 i hi
theorem aput_ok (h:ArAt a S fr nw w) (hw:nw+1<=4611686018427387904) (i:Int) (hi:thr i=true) (x:Slt) :
  Calls Tryz.prog 107 #[.pointer (some ⟨a,0,none⟩),.int .i64 i,.agg x.cells.toArray] w fun e w' => e = .returned .nilIface/\ArAt a (put S i x) fr (nw+1) w'/\Only (fun b => b=a) w w':=by
 obtain ⟨⟨nx,fi,h1,h2,h3⟩,h4⟩:=h
 refine (put_ok h1 hw i hi x).mono ?_
 rintro e w' ⟨rfl,k1,k2⟩
 exact ⟨rfl,⟨⟨nx,fi,k1,h2,h3⟩,h4⟩,k2⟩
theorem apush_ok (h:ArAt a S fr nw w) (hw:nw+3<=4611686018427387904) (last i:Int) (hc:canPush S last i=true) :
  Calls Tryz.prog 183 #[.pointer (some ⟨a,0,none⟩),.int .i64 last,.int .i64 i] w fun e w' => e = .returned (.tuple #[.int .i64 i,.nilIface])/\(∃ nw',nw<=nw'/\nw'<=nw+3/\ArAt a (pushS S last i) fr nw' w')/\Only (fun b => b=a) w w':=by
 obtain ⟨⟨nx,fi,h1,h2,h3⟩,h4⟩:=h
 refine (push_ok h1 hw last i hc).mono ?_
 rintro e w' ⟨rfl,⟨n',k0,k1,k2⟩,k3⟩
 exact ⟨rfl,⟨n',k0,k1,⟨⟨nx,fi,k2,h2,h3⟩,h4⟩⟩,k3⟩
theorem adrop_ok (h:ArAt a S fr nw w) (hw:nw+3<=4611686018427387904) (last i:Int) (hc:canDrop S last i=true) :
  Calls Tryz.prog 226 #[.pointer (some ⟨a,0,none⟩),.int .i64 last,.int .i64 i] w fun e w' => e = .returned (.tuple #[.int .i64 (dropL S last i),.nilIface])/\(∃ nw',nw<=nw'/\nw'<=nw+3/\ArAt a (dropS S i) fr nw' w')/\Only (fun b => b=a) w w':=by
 obtain ⟨⟨nx,fi,h1,h2,h3⟩,h4⟩:=h
 refine (drop_ok h1 hw last i hc).mono ?_
 rintro e w' ⟨rfl,⟨n',k0,k1,k2⟩,k3⟩
 exact ⟨rfl,⟨n',k0,k1,⟨⟨nx,fi,k2,h2,h3⟩,h4⟩⟩,k3⟩
theorem asplice_ok (h:ArAt a S fr nw w) (hw:nw+4<=4611686018427387904) (one two:Int) (hc:canSplice S one two=true) :
  Calls Tryz.prog 225 #[.pointer (some ⟨a,0,none⟩),.int .i64 one,.int .i64 two] w fun e w' => e = .returned (.tuple #[.int .i64 two,.nilIface])/\(∃ nw',nw<=nw'/\nw'<=nw+4/\ArAt a (spliceS S one two) fr nw' w')/\Only (fun b => b=a) w w':=by
 obtain ⟨⟨nx,fi,h1,h2,h3⟩,h4⟩:=h
 refine (splice_ok h1 hw one two hc).mono ?_
 rintro e w' ⟨rfl,⟨n',k0,k1,k2⟩,k3⟩
 exact ⟨rfl,⟨n',k0,k1,⟨⟨nx,fi,k2,h2,h3⟩,h4⟩⟩,k3⟩
end
def TrAt (t a:Nat) (r:Int) (w:World):Prop:=w.heap[t]? = some (.cells #[.pointer (some ⟨a,0,none⟩),.int .i64 r] 205 (0,0))
theorem TrAt.lt {t a:Nat} {r:Int} {w:World} (h:TrAt t a r w):t<w.heap.size:=(zx h)
theorem TrAt.keep {t a:Nat} {r:Int} {w w':World} (h:TrAt t a r w) (e:w'.heap[t]? = w.heap[t]?):TrAt t a r w':=e.trans h
theorem TrAt.below {t a:Nat} {r:Int} {w w':World} (h:TrAt t a r w) (hb:Below w.heap.size w w'):TrAt t a r w':=h.keep (hb.block t h.lt)
theorem TrAt.arena {t a:Nat} {r:Int} {w:World} (h:TrAt t a r w):w.cell? ⟨t,0,none⟩=some (.pointer (some ⟨a,0,none⟩)):=zl h rfl
theorem TrAt.last {t a:Nat} {r:Int} {w:World} (h:TrAt t a r w):w.cell? ⟨t,1,none⟩=some (.int .i64 r):=zl h rfl
theorem TrAt.free {t a:Nat} {r:Int} {w:World} (h:TrAt t a r w) (k:Nat):w.frozen? ⟨t,k,none⟩=false:=by unfold World.frozen?;rw [show w.heap[t]? = _ from h];rfl
theorem TrAt.set {t a:Nat} {r:Int} {w:World} (h:TrAt t a r w) (r':Int):TrAt t a r' (w.setCell ⟨t,1,none⟩ (.int .i64 r')):=by
 unfold TrAt
 rw [heap_setCell_same _ _ _ _ _ _ h];rfl
end Fr
end
end Go.Proofs.YtimhglmfckfclaaGreatDoor
