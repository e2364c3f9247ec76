/- Parts of the proof. -/
import Derived.Test.YtimhglmfckfclaaGreatM43
import Derived.Deep.CutBlock
set_option maxRecDepth 100000
set_option maxHeartbeats 16000000
namespace Go.Proofs.YtimhglmfckfclaaGreat
section
open Go.RowKit Go.Maps Go.Shelf
namespace Fr
open Vw (Sess)
open Ex (Ent wo ExpAt)
attribute [local go_sem] Oper.semAt_some
theorem finfo_known':(Tryz.prog.info? 31).map (fun i => (i.zero,i.size,i.bytes))=some (some (.agg #[.int .i64 0,.int .i64 0,.int .i64 0,.int .i64 0,.bool false]),5,40):=by kernel_rfl
theorem zm {α:Type} {a:α} {l:List α} : a ∈ a::l:=List.mem_cons_self ..
variable {w0:World} {lo:Nat} {P:Pa} {st:FS} {nw:Nat} {F:Nat->Prop} {v:Value} {l:List Kn} {xs:List Vr} {W:World}
theorem LawAt.c (h:LawAt w0 lo P st nw F v l xs W) {b:Nat} {cs:Array Value} {t:TypeId} (hx:(b,cs,t) ∈ xs) (k:Nat):W.cell? ⟨b,k,none⟩=cs[k]?:=zc (h.vrs _ hx).1
theorem LawAt.rng (h:LawAt w0 lo P st nw F v l xs W) {b:Nat} {cs:List Value} {t:TypeId} (hx:(b,cs.toArray,t) ∈ xs):W.rangeAt b 0 cs:=fun i u hi => by
 rw [h.c hx];simpa using hi
theorem enb {n m i c:Nat} (h:n<=600000 * i) (h2:m<=n+c) (hc:c<=600000):m<=600000 * (i+1):=by
 rw [Nat.mul_add,Nat.mul_one]
 generalize 600000 * i=x at h ⊢
 exact Nat.le_trans h2 (Nat.add_le_add h hc)
theorem enl {n i:Nat} (h:n<=600000 * i) (hi:i<=200):n<=120000000:=Nat.le_trans h (Nat.mul_le_mul_left 600000 hi)
theorem en0 {n i:Nat} (h:n<=600000 * i):n<=600000 * (i+1):=enb (c:=0) h (Nat.le_refl _) (by decide)
theorem lw {a b:Nat} (h:Hid (a<=b)):a<=b+1:=Nat.le_succ_of_le h
theorem zs_ {W:World} {b j:Nat} {u:Value} (h:W.cell? ⟨b,j,none⟩=some u):W.setCell ⟨b,j,none⟩ u=W:=by
 have e:(W.setCell ⟨b,j,none⟩ u).heap=W.heap:=by
  refine Array.ext (by show (W.heap.modify b _).size=_;rw [Array.size_modify]) (fun k h1 h2 => ?_)
  simp only [World.setCell,Array.getElem_modify]
  by_cases hk:b=k
  ·subst hk
   rw [if_pos rfl]
   unfold World.cell? at h
   rw [Array.getElem?_eq_getElem h2] at h
   cases hc:W.heap[b] with
   | cells c el fr =>
    rw [hc] at h
    have h':c[j]? = some u:=by simpa using h
    obtain ⟨hj,hu⟩:=Array.getElem?_eq_some_iff.1 h'
    have:c.setIfInBounds j u=c:=by
     refine Array.ext (by rw [Array.size_setIfInBounds]) (fun k k1 k2 => ?_)
     by_cases e:j=k
     ·subst e;rw [Array.getElem_setIfInBounds_self,hu]
     ·rw [Array.getElem_setIfInBounds_ne _ e]
    simp [this]
   | _ => rfl
  ·rw [if_neg hk]
 have e2:W.setCell ⟨b,j,none⟩ u={ W with heap:=(W.setCell ⟨b,j,none⟩ u).heap }:=rfl
 rw [e2,e]
theorem LawAt.put {b:Nat} {Z:Array Value} {t:TypeId} (h:LawAt w0 lo P st nw F v l ((b,Z,t) :: xs) W) (k:Nat) (u:Value) (hx:∀ x ∈ xs,x.1≠b):LawAt w0 lo P st nw F v l ((b,Z.setIfInBounds k u,t) :: xs) (W.setCell ⟨b,k,none⟩ u):=by
 obtain ⟨k1,k2,k3,k4⟩:=h.vrs (b,Z,t) zm
 have ho:Only (fun k => k=b) W (W.setCell ⟨b,k,none⟩ u):=(Only.refl (fun k => k=b) W).setCell (p:=⟨b,k,none⟩) (fun _ => rfl) _
 have h1:=(h.sub (ys:=xs) (fun x hx => List.mem_cons_of_mem _ hx)).only ho (fun k hk e => by subst e;have:w0.heap.size<=k:=k4;omega) (fun k hk e => by subst e;exact k2 hk) (fun k hk e => by subst e;exact k3 hk) hx
 refine ⟨h1.fa,h1.row,h1.ap,h1.bel,h1.lo_,fun x hx2 => ?_⟩
 rcases List.mem_cons.1 hx2 with rfl | hx2
 ·exact ⟨heap_setCell_same _ _ _ _ _ _ k1,k2,k3,k4⟩
 ·exact h1.vrs x hx2
theorem born_any {lo:Nat} {P:Pa} {st st2:FS} {A:List Sess} {s:Sess} (hI:IsN st A) (hm:mayS s=true) (hc:bornF st s=some (st2,0)) (hsc:s.scopes<18446744073709551616) (nw:Nat) (F:Nat->Prop) (W:World) (hn:nw<=1099511620000) (h:ForAt lo P st nw F W) :
  Calls Tryz.prog 11 #[.pointer (some ⟨P.f,0,none⟩),.agg s.cells.toArray] W fun e w' => e = .returned .nilIface/\FoTo lo P st2 6 nw F W w':=by
 obtain ⟨hu,hl⟩:=may_size hm
 exact fborn h hI.deep hI.tm.2 (by omega) s (by omega) (by omega) hsc 0 hc
theorem plan_any {lo:Nat} {P:Pa} {st st2:FS} {kind us ub no:Int} {r:Req} {s:Sess} (hp:planF st kind us ub r=some (st2,s,no)) (h1:r.user.size<=65536) (h2:r.label.size<=65536) (nw:Nat) (F:Nat->Prop) (W:World) (hn:nw<=1099511620000) (h:ForAt lo P st nw F W) :
  Calls Tryz.prog 8 #[.pointer (some ⟨P.f,0,none⟩),.int .i64 kind,.agg #[.int .i64 us,.int .i64 ub],.agg #[.string r.user,.string r.label,.int .u64 (r.scopes:Int),.int .i64 r.level,.int .i64 r.life]] W fun e w' => e = .returned (.tuple #[.agg s.cells.toArray,erV no])/\FoTo lo P st2 8 nw F W w' :=
 fplan h (by omega) kind us ub r (by omega) (by omega) s no hp
theorem state_sess (c b:Int) (v:Value) (w:World):(Instr.field 64 (.agg #[.int .i64 c,.int .i64 b,v]) 2).run Tryz.prog w = .ok v w:=by kernel_rfl
theorem zcore (vp:Value) (xs:List Actv) (hxl:(xs.length:Int)<=9223372036854775807) (hx:∀ x ∈ xs,(x.r.user.size<=9223372036854775807/\x.r.label.size<=9223372036854775807/\x.s.user.size<=9223372036854775807/\x.s.label.size<=9223372036854775807)/\x.r.scopes<18446744073709551616) (w:World) (hp:ActIn w vp xs) :
  Calls Tryz.prog 4 #[vp] w fun e w' => e = .returned (.bool true)/\Below w.heap.size w w':=by
 obtain ⟨q0,c0,rfl,-⟩:=id hp
 obtain ⟨i0,hi,hz0,hz1,hz2⟩:=info_parts finfo_known'
 have HPS:=zh (fun (w':World) (hb:Below w.heap.size w w') => hp.below hb)
 have HWK:=zh (lworks_any w)
 have HNW:=zh (fun W => fnew_any W)
 have HX:=zh hx
 clear hp hx
 by_cases hbig:200<xs.length
 ·have b1:(200:Int)<(xs.length:Int):=by omega
  clear hbig
  go_enter Tryz.func4,Tryz.ntmps4
  go_wp2_with fail
  refine HWK.out.mono ?_
  rintro e w1 ⟨rfl,hb1⟩
  have HB1:=zh hb1
  clear hb1
  go_wp2
  go_ret
  exact ⟨rfl,HB1.out⟩
 have b1:(xs.length:Int)<=200:=by omega
 have d1:decide ((200:Int)<(xs.length:Int))=false:=decide_eq_false (by omega)
 have d2:decide (200<xs.length)=false:=decide_eq_false hbig
 clear hbig hxl
 go_enter Tryz.func4,Tryz.ntmps4
 go_wp2_with fail
 refine HWK.out.mono ?_
 rintro e w1 ⟨rfl,hb1⟩
 have HB1:=zh hb1
 clear hb1
 go_wp2_with fail
 refine (HNW.out _).mono ?_
 rintro e w2 ⟨P,F0,rfl,hf2,hb2⟩
 obtain ⟨lo,hlo⟩:∃ lo,lo=w1.heap.size:=⟨_,rfl⟩
 rw [<- hlo] at hf2
 have hL0:LawAt w lo P newF 0 F0 (.slice none 0 0) [] [] w2:=⟨hf2,World.ownsRow_nil _ _ _ _,fun b e => (by cases e),HB1.out.trans (hb2.mono HB1.out.size),by rw [hlo];exact HB1.out.size,fun x hx => (by cases hx)⟩
 have HL0:=zh hL0
 clear hf2 hb2 hlo hL0 HB1
 go_wp2
 go_loopw [4,5,6] (fun a b c wr => ∃ (i:Nat) (st:FS) (A:List Sess) (l:List Kn),i<=xs.length/\c = .int .i64 (i:Int)/\b = .int .i64 st.clock/\SeenK st A l/\l.length<=i/\(∀ s ∈ A,s.scopes<18446744073709551616)/\∃ nw F,nw<=600000 * i/\LawAt w lo P st nw F a l [] wr) (fun _ _ c _ => xs.length-(intOf c).toNat)
 case atStart => exact ⟨0,newF,[],[],by omega,rfl,rfl,seen_new,Nat.le_refl _,fun s hs => (by cases hs),0,F0,Nat.le_refl _,HL0.out⟩
 case round =>
  obtain ⟨i,st,A,l,hil,rfl,rfl,hS,hll,hsc,nw,F,hnw,hL⟩:=hrel
  obtain ⟨qv,rv,rfl,-⟩:=own_shape hL.row
  have c1:(0:Int)<=(i:Int):=by omega
  have c2:(i:Int)<=200:=by omega
  by_cases hc:i<xs.length
  ·have c3:(i:Int)<(xs.length:Int):=by omega
   obtain ⟨qx,cx,ex,hpi⟩:=HPS.out wr hL.bel
   cases ex
   obtain ⟨g0,o0,rfl,hg0,hrx⟩:=hpi i hc
   obtain ⟨x,hxx⟩:∃ x,x=xs[i]:=⟨_,rfl⟩
   rw [<- hxx] at hrx
   obtain ⟨hxb,hxs⟩:=HX.out x (by rw [hxx];exact List.getElem_mem hc)
   obtain ⟨cs,hcs⟩:∃ cs,cs=x.cells:=⟨_,rfl⟩
   rw [<- hcs] at hrx
   have HCL:Hid (cs.length=21):=by show _=_;rw [hcs];rfl
   have HC1:Hid (∀ u ∈ cs,u.oneCell'=true):=by show ∀ _,_;rw [hcs];exact act_one _
   have HRX:=zh hrx
   obtain ⟨now,hnow⟩:∃ now,now=st.clock:=⟨_,rfl⟩
   rw [<- hnow]
   obtain ⟨b7,hb7⟩:∃ b7,b7=wr.heap.size:=⟨_,rfl⟩
   obtain ⟨W7,hW7⟩:∃ W7,W7=wr.alloc (.cells cs.toArray 57):=⟨_,rfl⟩
   have hL7:LawAt w lo P st nw F (.slice qv l.length rv) l [(b7,cs.toArray,57)] W7:=by rw [hW7,hb7];exact hL.alloc _ _
   have HL7:=zh hL7;have HW7:=zh hW7;have HB7:=zh hb7
   have HCS:=zh hcs;have HNOW:=zh hnow;have HSN:=zh hS;have HLL:=zh hll;have HSC:=zh hsc;have HNB:=zh hnw;have HIC:=zh hc;have HXS:=zh hxs
   have HRG7:=zh (hL7.rng zm)
   have HLG:Hid (∀ W,Calls Tryz.prog 18 #[.agg cs.toArray] W fun e w' => e = .returned (.bool (longA x))/\Below W.heap.size W w'):=fun W => by rw [hcs];exact long_any x hxb.1 hxb.2.1 hxb.2.2.1 hxb.2.2.2 W
   clear hil hS hll hsc hnw hL hpi hg0 hrx hxx hcs hnow hb7 hW7 hL7 hxb hxs hc
   go_upto_region 12 with (first
    | (refine wpList_load_mid rfl 57 _ rfl _ _ rfl cs _ HRX.out Tryz.underlying57 rfl (by rw [HCL.out];kernel_rfl) ?_)
    | (refine Ag.wpList_store_new (by rfl) 57 (.tmp 7) (.tmp 35) (by rfl) cs (by rfl) (by rfl) (by rw [HCL.out];kernel_rfl) (by rw [HCL.out];rfl) HC1.out ?_))
   rw [<- HW7.out,<- HB7.out]
   go_wp2_with (refine wpList_load_mid rfl 57 _ rfl _ _ rfl cs _ HRG7.out Tryz.underlying57 rfl (by rw [HCL.out];kernel_rfl) ?_)
   refine (HLG.out _).mono ?_
   rintro e w8 ⟨rfl,hb8⟩
   obtain ⟨lq,hlq⟩:∃ q,q=longA x:=⟨_,rfl⟩
   rw [<- hlq]
   have HL8:=zh (HL7.out.below hb8)
   clear hb8
   cases lq with
   | true =>
    have HB8:=zh HL8.out.bel
    clear hlq
    go_wp2
    go_ret
    exact ⟨rfl,HB8.out⟩
   | false =>
    have HSZ:=zh (longA_no hlq.symm)
    clear hlq
    obtain ⟨KD,hKD⟩:∃ KD,KD=x.kind % (10:Int):=⟨_,rfl⟩
    have hkd:KD=0\/KD=1\/KD=2\/KD=3\/KD=4\/KD=5\/KD=6\/KD=7\/KD=8\/KD=9:=by
     have h1:=Int.emod_nonneg x.kind (show (10:Int)≠0 by decide)
     have h2:=Int.emod_lt_of_pos x.kind (show (0:Int)<10 by decide)
     omega
    obtain ⟨KI,hKI⟩:∃ KI,KI=x.kind:=⟨_,rfl⟩
    obtain ⟨NI,hNI⟩:∃ NI,NI=x.n:=⟨_,rfl⟩
    obtain ⟨LB,hLB⟩:∃ LB,LB=x.lb:=⟨_,rfl⟩
    have x0:w8.cell? ⟨b7,0,none⟩=some (.int .i64 KI):=by rw [HL8.out.c zm,hKI,HCS.out];rfl
    have x1:w8.cell? ⟨b7,1,none⟩=some (.int .i64 NI):=by rw [HL8.out.c zm,hNI,HCS.out];rfl
    have x3:w8.cell? ⟨b7,3,none⟩=some (.int .i64 LB):=by rw [HL8.out.c zm,hLB,HCS.out];rfl
    have HPK2:Hid (∀ W,Calls Tryz.prog 7 #[.int .i64 KI,.int .i64 10] W fun e w' => e = .returned (.int .i64 KD)/\W=w'):=fun W => by
     rw [hKD,hKI];exact Pk.pick_any _ 10 (by decide) (by decide) W
    have HNI:=zh hNI;have HKD:=zh hkd
    have HILE:Hid (i<=200):=by show _<=_;omega
    clear hKD hKI hNI hkd
    go_upto_if 40 with fail
    go_cut [8] from 38 to 46 (fun t8 wc => wc=w8/\∃ at_:Int,t8 = .int .i64 at_/\(at_ = -1/\l.length=0\/∃ pn:Nat,at_=pn/\pn<l.length))
    case first =>
     by_cases hl0:l.length=0
     ·have d3:decide (0<l.length)=false:=decide_eq_false (by omega)
      have d4:(l.length:Int)<=0:=by omega
      have HL0E:=zh hl0
      clear hl0 hLB
      go_wp2_with fail
      go_meet
      case rel => exact ⟨rfl,-1,rfl,.inl ⟨rfl,HL0E.out⟩⟩
     ·have hpos:0<l.length:=by omega
      obtain ⟨pn,hpn⟩:∃ pn:Nat,LB % (l.length:Int)=pn:=⟨(LB % (l.length:Int)).toNat,by have:=Int.emod_nonneg LB (show (l.length:Int)≠0 by omega);omega⟩
      have hpl:pn<l.length:=by have:=Int.emod_lt_of_pos LB (show (0:Int)<(l.length:Int) by omega);omega
      have HPK1:Hid (∀ W,Calls Tryz.prog 7 #[.int .i64 LB,.int .i64 (l.length:Int)] W fun e w' => e = .returned (.int .i64 (pn:Int))/\W=w'):=fun W => by
       rw [<- hpn];exact Pk.pick_any _ _ (by omega) (by have:=HLL.out;omega) W
      have d3:decide (0<l.length)=true:=decide_eq_true hpos
      have d4:(0:Int)<(l.length:Int):=by omega
      have HPL:=zh hpl
      clear hl0 hpos hpn hpl hLB
      go_wp2_with (go_at_call 7;(with_reducible refine (HPK1.out _).mono ?_);rintro e w' ⟨rfl,rfl⟩)
      go_meet
      case rel => exact ⟨rfl,pn,rfl,.inr ⟨pn,rfl,HPL.out⟩⟩
    case rest =>
     obtain ⟨hwq,at_,rfl,hat⟩:=hcut
     subst hwq
     obtain ⟨w8,rfl⟩:∃ x:World,x=wc:=⟨_,rfl⟩
     have HAT:=zh hat
     clear hat hLB x3
     go_upto_block 2 with (go_at_call 7;(with_reducible refine (HPK2.out _).mono ?_);rintro e w' ⟨rfl,rfl⟩)
     go_cut [4,5] from 47 to 181 (fun a b wc => ∃ (st':FS) (A':List Sess) (l':List Kn),b = .int .i64 st'.clock/\SeenK st' A' l'/\l'.length<=i+1/\(∀ s ∈ A',s.scopes<18446744073709551616)/\∃ n' F',n'<=600000 * (i+1)/\LawAt w lo P st' n' F' a l' [] wc)
     case first =>
      go_step
      go_step
      go_cut [50] from 51 to 54 (fun t50 wc => t50 = .bool (decide (KD<4))/\wc=w8)
      case first =>
       rcases HKD.out with rfl | rfl | rfl | rfl | rfl | rfl | rfl | rfl | rfl | rfl
       all_goals (go_wp2_with fail;go_meet)
       all_goals exact ⟨rfl,rfl⟩
      case rest =>
       obtain ⟨rfl,hwq⟩:=hcut
       subst hwq
       obtain ⟨w8,rfl⟩:∃ x:World,x=wc:=⟨_,rfl⟩
       by_cases h4:KD<4
       ·rw [decide_eq_true h4]
        clear h4
        obtain ⟨kd,hkdq⟩:∃ kd,kd=NI % (3:Int):=⟨_,rfl⟩
        have hk3:0<=kd/\kd<=2:=by
         have h1:=Int.emod_nonneg NI (show (3:Int)≠0 by decide)
         have h2:=Int.emod_lt_of_pos NI (show (0:Int)<3 by decide)
         omega
        have HPK3:Hid (∀ W,Calls Tryz.prog 7 #[.int .i64 NI,.int .i64 3] W fun e w' => e = .returned (.int .i64 kd)/\W=w'):=fun W => by
         rw [hkdq];exact Pk.pick_any _ 3 (by decide) (by decide) W
        have HK3:=zh hk3
        clear hkdq hk3
        obtain ⟨b10,hb10⟩:∃ b,b=w8.heap.size:=⟨_,rfl⟩
        obtain ⟨W10,hW10⟩:∃ W,W=w8.alloc (.cells #[.int .i64 0,.int .i64 0] 28):=⟨_,rfl⟩
        have hne:b7≠b10:=by rw [hb10];exact Nat.ne_of_lt (Array.getElem?_eq_some_iff.1 (HL8.out.vrs (b7,cs.toArray,57) zm).1).1
        have hL10:LawAt w lo P st nw F (.slice qv l.length rv) l [(b10,#[.int .i64 0,.int .i64 0],28),(b7,cs.toArray,57)] W10:=by rw [hW10,hb10];exact HL8.out.alloc _ _
        have HL10:=zh hL10;have HB10:=zh hb10;have HW10:=zh hW10;have HNE:=zh hne
        clear hL10 hb10 hW10 hne
        go_upto_region 23 with (go_at_call 7;(with_reducible refine (HPK3.out _).mono ?_);rintro e w' ⟨rfl,rfl⟩)
        go_cut [10] from 58 to 58 (fun t wc => t = .pointer (some ⟨b10,0,none⟩)/\wc=W10)
        case first =>
         go_wp2_with fail
         go_meet
         case rel => exact ⟨by rw [HB10.out],HW10.out.symm⟩
        case rest =>
         obtain ⟨rfl,hwq⟩:=hcut
         subst hwq
         obtain ⟨W10,rfl⟩:∃ x:World,x=wc:=⟨_,rfl⟩
         go_step
         go_step
         go_cut [] from 59 to 69 (fun wc => ∃ us ub:Int,((at_<0\/kd=0)/\us=0/\ub=0\/kd≠0/\∃ j:Nat,at_=j/\j<l.length/\us=(kat l j).slot/\ub=(kat l j).birth)/\LawAt w lo P st nw F (.slice qv l.length rv) l [(b10,#[.int .i64 us,.int .i64 ub],28),(b7,cs.toArray,57)] wc)
         case first =>
          rcases HAT.out with ⟨rfl,hl0⟩ | ⟨pn,rfl,hpl⟩
          ·clear hl0
           go_wp2_with fail
           go_meet
           case rel => exact ⟨0,0,.inl ⟨.inl (by decide),rfl,rfl⟩,HL10.out⟩
          ·have c5:(0:Int)<=(pn:Int):=by omega
           have c6:(pn:Int)<(l.length:Int):=by omega
           by_cases hk0:kd=0
           ·subst hk0
            clear hpl
            go_wp2_with fail
            go_meet
            case rel => exact ⟨0,0,.inl ⟨.inr (by first | rfl | trivial),(by first | rfl | trivial),(by first | rfl | trivial)⟩,HL10.out⟩
           ·have e1:(kd == 0)=false:=by simpa using hk0
            have e2:(kd != 0)=true:=by simpa using hk0
            obtain ⟨g,o,rfl,hg,x5,x6,-,-,-⟩:=HL10.out.in_.at hpl
            obtain ⟨us,hus⟩:∃ us,us=(kat l pn).slot:=⟨_,rfl⟩
            obtain ⟨ub,hub⟩:∃ ub,ub=(kat l pn).birth:=⟨_,rfl⟩
            rw [<- hus] at x5;rw [<- hub] at x6
            obtain ⟨W11,hW11⟩:∃ W11,W11=World.setCells W10 b10 0 [.int .i64 us,.int .i64 ub]:=⟨_,rfl⟩
            have HL11:Hid (LawAt w lo P st nw F (.slice (some ⟨g,o,none⟩) l.length rv) l [(b10,#[.int .i64 us,.int .i64 ub],28),(b7,cs.toArray,57)] W11):=by
             show LawAt _ _ _ _ _ _ _ _ _ _
             rw [hW11];exact HL10.out.set _ rfl (fun x hx => by simp only [List.mem_singleton] at hx;subst hx;exact HNE.out)
            have HTH:Hid (W10.there b10 0 2):=Ag.there_row (HL10.out.vrs _ zm).1 _ (by show 2<=2;decide)
            have HOL:Hid (∀ u ∈ [Value.int .i64 us,Value.int .i64 ub],u.oneCell'=true):=by
             intro u hu
             simp only [List.mem_cons,List.not_mem_nil,or_false] at hu
             rcases hu with rfl | rfl <;> rfl
            have HW11:=zh hW11;have HK0:=zh hk0;have HPL:=zh hpl;have HUS:=zh hus;have HUB:=zh hub
            clear hg hus hub hW11 hk0 hpl
            go_wp2_with (refine wpList_store_mid (by rfl) 28 (.tmp 10) (.tmp 69) (by rfl) b10 0 #[.int .i64 us,.int .i64 ub] (by rfl) (by rfl) HTH.out (by kernel_rfl) (all_oneCell_toArray HOL.out) ?_;rw [List.toList_toArray,<- HW11.out])
            go_meet
            case rel => exact ⟨us,ub,.inr ⟨HK0.out,pn,rfl,HPL.out,HUS.out,HUB.out⟩,HL11.out⟩
         case rest =>
          obtain ⟨us,ub,hu,hL11⟩:=hcut
          obtain ⟨w11,rfl⟩:∃ x:World,x=wc:=⟨_,rfl⟩
          have HL11:=zh hL11;have HU:=zh hu
          clear hL11 hu
          obtain ⟨AL,hAL⟩:∃ AL,AL=A.length:=⟨_,rfl⟩
          have HCNT:Hid (Calls Tryz.prog 15 #[.slice qv l.length rv,.int .i64 now] w11 fun e w' => e = .returned (.int .i64 (AL:Int))/\Below w11.heap.size w11 w'):=by
           have:=lcount_any l HSN.out.ups (by have:=HLL.out;have:=HILE.out;omega) _ st.clock w11 HL11.out.in_
           rw [HSN.out.count,<- hAL,<- HNOW.out] at this
           exact this
          have HAL:=zh hAL
          clear hAL
          go_wp2_with fail
          refine HCNT.out.mono ?_
          rintro e w12 ⟨rfl,hb12⟩
          have HL12:=zh (HL11.out.below hb12)
          clear hb12
          obtain ⟨ru,hru⟩:∃ ru,ru=x.r.user:=⟨_,rfl⟩
          obtain ⟨rl,hrl⟩:∃ rl,rl=x.r.label:=⟨_,rfl⟩
          obtain ⟨rs,hrs⟩:∃ rs:Int,rs=(x.r.scopes:Int):=⟨_,rfl⟩
          obtain ⟨re,hre⟩:∃ re,re=x.r.level:=⟨_,rfl⟩
          obtain ⟨rf,hrf⟩:∃ rf,rf=x.r.life:=⟨_,rfl⟩
          have y0:w12.cell? ⟨b10,0,none⟩=some (.int .i64 us):=by rw [HL12.out.c zm];rfl
          have y1:w12.cell? ⟨b10,1,none⟩=some (.int .i64 ub):=by rw [HL12.out.c zm];rfl
          have y4:w12.cell? ⟨b7,4,none⟩=some (.string ru):=by rw [HL12.out.c (List.mem_cons_of_mem _ zm),HCS.out,hru];rfl
          have y5:w12.cell? ⟨b7,5,none⟩=some (.string rl):=by rw [HL12.out.c (List.mem_cons_of_mem _ zm),HCS.out,hrl];rfl
          have y6:w12.cell? ⟨b7,6,none⟩=some (.int .u64 rs):=by rw [HL12.out.c (List.mem_cons_of_mem _ zm),HCS.out,hrs];rfl
          have y7:w12.cell? ⟨b7,7,none⟩=some (.int .i64 re):=by rw [HL12.out.c (List.mem_cons_of_mem _ zm),HCS.out,hre];rfl
          have y8:w12.cell? ⟨b7,8,none⟩=some (.int .i64 rf):=by rw [HL12.out.c (List.mem_cons_of_mem _ zm),HCS.out,hrf];rfl
          rcases HSN.out.plan (kind:=kd) (us:=us) (ub:=ub) (r:=x.r) (at_:=at_) HK3.out HU.out with ⟨no,h1,h2,h3,h4,h5⟩ | ⟨st',s,st2,h1,h2,h3,h4,h5,h6,h7,h8,h9⟩
          ·as_aux_lemma =>
            obtain ⟨cz,hcz⟩:∃ cz,cz=s0.cells:=⟨_,rfl⟩
            have HDL:Hid (cz.length=12):=by show _=_;rw [hcz];rfl
            have HD1:Hid (∀ u ∈ cz,u.oneCell'=true):=by show ∀ _,_;rw [hcz];exact sess_one _
            have HPL:Hid (Calls Tryz.prog 8 #[.pointer (some ⟨P.f,0,none⟩),.int .i64 kd,.agg #[.int .i64 us,.int .i64 ub],.agg #[.string ru,.string rl,.int .u64 rs,.int .i64 re,.int .i64 rf]] w12 fun e w' => e = .returned (.tuple #[.agg cz.toArray,.iface 83 (.int .i64 no)])/\FoTo lo P st 8 nw F w12 w'):=by
             have:=plan_any h2 HSZ.out.1 HSZ.out.2.1 nw F w12 (by have:=enl HNB.out HILE.out;omega) HL12.out.fa
             rw [show erV no = .iface 83 (.int .i64 no) from if_neg h1] at this
             rw [hcz,hru,hrl,hrs,hre,hrf]
             exact this
            have HNO:=zh (And.intro h4 h5)
            have HFUL:Hid (no=19->32<=AL):=fun e => by rw [HAL.out];exact h3 e
            clear h1 h2 h3 h4 h5 hcz hru hrl hrs hre hrf
            go_upto_region 28 with (first
             | (go_at_call 8;refine HPL.out.mono ?_;rintro e w13 ⟨rfl,h13⟩;obtain ⟨n13,F13,a13,-,hL13⟩:=HL12.out.to h13;(have HL13:=zh hL13);(have HA13:=zh a13);clear h13 hL13 a13)
             | (refine Ag.wpList_store_new (by rfl) 35 (.tmp 12) (.tmp 80) (by rfl) cz (by rfl) (by rfl) (by rw [HDL.out];kernel_rfl) (by rw [HDL.out];rfl) HD1.out ?_))
            have HL14:=zh (HL13.out.alloc cz.toArray 35)
            generalize World.alloc w13 (.cells cz.toArray 35)=w14 at HL14 ⊢
            clear y0 y1 y4 y5 y6 y7 y8
            by_cases h19:no=19
            ·have c19:(32:Int)<=(AL:Int):=by have:=HFUL.out h19;omega
             have e19:(no == 19)=true:=by simpa using h19
             clear h19
             go_wp2_with (go_at_call 10;refine (num_errno no HNO.out.1 HNO.out.2 _).mono ?_;rintro e w' ⟨rfl,rfl⟩)
             go_meet
             case rel => exact ⟨st,A,l,by rw [HNOW.out],HSN.out,lw HLL,HSC.out,n13,F13,enb HNB.out HA13.out (by decide),HL14.out.sub (by simp)⟩
            ·have e19:(no == 19)=false:=by simpa using h19
             clear h19
             go_wp2_with (go_at_call 10;refine (num_errno no HNO.out.1 HNO.out.2 _).mono ?_;rintro e w' ⟨rfl,rfl⟩)
             go_meet
             case rel => exact ⟨st,A,l,by rw [HNOW.out],HSN.out,lw HLL,HSC.out,n13,F13,enb HNB.out HA13.out (by decide),HL14.out.sub (by simp)⟩
          ·as_aux_lemma =>
            have hzsc:s.scopes<18446744073709551616:=by
             rcases h8 with h8 | ⟨p,hp,h8⟩
             ·rw [h8];exact HXS.out
             ·rw [h8];exact HSC.out p hp
            have HSC2:Hid (∀ q ∈ A ++ [s],q.scopes<18446744073709551616):=fun q hq => by
             rcases List.mem_append.1 hq with hq | hq
             ·exact HSC.out q hq
             ·rw [List.mem_singleton.1 hq];exact hzsc
            obtain ⟨cz,hcz⟩:∃ cz,cz=s.cells:=⟨_,rfl⟩
            have HDL:Hid (cz.length=12):=by show _=_;rw [hcz];rfl
            have HD1:Hid (∀ u ∈ cz,u.oneCell'=true):=by show ∀ _,_;rw [hcz];exact sess_one _
            have HPL:Hid (Calls Tryz.prog 8 #[.pointer (some ⟨P.f,0,none⟩),.int .i64 kd,.agg #[.int .i64 us,.int .i64 ub],.agg #[.string ru,.string rl,.int .u64 rs,.int .i64 re,.int .i64 rf]] w12 fun e w' => e = .returned (.tuple #[.agg cz.toArray,.nilIface])/\FoTo lo P st' 8 nw F w12 w'):=by
             have:=plan_any h1 HSZ.out.1 HSZ.out.2.1 nw F w12 (by have:=enl HNB.out HILE.out;omega) HL12.out.fa
             rw [show erV 0 = .nilIface from if_pos rfl] at this
             rw [hcz,hru,hrl,hrs,hre,hrf]
             exact this
            obtain ⟨sl0,hsl0⟩:∃ q,q=s.slot:=⟨_,rfl⟩
            obtain ⟨bi0,hbi0⟩:∃ q,q=s.birth:=⟨_,rfl⟩
            obtain ⟨dl0,hdl0⟩:∃ q,q=s.dl:=⟨_,rfl⟩
            have HC0:Hid (cz.toArray[0]? = some (.int .i64 sl0)):=by show _=_;rw [hcz,hsl0];rfl
            have HCB:Hid (cz.toArray[1]? = some (.int .i64 bi0)):=by show _=_;rw [hcz,hbi0];rfl
            have HCD:Hid (cz.toArray[10]? = some (.int .i64 dl0)):=by show _=_;rw [hcz,hdl0];rfl
            have HBRN:Hid (∀ n F W,n<=1099511620000->ForAt lo P st' n F W->Calls Tryz.prog 11 #[.pointer (some ⟨P.f,0,none⟩),.agg cz.toArray] W fun e w' => e = .returned .nilIface/\FoTo lo P st2 6 n F W w'):=fun n F W hn h => by
             rw [hcz];exact born_any h9.1 h7 h3 hzsc n F W hn h
            have cal:(AL:Int)<32:=by rw [HAL.out];omega
            have HSN2:Hid (SeenK st2 (A ++ [s]) (l ++ [⟨sl0,bi0,if kd=0 then -1 else at_,dl0,false⟩])):=by show SeenK _ _ _;rw [hsl0,hbi0,hdl0];exact h5
            have HN2:Hid (st2.clock=now):=h6.trans HNOW.out.symm
            have HPAR:=zh h4
            clear h1 h2 h3 h4 h5 h6 h7 h8 h9 hcz hru hrl hrs hre hrf hsl0 hbi0 hdl0 hzsc
            go_upto_region 28 with (first
             | (go_at_call 8;refine HPL.out.mono ?_;rintro e w13 ⟨rfl,h13⟩;obtain ⟨n13,F13,a13,-,hL13⟩:=HL12.out.to h13;(have HL13:=zh hL13);(have HA13:=zh a13);clear h13 hL13 a13)
             | (refine Ag.wpList_store_new (by rfl) 35 (.tmp 12) (.tmp 80) (by rfl) cz (by rfl) (by rfl) (by rw [HDL.out];kernel_rfl) (by rw [HDL.out];rfl) HD1.out ?_))
            have HL14:=zh (HL13.out.alloc cz.toArray 35)
            generalize hbs:w13.heap.size=bs at HL14 ⊢
            generalize World.alloc w13 (.cells cz.toArray 35)=w14 at HL14 ⊢
            clear hbs y0 y1 y4 y5 y6 y7 y8
            have HBD:Hid (n13<=1099511620000):=by show _<=_;have:=enl HNB.out HILE.out;have:=HA13.out;omega
            by_cases hk0:kd=0
            ·subst hk0
             obtain ⟨up,hup⟩:∃ up:Int,up = -1:=⟨_,rfl⟩
             have HSN3:Hid (SeenK st2 (A ++ [s]) (l ++ [⟨sl0,bi0,up,dl0,false⟩])):=by
              have:=HSN2.out;rw [if_pos rfl,<- hup] at this;exact this
             have HUP:=zh hup
             clear hup
             go_upto_region 32 with (go_at_call 10;refine (num_nil _).mono ?_;rintro e w' ⟨rfl,rfl⟩)
             go_wp2_with (refine Gd.load_row (by kernel_rfl) 35 (.tmp 12) rfl _ (by rfl) _ _ _ _ (HL14.out.vrs _ zm).1 Tryz.underlying35 rfl (by rw [List.size_toArray,HDL.out];kernel_rfl) ?_)
             refine (HBRN.out _ _ _ HBD.out HL14.out.fa).mono ?_
             rintro e w15 ⟨rfl,h15⟩
             obtain ⟨n15,F15,a15,-,hL15⟩:=HL14.out.to h15
             (have xa15:w15.cell? ⟨bs,0,none⟩=some (.int .i64 sl0):=by rw [hL15.c zm];exact HC0.out)
             (have xb15:w15.cell? ⟨bs,1,none⟩=some (.int .i64 bi0):=by rw [hL15.c zm];exact HCB.out)
             (have xc15:w15.cell? ⟨bs,10,none⟩=some (.int .i64 dl0):=by rw [hL15.c zm];exact HCD.out)
             have HL15:=zh hL15;have HA15:=zh a15
             clear h15 hL15 a15
             go_upto_region 34 with fail
             go_upto_region 35 with fail
             have HL18:Hid (LawAt w lo P st2 n15 F15 (.slice qv l.length rv) l [(w15.heap.size,#[.int .i64 sl0,.int .i64 bi0,.int .i64 (-1),.int .i64 dl0,.bool false],31)] (w15.alloc (.cells #[.int .i64 sl0,.int .i64 bi0,.int .i64 (-1),.int .i64 dl0,.bool false] 31))):=(HL15.out.sub (ys:=[]) (fun x hx => (by cases hx))).alloc _ _
             generalize hb15:w15.heap.size=b15 at HL18 ⊢
             generalize World.alloc w15 (.cells #[.int .i64 sl0,.int .i64 bi0,.int .i64 (-1),.int .i64 dl0,.bool false] 31)=w18 at HL18 ⊢
             clear hb15 xa15 xb15 xc15
             obtain ⟨kn,hkn⟩:∃ k:Kn,k=⟨sl0,bi0,up,dl0,false⟩:=⟨_,rfl⟩
             have HSNK:Hid (SeenK st2 (A ++ [s]) (l ++ [kn])):=by show SeenK _ _ _;rw [hkn];exact HSN3.out
             obtain ⟨ks,hks⟩:∃ ks:List Value,ks=[.int .i64 sl0,.int .i64 bi0,.int .i64 up,.int .i64 dl0,.bool false]:=⟨_,rfl⟩
             have HKS:=zh hks
             have HKQ:Hid (ks=kn.cells):=by show _=_;rw [hks,hkn];rfl
             have HKL:Hid (ks.length=5):=by show _=_;rw [hks];rfl
             have HK1:Hid (∀ u ∈ ks,u.oneCell'=true):=by show ∀ _,_;rw [HKQ.out];exact kn_one _
             have HL19:Hid (LawAt w lo P st2 n15 F15 (.slice qv l.length rv) l [(b15,ks.toArray,31)] w18):=by
              show LawAt _ _ _ _ _ _ _ _ _ _
              rw [hks,HUP.out]
              exact HL18.out
             clear hkn hks
             have am1:l.length+1<=maxLen:=by unfold maxLen;have:=HLL.out;have:=HILE.out;omega
             have am3:(l.length+1) * 40<=140737488355328:=by have:=HLL.out;have:=HILE.out;omega
             have k3:w.heap.size<=(w18.alloc (.cells ks.toArray 31)).heap.size:=by have:=HL19.out.bel.size;simp;omega
             go_wp2_with (first
              | (refine Gd.load_row (by kernel_rfl) 31 (.tmp 15) rfl _ (by rfl) _ _ _ _ (HL19.out.vrs _ zm).1 Tryz.underlying31 rfl (by rw [List.size_toArray,HKL.out];kernel_rfl) ?_)
              | (refine Ag.wpList_one (by rfl) 26 31 _ (by rfl) ks (by rfl) i0 _ Tryz.underlying26 hi hz0 (by rw [hz1];exact HKL.out) (by rw [hz1];decide) (by rw [hz1];decide) ?_)
              | (at_builtin;(refine wpList_append_own_at _ rfl _ _ 26 rfl w.heap.size 31 i0 (.agg #[.int .i64 0,.int .i64 0,.int .i64 0,.int .i64 0,.bool false]) 5 40 Tryz.underlying26 hi hz0 hz1 hz2 rfl (by decide) _ _ _ rfl (HL19.out.row.alloc _) ⟨w18.heap.size,0,none⟩ 1 1 ks rfl HKL.out (World.news_of_block (Ut.alloc_at _ _)) HK1.out am1 am3 k3 ?_);(intro v1 w1 hown' hgrow hnil hat;(have HN:=zh (HL19.out.push (k:=kn) (by rw [<- HKQ.out];exact hown') hgrow hat));clear hown' hgrow hat hnil)))
             go_meet
             case rel => exact ⟨st2,A ++ [s],l ++ [kn],by rw [HN2.out],HSNK.out,by rw [List.length_append,List.length_singleton];have:=HLL.out;omega,HSC2.out,n15,F15,enb (c:=14) HNB.out (by have:=HA13.out;have:=HA15.out;omega) (by decide),HN.out.sub (by simp)⟩
            ·obtain ⟨j,rfl,hj,hlj⟩:=HPAR.out hk0
             have e1:(kd == 0)=false:=by simpa using hk0
             have e2:(kd != 0)=true:=by simpa using hk0
             have c5:(0:Int)<=(j:Int):=by omega
             have c6:(j:Int)<(l.length:Int):=by omega
             obtain ⟨up,hup⟩:∃ up:Int,up=j:=⟨_,rfl⟩
             have HSN3:Hid (SeenK st2 (A ++ [s]) (l ++ [⟨sl0,bi0,up,dl0,false⟩])):=by
              have:=HSN2.out;rw [if_neg hk0,<- hup] at this;exact this
             have HUP:=zh hup
             have HLV:Hid (∀ W,KIn W (.slice qv l.length rv) l->Calls Tryz.prog 19 #[.slice qv l.length rv,.int .i64 j,.int .i64 now] W fun e w' => e = .returned (.bool true)/\Below W.heap.size W w'):=fun W h => by
              have:=llives_any l HSN.out.ups (by have:=HLL.out;have:=HILE.out;omega) _ j hj st.clock W h
              rw [hlj,<- HNOW.out] at this
              exact this
             have HK0:=zh hk0
             clear hup hj hlj hk0
             go_upto_region 32 with (go_at_call 10;refine (num_nil _).mono ?_;rintro e w' ⟨rfl,rfl⟩)
             go_wp2_with (refine Gd.load_row (by kernel_rfl) 35 (.tmp 12) rfl _ (by rfl) _ _ _ _ (HL14.out.vrs _ zm).1 Tryz.underlying35 rfl (by rw [List.size_toArray,HDL.out];kernel_rfl) ?_)
             refine (HBRN.out _ _ _ HBD.out HL14.out.fa).mono ?_
             rintro e w15 ⟨rfl,h15⟩
             obtain ⟨n15,F15,a15,-,hL15⟩:=HL14.out.to h15
             (have xa15:w15.cell? ⟨bs,0,none⟩=some (.int .i64 sl0):=by rw [hL15.c zm];exact HC0.out)
             (have xb15:w15.cell? ⟨bs,1,none⟩=some (.int .i64 bi0):=by rw [hL15.c zm];exact HCB.out)
             (have xc15:w15.cell? ⟨bs,10,none⟩=some (.int .i64 dl0):=by rw [hL15.c zm];exact HCD.out)
             have HL15:=zh hL15;have HA15:=zh a15
             clear h15 hL15 a15
             go_wp2_with fail
             refine (HLV.out _ HL15.out.in_).mono ?_
             rintro e w16 ⟨rfl,hb16⟩
             have HL16:=zh (HL15.out.below hb16)
             clear hb16
             (have xa16:w16.cell? ⟨bs,0,none⟩=some (.int .i64 sl0):=by rw [HL16.out.c zm];exact HC0.out)
             (have xb16:w16.cell? ⟨bs,1,none⟩=some (.int .i64 bi0):=by rw [HL16.out.c zm];exact HCB.out)
             (have xc16:w16.cell? ⟨bs,10,none⟩=some (.int .i64 dl0):=by rw [HL16.out.c zm];exact HCD.out)
             go_upto_region 34 with fail
             go_upto_region 35 with fail
             have HL18:Hid (LawAt w lo P st2 n15 F15 (.slice qv l.length rv) l [(w16.heap.size,#[.int .i64 sl0,.int .i64 bi0,.int .i64 (-1),.int .i64 dl0,.bool false],31)] (w16.alloc (.cells #[.int .i64 sl0,.int .i64 bi0,.int .i64 (-1),.int .i64 dl0,.bool false] 31))):=(HL16.out.sub (ys:=[]) (fun x hx => (by cases hx))).alloc _ _
             generalize hb15:w16.heap.size=b15 at HL18 ⊢
             generalize World.alloc w16 (.cells #[.int .i64 sl0,.int .i64 bi0,.int .i64 (-1),.int .i64 dl0,.bool false] 31)=w18 at HL18 ⊢
             clear hb15 xa15 xb15 xc15 xa16 xb16 xc16
             have z2:w18.cell? ⟨b15,2,none⟩=some (.int .i64 (-1)):=by rw [HL18.out.c zm];rfl
             have z3:w18.frozen? ⟨b15,2,none⟩=false:=by simp [World.frozen?,(HL18.out.vrs _ zm).1]
             go_upto_region 37 with fail
             have HL20:=zh (HL18.out.put 2 (.int .i64 (j:Int)) (fun x hx => (by cases hx)))
             clear z2 z3
             generalize World.setCell w18 ⟨b15,2,none⟩ (.int .i64 (j:Int))=w19 at HL20 ⊢
             obtain ⟨kn,hkn⟩:∃ k:Kn,k=⟨sl0,bi0,up,dl0,false⟩:=⟨_,rfl⟩
             have HSNK:Hid (SeenK st2 (A ++ [s]) (l ++ [kn])):=by show SeenK _ _ _;rw [hkn];exact HSN3.out
             obtain ⟨ks,hks⟩:∃ ks:List Value,ks=[.int .i64 sl0,.int .i64 bi0,.int .i64 up,.int .i64 dl0,.bool false]:=⟨_,rfl⟩
             have HKS:=zh hks
             have HKQ:Hid (ks=kn.cells):=by show _=_;rw [hks,hkn];rfl
             have HKL:Hid (ks.length=5):=by show _=_;rw [hks];rfl
             have HK1:Hid (∀ u ∈ ks,u.oneCell'=true):=by show ∀ _,_;rw [HKQ.out];exact kn_one _
             have HL19:Hid (LawAt w lo P st2 n15 F15 (.slice qv l.length rv) l [(b15,ks.toArray,31)] w19):=by
              show LawAt _ _ _ _ _ _ _ _ _ _
              rw [hks,HUP.out]
              exact HL20.out
             clear hkn hks
             have am1:l.length+1<=maxLen:=by unfold maxLen;have:=HLL.out;have:=HILE.out;omega
             have am3:(l.length+1) * 40<=140737488355328:=by have:=HLL.out;have:=HILE.out;omega
             have k3:w.heap.size<=(w19.alloc (.cells ks.toArray 31)).heap.size:=by have:=HL19.out.bel.size;simp;omega
             go_wp2_with (first
              | (refine Gd.load_row (by kernel_rfl) 31 (.tmp 15) rfl _ (by rfl) _ _ _ _ (HL19.out.vrs _ zm).1 Tryz.underlying31 rfl (by rw [List.size_toArray,HKL.out];kernel_rfl) ?_)
              | (refine Ag.wpList_one (by rfl) 26 31 _ (by rfl) ks (by rfl) i0 _ Tryz.underlying26 hi hz0 (by rw [hz1];exact HKL.out) (by rw [hz1];decide) (by rw [hz1];decide) ?_)
              | (at_builtin;(refine wpList_append_own_at _ rfl _ _ 26 rfl w.heap.size 31 i0 (.agg #[.int .i64 0,.int .i64 0,.int .i64 0,.int .i64 0,.bool false]) 5 40 Tryz.underlying26 hi hz0 hz1 hz2 rfl (by decide) _ _ _ rfl (HL19.out.row.alloc _) ⟨w19.heap.size,0,none⟩ 1 1 ks rfl HKL.out (World.news_of_block (Ut.alloc_at _ _)) HK1.out am1 am3 k3 ?_);(intro v1 w1 hown' hgrow hnil hat;(have HN:=zh (HL19.out.push (k:=kn) (by rw [<- HKQ.out];exact hown') hgrow hat));clear hown' hgrow hat hnil)))
             go_meet
             case rel => exact ⟨st2,A ++ [s],l ++ [kn],by rw [HN2.out],HSNK.out,by rw [List.length_append,List.length_singleton];have:=HLL.out;omega,HSC2.out,n15,F15,enb (c:=14) HNB.out (by have:=HA13.out;have:=HA15.out;omega) (by decide),HN.out.sub (by simp)⟩
       ·rw [decide_eq_false h4]
        obtain rfl | rfl | rfl | rfl | rfl | rfl:KD=4\/KD=5\/KD=6\/KD=7\/KD=8\/KD=9:=by have:=HKD.out;omega
        all_goals clear h4
        ·as_aux_lemma =>
          rcases HAT.out with ⟨rfl,hl0⟩ | ⟨pn,rfl,hpl⟩
          ·clear hl0
           go_wp2_with fail
           go_meet
           case rel => exact ⟨st,A,l,by rw [HNOW.out],HSN.out,lw HLL,HSC.out,nw,F,en0 HNB.out,HL8.out.sub (by simp)⟩
          ·have c5:(0:Int)<=(pn:Int):=by omega
           have c6:(pn:Int)<(l.length:Int):=by omega
           obtain ⟨g,rfl⟩:∃ g,qv=some ⟨g,0,none⟩:=by
            rcases HL8.out.row.2 with ⟨e,h0⟩ | ⟨g,c,cur,e,_⟩
            ·omega
            ·cases e;exact ⟨g,rfl⟩
           obtain ⟨us,hus⟩:∃ us,us=(kat l pn).slot:=⟨_,rfl⟩
           obtain ⟨ub,hub⟩:∃ ub,ub=(kat l pn).birth:=⟨_,rfl⟩
           obtain ⟨e0,he0⟩:∃ e0,e0=(kat l pn).ended:=⟨_,rfl⟩
           have HCELL:Hid (∀ n F st' xs W,LawAt w lo P st' n F (.slice (some ⟨g,0,none⟩) l.length rv) l xs W->W.cell? ⟨g,pn * 5,none⟩=some (.int .i64 us)/\W.cell? ⟨g,pn * 5+1,none⟩=some (.int .i64 ub)/\W.cell? ⟨g,pn * 5+4,none⟩=some (.bool e0)/\W.frozen? ⟨g,pn * 5+4,none⟩=false):=fun n F st' xs W h => by
            obtain ⟨g',o',e,-,y0,y1,-,-,y4⟩:=h.in_.at hpl
            cases e
            rw [hus,hub,he0]
            refine ⟨by simpa using y0,by simpa using y1,by simpa using y4,?_⟩
            rcases h.row.2 with ⟨e,_⟩ | ⟨g2,c2,cur,e,_,e3,_⟩
            ·cases e
            ·cases e;simp [World.frozen?,e3]
           obtain ⟨lv,hlv⟩:∃ lv,lv=liveK l pn st.clock:=⟨_,rfl⟩
           have HLV:Hid (∀ W,KIn W (.slice (some ⟨g,0,none⟩) l.length rv) l->Calls Tryz.prog 19 #[.slice (some ⟨g,0,none⟩) l.length rv,.int .i64 pn,.int .i64 now] W fun e w' => e = .returned (.bool lv)/\Below W.heap.size W w'):=fun W h => by
            rw [hlv,<- HNOW.out]
            exact llives_any l HSN.out.ups (by have:=HLL.out;have:=HILE.out;omega) _ pn hpl now W h
           rcases HSN.out.cut hpl with ⟨h1,h2⟩ | ⟨st2,A2,h1,h2,h3,h4,h5⟩
           ·rw [h1] at hlv
            subst hlv
            rw [<- hus,<- hub] at h2
            have HRV:Hid (∀ W,ForAt lo P st nw F W->Calls Tryz.prog 14 #[.pointer (some ⟨P.f,0,none⟩),.agg #[.int .i64 us,.int .i64 ub]] W fun e w' => e = .returned (.iface 83 (.int .i64 16))/\FoTo lo P st 8 nw F W w'):=fun W h => by
             have:=frevoke h (by have:=enl HNB.out HILE.out;omega) us ub 16 h2
             rw [show erV 16 = .iface 83 (.int .i64 16) from if_neg (by decide)] at this
             exact this
            clear h1 h2 hus hub he0 hpl
            go_wp2_with fail
            refine (HLV.out _ HL8.out.in_).mono ?_
            rintro e w9 ⟨rfl,hb9⟩
            have HL9:=zh (HL8.out.below hb9)
            clear hb9
            obtain ⟨x5,x6,-,-⟩:=HCELL.out _ _ _ _ _ HL9.out
            go_wp2_with fail
            refine (HRV.out _ HL9.out.fa).mono ?_
            rintro e w10 ⟨rfl,h10⟩
            obtain ⟨n10,F10,a10,-,hL10⟩:=HL9.out.to h10
            have HL10:=zh hL10;have HA10:=zh a10
            clear h10 hL10 a10 x5 x6
            obtain ⟨-,-,x7,x8⟩:=HCELL.out _ _ _ _ _ HL10.out
            cases e0
            all_goals
             go_wp2_with fail
             rw [zs_ x7]
             go_meet
             case rel => exact ⟨st,A,l,by rw [HNOW.out],HSN.out,lw HLL,HSC.out,n10,F10,enb HNB.out HA10.out (by decide),HL10.out.sub (by simp)⟩
           ·rw [h1] at hlv
            subst hlv
            rw [<- hus,<- hub] at h2
            have HRV:Hid (∀ W,ForAt lo P st nw F W->Calls Tryz.prog 14 #[.pointer (some ⟨P.f,0,none⟩),.agg #[.int .i64 us,.int .i64 ub]] W fun e w' => e = .returned .nilIface/\FoTo lo P st2 8 nw F W w'):=fun W h => by
             have:=frevoke h (by have:=enl HNB.out HILE.out;omega) us ub 0 h2
             rw [show erV 0 = .nilIface from if_pos rfl] at this
             exact this
            have HPL:=zh hpl;have HS2:=zh h3;have HN2:Hid (st2.clock=now):=h4.trans HNOW.out.symm
            have HSC2:Hid (∀ s ∈ A2,s.scopes<18446744073709551616):=fun s hs => HSC.out s (h5 s hs)
            clear h1 h2 h3 h4 h5 hus hub he0 hpl
            go_wp2_with fail
            refine (HLV.out _ HL8.out.in_).mono ?_
            rintro e w9 ⟨rfl,hb9⟩
            have HL9:=zh (HL8.out.below hb9)
            clear hb9
            obtain ⟨x5,x6,-,-⟩:=HCELL.out _ _ _ _ _ HL9.out
            go_wp2_with fail
            refine (HRV.out _ HL9.out.fa).mono ?_
            rintro e w10 ⟨rfl,h10⟩
            obtain ⟨n10,F10,a10,-,hL10⟩:=HL9.out.to h10
            have HL10:=zh hL10;have HA10:=zh a10
            clear h10 hL10 a10 x5 x6
            obtain ⟨-,-,x7,x8⟩:=HCELL.out _ _ _ _ _ HL10.out
            cases e0
            all_goals
             go_wp2_with fail
             have HL11:=zh (HL10.out.ended HPL.out)
             go_meet
             case rel => exact ⟨st2,A2,endK l pn,by rw [HN2.out],HS2.out,by have:=HLL.out;rw [endK_len];omega,HSC2.out,n10,F10,enb HNB.out HA10.out (by decide),HL11.out.sub (by simp)⟩
        ·as_aux_lemma =>
          rcases HSN.out.time NI with h12 | ⟨st2,A2,hs1,hs2,hs3,hr1,hr2,hr3,hA2⟩
          ·have HTK:Hid (Calls Tryz.prog 20 #[.pointer (some ⟨P.f,0,none⟩),.int .i64 NI] w8 fun e w' => e = .returned (.iface 83 (.int .i64 12))/\FoTo lo P st (8 * 32) nw F w8 w'):=by
            have:=ftick HL8.out.fa (by have:=enl HNB.out HILE.out;omega) NI 12 h12
            rw [show erV 12 = .iface 83 (.int .i64 12) from if_neg (by decide)] at this
            exact this
           clear h12
           go_wp2_with fail
           refine HTK.out.mono ?_
           rintro e w9 ⟨rfl,h9⟩
           obtain ⟨n9,F9,a9,-,hL9⟩:=HL8.out.to h9
           have HL9:=zh hL9;have HA9:=zh a9
           clear h9 hL9 a9
           go_wp2_with fail
           go_meet
           case rel => exact ⟨st,A,l,by rw [HNOW.out],HSN.out,lw HLL,HSC.out,n9,F9,enb HNB.out HA9.out (by decide),HL9.out.sub (by simp)⟩
          ·have HTK:Hid (Calls Tryz.prog 20 #[.pointer (some ⟨P.f,0,none⟩),.int .i64 NI] w8 fun e w' => e = .returned .nilIface/\FoTo lo P st2 (8 * 32) nw F w8 w'):=by
            have:=ftick HL8.out.fa (by have:=enl HNB.out HILE.out;omega) NI 0 hs1
            rw [show erV 0 = .nilIface from if_pos rfl] at this
            exact this
           have hts:=tm_iff.1 hr3
           have hwr:IntKind.i64.wrap (now+NI)=now+NI:=by have:=HNOW.out;exact IntWalk.i64_in _ (by omega)
           have HS2:=zh hs2;have HN2:Hid (st2.clock=now+NI):=by show _=_;rw [hs3,HNOW.out]
           have HSC2:Hid (∀ s ∈ A2,s.scopes<18446744073709551616):=fun s hs => HSC.out s ((hA2 s).1 hs).1
           clear hs1 hs2 hs3 hr1 hr2 hr3 hA2 hts
           go_wp2_with fail
           refine HTK.out.mono ?_
           rintro e w9 ⟨rfl,h9⟩
           obtain ⟨n9,F9,a9,-,hL9⟩:=HL8.out.to h9
           have HL9:=zh hL9;have HA9:=zh a9
           clear h9 hL9 a9
           have x9:w9.cell? ⟨b7,1,none⟩=some (.int .i64 NI):=by rw [HL9.out.c zm,HNI.out,HCS.out];rfl
           go_wp2_with fail
           go_meet
           case rel => exact ⟨st2,A2,l,by rw [HN2.out],HS2.out,lw HLL,HSC2.out,n9,F9,enb HNB.out HA9.out (by decide),HL9.out.sub (by simp)⟩
        ·as_aux_lemma =>
          obtain ⟨st2,no,hs1,hs2,hs3⟩:=HSN.out.work NI
          have HSW:Hid (Calls Tryz.prog 16 #[.pointer (some ⟨P.f,0,none⟩),.int .i64 NI] w8 fun e w' => e = .returned (erV no)/\FoTo lo P st2 (8 * 65536) nw F w8 w'):=fsweep HL8.out.fa NI no (by have:=enl HNB.out HILE.out;omega) hs1
          have HS2:=zh hs2;have HN2:Hid (st2.clock=now):=hs3.trans HNOW.out.symm
          clear hs1 hs2 hs3
          go_wp2_with fail
          refine HSW.out.mono ?_
          rintro e w9 ⟨rfl,h9⟩
          obtain ⟨n9,F9,a9,-,hL9⟩:=HL8.out.to h9
          have HL9:=zh hL9;have HA9:=zh a9
          clear h9 hL9 a9
          go_wp2_with fail
          go_meet
          case rel => exact ⟨st2,A,l,by rw [HN2.out],HS2.out,lw HLL,HSC.out,n9,F9,enb HNB.out HA9.out (by decide),HL9.out.sub (by simp)⟩
        ·as_aux_lemma =>
          go_wp2_with fail
          go_meet
          case rel => exact ⟨st,A,l,by rw [HNOW.out],HSN.out,lw HLL,HSC.out,nw,F,en0 HNB.out,HL8.out.sub (by simp)⟩
        ·as_aux_lemma =>
          go_wp2_with fail
          go_meet
          case rel => exact ⟨st,A,l,by rw [HNOW.out],HSN.out,lw HLL,HSC.out,nw,F,en0 HNB.out,HL8.out.sub (by simp)⟩
        ·as_aux_lemma =>
          go_wp2_with fail
          go_meet
          case rel => exact ⟨st,A,l,by rw [HNOW.out],HSN.out,lw HLL,HSC.out,nw,F,en0 HNB.out,HL8.out.sub (by simp)⟩
     case rest =>
      as_aux_lemma =>
       obtain ⟨st2,A2,l2,rfl,hS2,hl2,hsc2,n2,F2,hn2,hL2⟩:=hcut
       obtain ⟨w9,rfl⟩:∃ x:World,x=wc:=⟨_,rfl⟩
       obtain ⟨q2,r2,rfl,-⟩:=own_shape hL2.row
       have HSE:=zh (lseen_any hL2.fa hS2 (by have:=HILE.out;omega) _ hL2.in_)
       have HS2:=zh hS2;have HLL2:=zh hl2;have HSC2:=zh hsc2;have HN2:=zh hn2;have HL2:=zh hL2
       clear hS2 hl2 hsc2 hn2 hL2
       go_wp2_with fail
       refine HSE.out.mono ?_
       rintro e w10 ⟨rfl,hb10⟩
       have HL10:=zh (HL2.out.below hb10)
       clear hb10
       go_wp2
       go_roundw
       case rel => exact ⟨i+1,st2,A2,l2,by have:=HIC.out;omega,by go_num,rfl,HS2.out,HLL2.out,HSC2.out,n2,F2,HN2.out,HL10.out⟩
       case measure => have:=HIC.out;simp [intOf];omega
  ·as_aux_lemma =>
    have c3:(xs.length:Int)<=(i:Int):=by omega
    obtain ⟨w7,rfl⟩:∃ x:World,x=wr:=⟨_,rfl⟩
    have HD:Hid (Calls Tryz.prog 12 #[.pointer (some ⟨P.f,0,none⟩)] w7 (FDumpPost st w7)):=fdump hL.fa
    have HIQ:Hid (i<=200):=by show _<=_;omega
    have HLL:=zh hll;have HSN:=zh hS;have HL:=zh hL
    obtain ⟨CL,hCL⟩:∃ CL,CL=st.clock:=⟨_,rfl⟩
    obtain ⟨BI,hBI⟩:∃ BI,BI=st.births:=⟨_,rfl⟩
    obtain ⟨GB,hGB⟩:∃ GB,GB=st.garb:=⟨_,rfl⟩
    obtain ⟨RO,hRO⟩:∃ RO,RO=st.roots:=⟨_,rfl⟩
    obtain ⟨FL,hFL⟩:∃ FL,FL=st.free.length:=⟨_,rfl⟩
    obtain ⟨AL,hAL⟩:∃ AL,AL=A.length:=⟨_,rfl⟩
    rw [<- hCL]
    have HCNT:Hid (∀ W,KIn W (.slice qv l.length rv) l->Calls Tryz.prog 15 #[.slice qv l.length rv,.int .i64 CL] W fun e w' => e = .returned (.int .i64 (AL:Int))/\Below W.heap.size W w'):=fun W h => by
     have:=lcount_any l HSN.out.ups (by have:=HLL.out;have:=HIQ.out;omega) _ st.clock W h
     rw [HSN.out.count,<- hAL,<- hCL] at this
     exact this
    have HBIR:Hid (BI=(l.length:Int)):=by show _=_;rw [hBI];exact HSN.out.bir
    have HROOM:Hid ((st.S.filter (·.used)).length+FL=32):=by show _=_;rw [hFL];exact HSN.out.is.1.used_free
    have HST:Hid (∀ W,ForAt lo P st nw F W->Calls Tryz.prog 21 #[.pointer (some ⟨P.f,0,none⟩)] W fun e w' => (∃ q r,e = .returned (.agg #[.int .i64 CL,.int .i64 BI,.slice q AL r]))/\Below W.heap.size W w'):=fun W h => by
     refine (fstate h HSN.out.is.1).mono ?_
     rintro e w' ⟨⟨v,rfl,hv⟩,hb⟩
     rw [HSN.out.is.1.state,<- hAL] at hv
     obtain ⟨q,r,rfl,-⟩:=own_shape hv
     exact ⟨⟨q,r,by rw [hCL,hBI]⟩,hb⟩
    have HLS:Hid (st.S.length=32):=by show _=_;obtain ⟨⟨nx,fi,hA,-⟩,-⟩:=HL.out.fa.ar;exact hA.ls
    have HCL:=zh hCL;have HBI:=zh hBI;have HGB:=zh hGB;have HRO:=zh hRO;have HFL:=zh hFL
    clear hil hS hll hsc hnw hL hCL hBI hGB hRO hFL hAL hc
    go_wp2_with fail
    refine HD.out.mono ?_
    rintro e w8 ⟨⟨v1,v2,he,h1,h2,-⟩,hb8⟩
    obtain ⟨q1,r1,rfl,-⟩:=own_shape h1
    obtain ⟨q2,r2,rfl,-⟩:=own_shape h2
    unfold dumpCs at he
    rw [<- HCL.out,<- HBI.out,<- HGB.out,<- HRO.out,<- HFL.out] at he
    subst he
    obtain ⟨g1,rfl,hg1,hcell⟩:∃ g1,q1=some ⟨g1,0,none⟩/\g1<w8.heap.size/\∀ k:Nat,k<32->w8.cell? ⟨g1,k * 17,none⟩=some (.bool (sl st.S k).used):=by
     rcases h1.2 with ⟨e,h0⟩ | ⟨g,c,cur,e,_,e3,_⟩
     ·omega
     ·cases e
      refine ⟨g,rfl,(zx e3),fun k hk => ?_⟩
      have hk2:k<st.S.length:=by rw [HLS.out];exact hk
      have:=World.ownsRow.cellAt (w:=w8) h1 (k * 17+0) (by omega)
      rw [Nat.add_zero] at this
      rw [this]
      have e5:=allS_at st.S hk2 (show 0<17 by decide)
      rw [Nat.add_zero] at e5
      rw [e5]
      have:(sl st.S k)=st.S[k]:=by unfold sl;simp [hk2]
      rw [this];rfl
    have HL8:=zh (HL.out.below hb8)
    obtain ⟨b17,hb17⟩:∃ b,b=w8.heap.size:=⟨_,rfl⟩
    obtain ⟨W9,hW9⟩:∃ W,W=w8.alloc (.cells #[.int .i64 CL,.int .i64 BI,.slice (some ⟨g1,0,none⟩) 32 r1,.slice q2 FL r2,.int .i64 GB,.int .i64 RO] 47):=⟨_,rfl⟩
    have HL9:Hid (LawAt w lo P st nw F (.slice qv l.length rv) l [(b17,#[.int .i64 CL,.int .i64 BI,.slice (some ⟨g1,0,none⟩) 32 r1,.slice q2 FL r2,.int .i64 GB,.int .i64 RO],47)] W9):=by
     show LawAt _ _ _ _ _ _ _ _ _ _
     rw [hW9,hb17];exact HL8.out.alloc _ _
    have HC9:Hid (∀ k:Nat,k<32->W9.cell? ⟨g1,k * 17,none⟩=some (.bool (sl st.S k).used)):=fun k hk => by
     rw [hW9,World.cell?_alloc_lt _ _ _ hg1];exact hcell k hk
    have HW9:=zh hW9;have HB17:=zh hb17
    clear hcell hg1 h1 h2 hb8 hb17 hW9
    go_upto_region 52 with fail
    rw [<- HW9.out,<- HB17.out]
    have d0:W9.cell? ⟨b17,0,none⟩=some (.int .i64 CL):=by rw [HL9.out.c zm];rfl
    have d1':W9.cell? ⟨b17,1,none⟩=some (.int .i64 BI):=by rw [HL9.out.c zm];rfl
    have d2':W9.cell? ⟨b17,2,none⟩=some (.slice (some ⟨g1,0,none⟩) 32 r1):=by rw [HL9.out.c zm];rfl
    have d3:W9.cell? ⟨b17,3,none⟩=some (.slice q2 FL r2):=by rw [HL9.out.c zm];rfl
    go_wp2
    go_loopw [18,19] (fun a b wr => ∃ (k U:Nat),k<=32/\U<=k/\a = .int .i64 (U:Int)/\b = .int .i64 (k:Int)/\wr=W9/\U=((st.S.take k).filter (·.used)).length) (fun _ b _ => 33-(intOf b).toNat)
    case atStart => exact ⟨0,0,by omega,by omega,rfl,rfl,rfl,rfl⟩
    case round =>
     obtain ⟨k,U,hk,hU,rfl,rfl,hwq,hUe⟩:=hrel
     subst hwq
     obtain ⟨W9,rfl⟩:∃ x:World,x=wr:=⟨_,rfl⟩
     have k0:(0:Int)<=(k:Int):=by omega
     have k1:(0:Int)<=(U:Int):=by omega
     have k2:(U:Int)<=32:=by omega
     by_cases hc:k<32
     ·have k3:(k:Int)<32:=by omega
      obtain ⟨us,hus⟩:∃ us,us=(sl st.S k).used:=⟨_,rfl⟩
      have xk:W9.cell? ⟨g1,k * 17,none⟩=some (.bool us):=by rw [hus];exact HC9.out k hc
      have HUS:Hid (((st.S.take (k+1)).filter (·.used)).length=U+if us then 1 else 0):=by
       show _=_
       have hk2:k<st.S.length:=by rw [HLS.out];exact hc
       have e1:(sl st.S k)=st.S[k]:=by unfold sl;simp [hk2]
       rw [List.take_succ_eq_append_getElem hk2,List.filter_append,List.length_append,<- hUe,hus,e1]
       cases hq:st.S[k].used <;> simp [hq]
      have HUK:=zh hU;have HC:=zh hc
      clear hk hU hUe hus hc
      cases us with
      | true =>
       have hw1:IntKind.i64.wrap ((U:Int)+1)=((U+1:Nat):Int):=by rw [IntWalk.i64_in _ (by omega)];omega
       go_wp2
       go_roundw
       case rel => exact ⟨k+1,U+1,by have:=HC.out;omega,by have:=HUK.out;omega,by go_num,by go_num,(by first | rfl | trivial),by rw [HUS.out];rfl⟩
       case measure => have:=HC.out;simp [intOf];omega
      | false =>
       go_wp2
       go_roundw
       case rel => exact ⟨k+1,U,by have:=HC.out;omega,by have:=HUK.out;omega,(by first | rfl | trivial),by go_num,(by first | rfl | trivial),by rw [HUS.out];rfl⟩
       case measure => have:=HC.out;simp [intOf];omega
     ·have k3:(32:Int)<=(k:Int):=by omega
      have hk32:k=32:=by omega
      have HSUM:Hid (U+FL=32):=by
       show _=_
       have e1:st.S.take k=st.S:=by rw [hk32];exact List.take_of_length_le (by rw [HLS.out];exact Nat.le_refl _)
       rw [hUe,e1];exact HROOM.out
      have hsum:IntKind.i64.wrap ((U:Int)+(FL:Int))=32:=by have:=HSUM.out;rw [IntWalk.i64_in _ (by omega)];omega
      clear hk hU hUe hc hk32
      go_wp2_with fail
      refine (HST.out _ HL9.out.fa).mono ?_
      rintro e w10 ⟨⟨q3,r3,rfl⟩,hb10⟩
      have HL10:=zh (HL9.out.below hb10)
      clear hb10
      have hfs:=fun W => state_sess CL BI (.slice q3 AL r3) W
      have d0':w10.cell? ⟨b17,0,none⟩=some (.int .i64 CL):=by rw [HL10.out.c zm];rfl
      have d1'':w10.cell? ⟨b17,1,none⟩=some (.int .i64 BI):=by rw [HL10.out.c zm];rfl
      go_wp2_with fail
      refine (HCNT.out _ HL10.out.in_).mono ?_
      rintro e w11 ⟨rfl,hb11⟩
      have HL11:=zh (HL10.out.below hb11)
      clear hb11
      have d0'':w11.cell? ⟨b17,0,none⟩=some (.int .i64 CL):=by rw [HL11.out.c zm];rfl
      have d1x:w11.cell? ⟨b17,1,none⟩=some (.int .i64 (l.length:Int)):=by rw [HL11.out.c zm,<- HBIR.out];rfl
      have HB11:=zh HL11.out.bel
      go_wp2
      go_ret
      exact ⟨rfl,HB11.out⟩
end Fr
end
end Go.Proofs.YtimhglmfckfclaaGreat
