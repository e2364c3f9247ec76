/- Parts of the proof. -/
import Derived.Test.YtimhglmfckfclaaGreatM11
set_option linter.unusedVariables false
set_option linter.unusedSimpArgs false
set_option maxRecDepth 100000
set_option maxHeartbeats 16000000
namespace Go.Proofs.YtimhglmfckfclaaGreat
section
open Go.RowKit Go.Maps Go.Shelf
namespace Fr
open Vw (Sess)
attribute [local go_sem] Oper.semAt_some
section
variable {a B N:Nat} {S:List Slt} {fr:List Int} {nw:Nat} {last:Int} {L:List Int} {W1:World}
def AllB (a B N:Nat) (W1:World) (pre:List Int) (y:Int) (A:World):Prop :=
 ∃ d Fp,GL 22 B (B+1) W1 d pre Fp A/\(∀ b,Fp b->b≠N/\b≠N+1)/\A.heap[N]? = some (.cells #[.pointer (some ⟨a,0,none⟩)] 73 (0,0))/\Boxed A (N+1) 3 (.int .i64 y)
def AllU (a B N:Nat) (L:List Int) (W1:World) (pre:List Int) (A:World):Prop:=pre <+: L/\pre.length<L.length/\AllB a B N W1 pre (pre.getLastD (L.headD (-1))) A
def AllM (a B N:Nat) (L:List Int) (W1:World) (p:List Int × Int) (A:World):Prop:=p.1 <+: L/\L[p.1.length]? = some p.2/\AllB a B N W1 p.1 p.2 A
def AllM2 (a B N:Nat) (L:List Int) (W1:World) (p:List Int × Int × Nat) (A:World):Prop:=AllM a B N L W1 (p.1,p.2.1) A
def AllX (a B N:Nat) (L:List Int) (W1:World) (c:Code) (pre:List Int) (A:World):Prop:=c = .exit 0/\pre=L/\∃ y,AllB a B N W1 pre y A
theorem AllB.own {n:Nat} (hB:B<n) (hN:N+1<n) {pre:List Int} {y:Int} {A A':World} {row:Option Nat} (h:AllB a B N W1 pre y A) (hg:A.grownBy A' row) (hr:∀ r,row=some r->n<=r/\∃ o:Obj,A.heap[r]? = some o/\o.isCells=false):AllB a B N W1 pre y A':=by
 obtain ⟨d,Fp,h1,h2,h3,h4⟩:=h
 have hlt3:N<A.heap.size:=(zx h3)
 refine ⟨d,Fp,h1.turn hg (fun r e => ⟨by have:=(hr r e).1;omega,fun hf => ?_⟩),h2,(hg.block N hlt3 (fun e => by have:=(hr N e.symm).1;omega)).trans h3,h4.kept hg (fun e => by have:=(hr _ e.symm).1;omega)⟩
 obtain ⟨o,k1,k2⟩:=h1.cells hf
 obtain ⟨-,o2,k3,k4⟩:=hr r e
 rw [k1] at k3
 cases k3
 rw [k2] at k4
 cases k4
theorem AllB.turn {pre:List Int} {y x:Int} {A A':World} (h:AllB a B N W1 pre y A) (hBN:B<N) (ho:Only (fun b => b=N+1) A A') (hx:Boxed A' (N+1) 3 (.int .i64 x)):AllB a B N W1 pre x A':=by
 obtain ⟨d,Fp,h1,h2,h3,h4⟩:=h
 refine ⟨d,Fp,h1.other ho (fun b hb => ?_),h2,(ho.block N (zx h3) (by omega)).trans h3,hx⟩
 subst hb
 exact ⟨by omega,fun hf => (h2 _ hf).2 rfl⟩
theorem ring_first {last:Int} {L:List Int} {x:Int} (hR:RingAt S last L) (hx:L[0]? = some x):(sl S last).next=x:=by
 cases L with
 | nil => simp at hx
 | cons z r =>
  simp only [List.getElem?_cons_zero,Option.some.injEq] at hx
  subst hx
  rcases hR with ⟨h,_⟩ | ⟨q,hq,h⟩
  ·simp at h
  ·exact h.1.1
theorem all_last {last:Int} {L pre:List Int} {x:Int} (hR:RingAt S last L) (hd:L.Nodup) (hp:pre <+: L) (hx:L[pre.length]? = some x):pre ++ [x] <+: L/\(x=last->pre ++ [x]=L)/\(x≠last->(pre ++ [x]).length<L.length):=by
 obtain ⟨t,rfl⟩:=hp
 rw [List.getElem?_append_right (Nat.le_refl _),Nat.sub_self] at hx
 cases t with
 | nil => simp at hx
 | cons z r =>
  simp only [List.getElem?_cons_zero,Option.some.injEq] at hx
  subst hx
  have hl:∃ q,pre ++ z :: r=q ++ [last]:=by
   rcases hR with ⟨h,_⟩ | ⟨q,hq,h⟩
   ·simp at h
   ·exact ⟨q,hq⟩
  obtain ⟨q,hq⟩:=hl
  refine ⟨⟨r,by simp⟩,fun e => ?_,fun e => ?_⟩
  ·subst e
   rcases List.eq_nil_or_concat r with rfl | ⟨r',y,rfl⟩
   ·rfl
   ·have e2:y=z:=by
     have h2:(pre ++ z :: r') ++ [y]=q ++ [z]:=by rw [<- hq];simp
     exact (List.append_inj' h2 rfl).2 |> fun h => by simpa using h
    subst e2
    have:=(List.nodup_append.1 hd).2.1
    simp at this
  ·rcases List.eq_nil_or_concat r with rfl | ⟨r',y,rfl⟩
   ·have:=(List.append_inj' hq rfl).2
    simp at this
    exact absurd this e
   ·simp
end
theorem all_any (a:Nat) (S:List Slt) (fr:List Int) (nw:Nat) (last:Int) (L:List Int) (w:World) (h:ArAt a S fr nw w) (hR:RingAt S last L) (ht:∀ x ∈ L,thr x=true) (hd:L.Nodup) :
  Calls Tryz.prog 75 #[.pointer (some ⟨a,0,none⟩),.int .i64 last] w fun e w' => (∃ bx v,e = .returned (.func (.func 122) #[] #[.pointer (some ⟨bx,0,none⟩)])/\w.heap.size<=bx/\Boxed w' bx 22 v/\w'.ownsRow (bx+1) 3 1 v L.length (L.map (Value.int .i64)))/\Below w.heap.size w w':=by
 obtain ⟨W0,hW0⟩:∃ W0,W0=w.alloc (.cells #[.int .i64 last] 3):=⟨_,rfl⟩
 have hs0:W0.heap.size=w.heap.size+1:=by rw [hW0,World.size_alloc]
 have hb0:Below w.heap.size w W0:=by rw [hW0];exact (Below.refl _ _).alloc (Nat.le_refl _) _
 have hx0:Boxed W0 w.heap.size 3 (.int .i64 last):=by rw [hW0];exact Boxed.new _ _ _
 obtain ⟨W1,hW1⟩:∃ W1,W1=W0.alloc (.cells #[.slice none 0 0] 22):=⟨_,rfl⟩
 have hU1:GL 22 W0.heap.size (W0.heap.size+1) W0 (.slice none 0 0) [] (fun b => b=W0.heap.size) W1:=by rw [hW1];exact GL.start W0
 have hs1:W1.heap.size=w.heap.size+2:=by rw [hW1,World.size_alloc,hs0]
 have hb1:Below w.heap.size w W1:=hb0.trans (hU1.bel.mono hb0.size)
 rw [hs0] at hU1
 have cl:W1.cell? ⟨w.heap.size,0,none⟩=some (.int .i64 last):=(hU1.bel.cell (p:=⟨w.heap.size,0,none⟩) (Nat.lt_succ_self _)).trans hx0.cell
 have HW0:=zh hW0;have HW1:=zh hW1
 by_cases hne:L=[]
 ·subst hne
  have hla:last = -1:=by
   rcases hR with ⟨-,h⟩ | ⟨r,h,-⟩
   ·exact h
   ·simp at h
  subst hla
  have HNO:=zh (fun w => rthere_no (-1) (by decide) w)
  have HU:=zh hU1;have HB:=zh hb1
  rw [hW1,hW0] at cl
  clear hW0 hW1 hs0 hs1 hb0 hx0 hU1 hb1 h hR ht hd
  go_enter Tryz.func75,Tryz.ntmps75
  go_wp2_with fail
  refine (HNO.out _).mono ?_
  rintro e w2 ⟨rfl,hw2⟩
  rw [<- HW0.out,<- HW1.out] at hw2
  subst hw2
  go_wp2
  go_ret
  exact ⟨⟨_,_,rfl,by omega,HU.out.b1,HU.out.r1⟩,HB.out⟩
 ·have hlast:=ht last (hR.last_mem hne)
  have HYES:=zh (fun w => rthere_yes last hlast w)
  have hpos:0<L.length:=List.length_pos_iff.2 hne
  obtain ⟨x0,hx00⟩:∃ x,L[0]? = some x:=⟨L[0]'hpos,List.getElem?_eq_getElem hpos⟩
  have hfirst:=ring_first hR hx00
  have hhd:L.headD (-1)=x0:=by
   cases L with
   | nil => exact absurd rfl hne
   | cons z r => simpa using hx00
  have hA1:ArAt a S fr nw W1:=h.below hb1
  have hof:Calls Tryz.prog 121 #[.pointer (some ⟨a,0,none⟩),.int .i64 last] W1 fun e w' => e = .returned (.agg #[.int .i64 (sl S last).prev,.int .i64 (sl S last).next])/\Below W1.heap.size W1 w':=by
   obtain ⟨⟨nx,fi,hA,-⟩,-⟩:=hA1
   exact of_ok hA last hlast
  rw [hfirst] at hof
  obtain ⟨pv,hpv⟩:∃ pv,pv=(sl S last).prev:=⟨_,rfl⟩
  rw [<- hpv] at hof
  have HOF:=zh hof
  have HF:=lk_next pv x0
  have hll:=nodup_len32 hd ht
  have halt:=h.lt
  have HA1:=zh hA1;have HR:=zh hR;have HT:=zh ht;have HD:=zh hd;have HU1:=zh hU1;have HB1:=zh hb1;have HS1:=zh hs1;have HX:=zh hx00;have HH:=zh hhd;have HP:=zh hpos;have HLL:=zh hll;have HAL:=zh halt;have HX0:=zh hx0;have HS0:=zh hs0
  have HCL:=zh cl
  rw [hW1,hW0] at cl
  clear hW0 hW1 hs0 hs1 hb0 hx0 hU1 hb1 h hR ht hd hof hpv hA1 hx00 hhd hpos hll halt hfirst hlast hne
  refine (callsIn_wide (n:=9)).1 ?_
  refine callsIn_of_wp_marks Tryz.func75 rfl trivial ?_ rfl
  simp only [Tryz.ntmps75,List.size_toArray,List.length_cons,List.length_nil,Nat.reduceAdd,Nat.reduceSub,Array.replicate_succ,Array.replicate_zero,List.push_toArray,List.append_toArray,List.nil_append,List.cons_append]
  refine wpIn_wide.2 ?_
  go_wp2_with fail
  refine (HYES.out _).mono ?_
  rintro e w2 ⟨rfl,hw2⟩
  rw [<- HW0.out,<- HW1.out] at hw2
  subst hw2
  have cl2:=HCL.out
  clear cl
  go_wp2_with fail
  refine HOF.out.mono ?_
  rintro e W3 ⟨rfl,hb3⟩
  go_wp2_with fail
  refine (from_any a x0 W3).mono ?_
  rintro e w5 ⟨rfl,hw5⟩
  obtain ⟨N,hN⟩:∃ N,N=W3.heap.size:=⟨_,rfl⟩
  have hNge:w.heap.size+2<=N:=by have:=hb3.size;have:=HS1.out;omega
  have hs5:w5.heap.size=N+2:=by rw [hw5,World.size_alloc,World.size_alloc,hN]
  have hbA:w5.heap[N]? = some (.cells #[.pointer (some ⟨a,0,none⟩)] 73 (0,0)):=by
   rw [hw5,hN];exact (Below.heap_alloc _ _ _ (by simp)).trans (Ut.alloc_at _ _)
  have hbI:Boxed w5 (N+1) 3 (.int .i64 x0):=by
   have:=Boxed.new (W3.alloc (.cells #[.pointer (some ⟨a,0,none⟩)] 73)) 3 (.int .i64 x0)
   rw [World.size_alloc] at this
   rw [hw5,hN];exact this
  have hG3:GL 22 (w.heap.size+1) (w.heap.size+1+1) W0 (.slice none 0 0) [] (fun b => b=w.heap.size+1) W3:=HU1.out.other (F:=fun _ => False) (Only.of_below hb3) (fun _ h => h.elim)
  have hG5:GL 22 (w.heap.size+1) (w.heap.size+1+1) W0 (.slice none 0 0) [] (fun b => b=w.heap.size+1) w5:=by
   rw [hw5]
   exact (hG3.turn (World.grownBy_alloc _ _ none) (fun r e => by cases e)).turn (World.grownBy_alloc _ _ none) (fun r e => by cases e)
  have hU5:AllU a (w.heap.size+1) N L W0 [] w5:=⟨List.nil_prefix,HP.out,_,_,hG5,fun b hb => by omega,hbA,by rw [List.getLastD_nil,HH.out];exact hbI⟩
  rw [<- hN]
  have HU5:=zh hU5;have HS5:=zh hs5;have HN:=zh hNge
  clear hU5 hG5 hG3 hbI hbA hs5 hw5 hb3 hN hNge cl2
  obtain ⟨i0,hi,hz0,hz1,hz2⟩:=info_parts finfo_int
  go_wp2_with fail
  refine (wpIn_wide (n:=9)).1 ?_
  refine Mq.range_mut_sl (F:=Fence.wide) (n:=9) rfl (by omega) (gf:=148) (lb:=#[.pointer (some ⟨N+1,0,none⟩),.pointer (some ⟨N,0,none⟩)]) rfl trivial (enters_of Tryz.func148 (by kernel_rfl) rfl)
   (from_seq 8 (by omega) a N (N+1) S fr nw last L HR.out HT.out HLL.out (by have:=HAL.out;have:=HN.out;omega) (by omega)) (fun _ => rfl)
   (AllU a (w.heap.size+1) N L W0) (AllM a (w.heap.size+1) N L W0) (AllM2 a (w.heap.size+1) N L W0) (fun _ _ => False) (AllX a (w.heap.size+1) N L W0)
   ?hU ?hM (fun _ _ _ _ h _ _ => h) ?hX ?hstep HU5.out
   (fun T x b => (T.setIfInBounds 15 (.int .i64 x)).setIfInBounds 6 (.int .i64 x)) (fun _ W => W) (fun pre x W h => ⟨h,KeepsFrom.refl _ _⟩) ?assign ?body (fun _ _ _ _ h _ => h.elim) ?stop
  case hU => exact fun pre W W' row h hg hr => ⟨h.1,h.2.1,h.2.2.own (by have:=HS5.out;have:=HN.out;omega) (by have:=HS5.out;omega) hg hr⟩
  case hM => exact fun p W W' row h hg hr => ⟨h.1,h.2.1,h.2.2.own (by have:=HS5.out;have:=HN.out;omega) (by have:=HS5.out;omega) hg hr⟩
  case hX => exact fun c pre W W' row h hg hr => ⟨h.1,h.2.1,h.2.2.imp fun y h3 => h3.own (by have:=HS5.out;have:=HN.out;omega) (by have:=HS5.out;omega) hg hr⟩
  case hstep =>
   intro pre A hu hsz
   obtain ⟨u1,u2,hB⟩:=hu
   obtain ⟨d,Fp,g1,g2,g3,g4⟩:=id hB
   have hAA:ArAt a S fr nw A:=HA1.out.keep (by
    have e1:A.heap[a]? = W0.heap[a]?:=g1.bel.block a (by have:=HAL.out;omega)
    have e2:W1.heap[a]? = W0.heap[a]?:=HU1.out.bel.block a (by have:=HAL.out;omega)
    exact e1.trans e2.symm)
   refine ⟨⟨u1,u2,hAA,by rw [zc g3];rfl,g4⟩,by have:=HLL.out;omega,fun x B hs => ⟨⟨u1,hs.1,hB.turn (by have:=HN.out;omega) hs.2.2 hs.2.1⟩,keeps_only hs.2.2 (fun b hb => ⟨_,by subst hb;exact g4,rfl⟩) _⟩,fun B hf => hf.elim⟩
  case assign =>
   intro l2 x A K hK
   unfold encI
   gi_wp2
   exact hK
  case body =>
   rintro l2 pre x b A ⟨hp,hx,d,Fp,hu,g2,g3,g4⟩
   simp only at hp hx hu g4
   obtain ⟨e1,e2,e3⟩:=all_last HR.out HD.out hp hx
   obtain ⟨q1,r1,rfl,-⟩:=own_shape hu.r1
   have hc1:=hu.b1.cell
   have hlen:pre.length+1<=32:=by
    have h1:=e1.length_le
    simp only [List.length_append,List.length_singleton] at h1
    exact Nat.le_trans h1 HLL.out
   obtain ⟨K,hK⟩:∃ K,K=pre.length:=⟨_,rfl⟩
   have am1:K+1<=maxLen:=by unfold maxLen;omega
   have am3:(K+1) * 8<=140737488355328:=by omega
   have k3:w.heap.size+1+1<=(A.alloc (.cells #[.int .i64 x] 3)).heap.size:=by have:=hu.b1.lt;simp;omega
   have hr1:=hu.r1
   have HP1:=zh (fun (v1:Value) (w1:World) (o1:Obj) => GL.push (v:=v1) (w1:=w1) (o1:=o1) (x:=x) hu)
   have HKP:=zh (fun (A':World) (ho:Only Fp A A') => keeps_only ho (fun b hb => hu.cells hb) w5.heap.size)
   have HFR:Hid (∀ (A':World) (v:Value) (Fp':Nat->Prop),GL 22 (w.heap.size+1) (w.heap.size+1+1) W0 v (pre ++ [x]) Fp' A'->Only Fp A A'->(∀ b,Fp' b->Fp b\/A.heap.size<=b)->AllB a (w.heap.size+1) N W0 (pre ++ [x]) x A'):=fun A' v Fp' k1 k2 k4 => ⟨v,Fp',k1,fun b hb => by
     rcases k4 b hb with h | h
     ·exact g2 b h
     ·have:=g4.lt;omega,(k2.block N (zx g3) (fun h => (g2 N h).1 rfl)).trans g3,(k2.block (N+1) g4.lt (fun h => (g2 (N+1) h).2 rfl)).trans g4⟩
   rw [<- hK] at hc1 hr1 HP1
   have H1K:=zh hr1
   have HE1:=zh e1;have HE2:=zh e2;have HE3:=zh e3
   clear hu hlen hr1 hK hp hx g2 g3 g4 e1 e2 e3
   gi_wp2_with (gi_at_builtin;(refine wpListIn_append_own_at _ rfl _ _ 22 rfl (w.heap.size+1+1) 3 i0 (.int .i64 0) 1 8 Tryz.underlying22 hi hz0 hz1 hz2 rfl (by decide) _ _ _ rfl (H1K.out.alloc _) ⟨A.heap.size,0,none⟩ 1 1 [.int .i64 x] rfl rfl (World.news_of_block (Ut.alloc_at _ _)) (by intro u hu;rw [List.mem_singleton.1 hu];rfl) am1 am3 k3 ?_);(intro v1 w1 hown' hgrow hnil hat;obtain ⟨q',r',rfl,-⟩:=own_shape hown';obtain ⟨hb1,hbe,Fp',hn1⟩:=HP1.out _ _ _ hown' hgrow hat;(have hc1':=hb1.cell);(have hf1:=hb1.frozen);(have hcl1:=(hbe.cell (p:=⟨w.heap.size,0,none⟩) (Nat.lt_succ_self _)).trans HX0.out.cell);(have HN2:=zh hn1);clear hown' hgrow hat hn1 hb1 hnil hbe))
   ·rename_i hx
    have he:x=last:=by simpa using hx
    exact ⟨HKP.out _ HN2.out.2.1,rfl,HE2.out he,_,HFR.out _ _ _ HN2.out.1 HN2.out.2.1 HN2.out.2.2⟩
   ·rename_i hx
    have hne:x≠last:=fun e => by rw [e] at hx;simp at hx
    exact ⟨HKP.out _ HN2.out.2.1,HE1.out,HE3.out hne,by simp only [List.getLastD_concat];exact HFR.out _ _ _ HN2.out.1 HN2.out.2.1 HN2.out.2.2⟩
  case stop =>
   rintro D c pre A hD ⟨rfl,rfl,y,d,Fp,hu,-,-,-⟩ hK
   obtain ⟨o0,k1,k2⟩:∃ o,A.heap[D]? = some o/\o.isCells=false:=⟨_,hK,rfl⟩
   have hnf:¬ Fp D:=fun hf => by
    obtain ⟨o2,k3,k4⟩:=hu.cells hf
    rw [k1] at k3;cases k3;rw [k2] at k4;cases k4
   gi_wp2
   go_wp2_with fail
   refine ⟨by simp,.inl ⟨_,_,rfl,run_takeDeferred (show A.heap[D]? = _ from hK),?_⟩⟩
   have h2:=hu.turn (grownBy_putObj' A D (.deferred none)) (fun r e => by cases e;exact ⟨by have:=HS5.out;have:=HN.out;omega,hnf⟩)
   have h3:Below w.heap.size w W0:=by rw [HW0.out];exact (Below.refl _ _).alloc (Nat.le_refl _) _
   exact ⟨_,results_tmp rfl _ _ _,⟨_,d,rfl,by omega,h2.b1,h2.r1⟩,h3.trans (h2.bel.mono (by omega))⟩
end Fr
end
section
open Go.RowKit
namespace Fr
open Vw (Sess)
section
variable {a:Nat} {S:List Slt} {nx:List Int} {fi:Int} {wr:Nat}
theorem well_ok {w:World} (h:ArW a S nx fi wr w) (i:Int) (hw:well S i=true) :
  Calls Tryz.prog 142 #[.pointer (some ⟨a,0,none⟩),.int .i64 i] w fun e w' => e = .returned (.bool true)/\Below w.heap.size w w':=by
 obtain ⟨w1,w2,w3,w4,w5⟩:=well_iff.1 hw
 have HOF:=zh (fun (W:World) (j:Int) (hj:thr j=true) (hb:Below w.heap.size w W) => of_ok (h.below hb) j hj)
 obtain ⟨p,hp⟩:∃ p,p=(sl S i).prev:=⟨_,rfl⟩
 obtain ⟨n,hn⟩:∃ n,n=(sl S i).next:=⟨_,rfl⟩
 rw [<- hp] at w2 w4
 rw [<- hn] at w3 w5
 have HP:=zh hp;have HN:=zh hn
 have T1:=zh w1;have T2:=zh w2;have T3:=zh w3
 have HTP:=zh (fun w => rthere_yes p w2 w)
 have HTN:=zh (fun w => rthere_yes n w3 w)
 have H4:=zh w4;have H5:=zh w5
 clear hp hn w1 w2 w3 w4 w5 h hw
 have kf0:=lk_prev;have kf1:=lk_next
 go_enter Tryz.func142,Tryz.ntmps142
 go_wp2_with fail
 refine (HOF.out w i T1.out (Below.refl _ _)).mono ?_
 rintro e v1 ⟨rfl,hb1⟩
 rw [<- HP.out,<- HN.out]
 have HB1:Hid (Below w.heap.size w (v1.alloc (.cells #[.int .i64 p,.int .i64 n] 200))):=hb1.alloc hb1.size _
 obtain ⟨W,hW⟩:∃ W,W=v1.alloc (.cells #[.int .i64 p,.int .i64 n] 200):=⟨_,rfl⟩
 obtain ⟨N,hN⟩:∃ N,N=v1.heap.size:=⟨_,rfl⟩
 have r1:W.heap[N]? = some (.cells #[.int .i64 p,.int .i64 n] 200 (0,0)):=by rw [hW,hN];exact Ut.alloc_at _ _
 have R1:=zh r1
 rw [<- hW] at HB1
 have HW:=zh hW
 have HNN:=zh hN
 clear hb1 r1 hW hN
 go_upto_region 2 with (fail)
 rw [<- HW.out,<- HNN.out]
 have c0:W.cell? ⟨N,0,none⟩=some (.int .i64 p):=zl R1.out rfl
 have c1:W.cell? ⟨N,1,none⟩=some (.int .i64 n):=zl R1.out rfl
 go_wp2_with (first
  | (go_at_call 119;(with_reducible refine (HTP.out _).mono ?_);rintro e w' ⟨rfl,rfl⟩)
  | (go_at_call 119;(with_reducible refine (HTN.out _).mono ?_);rintro e w' ⟨rfl,rfl⟩))
 refine (HOF.out W p T2.out HB1.out).mono ?_
 rintro e v2 ⟨rfl,hb2⟩
 rw [H4.out]
 have HB2:Hid (Below w.heap.size w v2):=HB1.out.trans (hb2.mono HB1.out.size)
 have r2:=(hb2.block _ (zx R1.out)).trans R1.out
 have c2:v2.cell? ⟨N,1,none⟩=some (.int .i64 n):=zl r2 rfl
 clear hb2 c0 c1 r2
 go_wp2_with fail
 refine (HOF.out v2 n T3.out HB2.out).mono ?_
 rintro e v3 ⟨rfl,hb3⟩
 rw [H5.out]
 have HB3:Hid (Below w.heap.size w v3):=HB2.out.trans (hb3.mono HB2.out.size)
 clear hb3 c2
 go_wp2
 go_ret
 exact ⟨rfl,HB3.out⟩
theorem canPush_iff {S:List Slt} {last i:Int}:canPush S last i=true↔thr i=true/\(last = -1\/(well S last=true/\i≠last/\i≠(sl S last).next)):=by
 unfold canPush;simp
theorem push_ok {w:World} (h:ArW a S nx fi wr w) (hw:wr+3<=4611686018427387904) (last i:Int) (hc:canPush S last i=true) :
  Calls Tryz.prog 114 #[.pointer (some ⟨a,0,none⟩),.int .i64 last,.int .i64 i] w fun e w' => e = .returned (.tuple #[.int .i64 i,.nilIface])/\(∃ wr',wr<=wr'/\wr'<=wr+3/\ArW a (pushS S last i) nx fi wr' w')/\Only (fun b => b=a) w w':=by
 obtain ⟨hi,hl⟩:=canPush_iff.1 hc
 have HTI:=zh (fun w => rthere_yes i hi w)
 have HA:=zh h;have HI:=zh hi;have HWR:=zh hw
 have HLS:=zh h.ls
 by_cases h1:last = -1
 ·subst h1
  have HS:=zh (set_ok h (by omega) i i i hi)
  have HE:=zh (push_none S HLS.out i hi)
  clear h hi hw hc hl
  go_enter Tryz.func114,Tryz.ntmps114
  go_wp2_with (first
   | (go_at_call 119;(with_reducible refine (HTI.out _).mono ?_);rintro e w' ⟨rfl,rfl⟩))
  refine HS.out.mono ?_
  rintro e w1 ⟨rfl,⟨wr1,g1,g2,hA1⟩,hO1⟩
  rw [HE.out] at hA1
  have HR:Hid ((∃ wr',wr<=wr'/\wr'<=wr+3/\ArW a (pushS S (-1) i) nx fi wr' w1)/\Only (fun b => b=a) w w1):=⟨⟨wr1,g1,by omega,hA1⟩,hO1⟩
  clear g1 g2 hA1 hO1
  go_wp2
  go_ret2
  exact ⟨rfl,HR.out⟩
 ·obtain ⟨hwl,hil,hif⟩:well S last=true/\i≠last/\i≠(sl S last).next:=by
   rcases hl with e | e
   ·exact absurd e h1
   ·exact e
  obtain ⟨q1,q2,q3,q4,q5⟩:=well_iff.1 hwl
  obtain ⟨l0,l1⟩:=thr_iff.1 q1
  have HTL:=zh (fun w => rthere_yes last q1 w)
  have HWL:=zh (fun (W:World) (hb:Below w.heap.size w W) => well_ok (h.below hb) last hwl)
  have HOF:=zh (fun (W:World) (hb:Below w.heap.size w W) => of_ok (h.below hb) last q1)
  obtain ⟨f,hf⟩:∃ f,f=(sl S last).next:=⟨_,rfl⟩
  rw [<- hf] at hif q3
  have HF:=zh hf
  have HWW:=zh hwl;have HQ1:=zh q1;have HQ3:=zh q3
  have n1:(last == -1)=false:=by rw [beq_eq_false_iff_ne];omega
  have n1':(last != -1)=true:=by rw [bne_iff_ne];omega
  have n2:(i == last)=false:=by rw [beq_eq_false_iff_ne];exact hil
  have n3:(i == f)=false:=by rw [beq_eq_false_iff_ne];exact hif
  have HIL:=zh hil;have HIF:=zh hif
  have HS1:=zh (fun (W:World) (hb:Below w.heap.size w W) => set_ok (h.below hb) (by omega) i last f hi)
  by_cases hfl:f=last
  ·have HE:=zh (push_one S h.ls last i hwl hi hil (hf.symm.trans hfl))
   have n4:(f == last)=true:=by rw [beq_iff_eq];exact hfl
   have HFL:=zh hfl
   clear h hi hw hc hl hwl hil hif q1 q2 q3 q4 q5 hf h1 hfl
   have kf0:=lk_prev;have kf1:=lk_next
   go_enter Tryz.func114,Tryz.ntmps114
   go_wp2_with (first
    | (go_at_call 119;(with_reducible refine (HTI.out _).mono ?_);rintro e w' ⟨rfl,rfl⟩)
    | (go_at_call 119;(with_reducible refine (HTL.out _).mono ?_);rintro e w' ⟨rfl,rfl⟩))
   refine (HWL.out w (Below.refl _ _)).mono ?_
   rintro e v1 ⟨rfl,hb1⟩
   have B1:=zh hb1
   clear hb1
   go_wp2_with fail
   refine (HOF.out v1 B1.out).mono ?_
   rintro e v2 ⟨rfl,hb2⟩
   rw [<- HF.out]
   have B2:Hid (Below w.heap.size w v2):=B1.out.trans (hb2.mono B1.out.size)
   clear hb2
   go_wp2_with fail
   refine (HS1.out v2 B2.out).mono ?_
   rintro e v3 ⟨rfl,⟨wr1,g1,g2,hA1⟩,hO1⟩
   have HS2:=zh (set_ok hA1 (by have:=HWR.out;omega) last i i HQ1.out)
   have B3:Hid (Only (fun b => b=a) w v3):=(Only.of_below B2.out).trans hO1 (fun _ _ h => h)
   have G1:=zh g1;have G2:=zh g2
   clear g1 g2 hA1 hO1
   go_wp2_with fail
   refine HS2.out.mono ?_
   rintro e v4 ⟨rfl,⟨wr2,g3,g4,hA2⟩,hO2⟩
   have eS:setS (setS S i last f) last i i=pushS S last i:=by rw [HFL.out];exact HE.out
   rw [eS] at hA2
   have HR:Hid ((∃ wr',wr<=wr'/\wr'<=wr+3/\ArW a (pushS S last i) nx fi wr' v4)/\Only (fun b => b=a) w v4):=⟨⟨wr2,by have:=G1.out;omega,by have:=G2.out;omega,hA2⟩,B3.out.trans hO2 (fun _ _ h => h)⟩
   clear g3 g4 hA2 hO2 eS
   go_wp2
   go_ret2
   exact ⟨rfl,HR.out⟩
  ·have HE:=zh (push_more S h.ls last i f hwl hi hil hif hf.symm hfl)
   have n4:(f == last)=false:=by rw [beq_eq_false_iff_ne];exact hfl
   clear h hi hw hc hl hwl hil hif q1 q2 q3 q4 q5 hf h1 hfl
   have kf0:=lk_prev;have kf1:=lk_next
   go_enter Tryz.func114,Tryz.ntmps114
   go_wp2_with (first
    | (go_at_call 119;(with_reducible refine (HTI.out _).mono ?_);rintro e w' ⟨rfl,rfl⟩)
    | (go_at_call 119;(with_reducible refine (HTL.out _).mono ?_);rintro e w' ⟨rfl,rfl⟩))
   refine (HWL.out w (Below.refl _ _)).mono ?_
   rintro e v1 ⟨rfl,hb1⟩
   have B1:=zh hb1
   clear hb1
   go_wp2_with fail
   refine (HOF.out v1 B1.out).mono ?_
   rintro e v2 ⟨rfl,hb2⟩
   rw [<- HF.out]
   have B2:Hid (Below w.heap.size w v2):=B1.out.trans (hb2.mono B1.out.size)
   clear hb2
   go_wp2_with fail
   refine (HS1.out v2 B2.out).mono ?_
   rintro e v3 ⟨rfl,⟨wr1,g1,g2,hA1⟩,hO1⟩
   have HA1:=zh hA1
   have HO2:=zh (of_ok hA1 last HQ1.out)
   have B3:Hid (Only (fun b => b=a) w v3):=(Only.of_below B2.out).trans hO1 (fun _ _ h => h)
   have G1:=zh g1;have G2:=zh g2
   clear g1 g2 hA1 hO1
   go_wp2_with fail
   refine HO2.out.mono ?_
   rintro e v4 ⟨rfl,hb4⟩
   obtain ⟨p2,hp2⟩:∃ p2,p2=(sl (setS S i last f) last).prev:=⟨_,rfl⟩
   rw [<- hp2]
   have HP2:=zh hp2
   have HS2:=zh (set_ok (HA1.out.below hb4) (by have:=HWR.out;have:=G2.out;omega) last p2 i HQ1.out)
   have B4:Hid (Only (fun b => b=a) w v4):=B3.out.trans (Only.of_below hb4) (fun _ _ h => h)
   clear hp2 hb4
   go_wp2_with fail
   refine HS2.out.mono ?_
   rintro e v5 ⟨rfl,⟨wr2,g3,g4,hA2⟩,hO2⟩
   have HA2:=zh hA2
   have HO3:=zh (of_ok hA2 f HQ3.out)
   have B5:Hid (Only (fun b => b=a) w v5):=B4.out.trans hO2 (fun _ _ h => h)
   have G3:=zh g3;have G4:=zh g4
   clear g3 g4 hA2 hO2
   go_wp2_with fail
   refine HO3.out.mono ?_
   rintro e v6 ⟨rfl,hb6⟩
   obtain ⟨n2',hn2⟩:∃ n2',n2'=(sl (setS (setS S i last f) last p2 i) f).next:=⟨_,rfl⟩
   rw [<- hn2]
   have HN2:=zh hn2
   have HS3:=zh (set_ok (HA2.out.below hb6) (by have:=HWR.out;have:=G2.out;have:=G4.out;omega) f i n2' HQ3.out)
   have B6:Hid (Only (fun b => b=a) w v6):=B5.out.trans (Only.of_below hb6) (fun _ _ h => h)
   clear hn2 hb6
   go_wp2_with fail
   refine HS3.out.mono ?_
   rintro e v7 ⟨rfl,⟨wr3,g5,g6,hA3⟩,hO3⟩
   have eS:setS (setS (setS S i last f) last p2 i) f i n2'=pushS S last i:=by rw [HN2.out,HP2.out];exact HE.out
   rw [eS] at hA3
   have HR:Hid ((∃ wr',wr<=wr'/\wr'<=wr+3/\ArW a (pushS S last i) nx fi wr' v7)/\Only (fun b => b=a) w v7):=⟨⟨wr3,by have:=G1.out;have:=G3.out;omega,by have:=G2.out;have:=G4.out;omega,hA3⟩,B6.out.trans hO3 (fun _ _ h => h)⟩
   clear g5 g6 hA3 hO3 eS
   go_wp2
   go_ret2
   exact ⟨rfl,HR.out⟩
end
end Fr
end
end Go.Proofs.YtimhglmfckfclaaGreat
