/- Parts of the proof. -/
import Derived.Test.YtimhglmfckfclaaGreatDoorProg
import Derived.Test.YtimhglmfckfclaaGreatDoorM1
import Derived.BigQuiet
import Derived.Deep.QuietTactic
import Derived.Outline
import Derived.WalkLawsBesides
import Derived.WalkSpells
import Derived.Laws.EntriesVeiled
import Derived.Shelf.Abstract
import Derived.TacticsInMore
import Derived.LoopNIn
import Derived.LoopIn
import Derived.OwnWalkIn
set_option linter.unusedVariables false
set_option linter.unusedSimpArgs false
set_option maxRecDepth 100000
set_option maxHeartbeats 16000000
namespace Go.Proofs.YtimhglmfckfclaaGreatDoor
section
open Go.RowKit
namespace In
def IntArg (w:World) (v:Value) (ps:List Int):Prop :=
 ∃ p cap,v = .slice p ps.length cap/\∀ j (hj:j<ps.length),∃ g o,p=some ⟨g,o,none⟩/\g<w.heap.size/\w.cell? ⟨g,o+j,none⟩=some (.int .i64 ps[j])
theorem own_ints {w:World} {base n:Nat} {v:Value} {ps:List Int} {f:Int->Value} (hf:∀ x,f x = .int .i64 x) (hn:n=ps.length) (h:w.ownsRow base 3 1 v n (ps.map f)):IntArg w v ps:=by
 subst hn
 rcases Nat.eq_zero_or_pos ps.length with h0 | h0
 ·have e:ps=[]:=List.eq_nil_of_length_eq_zero h0
  subst e
  rcases h.2 with ⟨rfl,_⟩ | ⟨g,cap,cur,rfl,_⟩
  ·exact ⟨none,0,rfl,fun j hj => absurd hj (Nat.not_lt_zero _)⟩
  ·exact ⟨_,cap,rfl,fun j hj => absurd hj (Nat.not_lt_zero _)⟩
 ·obtain ⟨g,c,rfl,_,_,_,hg,hc⟩:=Ut.own_cells h h0
  exact ⟨_,c,rfl,fun j hj => ⟨g,0,rfl,hg,by rw [Nat.zero_add,hc j hj];simp [hj,hf]⟩⟩
theorem lit_ints (w:World) (ps:List Int) (t:TypeId):IntArg (w.alloc (.cells (ps.map (Value.int .i64)).toArray t)) (.slice (some ⟨w.heap.size,0,none⟩) ps.length ps.length) ps :=
 ⟨_,ps.length,rfl,fun j hj => ⟨w.heap.size,0,rfl,by simp,by
  unfold World.cell?
  rw [Ut.alloc_at]
  simp [hj]⟩⟩
def SameRel (ps qs:List Int) (w:World) (i:Value) (wr:World):Prop :=
 ∃ k:Nat,k<=ps.length/\i = .int .i64 k/\ps.take k=qs.take k/\Below w.heap.size w wr
theorem same_any (v u:Value) (ps qs:List Int) (hp:(ps.length:Int)<=9223372036854775807) (hq:(qs.length:Int)<=9223372036854775807) (w:World) (h1:IntArg w v ps) (h2:IntArg w u qs) :
  Calls Tryz.prog 28 #[v,u] w fun e w' => e = .returned (.bool (decide (ps=qs)))/\Below w.heap.size w w':=by
 obtain ⟨p,cp,rfl,h1⟩:=h1
 obtain ⟨q,cq,rfl,h2⟩:=h2
 have H1:=zh h1;have H2:=zh h2
 clear h1 h2
 by_cases hl:ps.length=qs.length
 ·have e1:((ps.length:Int) != (qs.length:Int))=false:=by rw [hl];simp
  have HL:=zh hl
  clear hl
  go_enter Tryz.func28,Tryz.ntmps28
  go_wp2
  go_loopw [5] (fun i wr => SameRel ps qs w i wr) (fun i _ => ps.length-(intOf i).toNat)
  case atStart => exact ⟨0,Nat.zero_le _,rfl,by simp,Below.refl _ _⟩
  case round =>
   obtain ⟨k,hk,rfl,heq,hbr⟩:=hrel
   have HE:=zh heq;clear heq
   by_cases h:k<ps.length
   ·have hlt:k<qs.length:=by rw [<- HL.out];exact h
    obtain ⟨g1,o1,rfl,hg1,k1⟩:=H1.out k h
    obtain ⟨g2,o2,rfl,hg2,k2⟩:=H2.out k hlt
    have k1':wr.cell? ⟨g1,o1+k,none⟩=some (.int .i64 ps[k]):=(hbr.cell (p:=⟨g1,o1+k,none⟩) hg1).trans k1
    have k2':wr.cell? ⟨g2,o2+k,none⟩=some (.int .i64 qs[k]):=(hbr.cell (p:=⟨g2,o2+k,none⟩) hg2).trans k2
    have hyes:ps[k]=qs[k]->ps.take (k+1)=qs.take (k+1):=fun e => by
     rw [List.take_succ_eq_append_getElem h,List.take_succ_eq_append_getElem hlt,HE.out,e]
    have hno:ps[k]≠qs[k]->decide (ps=qs)=false:=fun e => by
     rw [decide_eq_false_iff_not];intro e2;apply e
     have:ps[k]? = qs[k]?:=by rw [e2]
     rw [List.getElem?_eq_getElem h,List.getElem?_eq_getElem hlt] at this
     exact Option.some.inj this
    obtain ⟨p,hpk⟩:∃ p,p=ps[k]:=⟨_,rfl⟩
    obtain ⟨q,hqk⟩:∃ q,q=qs[k]:=⟨_,rfl⟩
    clear k1 k2 H1 H2
    rw [<- hpk] at k1' hyes hno;rw [<- hqk] at k2' hyes hno
    have HY:=zh hyes;have HN:=zh hno
    clear hyes hno hpk hqk
    have b1:(0:Int)<=(k:Int):=by omega
    have b2:(k:Int)<(ps.length:Int):=by omega
    have b3:(k:Int)<(qs.length:Int):=by omega
    by_cases hz:p=q
    ·have HT:Hid (ps.take (k+1)=qs.take (k+1)):=HY.out hz
     subst hz
     have hn:(p == p)=true:=by simp
     go_wp2
     go_quiet (fail)
     go_wp2
     go_roundw
     case rel => exact ⟨k+1,by omega,by go_num,HT,Ut.below_drewN hbr _⟩
     case measure => simp [intOf];omega
    ·have hn:(p == q)=false:=by simp [hz]
     have HZ:=zh hz;clear hz
     go_wp2
     go_quiet (fail)
     go_wp2
     go_ret
     exact ⟨Ut.ret_bool (by rw [HN.out HZ.out]),Ut.below_drewN hbr _⟩
   ·obtain rfl:k=ps.length:=by omega
    have HG:Hid (decide (ps=qs)=true):=by
     show _=_
     have e:=HE.out
     rw [List.take_length,HL.out,List.take_length] at e
     rw [decide_eq_true_eq];exact e
    clear HE HL
    go_wp2
    go_ret
    exact ⟨Ut.ret_bool HG.out.symm,hbr⟩
 ·have e1:((ps.length:Int) != (qs.length:Int))=true:=by rw [bne_iff_ne];omega
  have HG:Hid (decide (ps=qs)=false):=by
   show _=_;rw [decide_eq_false_iff_not];intro e;exact hl (by rw [e])
  clear hl
  go_enter Tryz.func28,Tryz.ntmps28
  go_wp2
  go_ret
  exact ⟨Ut.ret_bool HG.out.symm,Below.refl _ _⟩
end In
end
section
open Go.RowKit Go.Maps
namespace Fr
attribute [local go_sem] Oper.semAt_some
def Kept (C Fp:Nat->Prop) (w A:World):Prop:=∀ b,C b->¬ Fp b/\b<A.heap.size/\A.heap[b]? = w.heap[b]?
theorem Kept.agree {C Fp:Nat->Prop} {w A:World} (h:Kept C Fp w A):∀ b,C b->b<A.heap.size/\A.heap[b]? = w.heap[b]?:=fun b hb => (h b hb).2
theorem Kept.yield {C Fp Fp':Nat->Prop} {w A A':World} (h:Kept C Fp w A) (ho:Only Fp A A') (hn:∀ b,Fp' b->Fp b\/A.heap.size<=b):Kept C Fp' w A':=fun b hb => by
 obtain ⟨h1,h2,h3⟩:=h b hb
 refine ⟨fun hf => ?_,Nat.lt_of_lt_of_le h2 ho.size,(ho.block b h2 h1).trans h3⟩
 rcases hn b hf with h4 | h4
 ·exact h1 h4
 ·omega
def encI (i:Int):Array Value:=#[.int .i64 i]
theorem frees_seq (n:Nat) (bx:Nat) (v:Value) (ls:List Int) (hll:ls.length<=65536) (C:Nat->Prop) (w:World)
  (hC:∀ W,(∀ b,C b->b<W.heap.size/\W.heap[b]? = w.heap[b]?)->W.cell? ⟨bx,0,none⟩=some v/\In.IntArg W v ls) :
  Fo.SeqF Fence.wide n Tryz.prog 117 #[.pointer (some ⟨bx,0,none⟩)] encI (fun ys => ys=ls) (fun p => p <+: ls) C w:=by
 intro l J Jx W Fp0 hCW hFp hJ hJx hY h0
 obtain ⟨cv,p,c,rfl,-⟩:=hC W hCW
 have HC:=zh hC
 have HJ:=zh hJ;have HY:=zh hY
 have HK0:Hid (Kept C Fp0 w W):=fun b hb => ⟨fun hf => (hFp b hf).2 hb,hCW b hb⟩
 have H0:=zh h0
 have HCV:Hid (∀ A:World,(∀ b,C b->b<A.heap.size/\A.heap[b]? = w.heap[b]?)->∀ (j:Nat) (i:Int),ls[j]? = some i->∃ ga oa,p=some ⟨ga,oa,none⟩/\A.cell? ⟨ga,oa+j,none⟩=some (.int .i64 i)):=fun A hA j i hji => by
  obtain ⟨h2,p2,c2,e,hc⟩:=HC.out A hA
  have hlt:=(List.getElem?_eq_some_iff.1 hji).1
  obtain ⟨ga,oa,k1,k2,k3⟩:=hc j hlt
  injection e with e1 e2 e3
  refine ⟨ga,oa,e1.trans k1,?_⟩
  have e4:ls[j]=i:=(List.getElem?_eq_some_iff.1 hji).2
  rw [k3,e4]
 clear hC hJ hJx hY hCW hFp h0
 refine callsIn_of_wp Tryz.func117 rfl trivial ?_ rfl
 simp only [Tryz.ntmps117,List.size_toArray,List.length_cons,List.length_nil,Nat.reduceAdd,Nat.reduceSub,Array.replicate_succ,Array.replicate_zero,List.push_toArray,List.append_toArray,List.nil_append,List.cons_append]
 gi_wp2
 gi_loopw [7] (fun i wr => ∃ (k:Nat) (Fp:Nat->Prop),k<=ls.length/\i = .int .i64 k/\J (ls.take k) Fp wr/\W.heap.size<=wr.heap.size/\Kept C Fp w wr) (fun i _ => ls.length-(intOf i).toNat)
 case atStart => exact ⟨0,Fp0,Nat.zero_le _,rfl,H0.out,Nat.le_refl _,HK0.out⟩
 case round =>
  obtain ⟨k,Fp,hk,rfl,hj,hsz,hkp⟩:=hrel
  have b0:(0:Int)<=(k:Int):=by omega
  by_cases hlt:k<ls.length
  ·have b1:(k:Int)<(ls.length:Int):=by omega
   obtain ⟨i,hi⟩:∃ i,ls[k]? = some i:=⟨_,List.getElem?_eq_getElem hlt⟩
   obtain ⟨ga,oa,rfl,c1⟩:=HCV.out wr hkp.agree k i hi
   have htk:ls.take (k+1)=ls.take k ++ [i]:=by rw [List.take_add_one,hi];rfl
   obtain ⟨fn,tmps,assign,body,hy,hR⟩:=HY.out (ls.take k) i Fp wr hj hsz (by
    show _ <+: _
    rw [<- htk];exact List.take_prefix _ _)
   unfold encI at hy
   have HR:=zh hR;have HI:=zh hi;have HLT:=zh hlt;have HKP:=zh hkp
   have HTK:=zh htk;have HSZ:=zh hsz
   clear hR hi hlt hj hkp htk hsz
   gi_wp2_with fail
   refine ⟨fun h => by simp [Fence.wide] at h,HR.out.mono ?_⟩
   rintro e W3 (⟨rfl,Fp',hJ3,ho3,hn3⟩ | ⟨rfl,Fp',hJx3,-,-⟩)
   ·have HU:Hid (J (ls.take (k+1)) Fp' W3):=by show J _ _ _;rw [HTK.out];exact hJ3
    have HS3:Hid (W.heap.size<=W3.heap.size):=Nat.le_trans HSZ.out ho3.size
    have HK3:=zh (HKP.out.yield ho3 hn3)
    clear hJ3 ho3 hn3
    gi_wp2
    go_roundw
    case rel => have:=HLT.out;exact ⟨k+1,Fp',by omega,rfl,HU.out,HS3.out,HK3.out⟩
    case measure => have:=HLT.out;simp [intOf];omega
   ·have HU:Hid (Jx (ls.take (k+1)) Fp' W3):=by show Jx _ _ _;rw [HTK.out];exact hJx3
    clear hJx3
    gi_wp2
    refine bodyPost_ret (results_none rfl _ _ _) rfl ?_
    exact ⟨⟨_,rfl⟩,.inr ⟨_,Fp',List.take_prefix _ _,HU.out⟩⟩
  ·have b1:(ls.length:Int)<=(k:Int):=by omega
   have e:ls.take k=ls:=List.take_of_length_le (by omega)
   rw [e] at hj
   clear hlt
   gi_wp2
   go_end0
   exact ⟨⟨_,rfl⟩,.inl ⟨_,Fp,rfl,hj⟩⟩
theorem all_seq (n:Nat) (bx:Nat) (v:Value) (ls:List Int) (hll:ls.length<=65536) (C:Nat->Prop) (w:World)
  (hC:∀ W,(∀ b,C b->b<W.heap.size/\W.heap[b]? = w.heap[b]?)->W.cell? ⟨bx,0,none⟩=some v/\In.IntArg W v ls) :
  Fo.SeqF Fence.wide n Tryz.prog 193 #[.pointer (some ⟨bx,0,none⟩)] encI (fun ys => ys=ls) (fun p => p <+: ls) C w:=by
 intro l J Jx W Fp0 hCW hFp hJ hJx hY h0
 obtain ⟨cv,p,c,rfl,-⟩:=hC W hCW
 have HC:=zh hC
 have HJ:=zh hJ;have HY:=zh hY
 have HK0:Hid (Kept C Fp0 w W):=fun b hb => ⟨fun hf => (hFp b hf).2 hb,hCW b hb⟩
 have H0:=zh h0
 have HCV:Hid (∀ A:World,(∀ b,C b->b<A.heap.size/\A.heap[b]? = w.heap[b]?)->∀ (j:Nat) (i:Int),ls[j]? = some i->∃ ga oa,p=some ⟨ga,oa,none⟩/\A.cell? ⟨ga,oa+j,none⟩=some (.int .i64 i)):=fun A hA j i hji => by
  obtain ⟨h2,p2,c2,e,hc⟩:=HC.out A hA
  have hlt:=(List.getElem?_eq_some_iff.1 hji).1
  obtain ⟨ga,oa,k1,k2,k3⟩:=hc j hlt
  injection e with e1 e2 e3
  refine ⟨ga,oa,e1.trans k1,?_⟩
  have e4:ls[j]=i:=(List.getElem?_eq_some_iff.1 hji).2
  rw [k3,e4]
 clear hC hJ hJx hY hCW hFp h0
 refine callsIn_of_wp Tryz.func193 rfl trivial ?_ rfl
 simp only [Tryz.ntmps193,List.size_toArray,List.length_cons,List.length_nil,Nat.reduceAdd,Nat.reduceSub,Array.replicate_succ,Array.replicate_zero,List.push_toArray,List.append_toArray,List.nil_append,List.cons_append]
 gi_wp2
 gi_loopw [7] (fun i wr => ∃ (k:Nat) (Fp:Nat->Prop),k<=ls.length/\i = .int .i64 k/\J (ls.take k) Fp wr/\W.heap.size<=wr.heap.size/\Kept C Fp w wr) (fun i _ => ls.length-(intOf i).toNat)
 case atStart => exact ⟨0,Fp0,Nat.zero_le _,rfl,H0.out,Nat.le_refl _,HK0.out⟩
 case round =>
  obtain ⟨k,Fp,hk,rfl,hj,hsz,hkp⟩:=hrel
  have b0:(0:Int)<=(k:Int):=by omega
  by_cases hlt:k<ls.length
  ·have b1:(k:Int)<(ls.length:Int):=by omega
   obtain ⟨i,hi⟩:∃ i,ls[k]? = some i:=⟨_,List.getElem?_eq_getElem hlt⟩
   obtain ⟨ga,oa,rfl,c1⟩:=HCV.out wr hkp.agree k i hi
   have htk:ls.take (k+1)=ls.take k ++ [i]:=by rw [List.take_add_one,hi];rfl
   obtain ⟨fn,tmps,assign,body,hy,hR⟩:=HY.out (ls.take k) i Fp wr hj hsz (by
    show _ <+: _
    rw [<- htk];exact List.take_prefix _ _)
   unfold encI at hy
   have HR:=zh hR;have HI:=zh hi;have HLT:=zh hlt;have HKP:=zh hkp
   have HTK:=zh htk;have HSZ:=zh hsz
   clear hR hi hlt hj hkp htk hsz
   gi_wp2_with fail
   refine ⟨fun h => by simp [Fence.wide] at h,HR.out.mono ?_⟩
   rintro e W3 (⟨rfl,Fp',hJ3,ho3,hn3⟩ | ⟨rfl,Fp',hJx3,-,-⟩)
   ·have HU:Hid (J (ls.take (k+1)) Fp' W3):=by show J _ _ _;rw [HTK.out];exact hJ3
    have HS3:Hid (W.heap.size<=W3.heap.size):=Nat.le_trans HSZ.out ho3.size
    have HK3:=zh (HKP.out.yield ho3 hn3)
    clear hJ3 ho3 hn3
    gi_wp2
    go_roundw
    case rel => have:=HLT.out;exact ⟨k+1,Fp',by omega,rfl,HU.out,HS3.out,HK3.out⟩
    case measure => have:=HLT.out;simp [intOf];omega
   ·have HU:Hid (Jx (ls.take (k+1)) Fp' W3):=by show Jx _ _ _;rw [HTK.out];exact hJx3
    clear hJx3
    gi_wp2
    refine bodyPost_ret (results_none rfl _ _ _) rfl ?_
    exact ⟨⟨_,rfl⟩,.inr ⟨_,Fp',List.take_prefix _ _,HU.out⟩⟩
  ·have b1:(ls.length:Int)<=(k:Int):=by omega
   have e:ls.take k=ls:=List.take_of_length_le (by omega)
   rw [e] at hj
   clear hlt
   gi_wp2
   go_end0
   exact ⟨⟨_,rfl⟩,.inl ⟨_,Fp,rfl,hj⟩⟩
theorem und_seq (n:Nat) (bx:Nat) (v:Value) (ls:List Int) (hll:ls.length<=65536) (C:Nat->Prop) (w:World)
  (hC:∀ W,(∀ b,C b->b<W.heap.size/\W.heap[b]? = w.heap[b]?)->W.cell? ⟨bx,0,none⟩=some v/\In.IntArg W v ls) :
  Fo.SeqF Fence.wide n Tryz.prog 126 #[.pointer (some ⟨bx,0,none⟩)] encI (fun ys => ys=ls) (fun p => p <+: ls) C w:=by
 intro l J Jx W Fp0 hCW hFp hJ hJx hY h0
 obtain ⟨cv,p,c,rfl,-⟩:=hC W hCW
 have HC:=zh hC
 have HJ:=zh hJ;have HY:=zh hY
 have HK0:Hid (Kept C Fp0 w W):=fun b hb => ⟨fun hf => (hFp b hf).2 hb,hCW b hb⟩
 have H0:=zh h0
 have HCV:Hid (∀ A:World,(∀ b,C b->b<A.heap.size/\A.heap[b]? = w.heap[b]?)->∀ (j:Nat) (i:Int),ls[j]? = some i->∃ ga oa,p=some ⟨ga,oa,none⟩/\A.cell? ⟨ga,oa+j,none⟩=some (.int .i64 i)):=fun A hA j i hji => by
  obtain ⟨h2,p2,c2,e,hc⟩:=HC.out A hA
  have hlt:=(List.getElem?_eq_some_iff.1 hji).1
  obtain ⟨ga,oa,k1,k2,k3⟩:=hc j hlt
  injection e with e1 e2 e3
  refine ⟨ga,oa,e1.trans k1,?_⟩
  have e4:ls[j]=i:=(List.getElem?_eq_some_iff.1 hji).2
  rw [k3,e4]
 clear hC hJ hJx hY hCW hFp h0
 refine callsIn_of_wp Tryz.func126 rfl trivial ?_ rfl
 simp only [Tryz.ntmps126,List.size_toArray,List.length_cons,List.length_nil,Nat.reduceAdd,Nat.reduceSub,Array.replicate_succ,Array.replicate_zero,List.push_toArray,List.append_toArray,List.nil_append,List.cons_append]
 gi_wp2
 refine wpIn_wide.2 ?_
 go_step3
 refine (wpIn_wide (n:=n)).1 ?_
 gi_wp2
 refine wpIn_label ?_
 gi_wp2
 gi_loopw [7] (fun i wr => ∃ (k:Nat) (Fp:Nat->Prop),k<=ls.length/\i = .int .i64 k/\J (ls.take k) Fp wr/\W.heap.size<=wr.heap.size/\Kept C Fp w wr) (fun i _ => ls.length-(intOf i).toNat)
 case atStart => exact ⟨0,Fp0,Nat.zero_le _,rfl,H0.out,Nat.le_refl _,HK0.out⟩
 case round =>
  obtain ⟨k,Fp,hk,rfl,hj,hsz,hkp⟩:=hrel
  have b0:(0:Int)<=(k:Int):=by omega
  by_cases hlt:k<ls.length
  ·have b1:(k:Int)<(ls.length:Int):=by omega
   obtain ⟨i,hi⟩:∃ i,ls[k]? = some i:=⟨_,List.getElem?_eq_getElem hlt⟩
   obtain ⟨ga,oa,rfl,c1⟩:=HCV.out wr hkp.agree k i hi
   have htk:ls.take (k+1)=ls.take k ++ [i]:=by rw [List.take_add_one,hi];rfl
   obtain ⟨fn,tmps,assign,body,hy,hR⟩:=HY.out (ls.take k) i Fp wr hj hsz (by
    show _ <+: _
    rw [<- htk];exact List.take_prefix _ _)
   unfold encI at hy
   have HR:=zh hR;have HI:=zh hi;have HLT:=zh hlt;have HKP:=zh hkp
   have HTK:=zh htk;have HSZ:=zh hsz
   clear hR hi hlt hj hkp htk hsz
   gi_wp2_with fail
   refine ⟨fun h => by simp [Fence.wide] at h,HR.out.mono ?_⟩
   rintro e W3 (⟨rfl,Fp',hJ3,ho3,hn3⟩ | ⟨rfl,Fp',hJx3,-,-⟩)
   ·have HU:Hid (J (ls.take (k+1)) Fp' W3):=by show J _ _ _;rw [HTK.out];exact hJ3
    have HS3:Hid (W.heap.size<=W3.heap.size):=Nat.le_trans HSZ.out ho3.size
    have HK3:=zh (HKP.out.yield ho3 hn3)
    clear hJ3 ho3 hn3
    gi_wp2
    go_roundw
    case rel => have:=HLT.out;exact ⟨k+1,Fp',by omega,rfl,HU.out,HS3.out,HK3.out⟩
    case measure => have:=HLT.out;simp [intOf];omega
   ·have HU:Hid (Jx (ls.take (k+1)) Fp' W3):=by show Jx _ _ _;rw [HTK.out];exact hJx3
    clear hJx3
    gi_wp2
    simp only [Exit.noGoto]
    gi_wp2
    refine bodyPost_end (results_none rfl _ _ _) rfl ?_
    exact ⟨⟨_,rfl⟩,.inr ⟨_,Fp',List.take_prefix _ _,HU.out⟩⟩
  ·have b1:(ls.length:Int)<=(k:Int):=by omega
   have e:ls.take k=ls:=List.take_of_length_le (by omega)
   rw [e] at hj
   clear hlt
   gi_wp2
   simp only [Exit.noGoto]
   gi_wp2
   go_end0
   exact ⟨⟨_,rfl⟩,.inl ⟨_,Fp,rfl,hj⟩⟩
end Fr
end
section
namespace Vw
structure Sess where
 slot:Int
 birth:Int
 us:Int
 ub:Int
 kind:Int
 user:ByteArray
 label:ByteArray
 scopes:Nat
 level:Int
 born:Int
 dl:Int
 depth:Int
def Sess.cells (s:Sess):List Value:=[.int .i64 s.slot,.int .i64 s.birth,.int .i64 s.us,.int .i64 s.ub,.int .i64 s.kind,.string s.user,.string s.label,.int .u64 (s.scopes:Int),.int .i64 s.level,.int .i64 s.born,.int .i64 s.dl,.int .i64 s.depth]
end Vw
end
section
namespace Fr
open Vw (Sess)
structure Slt where
 used:Bool
 dead:Bool
 kids:Int
 prev:Int
 next:Int
 s:Sess
def s0:Sess:=⟨0,0,0,0,0,ByteArray.empty,ByteArray.empty,0,0,0,0,0⟩
def bare:Slt:=⟨false,false,-1,-1,-1,s0⟩
def zeroS:Slt:=⟨false,false,0,0,0,s0⟩
def sl (S:List Slt) (i:Int):Slt:=S.getD i.toNat bare
def put (S:List Slt) (i:Int) (x:Slt):List Slt:=S.set i.toNat x
def thr (i:Int):Bool:=decide (0<=i/\i<32)
theorem thr_iff {i:Int}:thr i=true↔0<=i/\i<32:=by unfold thr;simp
theorem thr_no {i:Int}:thr i=false↔¬ (0<=i/\i<32):=by unfold thr;simp
theorem put_len (S:List Slt) (i:Int) (x:Slt):(put S i x).length=S.length:=by unfold put;simp
theorem sl_put (S:List Slt) (h:S.length=32) (i j:Int) (x:Slt) (hi:thr i=true) (hj:0<=j):sl (put S i x) j=if i=j then x else sl S j:=by
 have hi:=thr_iff.1 hi
 unfold sl put
 rw [List.getD_eq_getElem?_getD,List.getD_eq_getElem?_getD,List.getElem?_set]
 by_cases e:i=j
 ·subst e;rw [if_pos rfl,if_pos (by omega),if_pos rfl];rfl
 ·rw [if_neg (by omega),if_neg e]
theorem sl_put_same (S:List Slt) (h:S.length=32) (i:Int) (x:Slt) (hi:thr i=true):sl (put S i x) i=x:=by
 rw [sl_put S h i i x hi (thr_iff.1 hi).1,if_pos rfl]
theorem sl_put_ne (S:List Slt) (h:S.length=32) (i j:Int) (x:Slt) (hi:thr i=true) (hj:thr j=true) (hn:i≠j):sl (put S i x) j=sl S j:=by
 rw [sl_put S h i j x hi (thr_iff.1 hj).1,if_neg hn]
theorem slots_ext {S T:List Slt} (h1:S.length=32) (h2:T.length=32) (h:∀ i,thr i=true->sl S i=sl T i):S=T:=by
 apply List.ext_getElem (by omega)
 intro k hk hk2
 have:=h (k:Int) (thr_iff.2 (by omega))
 unfold sl at this
 rw [List.getD_eq_getElem?_getD,List.getD_eq_getElem?_getD] at this
 simpa [hk,hk2] using this
theorem put_self (S:List Slt) (h:S.length=32) (i:Int) (hi:thr i=true) (x:Slt) (hx:x=sl S i):put S i x=S:=by
 refine slots_ext (by rw [put_len,h]) h (fun j hj => ?_)
 rw [sl_put S h i j x hi (thr_iff.1 hj).1]
 split
 ·rename_i e;subst e;exact hx
 ·rfl
def lnk (S:List Slt) (i k:Int):List Slt:=put (put S i { sl S i with next:=k }) k { sl (put S i { sl S i with next:=k }) k with prev:=i }
def setS (S:List Slt) (i p n:Int):List Slt:=put S i { sl S i with prev:=p,next:=n }
def well (S:List Slt) (i:Int):Bool:=thr i && (thr (sl S i).prev && (thr (sl S i).next && ((sl S (sl S i).prev).next == i && (sl S (sl S i).next).prev == i)))
def pushS (S:List Slt) (last i:Int):List Slt:=if last = -1 then lnk S i i else lnk (lnk S last i) i (sl S last).next
def canPush (S:List Slt) (last i:Int):Bool:=thr i && (last == -1 || (well S last && (i != last && i != (sl S last).next)))
def dropS (S:List Slt) (i:Int):List Slt :=
 let S1:=lnk S (sl S i).prev (sl S i).next
 put S1 i { sl S1 i with prev:=-1,next:=-1 }
def dropL (S:List Slt) (last i:Int):Int:=if i≠last then last else if (sl S i).prev=i then -1 else (sl S i).prev
def canDrop (S:List Slt) (last i:Int):Bool:=thr last && well S i
def spliceS (S:List Slt) (one two:Int):List Slt:=lnk (lnk S one (sl S two).next) two (sl S one).next
def canSplice (S:List Slt) (one two:Int):Bool:=one != two && (well S one && (well S two && ((sl S one).next != two && (sl S two).next != one)))
theorem lnk_len (S:List Slt) (i k:Int):(lnk S i k).length=S.length:=by unfold lnk;rw [put_len,put_len]
theorem setS_len (S:List Slt) (i p n:Int):(setS S i p n).length=S.length:=by unfold setS;rw [put_len]
theorem sl_lnk (S:List Slt) (h:S.length=32) (i k j:Int) (hi:thr i=true) (hk:thr k=true) (hj:thr j=true) :
  sl (lnk S i k) j={ sl S j with next:=if i=j then k else (sl S j).next,prev:=if k=j then i else (sl S j).prev }:=by
 unfold lnk
 rw [sl_put _ (by rw [put_len,h]) k j _ hk (thr_iff.1 hj).1]
 split
 ·rename_i e;subst e
  rw [sl_put _ h i k _ hi (thr_iff.1 hk).1]
  split
  ·rename_i e;subst e;rfl
  ·rfl
 ·rw [sl_put _ h i j _ hi (thr_iff.1 hj).1]
  split
  ·rename_i e;subst e;rfl
  ·rfl
theorem sl_setS (S:List Slt) (h:S.length=32) (i p n j:Int) (hi:thr i=true) (hj:thr j=true) :
  sl (setS S i p n) j=if i=j then { sl S j with prev:=p,next:=n } else sl S j:=by
 unfold setS
 rw [sl_put _ h i j _ hi (thr_iff.1 hj).1]
 split
 ·rename_i e;subst e;rfl
 ·rfl
theorem setS_same (S:List Slt) (h:S.length=32) (i:Int) (hi:thr i=true) {p n:Int} (e1:(sl S i).prev=p) (e2:(sl S i).next=n):setS S i p n=S:=by
 unfold setS
 exact put_self S h i hi _ (by subst e1 e2;rfl)
theorem well_iff {S:List Slt} {i:Int}:well S i=true↔thr i=true/\thr (sl S i).prev=true/\thr (sl S i).next=true/\(sl S (sl S i).prev).next=i/\(sl S (sl S i).next).prev=i:=by
 unfold well;simp
theorem Slt.ext' {a b:Slt} (h1:a.used=b.used) (h2:a.dead=b.dead) (h3:a.kids=b.kids) (h4:a.prev=b.prev) (h5:a.next=b.next) (h6:a.s=b.s):a=b:=by
 cases a;cases b;simp_all
theorem push_one (S:List Slt) (h:S.length=32) (last i:Int) (hw:well S last=true) (hi:thr i=true) (hn:i≠last) (hf:(sl S last).next=last) :
  setS (setS S i last last) last i i=pushS S last i:=by
 obtain ⟨w1,w2,w3,w4,w5⟩:=well_iff.1 hw
 unfold pushS
 have h0:=thr_iff.1 w1
 rw [if_neg (by omega)]
 have p1:(sl S last).prev=last:=by rw [hf] at w5;exact w5
 refine slots_ext (by rw [setS_len,setS_len,h]) (by rw [lnk_len,lnk_len,h]) (fun j hj => ?_)
 rw [sl_setS _ (by rw [setS_len,h]) _ _ _ _ w1 hj,sl_setS _ h _ _ _ _ hi hj,sl_lnk _ (by rw [lnk_len,h]) _ _ _ hi (by rw [hf];exact w1) hj,sl_lnk _ h _ _ _ w1 hi hj,hf]
 by_cases e1:last=j <;> by_cases e2:i=j <;> simp_all
theorem push_more (S:List Slt) (h:S.length=32) (last i f:Int) (hw:well S last=true) (hi:thr i=true) (hn:i≠last) (hni:i≠f) (hf:(sl S last).next=f) (hne:f≠last) :
  setS (setS (setS S i last f) last (sl (setS S i last f) last).prev i) f i (sl (setS (setS S i last f) last (sl (setS S i last f) last).prev i) f).next=pushS S last i:=by
 obtain ⟨w1,w2,w3,w4,w5⟩:=well_iff.1 hw
 rw [hf] at w3 w5
 unfold pushS
 have h0:=thr_iff.1 w1
 rw [if_neg (by omega)]
 refine slots_ext (by rw [setS_len,setS_len,setS_len,h]) (by rw [lnk_len,lnk_len,h]) (fun j hj => ?_)
 rw [sl_setS _ (by rw [setS_len,setS_len,h]) _ _ _ _ w3 hj,sl_setS _ (by rw [setS_len,h]) _ _ _ _ w1 hj,sl_setS _ (by rw [setS_len,h]) _ _ _ _ w1 w3,sl_setS _ h _ _ _ _ hi hj,sl_setS _ h _ _ _ _ hi w1,sl_setS _ h _ _ _ _ hi w3,sl_lnk _ (by rw [lnk_len,h]) _ _ _ hi (by rw [hf];exact w3) hj,sl_lnk _ h _ _ _ w1 hi hj,hf]
 by_cases e1:last=j <;> by_cases e2:i=j <;> by_cases e3:f=j <;> simp_all
theorem push_none (S:List Slt) (h:S.length=32) (i:Int) (hi:thr i=true):setS S i i i=pushS S (-1) i:=by
 unfold pushS
 rw [if_pos rfl]
 refine slots_ext (by rw [setS_len,h]) (by rw [lnk_len,h]) (fun j hj => ?_)
 rw [sl_setS _ h _ _ _ _ hi hj,sl_lnk _ h _ _ _ hi hi hj]
 by_cases e1:i=j <;> simp_all
theorem drop_self (S:List Slt) (h:S.length=32) (i:Int) (hw:well S i=true) (hp:(sl S i).prev=i):setS S i (-1) (-1)=dropS S i:=by
 obtain ⟨w1,w2,w3,w4,w5⟩:=well_iff.1 hw
 have hn:(sl S i).next=i:=by rw [hp] at w4;exact w4
 unfold dropS
 simp only
 rw [hp,hn]
 refine slots_ext (by rw [setS_len,h]) (by rw [put_len,lnk_len,h]) (fun j hj => ?_)
 rw [sl_setS _ h _ _ _ _ w1 hj,sl_put _ (by rw [lnk_len,h]) _ _ _ w1 (thr_iff.1 hj).1,sl_lnk _ h _ _ _ w1 w1 hj,sl_lnk _ h _ _ _ w1 w1 w1]
 by_cases e1:i=j <;> simp_all
theorem drop_two (S:List Slt) (h:S.length=32) (i p:Int) (hw:well S i=true) (hp:(sl S i).prev=p) (hn:(sl S i).next=p) (hne:p≠i):setS (setS S p p p) i (-1) (-1)=dropS S i:=by
 obtain ⟨w1,w2,w3,w4,w5⟩:=well_iff.1 hw
 rw [hp] at w2 w4
 unfold dropS
 simp only
 rw [hp,hn]
 refine slots_ext (by rw [setS_len,setS_len,h]) (by rw [put_len,lnk_len,h]) (fun j hj => ?_)
 rw [sl_setS _ (by rw [setS_len,h]) _ _ _ _ w1 hj,sl_setS _ h _ _ _ _ w2 hj,sl_put _ (by rw [lnk_len,h]) _ _ _ w1 (thr_iff.1 hj).1,sl_lnk _ h _ _ _ w2 w2 hj,sl_lnk _ h _ _ _ w2 w2 w1]
 by_cases e1:i=j <;> by_cases e2:p=j <;> simp_all
theorem drop_more (S:List Slt) (h:S.length=32) (i p n:Int) (hw:well S i=true) (hp:(sl S i).prev=p) (hn:(sl S i).next=n) (hne:p≠i) (hpn:p≠n) :
  setS (setS (setS S p (sl S p).prev n) n p (sl (setS S p (sl S p).prev n) n).next) i (-1) (-1)=dropS S i:=by
 obtain ⟨w1,w2,w3,w4,w5⟩:=well_iff.1 hw
 rw [hp] at w2 w4
 rw [hn] at w3 w5
 have hni:n≠i:=fun e => by subst e;rw [hp] at w5;exact hne w5
 unfold dropS
 simp only
 rw [hp,hn]
 refine slots_ext (by rw [setS_len,setS_len,setS_len,h]) (by rw [put_len,lnk_len,h]) (fun j hj => ?_)
 rw [sl_setS _ (by rw [setS_len,setS_len,h]) _ _ _ _ w1 hj,sl_setS _ (by rw [setS_len,h]) _ _ _ _ w3 hj,sl_setS _ h _ _ _ _ w2 hj,sl_setS _ h _ _ _ _ w2 w3,sl_put _ (by rw [lnk_len,h]) _ _ _ w1 (thr_iff.1 hj).1,sl_lnk _ h _ _ _ w2 w3 hj,sl_lnk _ h _ _ _ w2 w3 w1]
 by_cases e1:i=j <;> by_cases e2:p=j <;> by_cases e3:n=j <;> simp_all
def spl (one two f g:Int) (S:List Slt) (i:Int):List Slt :=
 setS S i (if i=g then one else if i=f then two else (sl S i).prev) (if i=one then g else if i=two then f else (sl S i).next)
theorem spl_len (one two f g:Int) (S:List Slt) (i:Int):(spl one two f g S i).length=S.length:=setS_len _ _ _ _
theorem sl_spl (one two f g:Int) (S:List Slt) (h:S.length=32) (i j:Int) (hi:thr i=true) (hj:thr j=true) :
  sl (spl one two f g S i) j={ sl S j with prev:=if i=j then (if j=g then one else if j=f then two else (sl S j).prev) else (sl S j).prev,next:=if i=j then (if j=one then g else if j=two then f else (sl S j).next) else (sl S j).next }:=by
 unfold spl
 rw [sl_setS _ h _ _ _ _ hi hj]
 split
 ·rename_i e;subst e;rfl
 ·rfl
theorem splice_eq (S:List Slt) (h:S.length=32) (one two:Int) (hc:canSplice S one two=true) :
  [one,two,(sl S one).next,(sl S two).next].foldl (spl one two (sl S one).next (sl S two).next) S=spliceS S one two:=by
 unfold canSplice at hc
 simp only [Bool.and_eq_true,bne_iff_ne,ne_eq] at hc
 obtain ⟨h1,h2,h3,h4,h5⟩:=hc
 obtain ⟨w1,w2,w3,w4,w5⟩:=well_iff.1 h2
 obtain ⟨v1,v2,v3,v4,v5⟩:=well_iff.1 h3
 unfold spliceS
 obtain ⟨f,hf⟩:∃ f,f=(sl S one).next:=⟨_,rfl⟩
 obtain ⟨g,hg⟩:∃ g,g=(sl S two).next:=⟨_,rfl⟩
 rw [<- hf] at w3 w5 h4 ⊢
 rw [<- hg] at v3 v5 h5 ⊢
 have hfg:f≠g:=fun e => by subst e;rw [v5] at w5;exact h1 w5.symm
 simp only [List.foldl_cons,List.foldl_nil]
 refine slots_ext (by simp only [spl_len,h]) (by rw [lnk_len,lnk_len,h]) (fun j hj => ?_)
 rw [sl_spl _ _ _ _ _ (by simp only [spl_len,h]) _ _ v3 hj,sl_spl _ _ _ _ _ (by simp only [spl_len,h]) _ _ w3 hj,sl_spl _ _ _ _ _ (by simp only [spl_len,h]) _ _ v1 hj,sl_spl _ _ _ _ _ h _ _ w1 hj,sl_lnk _ (by rw [lnk_len,h]) _ _ _ v1 w3 hj,sl_lnk _ h _ _ _ w1 v3 hj]
 refine Slt.ext' rfl rfl rfl ?_ ?_ rfl
 ·show (if g=j then (if j=g then one else if j=f then two else (if f=j then (if j=g then one else if j=f then two else (if two=j then (if j=g then one else if j=f then two else (if one=j then (if j=g then one else if j=f then two else (sl S j).prev) else (sl S j).prev)) else (if one=j then (if j=g then one else if j=f then two else (sl S j).prev) else (sl S j).prev))) else _)) else _)=_
  generalize (sl S j).prev=x
  clear h h2 h3 w1 w2 w3 w4 w5 v1 v2 v3 v4 v5 hf hg hj
  grind
 ·generalize (sl S j).next=x
  clear h h2 h3 w1 w2 w3 w4 w5 v1 v2 v3 v4 v5 hf hg hj
  grind
end Fr
end
end Go.Proofs.YtimhglmfckfclaaGreatDoor
