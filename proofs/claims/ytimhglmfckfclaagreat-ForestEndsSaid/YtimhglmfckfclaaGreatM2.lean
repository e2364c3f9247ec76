/- Parts of the proof. -/
import Derived.Test.YtimhglmfckfclaaGreatM1
import Derived.Laws.EntriesVeiled
import Derived.Shelf.Abstract
import Derived.TacticsInMore
import Derived.LoopNIn
import Derived.LoopIn
import Derived.OwnWalkIn
set_option linter.unusedVariables false
set_option linter.unusedSimpArgs false
set_option maxRecDepth 100000
set_option maxHeartbeats 16000000
namespace Go.Proofs.YtimhglmfckfclaaGreat
section
open Go.RowKit Go.Maps
namespace Fr
attribute [local go_sem] Oper.semAt_some
def Kept (C Fp:Nat->Prop) (w A:World):Prop:=∀ b,C b->¬ Fp b/\b<A.heap.size/\A.heap[b]? = w.heap[b]?
theorem Kept.agree {C Fp:Nat->Prop} {w A:World} (h:Kept C Fp w A):∀ b,C b->b<A.heap.size/\A.heap[b]? = w.heap[b]?:=fun b hb => (h b hb).2
theorem Kept.yield {C Fp Fp':Nat->Prop} {w A A':World} (h:Kept C Fp w A) (ho:Only Fp A A') (hn:∀ b,Fp' b->Fp b\/A.heap.size<=b):Kept C Fp' w A':=fun b hb => by
 obtain ⟨h1,h2,h3⟩:=h b hb
 refine ⟨fun hf => ?_,Nat.lt_of_lt_of_le h2 ho.size,(ho.block b h2 h1).trans h3⟩
 rcases hn b hf with h4 | h4
 ·exact h1 h4
 ·omega
def encI (i:Int):Array Value:=#[.int .i64 i]
theorem frees_seq (n:Nat) (bx:Nat) (v:Value) (ls:List Int) (hll:ls.length<=65536) (C:Nat->Prop) (w:World)
  (hC:∀ W,(∀ b,C b->b<W.heap.size/\W.heap[b]? = w.heap[b]?)->W.cell? ⟨bx,0,none⟩=some v/\In.IntArg W v ls) :
  Fo.SeqF Fence.wide n Tryz.prog 59 #[.pointer (some ⟨bx,0,none⟩)] encI (fun ys => ys=ls) (fun p => p <+: ls) C w:=by
 intro l J Jx W Fp0 hCW hFp hJ hJx hY h0
 obtain ⟨cv,p,c,rfl,-⟩:=hC W hCW
 have HC:=zh hC
 have HJ:=zh hJ;have HY:=zh hY
 have HK0:Hid (Kept C Fp0 w W):=fun b hb => ⟨fun hf => (hFp b hf).2 hb,hCW b hb⟩
 have H0:=zh h0
 have HCV:Hid (∀ A:World,(∀ b,C b->b<A.heap.size/\A.heap[b]? = w.heap[b]?)->∀ (j:Nat) (i:Int),ls[j]? = some i->∃ ga oa,p=some ⟨ga,oa,none⟩/\A.cell? ⟨ga,oa+j,none⟩=some (.int .i64 i)):=fun A hA j i hji => by
  obtain ⟨h2,p2,c2,e,hc⟩:=HC.out A hA
  have hlt:=(List.getElem?_eq_some_iff.1 hji).1
  obtain ⟨ga,oa,k1,k2,k3⟩:=hc j hlt
  injection e with e1 e2 e3
  refine ⟨ga,oa,e1.trans k1,?_⟩
  have e4:ls[j]=i:=(List.getElem?_eq_some_iff.1 hji).2
  rw [k3,e4]
 clear hC hJ hJx hY hCW hFp h0
 refine callsIn_of_wp Tryz.func59 rfl trivial ?_ rfl
 simp only [Tryz.ntmps59,List.size_toArray,List.length_cons,List.length_nil,Nat.reduceAdd,Nat.reduceSub,Array.replicate_succ,Array.replicate_zero,List.push_toArray,List.append_toArray,List.nil_append,List.cons_append]
 gi_wp2
 gi_loopw [7] (fun i wr => ∃ (k:Nat) (Fp:Nat->Prop),k<=ls.length/\i = .int .i64 k/\J (ls.take k) Fp wr/\W.heap.size<=wr.heap.size/\Kept C Fp w wr) (fun i _ => ls.length-(intOf i).toNat)
 case atStart => exact ⟨0,Fp0,Nat.zero_le _,rfl,H0.out,Nat.le_refl _,HK0.out⟩
 case round =>
  obtain ⟨k,Fp,hk,rfl,hj,hsz,hkp⟩:=hrel
  have b0:(0:Int)<=(k:Int):=by omega
  by_cases hlt:k<ls.length
  ·have b1:(k:Int)<(ls.length:Int):=by omega
   obtain ⟨i,hi⟩:∃ i,ls[k]? = some i:=⟨_,List.getElem?_eq_getElem hlt⟩
   obtain ⟨ga,oa,rfl,c1⟩:=HCV.out wr hkp.agree k i hi
   have htk:ls.take (k+1)=ls.take k ++ [i]:=by rw [List.take_add_one,hi];rfl
   obtain ⟨fn,tmps,assign,body,hy,hR⟩:=HY.out (ls.take k) i Fp wr hj hsz (by
    show _ <+: _
    rw [<- htk];exact List.take_prefix _ _)
   unfold encI at hy
   have HR:=zh hR;have HI:=zh hi;have HLT:=zh hlt;have HKP:=zh hkp
   have HTK:=zh htk;have HSZ:=zh hsz
   clear hR hi hlt hj hkp htk hsz
   gi_wp2_with fail
   refine ⟨fun h => by simp [Fence.wide] at h,HR.out.mono ?_⟩
   rintro e W3 (⟨rfl,Fp',hJ3,ho3,hn3⟩ | ⟨rfl,Fp',hJx3,-,-⟩)
   ·have HU:Hid (J (ls.take (k+1)) Fp' W3):=by show J _ _ _;rw [HTK.out];exact hJ3
    have HS3:Hid (W.heap.size<=W3.heap.size):=Nat.le_trans HSZ.out ho3.size
    have HK3:=zh (HKP.out.yield ho3 hn3)
    clear hJ3 ho3 hn3
    gi_wp2
    go_roundw
    case rel => have:=HLT.out;exact ⟨k+1,Fp',by omega,rfl,HU.out,HS3.out,HK3.out⟩
    case measure => have:=HLT.out;simp [intOf];omega
   ·have HU:Hid (Jx (ls.take (k+1)) Fp' W3):=by show Jx _ _ _;rw [HTK.out];exact hJx3
    clear hJx3
    gi_wp2
    refine bodyPost_ret (results_none rfl _ _ _) rfl ?_
    exact ⟨⟨_,rfl⟩,.inr ⟨_,Fp',List.take_prefix _ _,HU.out⟩⟩
  ·have b1:(ls.length:Int)<=(k:Int):=by omega
   have e:ls.take k=ls:=List.take_of_length_le (by omega)
   rw [e] at hj
   clear hlt
   gi_wp2
   go_end0
   exact ⟨⟨_,rfl⟩,.inl ⟨_,Fp,rfl,hj⟩⟩
theorem all_seq (n:Nat) (bx:Nat) (v:Value) (ls:List Int) (hll:ls.length<=65536) (C:Nat->Prop) (w:World)
  (hC:∀ W,(∀ b,C b->b<W.heap.size/\W.heap[b]? = w.heap[b]?)->W.cell? ⟨bx,0,none⟩=some v/\In.IntArg W v ls) :
  Fo.SeqF Fence.wide n Tryz.prog 122 #[.pointer (some ⟨bx,0,none⟩)] encI (fun ys => ys=ls) (fun p => p <+: ls) C w:=by
 intro l J Jx W Fp0 hCW hFp hJ hJx hY h0
 obtain ⟨cv,p,c,rfl,-⟩:=hC W hCW
 have HC:=zh hC
 have HJ:=zh hJ;have HY:=zh hY
 have HK0:Hid (Kept C Fp0 w W):=fun b hb => ⟨fun hf => (hFp b hf).2 hb,hCW b hb⟩
 have H0:=zh h0
 have HCV:Hid (∀ A:World,(∀ b,C b->b<A.heap.size/\A.heap[b]? = w.heap[b]?)->∀ (j:Nat) (i:Int),ls[j]? = some i->∃ ga oa,p=some ⟨ga,oa,none⟩/\A.cell? ⟨ga,oa+j,none⟩=some (.int .i64 i)):=fun A hA j i hji => by
  obtain ⟨h2,p2,c2,e,hc⟩:=HC.out A hA
  have hlt:=(List.getElem?_eq_some_iff.1 hji).1
  obtain ⟨ga,oa,k1,k2,k3⟩:=hc j hlt
  injection e with e1 e2 e3
  refine ⟨ga,oa,e1.trans k1,?_⟩
  have e4:ls[j]=i:=(List.getElem?_eq_some_iff.1 hji).2
  rw [k3,e4]
 clear hC hJ hJx hY hCW hFp h0
 refine callsIn_of_wp Tryz.func122 rfl trivial ?_ rfl
 simp only [Tryz.ntmps122,List.size_toArray,List.length_cons,List.length_nil,Nat.reduceAdd,Nat.reduceSub,Array.replicate_succ,Array.replicate_zero,List.push_toArray,List.append_toArray,List.nil_append,List.cons_append]
 gi_wp2
 gi_loopw [7] (fun i wr => ∃ (k:Nat) (Fp:Nat->Prop),k<=ls.length/\i = .int .i64 k/\J (ls.take k) Fp wr/\W.heap.size<=wr.heap.size/\Kept C Fp w wr) (fun i _ => ls.length-(intOf i).toNat)
 case atStart => exact ⟨0,Fp0,Nat.zero_le _,rfl,H0.out,Nat.le_refl _,HK0.out⟩
 case round =>
  obtain ⟨k,Fp,hk,rfl,hj,hsz,hkp⟩:=hrel
  have b0:(0:Int)<=(k:Int):=by omega
  by_cases hlt:k<ls.length
  ·have b1:(k:Int)<(ls.length:Int):=by omega
   obtain ⟨i,hi⟩:∃ i,ls[k]? = some i:=⟨_,List.getElem?_eq_getElem hlt⟩
   obtain ⟨ga,oa,rfl,c1⟩:=HCV.out wr hkp.agree k i hi
   have htk:ls.take (k+1)=ls.take k ++ [i]:=by rw [List.take_add_one,hi];rfl
   obtain ⟨fn,tmps,assign,body,hy,hR⟩:=HY.out (ls.take k) i Fp wr hj hsz (by
    show _ <+: _
    rw [<- htk];exact List.take_prefix _ _)
   unfold encI at hy
   have HR:=zh hR;have HI:=zh hi;have HLT:=zh hlt;have HKP:=zh hkp
   have HTK:=zh htk;have HSZ:=zh hsz
   clear hR hi hlt hj hkp htk hsz
   gi_wp2_with fail
   refine ⟨fun h => by simp [Fence.wide] at h,HR.out.mono ?_⟩
   rintro e W3 (⟨rfl,Fp',hJ3,ho3,hn3⟩ | ⟨rfl,Fp',hJx3,-,-⟩)
   ·have HU:Hid (J (ls.take (k+1)) Fp' W3):=by show J _ _ _;rw [HTK.out];exact hJ3
    have HS3:Hid (W.heap.size<=W3.heap.size):=Nat.le_trans HSZ.out ho3.size
    have HK3:=zh (HKP.out.yield ho3 hn3)
    clear hJ3 ho3 hn3
    gi_wp2
    go_roundw
    case rel => have:=HLT.out;exact ⟨k+1,Fp',by omega,rfl,HU.out,HS3.out,HK3.out⟩
    case measure => have:=HLT.out;simp [intOf];omega
   ·have HU:Hid (Jx (ls.take (k+1)) Fp' W3):=by show Jx _ _ _;rw [HTK.out];exact hJx3
    clear hJx3
    gi_wp2
    refine bodyPost_ret (results_none rfl _ _ _) rfl ?_
    exact ⟨⟨_,rfl⟩,.inr ⟨_,Fp',List.take_prefix _ _,HU.out⟩⟩
  ·have b1:(ls.length:Int)<=(k:Int):=by omega
   have e:ls.take k=ls:=List.take_of_length_le (by omega)
   rw [e] at hj
   clear hlt
   gi_wp2
   go_end0
   exact ⟨⟨_,rfl⟩,.inl ⟨_,Fp,rfl,hj⟩⟩
theorem und_seq (n:Nat) (bx:Nat) (v:Value) (ls:List Int) (hll:ls.length<=65536) (C:Nat->Prop) (w:World)
  (hC:∀ W,(∀ b,C b->b<W.heap.size/\W.heap[b]? = w.heap[b]?)->W.cell? ⟨bx,0,none⟩=some v/\In.IntArg W v ls) :
  Fo.SeqF Fence.wide n Tryz.prog 82 #[.pointer (some ⟨bx,0,none⟩)] encI (fun ys => ys=ls) (fun p => p <+: ls) C w:=by
 intro l J Jx W Fp0 hCW hFp hJ hJx hY h0
 obtain ⟨cv,p,c,rfl,-⟩:=hC W hCW
 have HC:=zh hC
 have HJ:=zh hJ;have HY:=zh hY
 have HK0:Hid (Kept C Fp0 w W):=fun b hb => ⟨fun hf => (hFp b hf).2 hb,hCW b hb⟩
 have H0:=zh h0
 have HCV:Hid (∀ A:World,(∀ b,C b->b<A.heap.size/\A.heap[b]? = w.heap[b]?)->∀ (j:Nat) (i:Int),ls[j]? = some i->∃ ga oa,p=some ⟨ga,oa,none⟩/\A.cell? ⟨ga,oa+j,none⟩=some (.int .i64 i)):=fun A hA j i hji => by
  obtain ⟨h2,p2,c2,e,hc⟩:=HC.out A hA
  have hlt:=(List.getElem?_eq_some_iff.1 hji).1
  obtain ⟨ga,oa,k1,k2,k3⟩:=hc j hlt
  injection e with e1 e2 e3
  refine ⟨ga,oa,e1.trans k1,?_⟩
  have e4:ls[j]=i:=(List.getElem?_eq_some_iff.1 hji).2
  rw [k3,e4]
 clear hC hJ hJx hY hCW hFp h0
 refine callsIn_of_wp Tryz.func82 rfl trivial ?_ rfl
 simp only [Tryz.ntmps82,List.size_toArray,List.length_cons,List.length_nil,Nat.reduceAdd,Nat.reduceSub,Array.replicate_succ,Array.replicate_zero,List.push_toArray,List.append_toArray,List.nil_append,List.cons_append]
 gi_wp2
 refine wpIn_wide.2 ?_
 go_step3
 refine (wpIn_wide (n:=n)).1 ?_
 gi_wp2
 refine wpIn_label ?_
 gi_wp2
 gi_loopw [7] (fun i wr => ∃ (k:Nat) (Fp:Nat->Prop),k<=ls.length/\i = .int .i64 k/\J (ls.take k) Fp wr/\W.heap.size<=wr.heap.size/\Kept C Fp w wr) (fun i _ => ls.length-(intOf i).toNat)
 case atStart => exact ⟨0,Fp0,Nat.zero_le _,rfl,H0.out,Nat.le_refl _,HK0.out⟩
 case round =>
  obtain ⟨k,Fp,hk,rfl,hj,hsz,hkp⟩:=hrel
  have b0:(0:Int)<=(k:Int):=by omega
  by_cases hlt:k<ls.length
  ·have b1:(k:Int)<(ls.length:Int):=by omega
   obtain ⟨i,hi⟩:∃ i,ls[k]? = some i:=⟨_,List.getElem?_eq_getElem hlt⟩
   obtain ⟨ga,oa,rfl,c1⟩:=HCV.out wr hkp.agree k i hi
   have htk:ls.take (k+1)=ls.take k ++ [i]:=by rw [List.take_add_one,hi];rfl
   obtain ⟨fn,tmps,assign,body,hy,hR⟩:=HY.out (ls.take k) i Fp wr hj hsz (by
    show _ <+: _
    rw [<- htk];exact List.take_prefix _ _)
   unfold encI at hy
   have HR:=zh hR;have HI:=zh hi;have HLT:=zh hlt;have HKP:=zh hkp
   have HTK:=zh htk;have HSZ:=zh hsz
   clear hR hi hlt hj hkp htk hsz
   gi_wp2_with fail
   refine ⟨fun h => by simp [Fence.wide] at h,HR.out.mono ?_⟩
   rintro e W3 (⟨rfl,Fp',hJ3,ho3,hn3⟩ | ⟨rfl,Fp',hJx3,-,-⟩)
   ·have HU:Hid (J (ls.take (k+1)) Fp' W3):=by show J _ _ _;rw [HTK.out];exact hJ3
    have HS3:Hid (W.heap.size<=W3.heap.size):=Nat.le_trans HSZ.out ho3.size
    have HK3:=zh (HKP.out.yield ho3 hn3)
    clear hJ3 ho3 hn3
    gi_wp2
    go_roundw
    case rel => have:=HLT.out;exact ⟨k+1,Fp',by omega,rfl,HU.out,HS3.out,HK3.out⟩
    case measure => have:=HLT.out;simp [intOf];omega
   ·have HU:Hid (Jx (ls.take (k+1)) Fp' W3):=by show Jx _ _ _;rw [HTK.out];exact hJx3
    clear hJx3
    gi_wp2
    simp only [Exit.noGoto]
    gi_wp2
    refine bodyPost_end (results_none rfl _ _ _) rfl ?_
    exact ⟨⟨_,rfl⟩,.inr ⟨_,Fp',List.take_prefix _ _,HU.out⟩⟩
  ·have b1:(ls.length:Int)<=(k:Int):=by omega
   have e:ls.take k=ls:=List.take_of_length_le (by omega)
   rw [e] at hj
   clear hlt
   gi_wp2
   simp only [Exit.noGoto]
   gi_wp2
   go_end0
   exact ⟨⟨_,rfl⟩,.inl ⟨_,Fp,rfl,hj⟩⟩
end Fr
end
section
namespace Vw
structure Sess where
 slot:Int
 birth:Int
 us:Int
 ub:Int
 kind:Int
 user:ByteArray
 label:ByteArray
 scopes:Nat
 level:Int
 born:Int
 dl:Int
 depth:Int
def Sess.cells (s:Sess):List Value:=[.int .i64 s.slot,.int .i64 s.birth,.int .i64 s.us,.int .i64 s.ub,.int .i64 s.kind,.string s.user,.string s.label,.int .u64 (s.scopes:Int),.int .i64 s.level,.int .i64 s.born,.int .i64 s.dl,.int .i64 s.depth]
end Vw
end
section
namespace Fr
open Vw (Sess)
structure Slt where
 used:Bool
 dead:Bool
 kids:Int
 prev:Int
 next:Int
 s:Sess
def s0:Sess:=⟨0,0,0,0,0,ByteArray.empty,ByteArray.empty,0,0,0,0,0⟩
def bare:Slt:=⟨false,false,-1,-1,-1,s0⟩
def zeroS:Slt:=⟨false,false,0,0,0,s0⟩
def sl (S:List Slt) (i:Int):Slt:=S.getD i.toNat bare
def put (S:List Slt) (i:Int) (x:Slt):List Slt:=S.set i.toNat x
def thr (i:Int):Bool:=decide (0<=i/\i<32)
theorem thr_iff {i:Int}:thr i=true↔0<=i/\i<32:=by unfold thr;simp
theorem thr_no {i:Int}:thr i=false↔¬ (0<=i/\i<32):=by unfold thr;simp
theorem put_len (S:List Slt) (i:Int) (x:Slt):(put S i x).length=S.length:=by unfold put;simp
theorem sl_put (S:List Slt) (h:S.length=32) (i j:Int) (x:Slt) (hi:thr i=true) (hj:0<=j):sl (put S i x) j=if i=j then x else sl S j:=by
 have hi:=thr_iff.1 hi
 unfold sl put
 rw [List.getD_eq_getElem?_getD,List.getD_eq_getElem?_getD,List.getElem?_set]
 by_cases e:i=j
 ·subst e;rw [if_pos rfl,if_pos (by omega),if_pos rfl];rfl
 ·rw [if_neg (by omega),if_neg e]
theorem sl_put_same (S:List Slt) (h:S.length=32) (i:Int) (x:Slt) (hi:thr i=true):sl (put S i x) i=x:=by
 rw [sl_put S h i i x hi (thr_iff.1 hi).1,if_pos rfl]
theorem sl_put_ne (S:List Slt) (h:S.length=32) (i j:Int) (x:Slt) (hi:thr i=true) (hj:thr j=true) (hn:i≠j):sl (put S i x) j=sl S j:=by
 rw [sl_put S h i j x hi (thr_iff.1 hj).1,if_neg hn]
theorem slots_ext {S T:List Slt} (h1:S.length=32) (h2:T.length=32) (h:∀ i,thr i=true->sl S i=sl T i):S=T:=by
 apply List.ext_getElem (by omega)
 intro k hk hk2
 have:=h (k:Int) (thr_iff.2 (by omega))
 unfold sl at this
 rw [List.getD_eq_getElem?_getD,List.getD_eq_getElem?_getD] at this
 simpa [hk,hk2] using this
theorem put_self (S:List Slt) (h:S.length=32) (i:Int) (hi:thr i=true) (x:Slt) (hx:x=sl S i):put S i x=S:=by
 refine slots_ext (by rw [put_len,h]) h (fun j hj => ?_)
 rw [sl_put S h i j x hi (thr_iff.1 hj).1]
 split
 ·rename_i e;subst e;exact hx
 ·rfl
def lnk (S:List Slt) (i k:Int):List Slt:=put (put S i { sl S i with next:=k }) k { sl (put S i { sl S i with next:=k }) k with prev:=i }
def setS (S:List Slt) (i p n:Int):List Slt:=put S i { sl S i with prev:=p,next:=n }
def well (S:List Slt) (i:Int):Bool:=thr i && (thr (sl S i).prev && (thr (sl S i).next && ((sl S (sl S i).prev).next == i && (sl S (sl S i).next).prev == i)))
def pushS (S:List Slt) (last i:Int):List Slt:=if last = -1 then lnk S i i else lnk (lnk S last i) i (sl S last).next
def canPush (S:List Slt) (last i:Int):Bool:=thr i && (last == -1 || (well S last && (i != last && i != (sl S last).next)))
def dropS (S:List Slt) (i:Int):List Slt :=
 let S1:=lnk S (sl S i).prev (sl S i).next
 put S1 i { sl S1 i with prev:=-1,next:=-1 }
def dropL (S:List Slt) (last i:Int):Int:=if i≠last then last else if (sl S i).prev=i then -1 else (sl S i).prev
def canDrop (S:List Slt) (last i:Int):Bool:=thr last && well S i
def spliceS (S:List Slt) (one two:Int):List Slt:=lnk (lnk S one (sl S two).next) two (sl S one).next
def canSplice (S:List Slt) (one two:Int):Bool:=one != two && (well S one && (well S two && ((sl S one).next != two && (sl S two).next != one)))
theorem lnk_len (S:List Slt) (i k:Int):(lnk S i k).length=S.length:=by unfold lnk;rw [put_len,put_len]
theorem setS_len (S:List Slt) (i p n:Int):(setS S i p n).length=S.length:=by unfold setS;rw [put_len]
theorem sl_lnk (S:List Slt) (h:S.length=32) (i k j:Int) (hi:thr i=true) (hk:thr k=true) (hj:thr j=true) :
  sl (lnk S i k) j={ sl S j with next:=if i=j then k else (sl S j).next,prev:=if k=j then i else (sl S j).prev }:=by
 unfold lnk
 rw [sl_put _ (by rw [put_len,h]) k j _ hk (thr_iff.1 hj).1]
 split
 ·rename_i e;subst e
  rw [sl_put _ h i k _ hi (thr_iff.1 hk).1]
  split
  ·rename_i e;subst e;rfl
  ·rfl
 ·rw [sl_put _ h i j _ hi (thr_iff.1 hj).1]
  split
  ·rename_i e;subst e;rfl
  ·rfl
theorem sl_setS (S:List Slt) (h:S.length=32) (i p n j:Int) (hi:thr i=true) (hj:thr j=true) :
  sl (setS S i p n) j=if i=j then { sl S j with prev:=p,next:=n } else sl S j:=by
 unfold setS
 rw [sl_put _ h i j _ hi (thr_iff.1 hj).1]
 split
 ·rename_i e;subst e;rfl
 ·rfl
theorem setS_same (S:List Slt) (h:S.length=32) (i:Int) (hi:thr i=true) {p n:Int} (e1:(sl S i).prev=p) (e2:(sl S i).next=n):setS S i p n=S:=by
 unfold setS
 exact put_self S h i hi _ (by subst e1 e2;rfl)
theorem well_iff {S:List Slt} {i:Int}:well S i=true↔thr i=true/\thr (sl S i).prev=true/\thr (sl S i).next=true/\(sl S (sl S i).prev).next=i/\(sl S (sl S i).next).prev=i:=by
 unfold well;simp
theorem Slt.ext' {a b:Slt} (h1:a.used=b.used) (h2:a.dead=b.dead) (h3:a.kids=b.kids) (h4:a.prev=b.prev) (h5:a.next=b.next) (h6:a.s=b.s):a=b:=by
 cases a;cases b;simp_all
theorem push_one (S:List Slt) (h:S.length=32) (last i:Int) (hw:well S last=true) (hi:thr i=true) (hn:i≠last) (hf:(sl S last).next=last) :
  setS (setS S i last last) last i i=pushS S last i:=by
 obtain ⟨w1,w2,w3,w4,w5⟩:=well_iff.1 hw
 unfold pushS
 have h0:=thr_iff.1 w1
 rw [if_neg (by omega)]
 have p1:(sl S last).prev=last:=by rw [hf] at w5;exact w5
 refine slots_ext (by rw [setS_len,setS_len,h]) (by rw [lnk_len,lnk_len,h]) (fun j hj => ?_)
 rw [sl_setS _ (by rw [setS_len,h]) _ _ _ _ w1 hj,sl_setS _ h _ _ _ _ hi hj,sl_lnk _ (by rw [lnk_len,h]) _ _ _ hi (by rw [hf];exact w1) hj,sl_lnk _ h _ _ _ w1 hi hj,hf]
 by_cases e1:last=j <;> by_cases e2:i=j <;> simp_all
theorem push_more (S:List Slt) (h:S.length=32) (last i f:Int) (hw:well S last=true) (hi:thr i=true) (hn:i≠last) (hni:i≠f) (hf:(sl S last).next=f) (hne:f≠last) :
  setS (setS (setS S i last f) last (sl (setS S i last f) last).prev i) f i (sl (setS (setS S i last f) last (sl (setS S i last f) last).prev i) f).next=pushS S last i:=by
 obtain ⟨w1,w2,w3,w4,w5⟩:=well_iff.1 hw
 rw [hf] at w3 w5
 unfold pushS
 have h0:=thr_iff.1 w1
 rw [if_neg (by omega)]
 refine slots_ext (by rw [setS_len,setS_len,setS_len,h]) (by rw [lnk_len,lnk_len,h]) (fun j hj => ?_)
 rw [sl_setS _ (by rw [setS_len,setS_len,h]) _ _ _ _ w3 hj,sl_setS _ (by rw [setS_len,h]) _ _ _ _ w1 hj,sl_setS _ (by rw [setS_len,h]) _ _ _ _ w1 w3,sl_setS _ h _ _ _ _ hi hj,sl_setS _ h _ _ _ _ hi w1,sl_setS _ h _ _ _ _ hi w3,sl_lnk _ (by rw [lnk_len,h]) _ _ _ hi (by rw [hf];exact w3) hj,sl_lnk _ h _ _ _ w1 hi hj,hf]
 by_cases e1:last=j <;> by_cases e2:i=j <;> by_cases e3:f=j <;> simp_all
theorem push_none (S:List Slt) (h:S.length=32) (i:Int) (hi:thr i=true):setS S i i i=pushS S (-1) i:=by
 unfold pushS
 rw [if_pos rfl]
 refine slots_ext (by rw [setS_len,h]) (by rw [lnk_len,h]) (fun j hj => ?_)
 rw [sl_setS _ h _ _ _ _ hi hj,sl_lnk _ h _ _ _ hi hi hj]
 by_cases e1:i=j <;> simp_all
theorem drop_self (S:List Slt) (h:S.length=32) (i:Int) (hw:well S i=true) (hp:(sl S i).prev=i):setS S i (-1) (-1)=dropS S i:=by
 obtain ⟨w1,w2,w3,w4,w5⟩:=well_iff.1 hw
 have hn:(sl S i).next=i:=by rw [hp] at w4;exact w4
 unfold dropS
 simp only
 rw [hp,hn]
 refine slots_ext (by rw [setS_len,h]) (by rw [put_len,lnk_len,h]) (fun j hj => ?_)
 rw [sl_setS _ h _ _ _ _ w1 hj,sl_put _ (by rw [lnk_len,h]) _ _ _ w1 (thr_iff.1 hj).1,sl_lnk _ h _ _ _ w1 w1 hj,sl_lnk _ h _ _ _ w1 w1 w1]
 by_cases e1:i=j <;> simp_all
theorem drop_two (S:List Slt) (h:S.length=32) (i p:Int) (hw:well S i=true) (hp:(sl S i).prev=p) (hn:(sl S i).next=p) (hne:p≠i):setS (setS S p p p) i (-1) (-1)=dropS S i:=by
 obtain ⟨w1,w2,w3,w4,w5⟩:=well_iff.1 hw
 rw [hp] at w2 w4
 unfold dropS
 simp only
 rw [hp,hn]
 refine slots_ext (by rw [setS_len,setS_len,h]) (by rw [put_len,lnk_len,h]) (fun j hj => ?_)
 rw [sl_setS _ (by rw [setS_len,h]) _ _ _ _ w1 hj,sl_setS _ h _ _ _ _ w2 hj,sl_put _ (by rw [lnk_len,h]) _ _ _ w1 (thr_iff.1 hj).1,sl_lnk _ h _ _ _ w2 w2 hj,sl_lnk _ h _ _ _ w2 w2 w1]
 by_cases e1:i=j <;> by_cases e2:p=j <;> simp_all
theorem drop_more (S:List Slt) (h:S.length=32) (i p n:Int) (hw:well S i=true) (hp:(sl S i).prev=p) (hn:(sl S i).next=n) (hne:p≠i) (hpn:p≠n) :
  setS (setS (setS S p (sl S p).prev n) n p (sl (setS S p (sl S p).prev n) n).next) i (-1) (-1)=dropS S i:=by
 obtain ⟨w1,w2,w3,w4,w5⟩:=well_iff.1 hw
 rw [hp] at w2 w4
 rw [hn] at w3 w5
 have hni:n≠i:=fun e => by subst e;rw [hp] at w5;exact hne w5
 unfold dropS
 simp only
 rw [hp,hn]
 refine slots_ext (by rw [setS_len,setS_len,setS_len,h]) (by rw [put_len,lnk_len,h]) (fun j hj => ?_)
 rw [sl_setS _ (by rw [setS_len,setS_len,h]) _ _ _ _ w1 hj,sl_setS _ (by rw [setS_len,h]) _ _ _ _ w3 hj,sl_setS _ h _ _ _ _ w2 hj,sl_setS _ h _ _ _ _ w2 w3,sl_put _ (by rw [lnk_len,h]) _ _ _ w1 (thr_iff.1 hj).1,sl_lnk _ h _ _ _ w2 w3 hj,sl_lnk _ h _ _ _ w2 w3 w1]
 by_cases e1:i=j <;> by_cases e2:p=j <;> by_cases e3:n=j <;> simp_all
def spl (one two f g:Int) (S:List Slt) (i:Int):List Slt :=
 setS S i (if i=g then one else if i=f then two else (sl S i).prev) (if i=one then g else if i=two then f else (sl S i).next)
theorem spl_len (one two f g:Int) (S:List Slt) (i:Int):(spl one two f g S i).length=S.length:=setS_len _ _ _ _
theorem sl_spl (one two f g:Int) (S:List Slt) (h:S.length=32) (i j:Int) (hi:thr i=true) (hj:thr j=true) :
  sl (spl one two f g S i) j={ sl S j with prev:=if i=j then (if j=g then one else if j=f then two else (sl S j).prev) else (sl S j).prev,next:=if i=j then (if j=one then g else if j=two then f else (sl S j).next) else (sl S j).next }:=by
 unfold spl
 rw [sl_setS _ h _ _ _ _ hi hj]
 split
 ·rename_i e;subst e;rfl
 ·rfl
theorem splice_eq (S:List Slt) (h:S.length=32) (one two:Int) (hc:canSplice S one two=true) :
  [one,two,(sl S one).next,(sl S two).next].foldl (spl one two (sl S one).next (sl S two).next) S=spliceS S one two:=by
 unfold canSplice at hc
 simp only [Bool.and_eq_true,bne_iff_ne,ne_eq] at hc
 obtain ⟨h1,h2,h3,h4,h5⟩:=hc
 obtain ⟨w1,w2,w3,w4,w5⟩:=well_iff.1 h2
 obtain ⟨v1,v2,v3,v4,v5⟩:=well_iff.1 h3
 unfold spliceS
 obtain ⟨f,hf⟩:∃ f,f=(sl S one).next:=⟨_,rfl⟩
 obtain ⟨g,hg⟩:∃ g,g=(sl S two).next:=⟨_,rfl⟩
 rw [<- hf] at w3 w5 h4 ⊢
 rw [<- hg] at v3 v5 h5 ⊢
 have hfg:f≠g:=fun e => by subst e;rw [v5] at w5;exact h1 w5.symm
 simp only [List.foldl_cons,List.foldl_nil]
 refine slots_ext (by simp only [spl_len,h]) (by rw [lnk_len,lnk_len,h]) (fun j hj => ?_)
 rw [sl_spl _ _ _ _ _ (by simp only [spl_len,h]) _ _ v3 hj,sl_spl _ _ _ _ _ (by simp only [spl_len,h]) _ _ w3 hj,sl_spl _ _ _ _ _ (by simp only [spl_len,h]) _ _ v1 hj,sl_spl _ _ _ _ _ h _ _ w1 hj,sl_lnk _ (by rw [lnk_len,h]) _ _ _ v1 w3 hj,sl_lnk _ h _ _ _ w1 v3 hj]
 refine Slt.ext' rfl rfl rfl ?_ ?_ rfl
 ·show (if g=j then (if j=g then one else if j=f then two else (if f=j then (if j=g then one else if j=f then two else (if two=j then (if j=g then one else if j=f then two else (if one=j then (if j=g then one else if j=f then two else (sl S j).prev) else (sl S j).prev)) else (if one=j then (if j=g then one else if j=f then two else (sl S j).prev) else (sl S j).prev))) else _)) else _)=_
  generalize (sl S j).prev=x
  clear h h2 h3 w1 w2 w3 w4 w5 v1 v2 v3 v4 v5 hf hg hj
  grind
 ·generalize (sl S j).next=x
  clear h h2 h3 w1 w2 w3 w4 w5 v1 v2 v3 v4 v5 hf hg hj
  grind
end Fr
end
section
namespace Fr
open Vw (Sess)
def Nx (S:List Slt) (x y:Int):Prop:=(sl S x).next=y/\(sl S y).prev=x
def Ch (R:Int->Int->Prop):List Int->Prop
 | [] => True
 | [_] => True
 | x :: y :: r => R x y/\Ch R (y :: r)
abbrev Path (S:List Slt):List Int->Prop:=Ch (Nx S)
theorem ch_app {R:Int->Int->Prop}:∀ (a:List Int) (x:Int) (b:List Int),Ch R (a ++ x :: b)↔Ch R (a ++ [x])/\Ch R (x :: b)
 | [],x,b => by simp [Ch]
 | [y],x,b => by simp [Ch]
 | y :: z :: r,x,b => by
  have:=ch_app (R:=R) (z :: r) x b
  simp only [List.cons_append,Ch] at this ⊢
  rw [this,and_assoc]
theorem Ch.imp {R Q:Int->Int->Prop} (h:∀ x y,R x y->Q x y):∀ (l:List Int),Ch R l->Ch Q l
 | [],_ => trivial
 | [_],_ => trivial
 | x :: y :: r,hc => ⟨h x y hc.1,Ch.imp h (y :: r) hc.2⟩
theorem Ch.mem {R:Int->Int->Prop}:∀ (l:List Int),Ch R l->Ch (fun x y => R x y/\x ∈ l/\y ∈ l) l
 | [],_ => trivial
 | [_],_ => trivial
 | x :: y :: r,hc => ⟨⟨hc.1,by simp,by simp⟩,Ch.imp (fun a b h => ⟨h.1,List.mem_cons_of_mem _ h.2.1,List.mem_cons_of_mem _ h.2.2⟩) _ (Ch.mem (y :: r) hc.2)⟩
theorem path_app {S:List Slt} (a:List Int) (x:Int) (b:List Int):Path S (a ++ x :: b)↔Path S (a ++ [x])/\Path S (x :: b):=ch_app a x b
def RingAt (S:List Slt) (last:Int) (L:List Int):Prop:=(L=[]/\last = -1)\/∃ r,L=r ++ [last]/\Path S (last :: L)
theorem RingAt.nil (S:List Slt):RingAt S (-1) []:=.inl ⟨rfl,rfl⟩
theorem RingAt.last_mem {S:List Slt} {last:Int} {L:List Int} (h:RingAt S last L) (hne:L≠[]):last ∈ L:=by
 rcases h with ⟨h,_⟩ | ⟨r,rfl,_⟩
 ·exact absurd h hne
 ·simp
theorem RingAt.empty {S:List Slt} {last:Int} {L:List Int} (h:RingAt S last L) (ht:∀ x ∈ L,thr x=true):last = -1↔L=[]:=by
 rcases h with ⟨h,h2⟩ | ⟨r,rfl,_⟩
 ·simp [h,h2]
 ·constructor
  ·rintro rfl
   have:=ht (-1) (by simp)
   exact absurd this (by decide)
  ·intro h;simp at h
theorem path_nx {S:List Slt} {a b:List Int} {x y:Int} (h:Path S (a ++ x :: y :: b)):Nx S x y:=((path_app a x (y :: b)).1 h).2.1
theorem RingAt.around {S:List Slt} {last:Int} {L:List Int} (h:RingAt S last L) {i:Int} (hi:i ∈ L):∃ p ∈ L,∃ n ∈ L,Nx S p i/\Nx S i n:=by
 rcases h with ⟨rfl,_⟩ | ⟨r,rfl,h⟩
 ·cases hi
 obtain ⟨a,b,hab⟩:=List.append_of_mem hi
 have hp:∃ p ∈ r ++ [last],Nx S p i:=by
  rcases List.eq_nil_or_concat a with rfl | ⟨a',q,rfl⟩
  ·refine ⟨last,by simp,?_⟩
   rw [hab] at h
   exact path_nx (a:=[]) h
  ·rw [hab] at h
   refine ⟨q,by rw [hab];simp,path_nx (a:=last :: a') (b:=b) (by simpa using h)⟩
 have hn:∃ n ∈ r ++ [last],Nx S i n:=by
  cases b with
  | nil =>
   have e:i=last:=by
    have:=congrArg List.getLast? hab
    simpa using this.symm
   subst e
   cases r with
   | nil => exact ⟨i,by simp,path_nx (a:=[]) (b:=[]) (by simpa using h)⟩
   | cons f t => exact ⟨f,by simp,path_nx (a:=[]) (b:=t ++ [i]) (by simpa using h)⟩
  | cons n t =>
   refine ⟨n,by rw [hab];simp,path_nx (a:=last :: a) (b:=t) ?_⟩
   rw [hab] at h;simpa using h
 obtain ⟨p,hp1,hp2⟩:=hp
 obtain ⟨n,hn1,hn2⟩:=hn
 exact ⟨p,hp1,n,hn1,hp2,hn2⟩
theorem RingAt.well {S:List Slt} {last:Int} {L:List Int} (h:RingAt S last L) (ht:∀ x ∈ L,thr x=true) {i:Int} (hi:i ∈ L):well S i=true:=by
 obtain ⟨p,hp,n,hn,h1,h2⟩:=h.around hi
 refine well_iff.2 ⟨ht i hi,by rw [h1.2];exact ht p hp,by rw [h2.1];exact ht n hn,by rw [h1.2];exact h1.1,by rw [h2.1];exact h2.2⟩
theorem RingAt.first {S:List Slt} {last:Int} {L:List Int} (h:RingAt S last L) {f:Int} {r:List Int} (e:L=f :: r):(sl S last).next=f:=by
 rcases h with ⟨rfl,_⟩ | ⟨q,h1,h⟩
 ·cases e
 ·rw [e] at h;exact h.1.1
theorem Path.keep {S T:List Slt}:∀ (a:List Int) (x:Int),(∀ y ∈ a,(sl T y).next=(sl S y).next)->(∀ y ∈ (a ++ [x]).tail,(sl T y).prev=(sl S y).prev)->Path S (a ++ [x])->Path T (a ++ [x])
 | [],x,_,_,_ => trivial
 | [y],x,h1,h2,h => ⟨⟨by rw [h1 y (by simp)];exact h.1.1,by rw [h2 x (by simp)];exact h.1.2⟩,trivial⟩
 | y :: z :: r,x,h1,h2,h => ⟨⟨by rw [h1 y (by simp)];exact h.1.1,by rw [h2 z (by simp)];exact h.1.2⟩,Path.keep (z :: r) x (fun q hq => h1 q (List.mem_cons_of_mem _ hq)) (fun q hq => h2 q (List.mem_cons_of_mem _ hq)) h.2⟩
theorem RingAt.keep {S T:List Slt} {last:Int} {L:List Int} (h:RingAt S last L) (hk:∀ y ∈ L,(sl T y).next=(sl S y).next/\(sl T y).prev=(sl S y).prev):RingAt T last L:=by
 rcases h with h | ⟨r,rfl,h⟩
 ·exact .inl h
 ·refine .inr ⟨r,rfl,?_⟩
  have:=Path.keep (S:=S) (T:=T) (last :: r) last (fun y hy => (hk y (by rcases List.mem_cons.1 hy with e | e <;> simp [e])).1) (fun y hy => (hk y (by simpa using hy)).2) (by simpa using h)
  simpa using this
theorem ring_push {S:List Slt} (hS:S.length=32) {last i:Int} {L:List Int} (h:RingAt S last L) (ht:∀ x ∈ L,thr x=true) (hd:L.Nodup) (hi:thr i=true) (hn:i ∉ L):RingAt (pushS S last i) i (L ++ [i]):=by
 rcases h with ⟨rfl,rfl⟩ | ⟨r,rfl,h⟩
 ·refine .inr ⟨[],rfl,?_⟩
  refine ⟨⟨?_,?_⟩,trivial⟩ <;> (unfold pushS;rw [if_pos rfl,sl_lnk _ hS _ _ _ hi hi hi];simp)
 ·have hl:thr last=true:=ht last (by simp)
  have hil:i≠last:=fun e => hn (by simp [e])
  have h0:=thr_iff.1 hl
  obtain ⟨f,q,hf⟩:∃ f q,r ++ [last]=f :: q:=by cases r <;> simp
  have hfn:(sl S last).next=f:=by rw [hf] at h;exact h.1.1
  have hft:thr f=true:=ht f (by rw [hf];simp)
  have hfi:f≠i:=fun e => hn (by rw [hf];simp [e])
  have hnx:∀ y,thr y=true->sl (pushS S last i) y={ sl S y with next:=if i=y then f else if last=y then i else (sl S y).next,prev:=if f=y then i else if i=y then last else (sl S y).prev }:=fun y hy => by
   unfold pushS
   rw [if_neg (by omega),hfn,sl_lnk _ (by rw [lnk_len,hS]) _ _ _ hi hft hy,sl_lnk _ hS _ _ _ hl hi hy]
  refine .inr ⟨r ++ [last],rfl,?_⟩
  have h1:Path S (r ++ [last]):=by
   rw [hf] at h ⊢;exact h.2
  have h2:Path (pushS S last i) (r ++ [last]):=by
   refine Path.keep r last (fun y hy => ?_) (fun y hy => ?_) h1
   ·have hy2:y ∈ r ++ [last]:=by simp [hy]
    have hyl:last≠y:=fun e => by subst e;have:=List.nodup_append.1 hd;exact (this.2.2 last hy last (by simp)) rfl
    rw [hnx y (ht y hy2)]
    show (if i=y then _ else _)=_
    rw [if_neg (fun e => hn (by rw [e];exact hy2)),if_neg hyl]
   ·rw [hf] at hy hd
    have hy2:y ∈ r ++ [last]:=by rw [hf];exact List.mem_cons_of_mem _ hy
    rw [hnx y (ht y hy2)]
    show (if f=y then _ else _)=_
    rw [if_neg (fun e => by subst e;exact (List.nodup_cons.1 hd).1 hy),if_neg (fun e => hn (by rw [e];exact hy2))]
  have e:i :: (r ++ [last] ++ [i])=(i :: r) ++ last :: [i]:=by simp
  rw [e,path_app]
  refine ⟨?_,⟨by rw [hnx last hl];show (if i=last then _ else _)=_;rw [if_neg hil,if_pos rfl],by rw [hnx i hi];show (if f=i then _ else _)=_;rw [if_neg hfi,if_pos rfl]⟩,trivial⟩
  show Path _ (i :: (r ++ [last]))
  rw [hf] at h2 ⊢
  exact ⟨⟨by rw [hnx i hi];show (if i=i then _ else _)=_;rw [if_pos rfl],by rw [hnx f hft];show (if f=f then _ else _)=_;rw [if_pos rfl]⟩,h2⟩
theorem push_core {S:List Slt} (hS:S.length=32) {last i:Int} (hc:canPush S last i=true) (y:Int) (hy:thr y=true) :
  ∃ p n,sl (pushS S last i) y={ sl S y with prev:=p,next:=n }:=by
 unfold canPush at hc
 simp only [Bool.and_eq_true,Bool.or_eq_true,beq_iff_eq,bne_iff_ne,ne_eq] at hc
 obtain ⟨hi,hc⟩:=hc
 unfold pushS
 split
 ·exact ⟨_,_,by rw [sl_lnk _ hS _ _ _ hi hi hy]⟩
 ·rename_i h0
  rcases hc with h | ⟨hw,h2,h3⟩
  ·exact absurd h h0
  ·obtain ⟨w1,w2,w3,w4,w5⟩:=well_iff.1 hw
   exact ⟨_,_,by rw [sl_lnk _ (by rw [lnk_len,hS]) _ _ _ hi w3 hy,sl_lnk _ hS _ _ _ w1 hi hy]⟩
theorem push_far {S:List Slt} (hS:S.length=32) {last i:Int} (hc:canPush S last i=true) (y:Int) (hy:thr y=true) (h1:y≠i) (h2:last≠-1->y≠last/\y≠(sl S last).next):sl (pushS S last i) y=sl S y:=by
 unfold canPush at hc
 simp only [Bool.and_eq_true,Bool.or_eq_true,beq_iff_eq,bne_iff_ne,ne_eq] at hc
 obtain ⟨hi,hc⟩:=hc
 unfold pushS
 split
 ·rw [sl_lnk _ hS _ _ _ hi hi hy,if_neg (Ne.symm h1),if_neg (Ne.symm h1)]
 ·rename_i h0
  rcases hc with h | ⟨hw,_,_⟩
  ·exact absurd h h0
  ·obtain ⟨w1,w2,w3,w4,w5⟩:=well_iff.1 hw
   obtain ⟨h3,h4⟩:=h2 h0
   rw [sl_lnk _ (by rw [lnk_len,hS]) _ _ _ hi w3 hy,sl_lnk _ hS _ _ _ w1 hi hy,if_neg (Ne.symm h1),if_neg (Ne.symm h3),if_neg (Ne.symm h4),if_neg (Ne.symm h1)]
theorem push_len (S:List Slt) (last i:Int):(pushS S last i).length=S.length:=by unfold pushS;split <;> simp only [lnk_len]
theorem drop_len (S:List Slt) (i:Int):(dropS S i).length=S.length:=by unfold dropS;simp only [put_len,lnk_len]
theorem splice_len (S:List Slt) (one two:Int):(spliceS S one two).length=S.length:=by unfold spliceS;simp only [lnk_len]
theorem RingAt.canPush {S:List Slt} {last i:Int} {L:List Int} (h:RingAt S last L) (ht:∀ x ∈ L,thr x=true) (hi:thr i=true) (hn:i ∉ L):canPush S last i=true:=by
 unfold Fr.canPush
 simp only [Bool.and_eq_true,Bool.or_eq_true,beq_iff_eq,bne_iff_ne,ne_eq]
 refine ⟨hi,?_⟩
 by_cases hL:L=[]
 ·exact .inl ((h.empty ht).2 hL)
 ·have hm:=h.last_mem hL
  obtain ⟨p,hp,n,hnn,h1,h2⟩:=h.around hm
  exact .inr ⟨h.well ht hm,fun e => hn (e ▸ hm),fun e => hn (by rw [e,h2.1];exact hnn)⟩
theorem sl_drop {S:List Slt} (hS:S.length=32) {i:Int} (hw:Fr.well S i=true) (y:Int) (hy:thr y=true) :
  sl (dropS S i) y={ sl S y with next:=if i=y then -1 else if (sl S i).prev=y then (sl S i).next else (sl S y).next,prev:=if i=y then -1 else if (sl S i).next=y then (sl S i).prev else (sl S y).prev }:=by
 obtain ⟨w1,w2,w3,w4,w5⟩:=well_iff.1 hw
 unfold dropS
 simp only
 rw [sl_put _ (by rw [lnk_len,hS]) _ _ _ w1 (thr_iff.1 hy).1,sl_lnk _ hS _ _ _ w2 w3 hy]
 split
 ·rename_i e;subst e;rw [sl_lnk _ hS _ _ _ w2 w3 w1]
 ·rfl
theorem ring_push_far {S:List Slt} (hS:S.length=32) {last i l2:Int} {L M:List Int} (h:RingAt S last L) (ht:∀ x ∈ L,thr x=true) (hi:thr i=true) (hn:i ∉ L) (hM:RingAt S l2 M) (ht2:∀ x ∈ M,thr x=true) (hd:∀ x ∈ M,x ∉ L/\x≠i):RingAt (pushS S last i) l2 M :=
 hM.keep (fun y hy => by
  rw [push_far hS (h.canPush ht hi hn) y (ht2 y hy) (hd y hy).2 (fun h0 => ?_)]
  ·exact ⟨rfl,rfl⟩
  ·have hL:L≠[]:=fun e => h0 ((h.empty ht).2 e)
   have hm:=h.last_mem hL
   obtain ⟨p,hp,n,hnn,h1,h2⟩:=h.around hm
   exact ⟨fun e => (hd y hy).1 (e ▸ hm),fun e => (hd y hy).1 (by rw [e,h2.1];exact hnn)⟩)
theorem nodup_mid {a b:List Int} {i:Int} (h:(a ++ i :: b).Nodup):i ∉ a/\i ∉ b/\(a ++ b).Nodup/\∀ x ∈ a,x ∉ b:=by
 have h1:=List.nodup_append.1 h
 have h2:=List.nodup_cons.1 h1.2.1
 refine ⟨fun e => h1.2.2 i e i (by simp) rfl,h2.1,List.nodup_append.2 ⟨h1.1,h2.2,fun x hx y hy => h1.2.2 x hx y (List.mem_cons_of_mem _ hy)⟩,fun x hx hb => h1.2.2 x hx x (List.mem_cons_of_mem _ hb) rfl⟩
theorem ch_left {R:Int->Int->Prop} {a:List Int} {x:Int} {b:List Int} (h:Ch R (a ++ x :: b)):Ch R (a ++ [x]):=((ch_app a x b).1 h).1
theorem ch_right {R:Int->Int->Prop} {a:List Int} {x:Int} {b:List Int} (h:Ch R (a ++ x :: b)):Ch R (x :: b):=((ch_app a x b).1 h).2
theorem drop_nx {S:List Slt} (hS:S.length=32) {i p n x y:Int} (hw:Fr.well S i=true) (ep:(sl S i).prev=p) (en:(sl S i).next=n) (hx:thr x=true) (hy:thr y=true) (hxi:x≠i) (hyi:y≠i) (h:Nx S x y\/(x=p/\y=n)):Nx (dropS S i) x y:=by
 obtain ⟨w1,w2,w3,w4,w5⟩:=well_iff.1 hw
 rw [ep] at w4
 rw [en] at w5
 unfold Nx
 rw [sl_drop hS hw x hx,sl_drop hS hw y hy,ep,en]
 rcases h with ⟨h1,h2⟩ | ⟨rfl,rfl⟩
 ·constructor
  ·show (if i=x then _ else if p=x then _ else _)=_
   rw [if_neg (Ne.symm hxi),if_neg (fun e => by subst e;rw [w4] at h1;exact hyi h1.symm)];exact h1
  ·show (if i=y then _ else if n=y then _ else _)=_
   rw [if_neg (Ne.symm hyi),if_neg (fun e => by subst e;rw [w5] at h2;exact hxi h2.symm)];exact h2
 ·constructor
  ·show (if i=x then _ else if x=x then _ else _)=_
   rw [if_neg (Ne.symm hxi),if_pos rfl]
  ·show (if i=y then _ else if y=y then _ else _)=_
   rw [if_neg (Ne.symm hyi),if_pos rfl]
theorem ring_drop {S:List Slt} (hS:S.length=32) {last i:Int} {a b:List Int} (h:RingAt S last (a ++ i :: b)) (ht:∀ x ∈ a ++ i :: b,thr x=true) (hd:(a ++ i :: b).Nodup):RingAt (dropS S i) (dropL S last i) (a ++ b):=by
 have hw:=h.well ht (i:=i) (by simp)
 obtain ⟨na,nb,hab,-⟩:=nodup_mid hd
 rcases h with ⟨h,_⟩ | ⟨r,hr,h⟩
 ·simp at h
 rcases List.eq_nil_or_concat b with rfl | ⟨b',q,rfl⟩
 ·-- it is the last one
  have e:i=last:=by have:=congrArg List.getLast? hr;simpa using this
  subst e
  have era:a=r:=by simpa using hr
  subst era
  rw [List.append_nil]
  rcases List.eq_nil_or_concat a with rfl | ⟨c,p,rfl⟩
  ·have hp:(sl S i).prev=i:=h.1.2
   refine .inl ⟨rfl,?_⟩
   unfold dropL;rw [if_neg (by simp),if_pos hp]
  ·have hpi:Nx S p i:=path_nx (a:=i :: c) (b:=[]) (by simpa using h)
   have hpne:p≠i:=fun e => na (by simp [e])
   have hdl:dropL S i i=p:=by unfold dropL;rw [if_neg (by simp),hpi.2,if_neg hpne]
   rw [hdl]
   refine .inr ⟨c,by simp,?_⟩
   obtain ⟨f,t,hf⟩:∃ f t,c ++ [p]=f :: t:=by cases c <;> simp
   have hfn:(sl S i).next=f:=by
    have h2:Path S (i :: ((c ++ [p]) ++ [i])):=by simpa using h
    rw [hf] at h2;exact h2.1.1
   have h1:Path S (c ++ [p]):=by
    have h2:Path S ((i :: c) ++ p :: [i]):=by simpa using h
    have h3:=ch_left h2
    have h4:Path S (i :: (c ++ [p])):=by simpa using h3
    rw [hf] at h4 ⊢;exact h4.2
   have hm:∀ x ∈ c ++ [p],x≠i/\thr x=true:=fun x hx => ⟨fun e => na (by subst e;simpa using hx),ht x (by simp at hx ⊢;rcases hx with h | h <;> simp [h])⟩
   have h5:Path (dropS S i) (c ++ [p]):=Ch.imp (fun x y ⟨h,hx,hy⟩ => drop_nx hS hw hpi.2 hfn (hm x hx).2 (hm y hy).2 (hm x hx).1 (hm y hy).1 (.inl h)) _ (Ch.mem _ h1)
   have e2:p :: (c.concat p)=p :: f :: t:=by rw [List.concat_eq_append,hf]
   rw [e2]
   rw [hf] at h5 hm
   exact ⟨drop_nx hS hw hpi.2 hfn (hm p (by rw [<- hf];simp)).2 (hm f (by simp)).2 (hm p (by rw [<- hf];simp)).1 (hm f (by simp)).1 (.inr ⟨rfl,rfl⟩),h5⟩
 ·-- it is not
  have e:q=last:=by
   have h5:(a ++ i :: b') ++ [q]=r ++ [last]:=by rw [<- hr];simp
   exact (List.append_inj' h5 rfl).2 |> fun h => by simpa using h
  subst e
  have hqi:q≠i:=fun e => nb (by simp [e])
  have hdl:dropL S q i=q:=by unfold dropL;rw [if_pos (Ne.symm hqi)]
  rw [hdl]
  refine .inr ⟨a ++ b',by simp,?_⟩
  obtain ⟨c,p,hcp⟩:∃ c p,q :: a=c ++ [p]:=by
   rcases List.eq_nil_or_concat a with rfl | ⟨c,p,rfl⟩
   ·exact ⟨[],q,rfl⟩
   ·exact ⟨q :: c,p,by simp⟩
  obtain ⟨n,d,hnd⟩:∃ n d,b'.concat q=n :: d:=by cases b' <;> simp
  have h1:Path S (c ++ p :: i :: n :: d):=by
   have h2:q :: (a ++ i :: b'.concat q)=c ++ p :: i :: n :: d:=by rw [<- List.cons_append,hcp,hnd];simp
   rw [<- h2];exact h
  have hpi:Nx S p i:=path_nx h1
  have hin:Nx S i n:=path_nx (a:=c ++ [p]) (by simpa using h1)
  have hma:∀ x ∈ c ++ [p],x≠i/\thr x=true:=fun x hx => by
   rw [<- hcp] at hx
   rcases List.mem_cons.1 hx with rfl | hx
   ·exact ⟨hqi,ht _ (by simp)⟩
   ·exact ⟨fun e => na (e ▸ hx),ht _ (by simp [hx])⟩
  have hmb:∀ x ∈ n :: d,x≠i/\thr x=true:=fun x hx => by
   rw [<- hnd] at hx
   exact ⟨fun e => nb (e ▸ hx),ht _ (by simp at hx ⊢;rcases hx with h | h <;> simp [h])⟩
  have e3:q :: (a ++ b'.concat q)=c ++ p :: n :: d:=by rw [<- List.cons_append,hcp,hnd];simp
  rw [e3]
  refine (ch_app c p (n :: d)).2 ⟨?_,?_,?_⟩
  ·exact Ch.imp (fun x y ⟨h,hx,hy⟩ => drop_nx hS hw hpi.2 hin.1 (hma x hx).2 (hma y hy).2 (hma x hx).1 (hma y hy).1 (.inl h)) _ (Ch.mem _ (ch_left h1))
  ·exact drop_nx hS hw hpi.2 hin.1 (hma p (by simp)).2 (hmb n (by simp)).2 (hma p (by simp)).1 (hmb n (by simp)).1 (.inr ⟨rfl,rfl⟩)
  ·have h4:Path S ((c ++ [p,i]) ++ n :: d):=by simpa using h1
   exact Ch.imp (fun x y ⟨h,hx,hy⟩ => drop_nx hS hw hpi.2 hin.1 (hmb x hx).2 (hmb y hy).2 (hmb x hx).1 (hmb y hy).1 (.inl h)) _ (Ch.mem _ (ch_right h4))
theorem drop_far {S:List Slt} (hS:S.length=32) {i y:Int} (hw:Fr.well S i=true) (hy:thr y=true) (h1:y≠i) (h2:y≠(sl S i).prev) (h3:y≠(sl S i).next):sl (dropS S i) y=sl S y:=by
 rw [sl_drop hS hw y hy,if_neg (Ne.symm h1),if_neg (Ne.symm h1),if_neg (Ne.symm h2),if_neg (Ne.symm h3)]
theorem ring_drop_far {S:List Slt} (hS:S.length=32) {last i l2:Int} {L M:List Int} (h:RingAt S last L) (ht:∀ x ∈ L,thr x=true) (hi:i ∈ L) (hM:RingAt S l2 M) (ht2:∀ x ∈ M,thr x=true) (hd:∀ x ∈ M,x ∉ L):RingAt (dropS S i) l2 M :=
 hM.keep (fun y hy => by
  obtain ⟨p,hp,n,hn,h1,h2⟩:=h.around hi
  rw [drop_far hS (h.well ht hi) (ht2 y hy) (fun e => hd y hy (e ▸ hi)) (fun e => hd y hy (by rw [e,h1.2];exact hp)) (fun e => hd y hy (by rw [e,h2.1];exact hn))]
  exact ⟨rfl,rfl⟩)
theorem sl_splice {S:List Slt} (hS:S.length=32) {one two:Int} (h1:Fr.well S one=true) (h2:Fr.well S two=true) (y:Int) (hy:thr y=true) :
  sl (spliceS S one two) y={ sl S y with next:=if two=y then (sl S one).next else if one=y then (sl S two).next else (sl S y).next,prev:=if (sl S one).next=y then two else if (sl S two).next=y then one else (sl S y).prev }:=by
 obtain ⟨w1,w2,w3,w4,w5⟩:=well_iff.1 h1
 obtain ⟨v1,v2,v3,v4,v5⟩:=well_iff.1 h2
 unfold spliceS
 rw [sl_lnk _ (by rw [lnk_len,hS]) _ _ _ v1 w3 hy,sl_lnk _ hS _ _ _ w1 v3 hy]
theorem ring_splice {S:List Slt} (hS:S.length=32) {one two:Int} {L M:List Int} (h1:RingAt S one L) (h2:RingAt S two M) (ht1:∀ x ∈ L,thr x=true) (ht2:∀ x ∈ M,thr x=true) (hL:L≠[]) (hM:M≠[]) (hd:(L ++ M).Nodup):RingAt (spliceS S one two) two (L ++ M)/\canSplice S one two=true:=by
 have d0:=List.nodup_append.1 hd
 have m1:=h1.last_mem hL
 have m2:=h2.last_mem hM
 have w1:=h1.well ht1 m1
 have w2:=h2.well ht2 m2
 obtain ⟨p1,hp1,f,hf,k1,k2⟩:=h1.around m1
 obtain ⟨p2,hp2,g,hg,k3,k4⟩:=h2.around m2
 have hne:one≠two:=fun e => d0.2.2 one m1 two m2 e
 constructor
 ·rcases h1 with ⟨h,_⟩ | ⟨r,rfl,h1⟩
  ·exact absurd h hL
  rcases h2 with ⟨h,_⟩ | ⟨q,rfl,h2⟩
  ·exact absurd h hM
  obtain ⟨f',t,hft⟩:∃ f' t,r ++ [one]=f' :: t:=by cases r <;> simp
  obtain ⟨g',u,hgu⟩:∃ g' u,q ++ [two]=g' :: u:=by cases q <;> simp
  have ef:f=f':=by rw [hft] at h1;exact k2.1.symm.trans h1.1.1
  have eg:g=g':=by rw [hgu] at h2;exact k4.1.symm.trans h2.1.1
  subst ef eg
  have hnL:∀ x,x ∈ r ++ [one]->x≠two/\x≠g:=fun x hx => ⟨d0.2.2 x hx two m2,d0.2.2 x hx g hg⟩
  have hnM:∀ x,x ∈ q ++ [two]->one≠x/\f≠x:=fun x hx => ⟨d0.2.2 one m1 x hx,d0.2.2 f hf x hx⟩
  have hsl:=fun y hy => sl_splice hS w1 w2 y hy
  rw [k2.1,k4.1] at hsl
  have hr:Path (spliceS S one two) (r ++ [one]):=by
   have h3:Path S (r ++ [one]):=by rw [hft] at h1 ⊢;exact h1.2
   refine Path.keep r one (fun y hy => ?_) (fun y hy => ?_) h3
   ·have hy2:y ∈ r ++ [one]:=by simp [hy]
    rw [hsl y (ht1 y hy2)]
    show (if two=y then _ else if one=y then _ else _)=_
    rw [if_neg (Ne.symm (hnL y hy2).1),if_neg (fun e => by subst e;exact (List.nodup_append.1 d0.1).2.2 one hy one (by simp) rfl)]
   ·rw [hft] at hy
    have hy2:y ∈ r ++ [one]:=by rw [hft];exact List.mem_cons_of_mem _ hy
    rw [hsl y (ht1 y hy2)]
    show (if f=y then _ else if g=y then _ else _)=_
    have:=d0.1
    rw [hft] at this
    rw [if_neg (fun e => by subst e;exact (List.nodup_cons.1 this).1 hy),if_neg (Ne.symm (hnL y hy2).2)]
  have hq:Path (spliceS S one two) (q ++ [two]):=by
   have h3:Path S (q ++ [two]):=by rw [hgu] at h2 ⊢;exact h2.2
   refine Path.keep q two (fun y hy => ?_) (fun y hy => ?_) h3
   ·have hy2:y ∈ q ++ [two]:=by simp [hy]
    rw [hsl y (ht2 y hy2)]
    show (if two=y then _ else if one=y then _ else _)=_
    rw [if_neg (fun e => by subst e;exact (List.nodup_append.1 d0.2.1).2.2 two hy two (by simp) rfl),if_neg (hnM y hy2).1]
   ·rw [hgu] at hy
    have hy2:y ∈ q ++ [two]:=by rw [hgu];exact List.mem_cons_of_mem _ hy
    rw [hsl y (ht2 y hy2)]
    show (if f=y then _ else if g=y then _ else _)=_
    have:=d0.2.1
    rw [hgu] at this
    rw [if_neg (hnM y hy2).2,if_neg (fun e => by subst e;exact (List.nodup_cons.1 this).1 hy)]
  have hof:Nx (spliceS S one two) two f:=by
   refine ⟨?_,?_⟩
   ·rw [hsl two (ht2 two m2)];show (if two=two then _ else _)=_;rw [if_pos rfl]
   ·rw [hsl f (ht1 f hf)];show (if f=f then _ else _)=_;rw [if_pos rfl]
  have hog:Nx (spliceS S one two) one g:=by
   refine ⟨?_,?_⟩
   ·rw [hsl one (ht1 one m1)];show (if two=one then _ else if one=one then _ else _)=_;rw [if_neg (Ne.symm hne),if_pos rfl]
   ·rw [hsl g (ht2 g hg)];show (if f=g then _ else if g=g then _ else _)=_;rw [if_neg (hnM g hg).2,if_pos rfl]
  refine .inr ⟨r ++ [one] ++ q,by simp,?_⟩
  have e:two :: (r ++ [one] ++ (q ++ [two]))=(two :: r) ++ one :: (q ++ [two]):=by simp
  rw [e,path_app]
  refine ⟨?_,?_⟩
  ·show Path _ (two :: (r ++ [one]))
   rw [hft] at hr ⊢
   exact ⟨hof,hr⟩
  ·rw [hgu] at hq ⊢
   exact ⟨hog,hq⟩
 ·unfold canSplice
  simp only [Bool.and_eq_true,bne_iff_ne,ne_eq]
  exact ⟨hne,w1,w2,fun e => d0.2.2 f hf two m2 (k2.1.symm.trans e),fun e => d0.2.2 one m1 g hg (by rw [<- k4.1,e])⟩
theorem ring_splice_far {S:List Slt} (hS:S.length=32) {one two l3:Int} {L M K:List Int} (h1:RingAt S one L) (h2:RingAt S two M) (ht1:∀ x ∈ L,thr x=true) (ht2:∀ x ∈ M,thr x=true) (hL:L≠[]) (hM:M≠[]) (hK:RingAt S l3 K) (ht3:∀ x ∈ K,thr x=true) (hd:∀ x ∈ K,x ∉ L/\x ∉ M):RingAt (spliceS S one two) l3 K:=by
 have m1:=h1.last_mem hL
 have m2:=h2.last_mem hM
 obtain ⟨p1,hp1,f,hf,k1,k2⟩:=h1.around m1
 obtain ⟨p2,hp2,g,hg,k3,k4⟩:=h2.around m2
 refine hK.keep (fun y hy => ?_)
 rw [sl_splice hS (h1.well ht1 m1) (h2.well ht2 m2) y (ht3 y hy),k2.1,k4.1]
 have e1:¬ (two=y):=fun e => (hd y hy).2 (e ▸ m2)
 have e2:¬ (one=y):=fun e => (hd y hy).1 (e ▸ m1)
 have e3:¬ (f=y):=fun e => (hd y hy).1 (e ▸ hf)
 have e4:¬ (g=y):=fun e => (hd y hy).2 (e ▸ hg)
 exact ⟨by show (if two=y then _ else if one=y then _ else _)=_;rw [if_neg e1,if_neg e2],by show (if f=y then _ else if g=y then _ else _)=_;rw [if_neg e3,if_neg e4]⟩
end Fr
end
end Go.Proofs.YtimhglmfckfclaaGreat
