/- Parts of the proof. -/
import Derived.Test.YtimhglmfckfclaaGreatM27
set_option linter.unusedVariables false
set_option linter.unusedSimpArgs false
set_option maxRecDepth 100000
set_option maxHeartbeats 16000000
namespace Go.Proofs.YtimhglmfckfclaaGreat
section
open Go.RowKit Go.Maps
namespace Ev
open Vw (Sess)
theorem mayS_fr (s:Sess):Fr.mayS s=(fr s.slot 0 31 && (fr s.birth 1 1048576 && (nameB s.user.data.toList && (fr s.level 0 2 && (fr s.born 0 1099511627776 && (fr s.dl (s.born+1) 1099511627776 &&
 (if s.kind=0 then decide (s.us=0/\s.ub=0) && (s.label.size == 0 && s.depth == 0)
  else decide (s.kind=1\/s.kind=2) && (!decide (s.kind=2/\300<s.dl-s.born) && (fr s.us 0 31 && (fr s.ub 1 (s.birth-1) && (nameB s.label.data.toList && fr s.depth 1 6))))))))))):=rfl
theorem toList_nil (s:ByteArray):(s.toList == ([]:List UInt8))=(s.size == 0):=by
 rw [Lib.toList_data]
 rcases Nat.eq_zero_or_pos s.size with h | h
 ·have e:s.data.toList=[]:=List.eq_nil_of_length_eq_zero h
  rw [e,h];rfl
 ·cases e:s.data.toList with
  | nil =>
   have:s.data.toList.length=s.size:=rfl
   rw [e] at this
   simp at this
   omega
  | cons a t =>
   have h2:(s.size == 0)=false:=by simpa using Nat.ne_of_gt h
   rw [h2];rfl
theorem may_any (s:Sess) (hu:s.user.size<=9223372036854775807) (hl:s.label.size<=9223372036854775807) (w:World) :
  Calls Tryz.prog 200 #[.agg s.cells.toArray] w fun e w' => e = .returned (.bool (Fr.mayS s))/\Below w.heap.size w w':=by
 rw [mayS_fr]
 obtain ⟨a1,a2,a3,a4,a5,a6,a7,a8,a9,a10,a11,a12⟩:=s
 simp only [Vw.Sess.cells] at hu hl ⊢
 cases f1:fr a1 0 31 with
 | false => exact may1 a1 a2 a3 a4 a5 a6 a7 a8 a9 a10 a11 a12 f1 w
 | true =>
 cases f2:fr a2 1 1048576 with
 | false => exact may2 a1 a2 a3 a4 a5 a6 a7 a8 a9 a10 a11 a12 f1 f2 w
 | true =>
 cases n3:nameB a6.data.toList with
 | false => exact may3 a1 a2 a3 a4 a5 a6 a7 a8 a9 a10 a11 a12 hu f1 f2 n3 w
 | true =>
 cases f4:fr a9 0 2 with
 | false => exact may4 a1 a2 a3 a4 a5 a6 a7 a8 a9 a10 a11 a12 hu f1 f2 n3 f4 w
 | true =>
 cases f5:fr a10 0 1099511627776 with
 | false => exact may5 a1 a2 a3 a4 a5 a6 a7 a8 a9 a10 a11 a12 hu f1 f2 n3 f4 f5 w
 | true =>
 cases f6:fr a11 (a10+1) 1099511627776 with
 | false => exact may6 a1 a2 a3 a4 a5 a6 a7 a8 a9 a10 a11 a12 hu f1 f2 n3 f4 f5 f6 w
 | true =>
 simp only [Bool.true_and]
 by_cases k5:a5=0
 ·rw [if_pos k5]
  by_cases k3:a3=0/\a4=0
  ·rw [decide_eq_true k3,Bool.true_and,<- toList_nil]
   cases k7:a7.toList == ([]:List UInt8) with
   | false => exact may7b a1 a2 a3 a4 a5 a6 a7 a8 a9 a10 a11 a12 hu f1 f2 n3 f4 f5 f6 k5 k3.1 k3.2 k7 w
   | true => exact may7c a1 a2 a3 a4 a5 a6 a7 a8 a9 a10 a11 a12 hu f1 f2 n3 f4 f5 f6 k5 k3.1 k3.2 k7 w
  ·rw [decide_eq_false k3,Bool.false_and]
   exact may7a a1 a2 a3 a4 a5 a6 a7 a8 a9 a10 a11 a12 hu f1 f2 n3 f4 f5 f6 k5 k3 w
 ·rw [if_neg k5]
  have k50:(a5 == 0)=false:=by simpa using k5
  by_cases k1:a5=1
  ·rw [decide_eq_true (.inl k1),decide_eq_false (fun h => by omega),Bool.not_false,Bool.true_and,Bool.true_and]
   cases f7:fr a3 0 31 with
   | false => exact may10k a1 a2 a3 a4 a5 a6 a7 a8 a9 a10 a11 a12 hu f1 f2 n3 f4 f5 f6 k1 f7 w
   | true =>
   cases f8:fr a4 1 (a2-1) with
   | false => exact may11k a1 a2 a3 a4 a5 a6 a7 a8 a9 a10 a11 a12 hu f1 f2 n3 f4 f5 f6 k1 f7 f8 w
   | true =>
   cases n9:nameB a7.data.toList with
   | false => exact may12k a1 a2 a3 a4 a5 a6 a7 a8 a9 a10 a11 a12 hl hu f1 f2 n3 f4 f5 f6 k1 f7 f8 n9 w
   | true => exact may13k a1 a2 a3 a4 a5 a6 a7 a8 a9 a10 a11 a12 hl hu f1 f2 n3 f4 f5 f6 k1 f7 f8 n9 rfl w
  ·have k10:(a5 == 1)=false:=by simpa using k1
   by_cases k2:a5=2
   ·rw [decide_eq_true (.inr k2),Bool.true_and]
    by_cases k9:300<a11-a10
    ·rw [decide_eq_true ⟨k2,k9⟩]
     exact may9 a1 a2 a3 a4 a5 a6 a7 a8 a9 a10 a11 a12 hu f1 f2 n3 f4 f5 f6 k2 k9 w
    ·rw [decide_eq_false (fun h => k9 h.2),Bool.not_false,Bool.true_and]
     have k9':a11-a10<=300:=by omega
     cases f7:fr a3 0 31 with
     | false => exact may10r a1 a2 a3 a4 a5 a6 a7 a8 a9 a10 a11 a12 hu f1 f2 n3 f4 f5 f6 k2 k9' f7 w
     | true =>
     cases f8:fr a4 1 (a2-1) with
     | false => exact may11r a1 a2 a3 a4 a5 a6 a7 a8 a9 a10 a11 a12 hu f1 f2 n3 f4 f5 f6 k2 k9' f7 f8 w
     | true =>
     cases n9:nameB a7.data.toList with
     | false => exact may12r a1 a2 a3 a4 a5 a6 a7 a8 a9 a10 a11 a12 hl hu f1 f2 n3 f4 f5 f6 k2 k9' f7 f8 n9 w
     | true => exact may13r a1 a2 a3 a4 a5 a6 a7 a8 a9 a10 a11 a12 hl hu f1 f2 n3 f4 f5 f6 k2 k9' f7 f8 n9 rfl w
   ·have k20:(a5 == 2)=false:=by simpa using k2
    rw [decide_eq_false (fun h => h.elim k1 k2),Bool.false_and]
    exact may8 a1 a2 a3 a4 a5 a6 a7 a8 a9 a10 a11 a12 hu f1 f2 n3 f4 f5 f6 k50 k10 k20 w
end Ev
end
section
open Go.RowKit Go.Maps
namespace Ev
open Vw (Sess)
inductive Evt where
 | birth (s:Sess)
 | revoke (b:Int)
 | tick (n:Int)
def Evt.cells:Evt->List Value
 | .birth s => .int .i64 0 :: (s.cells ++ [.int .i64 0,.int .i64 0])
 | .revoke b => .int .i64 1 :: (Fr.s0.cells ++ [.int .i64 b,.int .i64 0])
 | .tick n => .int .i64 2 :: (Fr.s0.cells ++ [.int .i64 0,.int .i64 n])
def Evt.may:Evt->Bool
 | .birth s => Fr.mayS s
 | .revoke b => fr b 1 1048576
 | .tick n => fr n 1 1073741824
def Evt.what:Evt->Value
 | .birth s => .iface 188 (.agg s.cells.toArray)
 | .revoke b => .iface 191 (.agg #[.int .i64 b])
 | .tick n => .iface 193 (.agg #[.int .i64 n])
theorem two_below' (w:World) (o1 o2:Obj):Below w.heap.size w (((w.alloc o1).alloc o2).drew):=(((Below.refl _ _).alloc (Nat.le_refl _) _).alloc (by simp) _).drew
theorem of_birth (s:Sess) (hu:s.user.size<=9223372036854775807) (hl:s.label.size<=9223372036854775807) (w:World) :
  Calls Tryz.prog 105 #[.agg (Evt.birth s).cells.toArray] w fun e w' => e = .returned (if Fr.mayS s then (Evt.birth s).what else .nilIface)/\Below w.heap.size w w':=by
 have HM:=zh (fun w => may_any s hu hl w)
 obtain ⟨mb,hmb⟩:∃ mb,mb=Fr.mayS s:=⟨_,rfl⟩
 rw [<- hmb] at HM ⊢
 clear hu hl hmb
 obtain ⟨a1,a2,a3,a4,a5,a6,a7,a8,a9,a10,a11,a12⟩:=s
 simp only [Vw.Sess.cells,Evt.cells,Evt.what,List.cons_append,List.nil_append] at HM ⊢
 have hme : ∀ (v : Value) (W : World), (method 388 188 v "lineage/event.may").run Tryz.prog W = .ok (200, v) W := fun v W => by kernel_rfl
 go_enter Tryz.func105,Tryz.ntmps105
 go_wp2_with fail
 go_region
 go_wp2_with fail
 refine (HM.out _).mono ?_
 rintro e w2 ⟨rfl,hb2⟩
 have HB:Hid (Below w.heap.size w w2):=(two_below' w _ _).trans (hb2.mono (two_below' w _ _).size)
 clear hb2
 cases mb with
 | true =>
  go_wp2
  go_ret
  exact ⟨rfl,HB.out⟩
 | false =>
  go_wp2
  go_ret
  exact ⟨rfl,HB.out⟩
theorem rmay_any (b:Int) (w:World):Calls Tryz.prog 202 #[.agg #[.int .i64 b]] w fun e w' => e = .returned (.bool (fr b 1 1048576))/\Below w.heap.size w w':=by
 have HF:=zh (fun w => from_any b 1 1048576 w)
 have HB:Hid (Below w.heap.size w (w.alloc (.cells #[.int .i64 b] 191))):=(Below.refl _ _).alloc (Nat.le_refl _) _
 go_enter Tryz.func202,Tryz.ntmps202
 go_wp2_with (go_at_call 201;(with_reducible refine (HF.out _).mono ?_);rintro e w' ⟨rfl,rfl⟩)
 go_ret
 exact ⟨rfl,HB.out⟩
theorem tmay_any (b:Int) (w:World):Calls Tryz.prog 203 #[.agg #[.int .i64 b]] w fun e w' => e = .returned (.bool (fr b 1 1073741824))/\Below w.heap.size w w':=by
 have HF:=zh (fun w => from_any b 1 1073741824 w)
 have HB:Hid (Below w.heap.size w (w.alloc (.cells #[.int .i64 b] 193))):=(Below.refl _ _).alloc (Nat.le_refl _) _
 go_enter Tryz.func203,Tryz.ntmps203
 go_wp2_with (go_at_call 201;(with_reducible refine (HF.out _).mono ?_);rintro e w' ⟨rfl,rfl⟩)
 go_ret
 exact ⟨rfl,HB.out⟩
theorem of_revoke (b:Int) (w:World) :
  Calls Tryz.prog 105 #[.agg (Evt.revoke b).cells.toArray] w fun e w' => e = .returned (if fr b 1 1048576 then (Evt.revoke b).what else .nilIface)/\Below w.heap.size w w':=by
 have HM:=zh (fun w => rmay_any b w)
 obtain ⟨mb,hmb⟩:∃ mb,mb=fr b 1 1048576:=⟨_,rfl⟩
 rw [<- hmb] at HM ⊢
 clear hmb
 simp only [Fr.s0,Vw.Sess.cells,Evt.cells,Evt.what,List.cons_append,List.nil_append] at HM ⊢
 have hme : ∀ (v : Value) (W : World), (method 388 191 v "lineage/event.may").run Tryz.prog W = .ok (202, v) W := fun v W => by kernel_rfl
 go_enter Tryz.func105,Tryz.ntmps105
 go_wp2_with fail
 go_region
 go_wp2_with fail
 refine (HM.out _).mono ?_
 rintro e w2 ⟨rfl,hb2⟩
 have HB:Hid (Below w.heap.size w w2):=(two_below' w _ _).trans (hb2.mono (two_below' w _ _).size)
 clear hb2
 cases mb with
 | true =>
  go_wp2
  go_ret
  exact ⟨rfl,HB.out⟩
 | false =>
  go_wp2
  go_ret
  exact ⟨rfl,HB.out⟩
theorem of_tick (b:Int) (w:World) :
  Calls Tryz.prog 105 #[.agg (Evt.tick b).cells.toArray] w fun e w' => e = .returned (if fr b 1 1073741824 then (Evt.tick b).what else .nilIface)/\Below w.heap.size w w':=by
 have HM:=zh (fun w => tmay_any b w)
 obtain ⟨mb,hmb⟩:∃ mb,mb=fr b 1 1073741824:=⟨_,rfl⟩
 rw [<- hmb] at HM ⊢
 clear hmb
 simp only [Fr.s0,Vw.Sess.cells,Evt.cells,Evt.what,List.cons_append,List.nil_append] at HM ⊢
 have hme : ∀ (v : Value) (W : World), (method 388 193 v "lineage/event.may").run Tryz.prog W = .ok (203, v) W := fun v W => by kernel_rfl
 go_enter Tryz.func105,Tryz.ntmps105
 go_wp2_with fail
 go_region
 go_wp2_with fail
 refine (HM.out _).mono ?_
 rintro e w2 ⟨rfl,hb2⟩
 have HB:Hid (Below w.heap.size w w2):=(two_below' w _ _).trans (hb2.mono (two_below' w _ _).size)
 clear hb2
 cases mb with
 | true =>
  go_wp2
  go_ret
  exact ⟨rfl,HB.out⟩
 | false =>
  go_wp2
  go_ret
  exact ⟨rfl,HB.out⟩
theorem of_any (x:Evt) (h:∀ s,x = .birth s->s.user.size<=9223372036854775807/\s.label.size<=9223372036854775807) (w:World) :
  Calls Tryz.prog 105 #[.agg x.cells.toArray] w fun e w' => e = .returned (if x.may then x.what else .nilIface)/\Below w.heap.size w w':=by
 cases x with
 | birth s => exact of_birth s (h s rfl).1 (h s rfl).2 w
 | revoke b => exact of_revoke b w
 | tick n => exact of_tick n w
end Ev
end
section
open Go.RowKit Go.Maps
namespace Ev
open Vw (Sess)
open Pk (WrAt WrPost sevens bts bV)
def numsB (ns:List Int):List Nat:=ns.flatMap fun n => sevens n.toNat
theorem numsB_take {ns:List Int} {k:Nat} {n:Int} (h:ns[k]? = some n):numsB (ns.take (k+1))=numsB (ns.take k) ++ sevens n.toNat:=by
 unfold numsB
 rw [List.take_add_one,h,List.flatMap_append]
 simp
theorem numsB_len (ns:List Int):(numsB ns).length<=ns.length * 10:=by
 unfold numsB
 induction ns with
 | nil => simp
 | cons n r ih =>
  rw [List.flatMap_cons,List.length_append,List.length_cons]
  have:=Pk.sevens_len n.toNat
  omega
theorem u64_of {n:Int} (h:0<=n) (h2:n<=9223372036854775807):IntKind.u64.wrap n=n:=by
 unfold IntKind.wrap;simp only [IntKind.bits,IntKind.signed];simp;omega
theorem nums_any {p bo g:Nat} {L:List Nat} {F:Nat->Prop} {w:World} (h:WrAt p L F w) (hbo:w.heap[bo]? = some (.cells #[.pointer (some ⟨p,0,none⟩)] 183 (0,0))) (hFb:¬ F bo) (ns:List Int) (hl:ns.length<=100) (hL:L.length<=1000000) (hn:∀ n ∈ ns,0<=n/\n<=9223372036854775807) (t:TypeId)
  (hg:w.heap[g]? = some (.cells (ns.map (Value.int .i64)).toArray t (0,0))) (hFg:¬ F g) :
  Calls Tryz.prog 107 #[.slice (some ⟨g,0,none⟩) ns.length ns.length,.pointer (some ⟨bo,0,none⟩)] w fun e w' => e = .returned (.tuple #[])/\WrPost p (L ++ numsB ns) F w w':=by
 have H:=zh h;have HBO:=zh hbo;have HFB:=zh hFb;have HN:=zh hn;have HG:=zh hg;have HFG:=zh hFg;have HLL:=zh hL;have HNL:=zh hl
 clear h hbo hFb hn hg hFg hl hL
 go_enter Tryz.func107,Tryz.ntmps107
 go_wp2
 go_loopw [7] (fun x wr => ∃ (k:Nat) (F':Nat->Prop),k<=ns.length/\x = .int .i64 (k:Int)/\WrAt p (L ++ numsB (ns.take k)) F' wr/\Only F w wr/\∀ b,F' b->F b\/w.heap.size<=b) (fun x _ => ns.length-(intOf x).toNat)
 case atStart => exact ⟨0,F,Nat.zero_le _,rfl,by show WrAt p (L ++ []) F w;rw [List.append_nil];exact H.out,Only.refl _ _,fun b hb => .inl hb⟩
 case round =>
  obtain ⟨k,F',hk,rfl,hw,ho,hf⟩:=hrel
  have b0:(0:Int)<=(k:Int):=by omega
  have hk100:k<=100:=Nat.le_trans hk HNL.out
  by_cases hlt:k<ns.length
  ·have b1:(k:Int)<(ns.length:Int):=by omega
   obtain ⟨n,hnk⟩:∃ n,ns[k]? = some n:=⟨_,List.getElem?_eq_getElem hlt⟩
   obtain ⟨n0,n1⟩:=HN.out n (List.mem_of_getElem? hnk)
   obtain ⟨m,rfl⟩:=Int.eq_ofNat_of_zero_le n0
   have c1:wr.cell? ⟨g,k,none⟩=some (.int .i64 (m:Int)):=by
    rw [zc ((ho.block g (zx HG.out) HFG.out).trans HG.out),List.getElem?_toArray,List.getElem?_map,hnk];rfl
   have c2:wr.cell? ⟨bo,0,none⟩=some (.pointer (some ⟨p,0,none⟩)):=by
    rw [zc ((ho.block bo (zx HBO.out) HFB.out).trans HBO.out)];rfl
   have hwp:IntKind.u64.wrap (m:Int)=(m:Int):=u64_of n0 n1
   have hcv:∀ W:World,(convert 3 32 (.int .i64 (m:Int))).run Tryz.prog W = .ok (.int .u64 (m:Int)) W:=fun W => by go_simp
   have HNUM:=zh (Pk.number_any hw m (by omega) (by
    rw [List.length_append]
    have h1:=numsB_len (ns.take k)
    rw [List.length_take] at h1
    have:=HLL.out;have:=HNL.out
    omega))
   have HP:Hid (∀ w3,WrPost p (L ++ numsB (ns.take k) ++ sevens m) F' wr w3->WrPost p (L ++ numsB (ns.take (k+1))) F w w3):=fun w3 h3 => by
    have:=WrPost.trans ho hf h3
    rw [numsB_take hnk,<- List.append_assoc];exact this
   have HLT:=zh hlt
   clear hnk n0 n1 hw ho hf hk hlt
   go_wp2_with fail
   refine HNUM.out.mono ?_
   rintro e w3 ⟨rfl,h3⟩
   have H3:=zh (HP.out w3 h3)
   clear h3
   go_wp2
   go_roundw
   case rel => obtain ⟨F3,t1,t2,t3⟩:=H3.out;have:=HLT.out;exact ⟨k+1,F3,by omega,by go_num,t1,t2,t3⟩
   case measure => have:=HLT.out;simp [intOf];omega
  ·have b1:(ns.length:Int)<=(k:Int):=by omega
   have HE:Hid (WrPost p (L ++ numsB ns) F w wr):=⟨F',by rw [List.take_of_length_le (by omega)] at hw;exact hw,ho,hf⟩
   clear hw ho hf hk hlt
   go_wp2
   go_end0
   exact ⟨rfl,HE.out⟩
end Ev
end
section
open Go.RowKit Go.Maps
namespace Ev
open Vw (Sess)
open Pk (WrAt WrPost sevens bts bV)
def St (p:Nat) (R:List (Nat × Obj)) (L:List Nat) (w W:World):Prop :=
 ∃ F,WrAt p L F W/\(∀ q ∈ R,W.heap[q.1]? = some q.2/\¬ F q.1)/\Below w.heap.size w W/\w.heap.size<=p
section
variable {p:Nat} {R:List (Nat × Obj)} {L:List Nat} {w W:World}
theorem St.row (h:St p R L w W) {b:Nat} {o:Obj} (hm:(b,o) ∈ R):W.heap[b]? = some o:=by obtain ⟨F,-,h2,-⟩:=h;exact (h2 _ hm).1
theorem St.add (h:St p R L w W) (o:Obj):St p ((W.heap.size,o) :: R) L w (W.alloc o):=by
 obtain ⟨F,h1,h2,h3,h4⟩:=h
 have hb:Below W.heap.size W (W.alloc o):=(Below.refl _ _).alloc (Nat.le_refl _) _
 refine ⟨F,h1.below hb,fun q hq => ?_,h3.alloc h3.size _,h4⟩
 rcases List.mem_cons.1 hq with rfl | hq
 ·exact ⟨World.alloc_heap_new _ _,fun hf => by have:=(h1.lt hf).2;exact absurd this (Nat.lt_irrefl _)⟩
 ·obtain ⟨k1,k2⟩:=h2 q hq
  exact ⟨(hb.block _ (zx k1)).trans k1,k2⟩
theorem St.next {F:Nat->Prop} {L':List Nat} {W':World} (h1:WrAt p L F W) (h2:∀ q ∈ R,W.heap[q.1]? = some q.2/\¬ F q.1) (h3:Below w.heap.size w W) (h4:w.heap.size<=p) (h:WrPost p L' F W W'):St p R L' w W':=by
 obtain ⟨F',k1,k2,k3⟩:=h
 refine ⟨F',k1,fun q hq => ?_,h3.trans (k2.below h3.size (fun i hi hf => by have:=(h1.lt hf).1;omega)),h4⟩
 obtain ⟨j1,j2⟩:=h2 q hq
 have hlt:=(zx j1)
 exact ⟨(k2.block _ hlt j2).trans j1,fun hf => by
  rcases k3 _ hf with h5 | h5
  ·exact j2 h5
  ·exact absurd hlt (Nat.not_lt.2 h5)⟩
theorem enc_nums (h:St p R L w W) {bo:Nat} (hbo:(bo,Obj.cells #[.pointer (some ⟨p,0,none⟩)] 183 (0,0)) ∈ R) (ns:List Int) (hl:ns.length<=100) (hL:L.length<=1000000) (hn:∀ n ∈ ns,0<=n/\n<=9223372036854775807) (t:TypeId) :
  Calls Tryz.prog 107 #[.slice (some ⟨W.heap.size,0,none⟩) ns.length ns.length,.pointer (some ⟨bo,0,none⟩)] (W.alloc (.cells (ns.map (Value.int .i64)).toArray t)) fun e w' => e = .returned (.tuple #[])/\St p R (L ++ numsB ns) w w':=by
 obtain ⟨F,h1,h2,h3,h4⟩:=h
 have hb:Below W.heap.size W (W.alloc (.cells (ns.map (Value.int .i64)).toArray t)):=(Below.refl _ _).alloc (Nat.le_refl _) _
 have h2':∀ q ∈ R,(W.alloc (.cells (ns.map (Value.int .i64)).toArray t)).heap[q.1]? = some q.2/\¬ F q.1:=fun q hq => by
  obtain ⟨k1,k2⟩:=h2 q hq
  exact ⟨(hb.block _ (zx k1)).trans k1,k2⟩
 have h1':=h1.below hb
 refine (nums_any h1' (h2' _ hbo).1 (h2' _ hbo).2 ns hl hL hn t (World.alloc_heap_new _ _) (fun hf => by have:=(h1.lt hf).2;exact absurd this (Nat.lt_irrefl _))).mono ?_
 rintro e w' ⟨rfl,k⟩
 exact ⟨rfl,St.next h1' h2' (h3.alloc h3.size _) h4 k⟩
theorem enc_text (h:St p R L w W) (s:ByteArray) (hs:s.size<=1099511627776) (hl:L.length<=1099511627776) :
  Calls Tryz.prog 109 #[.pointer (some ⟨p,0,none⟩),.string s] W fun e w' => e = .returned (.tuple #[])/\St p R (L ++ (sevens s.size ++ bts s)) w w':=by
 obtain ⟨F,h1,h2,h3,h4⟩:=h
 refine (Pk.text_any h1 s hs hl).mono ?_
 rintro e w' ⟨rfl,k⟩
 exact ⟨rfl,St.next h1 h2 h3 h4 k⟩
theorem enc_number (h:St p R L w W) (v:Nat) (hv:v<18446744073709551616) (hl:L.length<=1099511627776) :
  Calls Tryz.prog 108 #[.pointer (some ⟨p,0,none⟩),.int .u64 (v:Int)] W fun e w' => e = .returned (.tuple #[])/\St p R (L ++ sevens v) w w':=by
 obtain ⟨F,h1,h2,h3,h4⟩:=h
 refine (Pk.number_any h1 v hv hl).mono ?_
 rintro e w' ⟨rfl,k⟩
 exact ⟨rfl,St.next h1 h2 h3 h4 k⟩
end
def Evt.bytes:Evt->List Nat
 | .birth s => numsB [0] ++ numsB [s.slot,s.birth,s.us,s.ub,s.kind] ++ (sevens s.user.size ++ bts s.user) ++ (sevens s.label.size ++ bts s.label) ++ sevens s.scopes ++ numsB [s.level,s.born,s.dl,s.depth]
 | .revoke b => numsB [1] ++ numsB [b]
 | .tick n => numsB [2] ++ numsB [n]
def EncPost (x:Evt) (w:World) (e:Ending) (w':World):Prop :=
 ((x.may=true/\(∃ v,e = .returned (.tuple #[v,.nilIface])/\v≠.slice none 0 0/\w'.ownsRow w.heap.size 5 1 v x.bytes.length (x.bytes.map bV)))\/x.may=false/\e = .returned (.tuple #[.slice none 0 0,.iface 83 (.int .i64 1)]))/\Below w.heap.size w w'
theorem own_down {w:World} {base base' e size n:Nat} {v:Value} {xs:List Value} (h:w.ownsRow base e size v n xs) (hb:base'<=base):w.ownsRow base' e size v n xs:=by
 refine ⟨h.1,?_⟩
 rcases h.2 with h2 | ⟨g,cap,cur,rfl,h2,h3,h4⟩
 ·exact .inl h2
 ·exact .inr ⟨g,cap,cur,rfl,Nat.le_trans hb h2,h3,h4⟩
theorem bytes_st {p:Nat} {R:List (Nat × Obj)} {L:List Nat} {w W:World} (h:St p R L w W) (hl:L.length<=140737488355328) (h0:0<L.length) :
  Calls Tryz.prog 110 #[.pointer (some ⟨p,0,none⟩)] W fun e w' => ∃ v',e = .returned v'/\v'≠.slice none 0 0/\w'.ownsRow w.heap.size 5 1 v' L.length (L.map bV)/\Below w.heap.size w w':=by
 obtain ⟨F,h1,h2,h3,h4⟩:=h
 refine (Pk.bytes_any h1 hl h0).mono ?_
 rintro e w' ⟨v',rfl,k1,k2,k3⟩
 exact ⟨v',rfl,k2,own_down k1 h3.size,h3.trans (k3.mono h3.size)⟩
end Ev
end
section
open Go.RowKit Go.Maps
namespace Ev
open Vw (Sess)
open Pk (WrAt WrPost sevens bts bV)
theorem encode_no (x:Evt) (h:∀ s,x = .birth s->s.user.size<=9223372036854775807/\s.label.size<=9223372036854775807) (hm:x.may=false) (w:World) :
  Calls Tryz.prog 62 #[.agg x.cells.toArray] w (EncPost x w):=by
 have HOF:Hid (∀ w,Calls Tryz.prog 105 #[.agg x.cells.toArray] w fun e w' => e = .returned .nilIface/\Below w.heap.size w w'):=fun w => by
  have:=of_any x h w
  rwa [hm] at this
 obtain ⟨cs,hcs⟩:∃ cs,cs=x.cells:=⟨_,rfl⟩
 have HP:Hid (∀ w',Below w.heap.size w w'->EncPost x w (.returned (.tuple #[.slice none 0 0,.iface 83 (.int .i64 1)])) w'):=fun w' hb => ⟨.inr ⟨hm,rfl⟩,hb⟩
 cases x with
 | birth s =>
  obtain ⟨a1,a2,a3,a4,a5,a6,a7,a8,a9,a10,a11,a12⟩:=s
  simp only [Vw.Sess.cells,Evt.cells,List.cons_append,List.nil_append] at HOF ⊢
  clear h hm hcs
  go_enter Tryz.func62,Tryz.ntmps62
  go_wp2_with fail
  refine (HOF.out _).mono ?_
  rintro e w2 ⟨rfl,hb2⟩
  have HE:=zh (HP.out w2 (((Below.refl _ _).alloc (Nat.le_refl _) _).trans (hb2.mono (by simp))))
  clear hb2
  go_wp2
  refine bodyPost_ret (results_tmp2 rfl _ _ _) rfl ?_
  exact HE.out
 | revoke b =>
  simp only [Fr.s0,Vw.Sess.cells,Evt.cells,List.cons_append,List.nil_append] at HOF ⊢
  clear h hm hcs
  go_enter Tryz.func62,Tryz.ntmps62
  go_wp2_with fail
  refine (HOF.out _).mono ?_
  rintro e w2 ⟨rfl,hb2⟩
  have HE:=zh (HP.out w2 (((Below.refl _ _).alloc (Nat.le_refl _) _).trans (hb2.mono (by simp))))
  clear hb2
  go_wp2
  refine bodyPost_ret (results_tmp2 rfl _ _ _) rfl ?_
  exact HE.out
 | tick b =>
  simp only [Fr.s0,Vw.Sess.cells,Evt.cells,List.cons_append,List.nil_append] at HOF ⊢
  clear h hm hcs
  go_enter Tryz.func62,Tryz.ntmps62
  go_wp2_with fail
  refine (HOF.out _).mono ?_
  rintro e w2 ⟨rfl,hb2⟩
  have HE:=zh (HP.out w2 (((Below.refl _ _).alloc (Nat.le_refl _) _).trans (hb2.mono (by simp))))
  clear hb2
  go_wp2
  refine bodyPost_ret (results_tmp2 rfl _ _ _) rfl ?_
  exact HE.out
theorem la {a b:List Nat} {x y:Nat} (h:a.length<=x) (k:b.length<=y):(a ++ b).length<=x+y:=by rw [List.length_append];exact Nat.add_le_add h k
theorem sevens_pos (v:Nat):0<(sevens v).length:=by
 unfold Pk.sevens Pk.sevF
 split <;> simp
theorem numsB_pos (n:Int) (ns:List Int):0<(numsB (n :: ns)).length:=by
 unfold numsB
 rw [List.flatMap_cons,List.length_append]
 have:=sevens_pos n.toNat
 omega
theorem nameB_le {l:List UInt8} (h:nameB l=true):l.length<=32:=by
 unfold nameB at h
 simp only [Bool.and_eq_true,decide_eq_true_eq] at h
 exact h.1.2
theorem may_sizes {s:Sess} (h:Fr.mayS s=true):s.user.size<=32/\s.label.size<=32:=by
 obtain ⟨-,-,m3,-,-,-,m7⟩:=Fr.mayS_iff.1 h
 refine ⟨nameB_le m3,?_⟩
 rcases m7 with ⟨_,_,h,_⟩ | ⟨_,_,_,_,_,h,_⟩
 ·omega
 ·exact nameB_le h
theorem encode_birth (s:Sess) (hm:Fr.mayS s=true) (hsc:s.scopes<18446744073709551616) (w:World) :
  Calls Tryz.prog 62 #[.agg (Evt.birth s).cells.toArray] w (EncPost (.birth s) w):=by
 have hsz:=may_sizes hm
 have HOF:Hid (∀ w,Calls Tryz.prog 105 #[.agg (Evt.birth s).cells.toArray] w fun e w' => e = .returned (Evt.birth s).what/\Below w.heap.size w w'):=fun w => by
  have:=of_birth s (by omega) (by omega) w
  rwa [hm] at this
 obtain ⟨m1,m2,m3,m4,m5,m6,m7⟩:=Fr.mayS_iff.1 hm
 have HNS1:Hid (∀ n ∈ [s.slot,s.birth,s.us,s.ub,s.kind],0<=n/\n<=9223372036854775807):=fun n hn => by
  simp only [List.mem_cons,List.not_mem_nil,or_false] at hn
  rcases hn with rfl | rfl | rfl | rfl | rfl <;> omega
 have HNS2:Hid (∀ n ∈ [s.level,s.born,s.dl,s.depth],0<=n/\n<=9223372036854775807):=fun n hn => by
  simp only [List.mem_cons,List.not_mem_nil,or_false] at hn
  rcases hn with rfl | rfl | rfl | rfl <;> omega
 have HP:Hid (∀ v w',v≠.slice none 0 0->w'.ownsRow w.heap.size 5 1 v (Evt.birth s).bytes.length ((Evt.birth s).bytes.map bV)->Below w.heap.size w w'->EncPost (.birth s) w (.returned (.tuple #[v,.nilIface])) w'):=fun v w' h1 h2 h3 => ⟨.inl ⟨hm,v,rfl,h1,h2⟩,h3⟩
 have HB0:Hid ((Evt.birth s).bytes=numsB [0] ++ numsB [s.slot,s.birth,s.us,s.ub,s.kind] ++ (sevens s.user.size ++ bts s.user) ++ (sevens s.label.size ++ bts s.label) ++ sevens s.scopes ++ numsB [s.level,s.born,s.dl,s.depth]):=rfl
 have HSZ:=zh hsz;have HSC:=zh hsc
 obtain ⟨out,hout⟩:∃ out,out=(Evt.birth s).bytes:=⟨_,rfl⟩
 rw [<- hout] at HB0 HP
 clear hm hsz hsc m1 m2 m3 m4 m5 m6 m7 hout
 obtain ⟨a1,a2,a3,a4,a5,a6,a7,a8,a9,a10,a11,a12⟩:=s
 simp only [Vw.Sess.cells,Evt.cells,Evt.what,List.cons_append,List.nil_append] at HOF HNS1 HNS2 HSZ HSC HB0 ⊢
 have HOB:Hid (Below w.heap.size w (w.alloc (.cells #[.int .i64 0,.int .i64 a1,.int .i64 a2,.int .i64 a3,.int .i64 a4,.int .i64 a5,.string a6,.string a7,.int .u64 (a8:Int),.int .i64 a9,.int .i64 a10,.int .i64 a11,.int .i64 a12,.int .i64 0,.int .i64 0] 134))):=(Below.refl _ _).alloc (Nat.le_refl _) _
 have HE0:Hid ((w.alloc (.cells #[.int .i64 0,.int .i64 a1,.int .i64 a2,.int .i64 a3,.int .i64 a4,.int .i64 a5,.string a6,.string a7,.int .u64 (a8:Int),.int .i64 a9,.int .i64 a10,.int .i64 a11,.int .i64 a12,.int .i64 0,.int .i64 0] 134)).heap[w.heap.size]? = some (.cells #[.int .i64 0,.int .i64 a1,.int .i64 a2,.int .i64 a3,.int .i64 a4,.int .i64 a5,.string a6,.string a7,.int .u64 (a8:Int),.int .i64 a9,.int .i64 a10,.int .i64 a11,.int .i64 a12,.int .i64 0,.int .i64 0] 134 (0,0))):=World.alloc_heap_new _ _
 go_enter Tryz.func62,Tryz.ntmps62
 go_wp2_with fail
 refine (HOF.out _).mono ?_
 rintro e w2 ⟨rfl,hb2⟩
 have HB2:Hid (Below w.heap.size w w2):=HOB.out.trans (hb2.mono HOB.out.size)
 have he2:=(hb2.block w.heap.size (by simp)).trans HE0.out
 have HE2:=zh he2
 clear hb2 he2
 go_wp2_with fail
 refine (Pk.wnew_any _).mono ?_
 rintro e w3 ⟨rfl,hw3,hb3⟩
 obtain ⟨p,hp⟩:∃ p,p=w2.heap.size:=⟨_,rfl⟩
 rw [<- hp] at hw3 ⊢
 have he3:=(hb3.block w.heap.size (zx HE2.out)).trans HE2.out
 have hst3:St p [(w.heap.size,.cells #[.int .i64 0,.int .i64 a1,.int .i64 a2,.int .i64 a3,.int .i64 a4,.int .i64 a5,.string a6,.string a7,.int .u64 (a8:Int),.int .i64 a9,.int .i64 a10,.int .i64 a11,.int .i64 a12,.int .i64 0,.int .i64 0] 134 (0,0))] [] w w3 :=
  ⟨_,hw3,fun q hq => by rw [List.mem_singleton] at hq;subst hq;exact ⟨he3,fun h => by have h2:=(zx HE2.out);have h3:w.heap.size=p:=h;omega⟩,HB2.out.trans (hb3.mono HB2.out.size),by rw [hp];exact HB2.out.size⟩
 obtain ⟨bo,hbo⟩:∃ bo,bo=w3.heap.size:=⟨_,rfl⟩
 have hst4:=hst3.add (.cells #[.pointer (some ⟨p,0,none⟩)] 183)
 rw [<- hbo] at hst4
 obtain ⟨W4,hW4⟩:∃ W4,W4=w3.alloc (.cells #[.pointer (some ⟨p,0,none⟩)] 183):=⟨_,rfl⟩
 rw [<- hW4] at hst4
 have HST4:=zh hst4;have HW4:=zh hW4;have HBO:=zh hbo
 clear hw3 hb3 he3 hst3 hst4 hp hW4 hbo
 go_upto_region 6 with fail
 have hta:∀ (v:Value) (W:World),(Instr.typeAssert (.iface 188 v) 181 188 true).run Tryz.prog W = .ok (.tuple #[v,.bool true]) W:=fun v W => by kernel_rfl
 rw [<- HW4.out,<- HBO.out]
 have de:W4.cell? ⟨w.heap.size,0,none⟩=some (.int .i64 0):=by rw [zc (HST4.out.row (b:=w.heap.size) (o:=(w.heap.size,Obj.cells #[.int .i64 0,.int .i64 a1,.int .i64 a2,.int .i64 a3,.int .i64 a4,.int .i64 a5,.string a6,.string a7,.int .u64 (a8:Int),.int .i64 a9,.int .i64 a10,.int .i64 a11,.int .i64 a12,.int .i64 0,.int .i64 0] 134 (0,0)).2) (by simp))];rfl
 go_wp2_with fail
 refine (enc_nums HST4.out (bo:=bo) (by simp) [0] (by decide) (by decide) (by decide) _).mono ?_
 rintro e w5 ⟨rfl,hst5⟩
 obtain ⟨sb,hsb⟩:∃ sb,sb=w5.heap.size+1:=⟨_,rfl⟩
 have hst6:=(hst5.add (.cells #[.int .i64 a1,.int .i64 a2,.int .i64 a3,.int .i64 a4,.int .i64 a5,.string a6,.string a7,.int .u64 (a8:Int),.int .i64 a9,.int .i64 a10,.int .i64 a11,.int .i64 a12] 188)).add (.cells #[.int .i64 a1,.int .i64 a2,.int .i64 a3,.int .i64 a4,.int .i64 a5,.string a6,.string a7,.int .u64 (a8:Int),.int .i64 a9,.int .i64 a10,.int .i64 a11,.int .i64 a12] 35)
 rw [World.size_alloc,<- hsb] at hst6
 obtain ⟨W6,hW6⟩:∃ W6,W6=(w5.alloc (.cells #[.int .i64 a1,.int .i64 a2,.int .i64 a3,.int .i64 a4,.int .i64 a5,.string a6,.string a7,.int .u64 (a8:Int),.int .i64 a9,.int .i64 a10,.int .i64 a11,.int .i64 a12] 188)).alloc (.cells #[.int .i64 a1,.int .i64 a2,.int .i64 a3,.int .i64 a4,.int .i64 a5,.string a6,.string a7,.int .u64 (a8:Int),.int .i64 a9,.int .i64 a10,.int .i64 a11,.int .i64 a12] 35):=⟨_,rfl⟩
 rw [<- hW6] at hst6
 have HST6:=zh hst6;have HW6:=zh hW6;have HSB:=zh hsb
 have H1:Hid ((numsB [0]).length<=10):=numsB_len [0]
 have H2:Hid ((numsB [a1,a2,a3,a4,a5]).length<=50):=numsB_len [a1,a2,a3,a4,a5]
 have H3:Hid ((numsB [a9,a10,a11,a12]).length<=40):=numsB_len [a9,a10,a11,a12]
 have H4:Hid ((sevens a6.size ++ bts a6).length<=10+32):=la (Pk.sevens_len _) (by rw [Pk.bts_len];exact HSZ.out.1)
 have H5:Hid ((sevens a7.size ++ bts a7).length<=10+32):=la (Pk.sevens_len _) (by rw [Pk.bts_len];exact HSZ.out.2)
 have H6:Hid ((sevens a8).length<=10):=Pk.sevens_len _
 clear de hst5 hst6 hW6 hsb
 go_upto_region 11 with fail
 rw [<- HW6.out,<- HSB.out]
 have d0:W6.cell? ⟨sb,0,none⟩=some (.int .i64 a1):=by rw [zc (HST6.out.row (b:=sb) (o:=(sb,Obj.cells #[.int .i64 a1,.int .i64 a2,.int .i64 a3,.int .i64 a4,.int .i64 a5,.string a6,.string a7,.int .u64 (a8:Int),.int .i64 a9,.int .i64 a10,.int .i64 a11,.int .i64 a12] 35 (0,0)).2) (by simp))];rfl
 have d1:W6.cell? ⟨sb,1,none⟩=some (.int .i64 a2):=by rw [zc (HST6.out.row (b:=sb) (o:=(sb,Obj.cells #[.int .i64 a1,.int .i64 a2,.int .i64 a3,.int .i64 a4,.int .i64 a5,.string a6,.string a7,.int .u64 (a8:Int),.int .i64 a9,.int .i64 a10,.int .i64 a11,.int .i64 a12] 35 (0,0)).2) (by simp))];rfl
 have d2:W6.cell? ⟨sb,2,none⟩=some (.int .i64 a3):=by rw [zc (HST6.out.row (b:=sb) (o:=(sb,Obj.cells #[.int .i64 a1,.int .i64 a2,.int .i64 a3,.int .i64 a4,.int .i64 a5,.string a6,.string a7,.int .u64 (a8:Int),.int .i64 a9,.int .i64 a10,.int .i64 a11,.int .i64 a12] 35 (0,0)).2) (by simp))];rfl
 have d3:W6.cell? ⟨sb,3,none⟩=some (.int .i64 a4):=by rw [zc (HST6.out.row (b:=sb) (o:=(sb,Obj.cells #[.int .i64 a1,.int .i64 a2,.int .i64 a3,.int .i64 a4,.int .i64 a5,.string a6,.string a7,.int .u64 (a8:Int),.int .i64 a9,.int .i64 a10,.int .i64 a11,.int .i64 a12] 35 (0,0)).2) (by simp))];rfl
 have d4:W6.cell? ⟨sb,4,none⟩=some (.int .i64 a5):=by rw [zc (HST6.out.row (b:=sb) (o:=(sb,Obj.cells #[.int .i64 a1,.int .i64 a2,.int .i64 a3,.int .i64 a4,.int .i64 a5,.string a6,.string a7,.int .u64 (a8:Int),.int .i64 a9,.int .i64 a10,.int .i64 a11,.int .i64 a12] 35 (0,0)).2) (by simp))];rfl
 go_wp2_with fail
 refine (enc_nums HST6.out (bo:=bo) (by simp) [a1,a2,a3,a4,a5] (by simp) (Nat.le_trans (la (Nat.le_refl 0) H1.out) (by decide)) HNS1.out _).mono ?_
 rintro e w7 ⟨rfl,hst7⟩
 have HST7:=zh hst7
 clear d0 d1 d2 d3 d4 hst7
 have d5:w7.cell? ⟨sb,5,none⟩=some (.string a6):=by rw [zc (HST7.out.row (b:=sb) (o:=(sb,Obj.cells #[.int .i64 a1,.int .i64 a2,.int .i64 a3,.int .i64 a4,.int .i64 a5,.string a6,.string a7,.int .u64 (a8:Int),.int .i64 a9,.int .i64 a10,.int .i64 a11,.int .i64 a12] 35 (0,0)).2) (by simp))];rfl
 have db:w7.cell? ⟨bo,0,none⟩=some (.pointer (some ⟨p,0,none⟩)):=by rw [zc (HST7.out.row (b:=bo) (o:=(bo,Obj.cells #[.pointer (some ⟨p,0,none⟩)] 183 (0,0)).2) (by simp))];rfl
 go_wp2_with fail
 refine (enc_text HST7.out a6 (by have:=HSZ.out.1;have:=HSZ.out.2;omega) (Nat.le_trans (la (la (Nat.le_refl 0) H1.out) H2.out) (by decide))).mono ?_
 rintro e w8 ⟨rfl,hst8⟩
 have HST8:=zh hst8
 clear d5 db hst8
 have d6:w8.cell? ⟨sb,6,none⟩=some (.string a7):=by rw [zc (HST8.out.row (b:=sb) (o:=(sb,Obj.cells #[.int .i64 a1,.int .i64 a2,.int .i64 a3,.int .i64 a4,.int .i64 a5,.string a6,.string a7,.int .u64 (a8:Int),.int .i64 a9,.int .i64 a10,.int .i64 a11,.int .i64 a12] 35 (0,0)).2) (by simp))];rfl
 have db:w8.cell? ⟨bo,0,none⟩=some (.pointer (some ⟨p,0,none⟩)):=by rw [zc (HST8.out.row (b:=bo) (o:=(bo,Obj.cells #[.pointer (some ⟨p,0,none⟩)] 183 (0,0)).2) (by simp))];rfl
 go_wp2_with fail
 refine (enc_text HST8.out a7 (by have:=HSZ.out.1;have:=HSZ.out.2;omega) (Nat.le_trans (la (la (la (Nat.le_refl 0) H1.out) H2.out) H4.out) (by decide))).mono ?_
 rintro e w9 ⟨rfl,hst9⟩
 have HST9:=zh hst9
 clear d6 db hst9
 have d7:w9.cell? ⟨sb,7,none⟩=some (.int .u64 (a8:Int)):=by rw [zc (HST9.out.row (b:=sb) (o:=(sb,Obj.cells #[.int .i64 a1,.int .i64 a2,.int .i64 a3,.int .i64 a4,.int .i64 a5,.string a6,.string a7,.int .u64 (a8:Int),.int .i64 a9,.int .i64 a10,.int .i64 a11,.int .i64 a12] 35 (0,0)).2) (by simp))];rfl
 have db:w9.cell? ⟨bo,0,none⟩=some (.pointer (some ⟨p,0,none⟩)):=by rw [zc (HST9.out.row (b:=bo) (o:=(bo,Obj.cells #[.pointer (some ⟨p,0,none⟩)] 183 (0,0)).2) (by simp))];rfl
 go_wp2_with fail
 refine (enc_number HST9.out a8 HSC.out (Nat.le_trans (la (la (la (la (Nat.le_refl 0) H1.out) H2.out) H4.out) H5.out) (by decide))).mono ?_
 rintro e w10 ⟨rfl,hst10⟩
 have HST10:=zh hst10
 clear d7 db hst10
 have d8:w10.cell? ⟨sb,8,none⟩=some (.int .i64 a9):=by rw [zc (HST10.out.row (b:=sb) (o:=(sb,Obj.cells #[.int .i64 a1,.int .i64 a2,.int .i64 a3,.int .i64 a4,.int .i64 a5,.string a6,.string a7,.int .u64 (a8:Int),.int .i64 a9,.int .i64 a10,.int .i64 a11,.int .i64 a12] 35 (0,0)).2) (by simp))];rfl
 have d9:w10.cell? ⟨sb,9,none⟩=some (.int .i64 a10):=by rw [zc (HST10.out.row (b:=sb) (o:=(sb,Obj.cells #[.int .i64 a1,.int .i64 a2,.int .i64 a3,.int .i64 a4,.int .i64 a5,.string a6,.string a7,.int .u64 (a8:Int),.int .i64 a9,.int .i64 a10,.int .i64 a11,.int .i64 a12] 35 (0,0)).2) (by simp))];rfl
 have d10:w10.cell? ⟨sb,10,none⟩=some (.int .i64 a11):=by rw [zc (HST10.out.row (b:=sb) (o:=(sb,Obj.cells #[.int .i64 a1,.int .i64 a2,.int .i64 a3,.int .i64 a4,.int .i64 a5,.string a6,.string a7,.int .u64 (a8:Int),.int .i64 a9,.int .i64 a10,.int .i64 a11,.int .i64 a12] 35 (0,0)).2) (by simp))];rfl
 have d11:w10.cell? ⟨sb,11,none⟩=some (.int .i64 a12):=by rw [zc (HST10.out.row (b:=sb) (o:=(sb,Obj.cells #[.int .i64 a1,.int .i64 a2,.int .i64 a3,.int .i64 a4,.int .i64 a5,.string a6,.string a7,.int .u64 (a8:Int),.int .i64 a9,.int .i64 a10,.int .i64 a11,.int .i64 a12] 35 (0,0)).2) (by simp))];rfl
 go_wp2_with fail
 refine (enc_nums HST10.out (bo:=bo) (by simp) [a9,a10,a11,a12] (by simp) (Nat.le_trans (la (la (la (la (la (Nat.le_refl 0) H1.out) H2.out) H4.out) H5.out) H6.out) (by decide)) HNS2.out _).mono ?_
 rintro e w11 ⟨rfl,hst11⟩
 have HST11:=zh hst11
 clear d8 d9 d10 d11 hst11
 have db:w11.cell? ⟨bo,0,none⟩=some (.pointer (some ⟨p,0,none⟩)):=by rw [zc (HST11.out.row (b:=bo) (o:=(bo,Obj.cells #[.pointer (some ⟨p,0,none⟩)] 183 (0,0)).2) (by simp))];rfl
 go_wp2_with fail
 refine (bytes_st HST11.out (Nat.le_trans (la (la (la (la (la (la (Nat.le_refl 0) H1.out) H2.out) H4.out) H5.out) H6.out) H3.out) (by decide)) (by rw [List.length_append];have:0<(numsB [a9,a10,a11,a12]).length:=numsB_pos _ _;omega)).mono ?_
 rintro e w12 ⟨v,rfl,k1,k2,k3⟩
 have HE:=zh (HP.out v w12 k1 (by rw [HB0.out];exact k2) k3)
 clear k1 k2 k3
 go_wp2
 refine bodyPost_ret (results_tmp2 rfl _ _ _) rfl ?_
 exact HE.out
end Ev
end
section
open Go.RowKit Go.Maps
namespace Fr
open Vw (Sess)
theorem alone_any (s:Sess) (hu:s.user.size<=9223372036854775807) (hl:s.label.size<=9223372036854775807) (hsc:s.scopes<18446744073709551616) (w:World) :
  Calls Tryz.prog 34 #[.agg s.cells.toArray] w fun e w' => e = .returned (.bool (mayS s))/\Below w.heap.size w w':=by
 obtain ⟨mb,hmb⟩:∃ mb,mb=mayS s:=⟨_,rfl⟩
 have HE:Hid (∀ W,Calls Tryz.prog 62 #[.agg (Ev.Evt.birth s).cells.toArray] W fun e w' => (∃ v,e = .returned (.tuple #[v,if mb then .nilIface else .iface 83 (.int .i64 1)]))/\Below W.heap.size W w'):=fun W => by
  rw [hmb]
  cases hm:mayS s with
  | true =>
   refine (Ev.encode_birth s hm hsc W).mono ?_
   rintro e w' ⟨h1,h2⟩
   rcases h1 with ⟨-,v,rfl,-⟩ | ⟨h1,-⟩
   ·exact ⟨⟨v,rfl⟩,h2⟩
   ·exact absurd (show mayS s=false from h1) (by rw [hm];decide)
  | false =>
   refine (Ev.encode_no (.birth s) (fun t e => by cases e;exact ⟨hu,hl⟩) hm W).mono ?_
   rintro e w' ⟨h1,h2⟩
   rcases h1 with ⟨h1,-⟩ | ⟨-,rfl⟩
   ·exact absurd (show mayS s=true from h1) (by rw [hm];decide)
   ·exact ⟨⟨_,rfl⟩,h2⟩
 rw [<- hmb]
 clear hmb hu hl hsc
 obtain ⟨a1,a2,a3,a4,a5,a6,a7,a8,a9,a10,a11,a12⟩:=s
 simp only [Vw.Sess.cells,Ev.Evt.cells,List.cons_append,List.nil_append] at HE ⊢
 have HB0:Hid (Below w.heap.size w (w.alloc (.cells #[.int .i64 a1,.int .i64 a2,.int .i64 a3,.int .i64 a4,.int .i64 a5,.string a6,.string a7,.int .u64 (a8:Int),.int .i64 a9,.int .i64 a10,.int .i64 a11,.int .i64 a12] 35))):=(Below.refl _ _).alloc (Nat.le_refl _) _
 cases mb with
 | true =>
  go_enter Tryz.func34,Tryz.ntmps34
  go_wp2_with fail
  refine (HE.out _).mono ?_
  rintro e w2 ⟨⟨v,rfl⟩,hb2⟩
  have HB:=zh (HB0.out.trans (hb2.mono HB0.out.size))
  clear hb2
  go_wp2
  go_ret
  exact ⟨rfl,HB.out⟩
 | false =>
  go_enter Tryz.func34,Tryz.ntmps34
  go_wp2_with fail
  refine (HE.out _).mono ?_
  rintro e w2 ⟨⟨v,rfl⟩,hb2⟩
  have HB:=zh (HB0.out.trans (hb2.mono HB0.out.size))
  clear hb2
  go_wp2
  go_ret
  exact ⟨rfl,HB.out⟩
theorem at_sess (s:Sess) (w:World):Calls Tryz.prog 45 #[.agg s.cells.toArray] w fun e w' => e = .returned (.agg #[.int .i64 s.slot,.int .i64 s.birth])/\Below w.heap.size w w':=by
 obtain ⟨a1,a2,a3,a4,a5,a6,a7,a8,a9,a10,a11,a12⟩:=s
 simp only [Vw.Sess.cells]
 have HB:Hid (Below w.heap.size w ((w.alloc (.cells #[.int .i64 a1,.int .i64 a2,.int .i64 a3,.int .i64 a4,.int .i64 a5,.string a6,.string a7,.int .u64 (a8:Int),.int .i64 a9,.int .i64 a10,.int .i64 a11,.int .i64 a12] 35)).alloc (.cells #[.int .i64 a1,.int .i64 a2] 28))):=((Below.refl _ _).alloc (Nat.le_refl _) _).alloc (by simp) _
 have HE:Hid (((w.alloc (.cells #[.int .i64 a1,.int .i64 a2,.int .i64 a3,.int .i64 a4,.int .i64 a5,.string a6,.string a7,.int .u64 (a8:Int),.int .i64 a9,.int .i64 a10,.int .i64 a11,.int .i64 a12] 35)).alloc (.cells #[.int .i64 a1,.int .i64 a2] 28)).heap[w.heap.size+1]? = some (.cells #[.int .i64 a1,.int .i64 a2] 28 (0,0))):=by
  have:=World.alloc_heap_new (w.alloc (.cells #[.int .i64 a1,.int .i64 a2,.int .i64 a3,.int .i64 a4,.int .i64 a5,.string a6,.string a7,.int .u64 (a8:Int),.int .i64 a9,.int .i64 a10,.int .i64 a11,.int .i64 a12] 35)) (.cells #[.int .i64 a1,.int .i64 a2] 28)
  rwa [World.size_alloc] at this
 go_enter Tryz.func45,Tryz.ntmps45
 go_wp2
 refine bodyPost_ret (results_cell_row rfl _ _ (w.heap.size+1) _ #[.int .i64 a1,.int .i64 a2] (0,0) _ rfl HE.out Tryz.underlying28 rfl (by kernel_rfl)) rfl ?_
 exact ⟨rfl,HB.out⟩
section
variable (a1 a2 a3 a4 a5:Int) (a6 a7:ByteArray) (a8:Nat) (a9 a10 a11 a12:Int) (b1 b2 b3 b4 b5:Int) (b6 b7:ByteArray) (b8:Nat) (b9 b10 b11 b12:Int)
theorem bel1 (hw:IntKind.i64.wrap (b12+1)=b12+1) (h1:(a12 != b12+1)=true) (w:World):Calls Tryz.prog 63 #[.agg #[.int .i64 a1,.int .i64 a2,.int .i64 a3,.int .i64 a4,.int .i64 a5,.string a6,.string a7,.int .u64 (a8:Int),.int .i64 a9,.int .i64 a10,.int .i64 a11,.int .i64 a12],.agg #[.int .i64 b1,.int .i64 b2,.int .i64 b3,.int .i64 b4,.int .i64 b5,.string b6,.string b7,.int .u64 (b8:Int),.int .i64 b9,.int .i64 b10,.int .i64 b11,.int .i64 b12]] w fun e w' => e = .returned (.bool false)/\Below w.heap.size w w':=by
 have HB:Hid (Below w.heap.size w (((w.alloc (.cells #[.int .i64 a1,.int .i64 a2,.int .i64 a3,.int .i64 a4,.int .i64 a5,.string a6,.string a7,.int .u64 (a8:Int),.int .i64 a9,.int .i64 a10,.int .i64 a11,.int .i64 a12] 35)).alloc (.cells #[.int .i64 b1,.int .i64 b2,.int .i64 b3,.int .i64 b4,.int .i64 b5,.string b6,.string b7,.int .u64 (b8:Int),.int .i64 b9,.int .i64 b10,.int .i64 b11,.int .i64 b12] 35)))):=((Below.refl _ _).alloc (Nat.le_refl _) _).alloc (by simp) _
 go_enter Tryz.func63,Tryz.ntmps63
 go_wp2
 go_ret
 exact ⟨rfl,HB.out⟩
theorem bel2 (hw:IntKind.i64.wrap (b12+1)=b12+1) (h1:(a12 != b12+1)=false) (h2:(a6.toList == b6.toList)=false) (w:World):Calls Tryz.prog 63 #[.agg #[.int .i64 a1,.int .i64 a2,.int .i64 a3,.int .i64 a4,.int .i64 a5,.string a6,.string a7,.int .u64 (a8:Int),.int .i64 a9,.int .i64 a10,.int .i64 a11,.int .i64 a12],.agg #[.int .i64 b1,.int .i64 b2,.int .i64 b3,.int .i64 b4,.int .i64 b5,.string b6,.string b7,.int .u64 (b8:Int),.int .i64 b9,.int .i64 b10,.int .i64 b11,.int .i64 b12]] w fun e w' => e = .returned (.bool false)/\Below w.heap.size w w':=by
 have HB:Hid (Below w.heap.size w (((w.alloc (.cells #[.int .i64 a1,.int .i64 a2,.int .i64 a3,.int .i64 a4,.int .i64 a5,.string a6,.string a7,.int .u64 (a8:Int),.int .i64 a9,.int .i64 a10,.int .i64 a11,.int .i64 a12] 35)).alloc (.cells #[.int .i64 b1,.int .i64 b2,.int .i64 b3,.int .i64 b4,.int .i64 b5,.string b6,.string b7,.int .u64 (b8:Int),.int .i64 b9,.int .i64 b10,.int .i64 b11,.int .i64 b12] 35)))):=((Below.refl _ _).alloc (Nat.le_refl _) _).alloc (by simp) _
 go_enter Tryz.func63,Tryz.ntmps63
 go_wp2
 go_ret
 exact ⟨rfl,HB.out⟩
theorem bel3 (hw:IntKind.i64.wrap (b12+1)=b12+1) (h1:(a12 != b12+1)=false) (h2:(a6.toList == b6.toList)=true) (h3:b11<a11) (w:World):Calls Tryz.prog 63 #[.agg #[.int .i64 a1,.int .i64 a2,.int .i64 a3,.int .i64 a4,.int .i64 a5,.string a6,.string a7,.int .u64 (a8:Int),.int .i64 a9,.int .i64 a10,.int .i64 a11,.int .i64 a12],.agg #[.int .i64 b1,.int .i64 b2,.int .i64 b3,.int .i64 b4,.int .i64 b5,.string b6,.string b7,.int .u64 (b8:Int),.int .i64 b9,.int .i64 b10,.int .i64 b11,.int .i64 b12]] w fun e w' => e = .returned (.bool false)/\Below w.heap.size w w':=by
 have HB:Hid (Below w.heap.size w (((w.alloc (.cells #[.int .i64 a1,.int .i64 a2,.int .i64 a3,.int .i64 a4,.int .i64 a5,.string a6,.string a7,.int .u64 (a8:Int),.int .i64 a9,.int .i64 a10,.int .i64 a11,.int .i64 a12] 35)).alloc (.cells #[.int .i64 b1,.int .i64 b2,.int .i64 b3,.int .i64 b4,.int .i64 b5,.string b6,.string b7,.int .u64 (b8:Int),.int .i64 b9,.int .i64 b10,.int .i64 b11,.int .i64 b12] 35)))):=((Below.refl _ _).alloc (Nat.le_refl _) _).alloc (by simp) _
 go_enter Tryz.func63,Tryz.ntmps63
 go_wp2
 go_ret
 exact ⟨rfl,HB.out⟩
theorem bel4 (hw:IntKind.i64.wrap (b12+1)=b12+1) (h1:(a12 != b12+1)=false) (h2:(a6.toList == b6.toList)=true) (h3:a11<=b11) (h4:(bits .andNot .u64 (a8:Int) (b8:Int) != 0)=true) (w:World):Calls Tryz.prog 63 #[.agg #[.int .i64 a1,.int .i64 a2,.int .i64 a3,.int .i64 a4,.int .i64 a5,.string a6,.string a7,.int .u64 (a8:Int),.int .i64 a9,.int .i64 a10,.int .i64 a11,.int .i64 a12],.agg #[.int .i64 b1,.int .i64 b2,.int .i64 b3,.int .i64 b4,.int .i64 b5,.string b6,.string b7,.int .u64 (b8:Int),.int .i64 b9,.int .i64 b10,.int .i64 b11,.int .i64 b12]] w fun e w' => e = .returned (.bool false)/\Below w.heap.size w w':=by
 have HB:Hid (Below w.heap.size w (((w.alloc (.cells #[.int .i64 a1,.int .i64 a2,.int .i64 a3,.int .i64 a4,.int .i64 a5,.string a6,.string a7,.int .u64 (a8:Int),.int .i64 a9,.int .i64 a10,.int .i64 a11,.int .i64 a12] 35)).alloc (.cells #[.int .i64 b1,.int .i64 b2,.int .i64 b3,.int .i64 b4,.int .i64 b5,.string b6,.string b7,.int .u64 (b8:Int),.int .i64 b9,.int .i64 b10,.int .i64 b11,.int .i64 b12] 35)))):=((Below.refl _ _).alloc (Nat.le_refl _) _).alloc (by simp) _
 go_enter Tryz.func63,Tryz.ntmps63
 go_wp2
 go_ret
 exact ⟨rfl,HB.out⟩
theorem bel5 (hw:IntKind.i64.wrap (b12+1)=b12+1) (h1:(a12 != b12+1)=false) (h2:(a6.toList == b6.toList)=true) (h3:a11<=b11) (h4:(bits .andNot .u64 (a8:Int) (b8:Int) != 0)=false) (c1 c2:Bool) (h5:decide (b9<a9)=c1) (h6:(a5 == 2)=c2) (w:World):Calls Tryz.prog 63 #[.agg #[.int .i64 a1,.int .i64 a2,.int .i64 a3,.int .i64 a4,.int .i64 a5,.string a6,.string a7,.int .u64 (a8:Int),.int .i64 a9,.int .i64 a10,.int .i64 a11,.int .i64 a12],.agg #[.int .i64 b1,.int .i64 b2,.int .i64 b3,.int .i64 b4,.int .i64 b5,.string b6,.string b7,.int .u64 (b8:Int),.int .i64 b9,.int .i64 b10,.int .i64 b11,.int .i64 b12]] w fun e w' => e = .returned (.bool (c1 == c2))/\Below w.heap.size w w':=by
 have HB:Hid (Below w.heap.size w (((w.alloc (.cells #[.int .i64 a1,.int .i64 a2,.int .i64 a3,.int .i64 a4,.int .i64 a5,.string a6,.string a7,.int .u64 (a8:Int),.int .i64 a9,.int .i64 a10,.int .i64 a11,.int .i64 a12] 35)).alloc (.cells #[.int .i64 b1,.int .i64 b2,.int .i64 b3,.int .i64 b4,.int .i64 b5,.string b6,.string b7,.int .u64 (b8:Int),.int .i64 b9,.int .i64 b10,.int .i64 b11,.int .i64 b12] 35)))):=((Below.refl _ _).alloc (Nat.le_refl _) _).alloc (by simp) _
 go_enter Tryz.func63,Tryz.ntmps63
 go_wp2
 go_ret
 exact ⟨rfl,HB.out⟩
end
theorem below_s (s p:Sess) (hd:0<=p.depth/\p.depth<=6) (w:World):Calls Tryz.prog 63 #[.agg s.cells.toArray,.agg p.cells.toArray] w fun e w' => e = .returned (.bool (belowB s p))/\Below w.heap.size w w':=by
 have hw:IntKind.i64.wrap (p.depth+1)=p.depth+1:=IntWalk.i64_in _ (by omega)
 have hus:(s.user.toList == p.user.toList)=decide (s.user=p.user):=by
  by_cases h:s.user=p.user
  ·rw [h];simp
  ·rw [decide_eq_false h,beq_eq_false_iff_ne]
   intro e
   apply h
   rw [Lib.toList_data,Lib.toList_data] at e
   cases hs:s.user with | mk x => cases hp:p.user with | mk y =>
    rw [hs,hp] at e
    have:x=y:=Array.toList_inj.1 e
    rw [this]
 unfold belowB
 rw [hw,<- hus]
 obtain ⟨a1,a2,a3,a4,a5,a6,a7,a8,a9,a10,a11,a12⟩:=s
 obtain ⟨b1,b2,b3,b4,b5,b6,b7,b8,b9,b10,b11,b12⟩:=p
 simp only [Vw.Sess.cells] at hw ⊢
 cases h1:a12 == b12+1 with
 | false => exact bel1 a1 a2 a3 a4 a5 a6 a7 a8 a9 a10 a11 a12 b1 b2 b3 b4 b5 b6 b7 b8 b9 b10 b11 b12 hw (by rw [bne,h1];rfl) w
 | true =>
 have h1':(a12 != b12+1)=false:=by rw [bne,h1];rfl
 cases h2:a6.toList == b6.toList with
 | false => exact bel2 a1 a2 a3 a4 a5 a6 a7 a8 a9 a10 a11 a12 b1 b2 b3 b4 b5 b6 b7 b8 b9 b10 b11 b12 hw h1' h2 w
 | true =>
 by_cases h3:a11<=b11
 ·rw [decide_eq_true h3]
  unfold within
  cases h4:bits .andNot .u64 (a8:Int) (b8:Int) == 0 with
  | false => exact bel4 a1 a2 a3 a4 a5 a6 a7 a8 a9 a10 a11 a12 b1 b2 b3 b4 b5 b6 b7 b8 b9 b10 b11 b12 hw h1' h2 h3 (by rw [bne,h4];rfl) w
  | true => exact bel5 a1 a2 a3 a4 a5 a6 a7 a8 a9 a10 a11 a12 b1 b2 b3 b4 b5 b6 b7 b8 b9 b10 b11 b12 hw h1' h2 h3 (by rw [bne,h4];rfl) _ _ rfl rfl w
 ·rw [decide_eq_false h3]
  exact bel3 a1 a2 a3 a4 a5 a6 a7 a8 a9 a10 a11 a12 b1 b2 b3 b4 b5 b6 b7 b8 b9 b10 b11 b12 hw h1' h2 (by omega) w
end Fr
end
end Go.Proofs.YtimhglmfckfclaaGreat
