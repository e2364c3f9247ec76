/- lineagekit.FullSessions, LentSessions, KeptFullSessions, KeptSessions: of any sessions (printed by wip/mkvwlent.py). -/
import Derived.Test.YtocoonkachbjaaaVwMark
import Derived.Test.YtocoonkachbjaaaVwClone
namespace Go.Proofs.Ytocoonkachbjaaa
open Go.RowKit
set_option linter.unusedVariables false
namespace Vw
/-- The marks behind a lent list. -/
def mks (k : Nat) : List Sess := (List.range k).map mkS
theorem mks_len (k : Nat) : (mks k).length = k := by simp [mks]
theorem mks_succ (k : Nat) : mks (k + 1) = mks k ++ [mkS k] := by simp [mks, List.range_succ]
theorem allV_snoc (l : List Sess) (s : Sess) : allV (l ++ [s]) = allV l ++ s.cells := by simp [allV, List.flatMap_append]
theorem allV_take {ss : List Sess} {k : Nat} (h : k < ss.length) : allV (ss.take (k + 1)) = allV (ss.take k) ++ ss[k].cells := by rw [List.take_succ_eq_append_getElem h, allV_snoc]

def F1 (ss : List Sess) (w : World) (l i : Value) (wr : World) : Prop :=
  ∃ k : Nat, k ≤ ss.length ∧ i = .int .i64 k ∧ wr.ownsRow w.heap.size 40 12 l k (allV (ss.take k)) ∧ Below w.heap.size w wr
def F2 (ss : List Sess) (w : World) (l i : Value) (wr : World) : Prop :=
  ∃ k : Nat, k ≤ 16 ∧ i = .int .i64 k ∧ wr.ownsRow w.heap.size 40 12 l (ss.length + k) (allV (ss ++ mks k)) ∧ Below w.heap.size w wr
theorem F1.push {ss : List Sess} {k : Nat} {w wr w1 : World} {l v' : Value} {o : Obj} (hk : k < ss.length) (hbl : Below w.heap.size w wr)
    (hown : wr.ownsRow w.heap.size 40 12 l k (allV (ss.take k)))
    (hown' : w1.ownsRow w.heap.size 40 12 v' (k + 1) (allV (ss.take k) ++ ss[k].cells)) (hgrow : (wr.alloc o).grownBy w1 l.ownBlock) : F1 ss w v' (.int .i64 ((k : Int) + 1)) w1 := by
  refine ⟨k + 1, by omega, by go_num, ?_, Ut.below_app hbl hbl.size hown hgrow⟩
  rw [allV_take hk]
  exact hown'
theorem F2.push {ss : List Sess} {k : Nat} {w wr w1 : World} {l v' : Value} {o : Obj} (hk : k < 16) (hbl : Below w.heap.size w wr)
    (hown : wr.ownsRow w.heap.size 40 12 l (ss.length + k) (allV (ss ++ mks k)))
    (hown' : w1.ownsRow w.heap.size 40 12 v' (ss.length + k + 1) (allV (ss ++ mks k) ++ (mkS k).cells)) (hgrow : (wr.alloc o).grownBy w1 l.ownBlock) : F2 ss w v' (.int .i64 ((k : Int) + 1)) w1 := by
  refine ⟨k + 1, by omega, by go_num, ?_, Ut.below_app hbl hbl.size hown hgrow⟩
  rw [mks_succ, ← List.append_assoc, allV_snoc]
  simpa [Nat.add_assoc] using hown'

set_option maxRecDepth 100000 in
set_option maxHeartbeats 4000000 in
theorem fullS_any (v : Value) (ss : List Sess) (hl : ss.length ≤ 65536) (w : World) (h1 : SessArg w v ss) :
    Calls Try.prog 15 #[v] w fun e w' => ∃ v', e = .returned v' ∧ w'.ownsRow w.heap.size 40 12 v' (ss.length + 16) (allV (ss ++ mks 16)) ∧ Below w.heap.size w w' := by
  obtain ⟨q, c, rfl, -⟩ := id h1
  have H1 := Lib.hid h1
  obtain ⟨i0, hi, hz0, hz1, hz2⟩ := info_parts vinfo_sess
  clear h1
  have b0 : (ss.length : Int) ≤ 65536 := by omega
  go_enter Try.func15, Try.ntmps15
  go_wp2
  go_loopw [3, 4] (fun l i wr => F1 ss w l i wr) (fun _ i _ => ss.length - (intOf i).toNat)
  case atStart => exact ⟨0, Nat.zero_le _, rfl, World.ownsRow_nil _ _ _ _, Below.refl _ _⟩
  case round =>
    obtain ⟨k, hk, rfl, hown, hbl⟩ := hrel
    have HO := Lib.hid hown; have HBL := Lib.hid hbl
    have hzw : w.heap.size ≤ wr.heap.size := hbl.size
    clear hown hbl
    have b2 : (0 : Int) ≤ (k : Int) := by omega
    by_cases h : k < ss.length
    · have b3 : (k : Int) < (ss.length : Int) := by omega
      obtain ⟨g1, o1, rfl, hg1, k1⟩ := H1.out.at h
      have am1 : k + 1 ≤ maxLen := by unfold maxLen; omega
      have am2 : (k + 1) * 112 ≤ 140737488355328 := by omega
      obtain ⟨cs, hcs⟩ : ∃ cs, cs = ss[k].cells := ⟨_, rfl⟩
      have HRG : Hid (wr.rangeAt g1 (o1 + k * 12) cs) := fun j u hu => (HBL.out.cell (p := ⟨g1, o1 + k * 12 + j, none⟩) hg1).trans (k1 j u (by rw [← hcs]; exact hu))
      have HCL : Hid (cs.length = 12) := by show _ = _; rw [hcs]; rfl
      have HC1 : Hid (∀ u ∈ cs, u.oneCell' = true) := by show ∀ _, _; rw [hcs]; exact ss[k].one
      have HPU := Lib.hid (fun (l v' : Value) (w1 : World) (o : Obj) (a1 : Below w.heap.size w wr) (a2 : wr.ownsRow w.heap.size 40 12 l k (allV (ss.take k))) => F1.push (v' := v') (w1 := w1) (o := o) h a1 a2)
      rw [← hcs] at HPU
      clear k1 hcs
      go_wp2_with (first
        | (refine wpList_load_mid (by rfl) 40 _ (by rfl) _ _ (by rfl) cs _ HRG.out Try.underlying40 rfl (by rw [HCL.out]; kernel_rfl) ?_)
        | (refine Ag.wpList_one (by rfl) 22 40 _ (by rfl) cs (by rfl) i0 _ Try.underlying22 hi hz0 (by rw [hz1]; exact HCL.out) (by rw [hz1]; decide) (by rw [hz1]; decide) ?_)
        | (at_builtin; refine wpList_append_own _ rfl _ _ 22 rfl w.heap.size 40 i0 (.agg #[.int .i64 0, .int .i64 0, .int .i64 0, .int .i64 0, .int .i64 0, .string ByteArray.empty, .string ByteArray.empty, .int .u64 0, .int .i64 0, .int .i64 0, .int .i64 0, .int .i64 0]) 12 112 Try.underlying22 hi hz0 hz1 hz2 rfl (by decide) _ _ _ rfl (HO.out.alloc _) ⟨wr.heap.size, 0, none⟩ 1 1 cs rfl HCL.out (World.news_of_block (Ut.alloc_at _ _)) HC1.out am1 am2 (by simp; exact Nat.le_succ_of_le hzw) ?_; intro v' w1 hown' hgrow _))
      have HU := Lib.hid (HPU.out _ _ _ _ HBL.out HO.out hown' hgrow)
      clear hown' hgrow
      go_wp2
      go_roundw
      case rel => exact HU.out
      case measure => simp [intOf]; omega
    · have hkl : k = ss.length := by omega
      have b3 : (ss.length : Int) ≤ (k : Int) := by omega
      have HS : Hid (F2 ss w u3 (.int .i64 0) wr) := ⟨0, Nat.zero_le _, rfl, by have := HO.out; rw [hkl, List.take_length] at this; simpa [mks] using this, HBL.out⟩
      clear hkl
      go_wp2
      go_loopw [3, 5] (fun l i wr => F2 ss w l i wr) (fun _ i _ => 16 - (intOf i).toNat)
      case atStart => exact HS.out
      case round =>
        obtain ⟨m, hm, rfl, hown, hbl⟩ := hrel
        have HO2 := Lib.hid hown; have HBL2 := Lib.hid hbl
        have hzw2 : w.heap.size ≤ wr.heap.size := hbl.size
        clear hown hbl
        have b5 : (0 : Int) ≤ (m : Int) := by omega
        by_cases h2 : m < 16
        · have b6 : (m : Int) < 16 := by omega
          have hmt := Lib.hid (fun w' => markS_any m (by omega) w')
          have am1 : ss.length + m + 1 ≤ maxLen := by unfold maxLen; omega
          have am2 : (ss.length + m + 1) * 112 ≤ 140737488355328 := by omega
          have HPU := Lib.hid (fun (l v' : Value) (wr w1 : World) (o : Obj) (a1 : Below w.heap.size w wr) (a2 : wr.ownsRow w.heap.size 40 12 l (ss.length + m) (allV (ss ++ mks m))) => F2.push (v' := v') (w1 := w1) (o := o) h2 a1 a2)
          obtain ⟨cs, hcs⟩ : ∃ cs, cs = (mkS m).cells := ⟨_, rfl⟩
          have HCL : Hid (cs.length = 12) := by show _ = _; rw [hcs]; rfl
          have HC1 : Hid (∀ u ∈ cs, u.oneCell' = true) := by show ∀ _, _; rw [hcs]; exact (mkS m).one
          rw [← hcs] at HPU hmt
          clear hcs
          go_wp2_with fail
          refine (hmt.out _).mono ?_
          rintro e w2 ⟨rfl, hb2⟩
          have HBL3 := Lib.hid (HBL2.out.trans (hb2.mono hzw2))
          have HO3 := Lib.hid (Ut.own_below HO2.out hb2)
          have hzw : w.heap.size ≤ w2.heap.size := HBL3.out.size
          clear hb2
          go_wp2_with (first
        | (refine wpList_load_mid (by rfl) 40 _ (by rfl) _ _ (by rfl) cs _ HRG.out Try.underlying40 rfl (by rw [HCL.out]; kernel_rfl) ?_)
        | (refine Ag.wpList_one (by rfl) 22 40 _ (by rfl) cs (by rfl) i0 _ Try.underlying22 hi hz0 (by rw [hz1]; exact HCL.out) (by rw [hz1]; decide) (by rw [hz1]; decide) ?_)
        | (at_builtin; refine wpList_append_own _ rfl _ _ 22 rfl w.heap.size 40 i0 (.agg #[.int .i64 0, .int .i64 0, .int .i64 0, .int .i64 0, .int .i64 0, .string ByteArray.empty, .string ByteArray.empty, .int .u64 0, .int .i64 0, .int .i64 0, .int .i64 0, .int .i64 0]) 12 112 Try.underlying22 hi hz0 hz1 hz2 rfl (by decide) _ _ _ rfl (HO3.out.alloc _) ⟨w2.heap.size, 0, none⟩ 1 1 cs rfl HCL.out (World.news_of_block (Ut.alloc_at _ _)) HC1.out am1 am2 (by simp; exact Nat.le_succ_of_le hzw) ?_; intro v' w1 hown' hgrow _))
          have HU := Lib.hid (HPU.out _ _ _ _ _ HBL3.out HO3.out hown' hgrow)
          clear hown' hgrow
          go_wp2
          go_roundw
          case rel => exact HU.out
          case measure => simp [intOf]; omega
        · have b6 : (16 : Int) ≤ (m : Int) := by omega
          have hm16 : m = 16 := by omega
          have HR : Hid (wr.ownsRow w.heap.size 40 12 u3 (ss.length + 16) (allV (ss ++ mks 16))) := by rw [← hm16]; exact HO2
          clear hm16
          go_wp2
          go_ret
          exact ⟨_, rfl, HR.out, HBL2.out⟩

/-- A list that was lent lies in a block of its own, its marks behind it. -/
def LentS (base g c : Nat) (ss : List Sess) (w : World) : Prop :=
  w.ownsRow base 40 12 (.slice (some ⟨g, 0, none⟩) (ss.length + 16) c) (ss.length + 16) (allV (ss ++ mks 16))
theorem LentS.below {base g c : Nat} {ss : List Sess} {w w' : World} (h : LentS base g c ss w) (hb : Below w.heap.size w w') : LentS base g c ss w' := Ut.own_below h hb
theorem LentS.whole {base g c : Nat} {ss : List Sess} {w : World} (h : LentS base g c ss w) : SessArg w (.slice (some ⟨g, 0, none⟩) (ss.length + 16) c) (ss ++ mks 16) := by
  have e : (ss ++ mks 16).length = ss.length + 16 := by rw [List.length_append, mks_len]
  unfold LentS at h
  rw [← e] at h ⊢
  exact sess_of_own h
theorem SessArg.pre {w : World} {q : Option Addr} {n c c' m : Nat} {ss ts : List Sess} (h : SessArg w (.slice q n c) (ss ++ ts)) (hm : m = ss.length) : SessArg w (.slice q m c') ss := by
  subst hm
  refine ⟨q, c', rfl, fun j hj => ?_⟩
  have hj2 : j < (ss ++ ts).length := by rw [List.length_append]; omega
  obtain ⟨g, o, h1, h2, h3⟩ := h.at hj2
  refine ⟨g, o, h1, h2, fun i u hi => h3 i u ?_⟩
  rw [List.getElem_append_left hj]
  exact hi
theorem LentS.sess {base g c : Nat} {ss : List Sess} {w : World} (h : LentS base g c ss w) : SessArg w (.slice (some ⟨g, 0, none⟩) ss.length c) ss := h.whole.pre rfl

set_option maxHeartbeats 2000000 in
theorem lentS_any (v : Value) (ss : List Sess) (hl : ss.length ≤ 65536) (w : World) (h1 : SessArg w v ss) :
    Calls Try.prog 4 #[v] w fun e w' => ∃ g c, e = .returned (.slice (some ⟨g, 0, none⟩) ss.length c) ∧ LentS w.heap.size g c ss w' ∧ ss.length + 16 ≤ c ∧ c ≤ maxLen ∧ Below w.heap.size w w' := by
  have HF := Lib.hid (fullS_any v ss hl w h1)
  obtain ⟨q, cq, rfl, -⟩ := h1
  have b0 : (ss.length : Int) ≤ 65536 := by omega
  clear hl
  go_enter Try.func4, Try.ntmps4
  go_wp2_with fail
  refine HF.out.mono ?_
  rintro e w1 ⟨v', rfl, h1, hb⟩
  rcases id h1.2 with ⟨rfl, h2⟩ | ⟨g, c, cur, rfl, h2, h3, h4, h5, h6, h7⟩
  · omega
  have HL : Hid (LentS w.heap.size g c ss w1) := h1
  have HCAP : Hid (ss.length + 16 ≤ c ∧ c ≤ maxLen) := ⟨by omega, by omega⟩
  have c1 : (ss.length : Int) ≤ (c : Int) := by have := HCAP.out.1; omega
  have c2 : (0 : Int) ≤ (ss.length : Int) := by omega
  clear h1 h2 h3 h4 h5 h6 h7
  go_wp2
  go_ret
  exact ⟨g, c, rfl, HL.out, HCAP.out.1, HCAP.out.2, hb⟩
end Vw
end Go.Proofs.Ytocoonkachbjaaa
