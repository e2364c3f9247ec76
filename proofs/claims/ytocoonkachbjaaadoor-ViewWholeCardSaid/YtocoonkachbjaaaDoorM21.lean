/- Several texts in one: what each proves its own first comment says. -/
import Derived.Test.YtocoonkachbjaaaDoorM20
import Derived.Lib.ItoaNum
import Derived.Test.YtocoonkachbjaaaDoorM4
import Derived.Test.YtocoonkachbjaaaDoorM10

/- ViewWhole's plain law: a tree's lines are the sessions' own, each as often; no line is more than one step below the one above it. -/
namespace Go.Proofs.YtocoonkachbjaaaDoor
open Go.RowKit Go.Proofs.NmPlain Go.Proofs.YtocoonkachbjaaaDoor.Sc
set_option linter.unusedVariables false
namespace Vw
/-- No one is more than one step below the one ahead of it. -/
def stepB : Nat → List (Nat × Nat) → Prop
  | _, [] => True
  | a, x :: r => x.1 ≤ a + 1 ∧ stepB x.1 r
theorem stepB_mono {a b : Nat} (h : a ≤ b) : ∀ {l : List (Nat × Nat)}, stepB a l → stepB b l
  | [], _ => trivial
  | x :: r, h2 => ⟨Nat.le_trans h2.1 (by omega), h2.2⟩
theorem stepB_append {m : Nat} {l2 : List (Nat × Nat)} (h2 : stepB m l2) : ∀ (l1 : List (Nat × Nat)) (a : Nat), m ≤ a → (∀ x ∈ l1, m ≤ x.1) → stepB a l1 → stepB a (l1 ++ l2)
  | [], a, ha, _, _ => stepB_mono ha h2
  | x :: r, a, ha, hm, h1 => ⟨h1.1, stepB_append h2 r x.1 (hm x List.mem_cons_self) (fun y hy => hm y (List.mem_cons_of_mem _ hy)) h1.2⟩
theorem pre_steps (kids : Nat → List Nat) : ∀ (f far : Nat) (l : List Nat) (a : Nat), far ≤ a + 1 → far ≤ a ∨ a + 1 = far → stepB a (Vt.pre kids f far l)
  | 0, far, l, a, _, _ => by
    have e : Vt.pre kids 0 far l = [] := rfl
    rw [e]; trivial
  | f + 1, far, [], a, h, _ => by rw [Vt.pre_nil]; trivial
  | f + 1, far, i :: l, a, h, _ => by
    rw [Vt.pre_cons]
    exact ⟨h, stepB_append (m := far) (pre_steps kids (f + 1) far l far (Nat.le_succ _) (.inl (Nat.le_refl _))) _ far (Nat.le_refl _) (fun x hx => Nat.le_of_succ_le (Vt.pre_far kids f (far + 1) _ x hx)) (pre_steps kids f (far + 1) (kids i) far (Nat.le_refl _) (.inr rfl))⟩
theorem stepB_at : ∀ (l : List (Nat × Nat)) (a k : Nat), stepB a l → ∀ (h : k + 1 < l.length), l[k + 1].1 ≤ l[k].1 + 1
  | [], _, _, _, h => absurd h (Nat.not_lt_zero _)
  | [x], _, k, _, h => absurd h (by simp)
  | x :: y :: r, a, 0, h1, h => h1.2.1
  | x :: y :: r, a, k + 1, h1, h => stepB_at (y :: r) x.1 k h1.2 (by simpa using h)
theorem ordV_step (ss : List Sess) (k : Nat) (h : k + 1 < (ordV ss).length) : (ordV ss)[k + 1].1 ≤ (ordV ss)[k].1 + 1 := stepB_at _ 0 k (pre_steps _ _ _ _ 0 (Nat.zero_le _) (.inl (Nat.le_refl _))) h
theorem ordV_zero (ss : List Sess) (h : 0 < (ordV ss).length) : (ordV ss)[0].1 = 0 := Vt.pre_head _ _ _ _ _ (by rw [List.head?_eq_getElem?]; exact List.getElem?_eq_getElem h)

/-- A line's first byte is no blank. -/
theorem dec_head : ∀ n : Nat, ∃ c r, Lib.decDigits n = c :: r ∧ c ≠ 32 := by
  intro n
  induction n using Nat.strongRecOn with
  | _ n ih =>
    rw [Lib.decDigits]
    by_cases h : n < 10
    · rw [dif_pos h]
      refine ⟨_, [], rfl, fun e => ?_⟩
      have h1 := congrArg UInt8.toNat e
      have h2 : (UInt8.ofNat (48 + n)).toNat = 48 + n := by simp; omega
      have h3 : (32 : UInt8).toNat = 32 := rfl
      omega
    · rw [dif_neg h]
      obtain ⟨c, r, e, hc⟩ := ih (n / 10) (by omega)
      rw [e]
      exact ⟨c, r ++ [UInt8.ofNat (48 + n % 10)], rfl, hc⟩
theorem text_head (ls : List ByteArray) (s : Sess) (now : Int) (h : 1 ≤ s.birth) : ∃ c r, textL ls s now = c :: r ∧ c ≠ 32 := by
  obtain ⟨c, r, e, hc⟩ := dec_head s.birth.toNat
  have e2 : Lib.itoa s.birth = c :: r := by unfold Lib.itoa; rw [if_neg (by omega)]; exact e
  refine ⟨c, r ++ ?_, ?_, hc⟩
  rotate_left
  · unfold textL Lib.join
    simp only [List.intercalate, List.intersperse_cons_cons, List.flatten_cons, e2, List.cons_append]
    rfl
theorem lineAt_head {ls : List ByteArray} {ss : List Sess} {now : Int} {i : Nat} (hi : i < ss.length) (h0 : (lineAt ls ss now i).2 = 0) : ∃ c r, (lineAt ls ss now i).1 = c :: r ∧ c ≠ 32 := by
  rw [lineAt_at hi] at h0 ⊢
  unfold lineL at h0 ⊢
  split at h0
  · simp at h0
  rename_i hb
  rw [if_neg hb]
  split at h0
  · simp at h0
  rename_i h1
  rw [if_neg h1]
  split at h0
  · simp at h0
  rename_i h2
  rw [if_neg h2]
  split at h0
  · simp at h0
  rename_i h3
  rw [if_neg h3]
  split at h0
  · simp at h0
  rename_i h4
  rw [if_neg h4]
  split at h0
  · simp at h0
  rename_i h5
  rw [if_neg h5]
  exact text_head ls _ now (by omega)
theorem padS_list (far : Nat) : (padS far).data.toList = List.replicate (2 * far) 32 := by
  have h := Lib.repeatL_replicate 32 2 far
  rw [Nat.mul_comm]
  exact h
theorem treeS_list {ls : List ByteArray} {ss : List Sess} {now : Int} {x : Nat × Nat} (hi : x.2 < ss.length) (h0 : (lineAt ls ss now x.2).2 = 0) : ∃ c r, (treeS ls ss now x).data.toList = List.replicate (2 * x.1) 32 ++ c :: r ∧ c ≠ 32 ∧ (lineS ls ss now x.2).data.toList = c :: r := by
  obtain ⟨c, r, e, hc⟩ := lineAt_head hi h0
  refine ⟨c, r, ?_, hc, e⟩
  unfold treeS
  rw [ByteArray.data_append, Array.toList_append, padS_list]
  congr 1
theorem treeS_cut {ls : List ByteArray} {ss : List Sess} {now : Int} {x : Nat × Nat} : (treeS ls ss now x).extract (2 * x.1) (treeS ls ss now x).size = lineS ls ss now x.2 := by
  have h1 : (padS x.1).data.toList.length = 2 * x.1 := by rw [padS_list, List.length_replicate]
  have h2 : (treeS ls ss now x).data.toList = (padS x.1).data.toList ++ (lineS ls ss now x.2).data.toList := by unfold treeS; rw [ByteArray.data_append, Array.toList_append]
  have h3 : ((treeS ls ss now x).extract (2 * x.1) (treeS ls ss now x).size).data.toList = (lineS ls ss now x.2).data.toList := by
    rw [extract_list, h2, ← h1, List.drop_left]
    refine List.take_of_length_le ?_
    have h4 : (treeS ls ss now x).size = (treeS ls ss now x).data.toList.length := rfl
    rw [h4, h2, List.length_append]; omega
  exact ByteArray.ext (Array.toList_inj.1 h3)

/-- How often a text stands among the lines that were seen; among the first of the tree. -/
def cSeen (T : Nat → ByteArray) (seen : Nat → Bool) (n : Nat) (x : ByteArray) : Nat := (List.range n).countP fun k => seen k && decide (T k = x)
def cTree (T : Nat → ByteArray) (l : List (Nat × Nat)) (x : ByteArray) : Nat := l.countP fun y => decide (T y.2 = x)
theorem cSeen_all {T : Nat → ByteArray} {seen : Nat → Bool} {n : Nat} {x : ByteArray} (h : ∀ k, k < n → seen k = true ∨ T k ≠ x) : cSeen T seen n x = (List.range n).countP fun k => decide (T k = x) := by
  unfold cSeen
  refine List.countP_congr fun k hk => ?_
  rcases h k (List.mem_range.1 hk) with h1 | h1
  · simp [h1]
  · simp [h1]
theorem cTree_all (T : Nat → ByteArray) (ss : List Sess) (x : ByteArray) : cTree T (ordV ss) x = (List.range ss.length).countP fun k => decide (T k = x) := by
  have h := Vt.ord_perm (bu ss) ss.length
  rw [← h.countP_eq, List.countP_map, ← ordV_ordL]
  rfl
/-- There is one that wasn't seen. -/
theorem cSeen_some {T : Nat → ByteArray} {seen : Nat → Bool} {ss : List Sess} {i : Nat} (hi : i < (ordV ss).length) (h : ∀ x, cSeen T seen ss.length x = cTree T ((ordV ss).take i) x) (ha : ∀ k, k < ss.length → seen k = true ∨ T k ≠ T (ordV ss)[i].2) : False := by
  obtain ⟨y, hy⟩ : ∃ y, y = T (ordV ss)[i].2 := ⟨_, rfl⟩
  rw [← hy] at ha
  have h1 := cSeen_all ha
  rw [h, ← cTree_all] at h1
  have h2 : ordV ss = (ordV ss).take i ++ ((ordV ss)[i] :: (ordV ss).drop (i + 1)) := by
    rw [← List.drop_eq_getElem_cons hi, List.take_append_drop]
  have h3 : cTree T (ordV ss) y = cTree T ((ordV ss).take i) y + (1 + cTree T ((ordV ss).drop (i + 1)) y) := by
    unfold cTree
    conv => lhs; rw [h2]
    rw [List.countP_append, List.countP_cons_of_pos (by simp [hy])]
    omega
  omega
theorem countP_set (f g : Nat → Bool) (k : Nat) (hf : f k = false) (hg : g k = true) (he : ∀ j, j ≠ k → g j = f j) : ∀ n, (List.range n).countP g = (List.range n).countP f + if k < n then 1 else 0
  | 0 => by simp
  | n + 1 => by
    rw [List.range_succ, List.countP_append, List.countP_append, countP_set f g k hf hg he n]
    by_cases h : n = k
    · subst h
      rw [if_neg (Nat.lt_irrefl _), if_pos (Nat.lt_succ_self _)]
      simp [hf, hg]
    · have h1 := he n h
      have h2 : (k < n + 1) ↔ (k < n) := by omega
      simp [h1, h2]
      omega
theorem cSeen_next {T : Nat → ByteArray} {seen : Nat → Bool} {ss : List Sess} {i k : Nat} (hi : i < (ordV ss).length) (hk : k < ss.length) (h : ∀ x, cSeen T seen ss.length x = cTree T ((ordV ss).take i) x) (hs : seen k = false) (ht : T k = T (ordV ss)[i].2) (x : ByteArray) :
    cSeen T (fun j => if j = k then true else seen j) ss.length x = cTree T ((ordV ss).take (i + 1)) x := by
  have h2 : (ordV ss).take (i + 1) = (ordV ss).take i ++ [(ordV ss)[i]] := (List.take_append_getElem hi).symm
  have h3 : cTree T ((ordV ss).take (i + 1)) x = cTree T ((ordV ss).take i) x + if T (ordV ss)[i].2 = x then 1 else 0 := by
    unfold cTree
    rw [h2, List.countP_append]
    by_cases hx : T (ordV ss)[i].2 = x <;> simp [hx]
  rw [h3, ← h]
  unfold cSeen
  by_cases hx : T k = x
  · rw [countP_set (fun j => seen j && decide (T j = x)) (fun j => (if j = k then true else seen j) && decide (T j = x)) k (by simp [hs]) (by simp [hx]) (fun j hj => by simp [hj]) ss.length, if_pos hk, if_pos (by rw [← ht]; exact hx)]
  · rw [if_neg (by rw [← ht]; exact hx), Nat.add_zero]
    refine List.countP_congr fun j _ => ?_
    by_cases hj : j = k
    · subst hj; simp [hx]
    · simp [hj]

set_option maxHeartbeats 2000000 in
theorem blanks_any (T : ByteArray) (m : Nat) (hm : m ≤ 65536) (c : UInt8) (r : List UInt8) (hT : T.data.toList = List.replicate m 32 ++ c :: r) (hc : c ≠ 32) (w : World) :
    Calls Tryd.prog 15 #[.string T] w fun e w' => e = .returned (.int .i64 m) ∧ Below w.heap.size w w' := by
  have hsz : T.size = m + 1 + r.length := by
    have h1 : T.size = T.data.toList.length := rfl
    rw [h1, hT, List.length_append, List.length_replicate, List.length_cons]; omega
  have hat : ∀ (k : Nat) (hk : k < T.size), T[k] = (List.replicate m 32 ++ c :: r)[k]'(by rw [← hT]; exact hk) := fun k hk => by
    have h1 : T[k] = T.data.toList[k]'hk := rfl
    rw [h1]
    simp only [hT]
  have HAT := Lib.hid hat; have HSZ := Lib.hid hsz
  clear hat hsz
  go_enter Tryd.func15, Tryd.ntmps15
  go_wp2
  go_loopw [3] (fun i wr => ∃ k : Nat, k ≤ m ∧ i = .int .i64 k ∧ Below w.heap.size w wr) (fun i _ => m - (intOf i).toNat)
  case atStart => exact ⟨0, Nat.zero_le _, rfl, Below.refl _ _⟩
  case round =>
    obtain ⟨k, hk, rfl, hb⟩ := hrel
    have HB := Lib.hid hb
    clear hb
    have hks : k < T.size := by have := HSZ.out; omega
    have b1 : (0 : Int) ≤ (k : Int) := by omega
    have b2 : (k : Int) < (T.size : Int) := by omega
    have hq0 := HAT.out k hks
    by_cases h : k < m
    · have hq : ((T[k].toNat : Int) == 32) = true := by
        rw [hq0, List.getElem_append_left (by simpa using h), List.getElem_replicate]; rfl
      have HH := Lib.hid h
      clear h hq0
      go_wp2
      go_roundw
      case rel => have := HH.out; exact ⟨k + 1, by omega, by go_num, HB.out⟩
      case measure => have := HH.out; simp [intOf]; omega
    · obtain rfl : k = m := by omega
      have hq : ((T[k].toNat : Int) == 32) = false := by
        rw [beq_eq_false_iff_ne]
        intro h1
        rw [hq0, List.getElem_append_right (by simp)] at h1
        simp at h1
        exact hc (UInt8.toNat_inj.1 (by have : (32 : UInt8).toNat = 32 := rfl; omega))
      clear h hq0
      go_wp2
      go_ret
      exact ⟨rfl, HB.out⟩
end Vw
end Go.Proofs.YtocoonkachbjaaaDoor

/- ViewWhole: the law's walk. -/
namespace Go.Proofs.YtocoonkachbjaaaDoor
open Go.RowKit Go.Maps Go.Proofs.NmPlain Go.Proofs.Ar Go.Proofs.YtocoonkachbjaaaDoor.Sc
set_option linter.unusedVariables false
namespace Vw
attribute [local go_sem] Oper.semAt_some

theorem line_post {ls : List ByteArray} {ss : List Sess} {now : Int} {i : Nat} (hi : i < ss.length) {e : Ending} (h : LinePost ls ss[i] now e) : e = .returned (.tuple #[.string (lineS ls ss now i), errVal (lineAt ls ss now i).2]) := by
  unfold LinePost at h
  rw [h]; unfold lineS; rw [lineAt_at hi]
/-- How far the k-th line of the tree is in; what 'last' holds ahead of it. -/
def farK (ss : List Sess) (k : Nat) : Nat := match (ordV ss)[k]? with
  | some x => x.1
  | none => 0
def lastF (ss : List Sess) : Nat → Int
  | 0 => -2
  | k + 1 => 2 * (farK ss k : Int)
theorem farK_at {ss : List Sess} {k : Nat} (h : k < (ordV ss).length) : farK ss k = (ordV ss)[k].1 := by unfold farK; rw [List.getElem?_eq_getElem h]
theorem farK_le {ss : List Sess} {k : Nat} (h : k < (ordV ss).length) : farK ss k ≤ ss.length := by
  rw [farK_at h]; exact ordV_far ss _ (List.getElem_mem h)
theorem lastF_step {ss : List Sess} {k : Nat} (h : k < (ordV ss).length) : 2 * (farK ss k : Int) ≤ lastF ss k + 2 := by
  cases k with
  | zero => rw [farK_at h, ordV_zero ss h]; show (2 : Int) * ((0 : Nat) : Int) ≤ -2 + 2; omega
  | succ k =>
    show _ ≤ 2 * (farK ss k : Int) + 2
    rw [farK_at h, farK_at (Nat.lt_of_succ_lt h)]
    have := ordV_step ss k h
    omega
theorem lastF_bd {ss : List Sess} {k : Nat} (h : k ≤ (ordV ss).length) : -2 ≤ lastF ss k ∧ lastF ss k ≤ 2 * (ss.length : Int) := by
  cases k with
  | zero => exact ⟨Int.le_refl _, by show (-2 : Int) ≤ _; omega⟩
  | succ k =>
    have := farK_le (ss := ss) (k := k) h
    show (-2 : Int) ≤ 2 * (farK ss k : Int) ∧ 2 * (farK ss k : Int) ≤ _
    omega
/-- Which lines were seen, where the law notes it. -/
def SeenAt (sb : Nat) (seen : Nat → Bool) (A : World) : Prop := A.heap[sb]? = some (.cells (arr 100 fun j => .bool (seen j)) 48 (0, 0))
structure WO (T : Nat → ByteArray) (ss : List Sess) (sb : Nat) (W4 : World) (k : Nat) (seen : Nat → Bool) (A : World) : Prop where
  le : k ≤ ss.length
  cnt : ∀ x, cSeen T seen ss.length x = cTree T ((ordV ss).take k) x
  at_ : SeenAt sb seen A
  only : Only (fun x => x = sb) W4 A
theorem SeenAt.set {sb k : Nat} {seen : Nat → Bool} {A : World} (h : SeenAt sb seen A) : SeenAt sb (fun j => if j = k then true else seen j) (A.setCell ⟨sb, k, none⟩ (.bool true)) := by
  unfold SeenAt
  rw [heap_setCell_same _ _ _ _ _ _ h, arr_set]
  have e : (fun i => if i = k then Value.bool true else Value.bool (seen i)) = fun j => .bool (if j = k then true else seen j) := by
    funext i; by_cases hi : i = k <;> simp [hi]
  rw [e]
set_option maxRecDepth 100000 in
set_option maxHeartbeats 2000000 in
theorem viewWhole_core (v : Value) (ss : List Sess) (hlm : (ss.length : Int) ≤ 9223372036854775807) (hok : ∀ s ∈ ss, SessOK s) (now : Int) (wn : (Lit.int .i64 now).wf = true) (w : World) (he : VEnv w) (h1 : SessArg w v ss) :
    Calls Tryd.prog 4 #[v, .int .i64 now] w fun e w' => e = .returned (.bool true) ∧ Below w.heap.size w w' := by
  obtain ⟨p0, c0, rfl, -⟩ := id h1
  have HA := Lib.hid h1
  have HWK := Lib.hid (fun (w' : World) (hb : Below w.heap.size w w') => vworks_any w' (he.below hb))
  have HBK := Lib.hid (vbook_any w he.max)
  have HE := Lib.hid he; have HOK := Lib.hid hok
  clear he h1 hok
  by_cases hbig : 100 < ss.length
  · have b1 : (100 : Int) < (ss.length : Int) := by omega
    clear hbig
    go_enter Tryd.func4, Tryd.ntmps4
    go_wp2_with fail
    refine HBK.out.mono ?_
    rintro e w1 ⟨lo, B, rfl, hB, hb1⟩
    have HB1 := Lib.hid hb1
    clear hB hb1
    go_wp2_with fail
    refine (HWK.out _ HB1.out).mono ?_
    rintro e w2 ⟨rfl, hb2⟩
    have HB2 : Hid (Below w.heap.size w w2) := HB1.out.trans (hb2.mono HB1.out.size)
    clear hb2
    go_wp2_with fail
    refine (HWK.out _ HB2.out).mono ?_
    rintro e w3 ⟨rfl, hb3⟩
    have HB3 : Hid (Below w.heap.size w w3) := HB2.out.trans (hb3.mono HB2.out.size)
    clear hb3
    go_wp2
    go_ret
    exact ⟨rfl, HB3.out⟩
  have b1 : (ss.length : Int) ≤ 100 := by omega
  have HLN := Lib.hid (show ss.length ≤ 100 by omega)
  clear hbig hlm
  go_enter Tryd.func4, Tryd.ntmps4
  go_wp2_with fail
  refine HBK.out.mono ?_
  rintro e w1 ⟨lo, B, rfl, hB, hb1⟩
  have HB1 := Lib.hid hb1; have HB := Lib.hid hB
  clear hB hb1
  go_wp2_with fail
  refine (HWK.out _ HB1.out).mono ?_
  rintro e w2 ⟨rfl, hb2⟩
  have HB12 := Lib.hid hb2
  have HB2 : Hid (Below w.heap.size w w2) := HB1.out.trans (hb2.mono HB1.out.size)
  have HTR := Lib.hid (tree_any vbk_book now wn _ ss (by have := HLN.out; omega) HOK.out w2 (HE.out.below HB2.out) (HB.out.below hb2) (HA.out.below HB2.out))
  clear hb2
  go_wp2_with fail
  refine HTR.out.mono ?_
  rintro e w3 ⟨hp, hb3⟩
  have HB23 := Lib.hid hb3
  have HB3 : Hid (Below w.heap.size w w3) := HB2.out.trans (hb3.mono HB2.out.size)
  clear hb3 HTR
  rcases hp with ⟨i, hi, -, -, rfl⟩ | ⟨hall, d, rfl, hown⟩
  · clear hi
    go_wp2
    go_ret
    exact ⟨rfl, HB3.out⟩
  rw [ordV_len] at hown
  obtain ⟨q, cd, rfl, -⟩ := own_any_shape hown
  have HOWN := Lib.hid hown; have HALL := Lib.hid hall
  clear hown hall
  have hne : ((ss.length : Int) != (ss.length : Int)) = false := by simp
  go_wp2_with fail
  -- THE LOOPS
  have hzc : Tryd.zeroCells48 = arr 100 (fun _ => .bool false) := by kernel_rfl
  rw [hzc]
  clear hzc
  obtain ⟨W4, hW4⟩ : ∃ W4, W4 = w3.alloc (.cells (arr 100 (fun _ => .bool false)) 48) := ⟨_, rfl⟩
  have hwo : WO (lineS vbk ss now) ss w3.heap.size W4 0 (fun _ => false) W4 := ⟨Nat.zero_le _, fun x => by simp [cSeen, cTree], by rw [hW4]; exact Ut.alloc_at _ _, Only.refl _ _⟩
  have hb34 : Below w3.heap.size w3 W4 := by rw [hW4]; exact (Below.refl _ _).alloc (Nat.le_refl _) _
  have HW0 := Lib.hid hwo
  have HON : Hid (∀ A, Only (fun x => x = w3.heap.size) W4 A → Below w3.heap.size w3 A) := fun A h => hb34.trans (h.below hb34.size (fun i hi e => by omega))
  rw [← hW4]
  clear hW4 hwo hb34
  go_loopw [9, 10] (fun la i wr => ∃ (k : Nat) (seen : Nat → Bool), i = .int .i64 k ∧ la = .int .i64 (lastF ss k) ∧ WO (lineS vbk ss now) ss w3.heap.size W4 k seen wr) (fun _ i _ => ss.length - (intOf i).toNat)
  case atStart => exact ⟨0, _, rfl, rfl, HW0.out⟩
  case round =>
    obtain ⟨k, seen, rfl, rfl, hwo⟩ := hrel
    have HWO := Lib.hid hwo
    have hk := hwo.le
    have hbr := HON.out wr hwo.only
    have HBR := Lib.hid hbr
    clear hwo
    have z0 : (0 : Int) ≤ (k : Int) := by omega
    by_cases h : k < ss.length
    · have z1 : (k : Int) < (ss.length : Int) := by omega
      have hko : k < (ordV ss).length := by rw [ordV_len]; exact h
      obtain ⟨pl, hpl⟩ : ∃ pl, pl = (ordV ss)[k] := ⟨_, rfl⟩
      have hpi : pl.2 < ss.length := by rw [hpl]; exact ordV_lt ss _ (List.getElem_mem hko)
      have hfk : farK ss k = pl.1 := by rw [farK_at hko, hpl]
      have hfl := farK_le hko
      have hst := lastF_step hko
      have hbd := lastF_bd (Nat.le_of_lt hko)
      obtain ⟨L, hL⟩ : ∃ L, L = lastF ss k := ⟨_, rfl⟩
      rw [← hL] at hst hbd ⊢
      obtain ⟨c, r, hT, hc, hLs⟩ := treeS_list (ls := vbk) (now := now) (x := pl) hpi (HALL.out _ hpi)
      have hcut := treeS_cut (ls := vbk) (ss := ss) (now := now) (x := pl)
      obtain ⟨TS, hTS⟩ : ∃ TS, TS = treeS vbk ss now pl := ⟨_, rfl⟩
      obtain ⟨X, hX⟩ : ∃ X, X = lineS vbk ss now pl.2 := ⟨_, rfl⟩
      rw [← hTS] at hT hcut
      rw [← hX] at hcut
      obtain ⟨m, hm⟩ : ∃ m : Nat, m = 2 * pl.1 := ⟨_, rfl⟩
      rw [← hm] at hT hcut
      have hsz : m ≤ TS.size := by
        have h1 : TS.size = TS.data.toList.length := rfl
        rw [h1, hT, List.length_append, List.length_replicate]; omega
      have HBL := Lib.hid (fun (W : World) => blanks_any TS m (by have := HLN.out; omega) c r hT hc W)
      have hta : ∀ A, Below w3.heap.size w3 A → ∃ g o, q = some ⟨g, o, none⟩ ∧ A.cell? ⟨g, o + k, none⟩ = some (.string TS) := fun A hb => by
        have h1 : TextArg A (.slice q ss.length cd) ((ordV ss).map (treeS vbk ss now)) := by
          have h2 := Tx.own_arg (ps := (ordV ss).map (treeS vbk ss now)) (w := w3) (v := .slice q ss.length cd) (base := w2.heap.size) (by rw [List.length_map, ordV_len, List.map_map]; exact HOWN.out)
          exact h2.below hb
        obtain ⟨p, cap, e, h3⟩ := h1
        obtain ⟨rfl, -, -⟩ := Value.slice.inj e
        obtain ⟨g, o, h4, -, h5⟩ := h3 k (by rw [List.length_map]; exact hko)
        refine ⟨g, o, h4, ?_⟩
        rw [h5, List.getElem_map, ← hpl, ← hTS]
      obtain ⟨g, o, rfl, x1⟩ := hta wr HBR.out
      have HTA : Hid (∀ A, Below w3.heap.size w3 A → A.cell? ⟨g, o + k, none⟩ = some (.string TS)) := fun A hb => by
        obtain ⟨g', o', e, h9⟩ := hta A hb
        cases e; exact h9
      have q1 : (m : Int).tmod 2 = 0 := by rw [hm]; show ((2 * pl.1 : Nat) : Int).tmod 2 = 0; rw [Int.tmod_eq_emod_of_nonneg (by omega)]; omega
      have q2 : decide (L + 2 < (m : Int)) = false := decide_eq_false (by omega)
      have wL : IntKind.i64.wrap (L + 2) = L + 2 := IntWalk.i64_in _ (by omega)
      have HK := Lib.hid h; have HKO := Lib.hid hko; have HPL := Lib.hid hpl; have HXX := Lib.hid hX
      have HM : Hid ((m : Int) = lastF ss (k + 1)) := by
        show (m : Int) = 2 * (farK ss k : Int)
        rw [hfk, hm]; omega
      have hmz : (m : Int) ≤ (TS.size : Int) := by omega
      have m0 : (0 : Int) ≤ (m : Int) := by omega
      clear h hpi hfk hfl hst hbd hL hT hc hLs hTS hX hm hta hbr
      go_wp2_with fail
      refine (HBL.out wr).mono ?_
      rintro e w5 ⟨rfl, hb5⟩
      have HB45 : Hid (Only (fun x => x = w3.heap.size) W4 w5 ∧ SeenAt w3.heap.size seen w5) := by
        refine ⟨HWO.out.only.trans (Only.of_below hb5) (fun i _ hi => hi), ?_⟩
        have h9 := HWO.out.at_
        exact (hb5.block _ (Array.getElem?_eq_some_iff.1 h9).1).trans h9
      clear hb5 HBL x1
      go_wp2_with fail
      have hd1 : decide (k < ss.length) = true := decide_eq_true HK.out
      go_loopw [12, 13] (fun f j wr => ∃ (mj : Nat) (fb : Bool), mj ≤ ss.length ∧ j = .int .i64 mj ∧ f = .bool fb ∧ Only (fun x => x = w3.heap.size) W4 wr ∧ ((fb = false ∧ (∀ t, t < mj → seen t = true ∨ lineS vbk ss now t ≠ X) ∧ SeenAt w3.heap.size seen wr) ∨ (fb = true ∧ ∃ t, t < ss.length ∧ seen t = false ∧ lineS vbk ss now t = X ∧ SeenAt w3.heap.size (fun j => if j = t then true else seen j) wr))) (fun _ j _ => ss.length - (intOf j).toNat)
      case atStart => exact ⟨0, false, Nat.zero_le _, rfl, rfl, HB45.out.1, .inl ⟨rfl, fun t ht => absurd ht (Nat.not_lt_zero _), HB45.out.2⟩⟩
      case round =>
        obtain ⟨mj, fb, hmj, rfl, rfl, hon, hca⟩ := hrel
        have HON6 := Lib.hid hon; have HCA := Lib.hid hca
        have HB6 := Lib.hid (HON.out wr hon)
        clear hon hca
        have y0 : (0 : Int) ≤ (mj : Int) := by omega
        cases fb with
        | true =>
          have HNX : Hid (∃ seen', WO (lineS vbk ss now) ss w3.heap.size W4 (k + 1) seen' wr) := by
            rcases HCA.out with ⟨h, -⟩ | ⟨-, t, ht, hs, hx, hsa⟩
            · cases h
            · exact ⟨_, HK.out, fun x => cSeen_next HKO.out ht HWO.out.cnt hs (by rw [hx, HXX.out, HPL.out]) x, hsa, HON6.out⟩
          clear HCA
          by_cases h : mj < ss.length
          · have y1 : (mj : Int) < (ss.length : Int) := by omega
            clear h hmj
            obtain ⟨seen', hnx⟩ := HNX.out
            have HNX := Lib.hid hnx
            clear hnx
            go_wp2
            go_roundw
            case rel => exact ⟨k + 1, _, by go_num, by rw [HM.out], HNX.out⟩
            case measure => have := HK.out; simp [intOf]; omega
          · have y1 : (ss.length : Int) ≤ (mj : Int) := by omega
            clear h hmj
            obtain ⟨seen', hnx⟩ := HNX.out
            have HNX := Lib.hid hnx
            clear hnx
            go_wp2
            go_roundw
            case rel => exact ⟨k + 1, _, by go_num, by rw [HM.out], HNX.out⟩
            case measure => have := HK.out; simp [intOf]; omega
        | false =>
          have hne : (∀ t, t < mj → seen t = true ∨ lineS vbk ss now t ≠ X) ∧ SeenAt w3.heap.size seen wr := by
            rcases HCA.out with ⟨-, h⟩ | ⟨h, -⟩
            · exact h
            · cases h
          clear HCA
          by_cases h : mj < ss.length
          · have y1 : (mj : Int) < (ss.length : Int) := by omega
            have hd2 : decide (mj < ss.length) = true := decide_eq_true h
            have HMJ := Lib.hid h
            obtain ⟨g1, o1, rfl, hg1, k1⟩ := HA.out.at HMJ.out
            obtain ⟨cs, hcs⟩ : ∃ cs, cs = ss[mj].cells := ⟨_, rfl⟩
            have hbw : Below w.heap.size w wr := HB3.out.trans (HB6.out.mono HB3.out.size)
            have HRG : Hid (wr.rangeAt g1 (o1 + mj * 12) cs) := fun j u hu => (hbw.cell (p := ⟨g1, o1 + mj * 12 + j, none⟩) hg1).trans (k1 j u (by rw [hcs] at hu; exact hu))
            have HCL : Hid (cs.length = 12) := by show _ = _; rw [hcs]; rfl
            have hlnc : Calls Tryd.prog 16 #[.pointer (some ⟨B, 0, none⟩), .agg cs.toArray, .int .i64 now] wr fun e w' => (e = .returned (.tuple #[.string (lineS vbk ss now mj), .nilIface])) ∧ Below wr.heap.size wr w' := by
              rw [hcs]
              refine (vline_any vbk_book now wn ss[mj] (HOK.out _ (List.getElem_mem HMJ.out)) wr (HE.out.below hbw) (HB.out.below (HB12.out.trans ((HB23.out.trans (HB6.out.mono HB23.out.size)).mono HB12.out.size)))).mono fun e w' hp => ⟨?_, hp.2⟩
              have h3 := line_post HMJ.out hp.1
              rw [HALL.out mj HMJ.out] at h3
              exact h3
            have HLC := Lib.hid hlnc
            have HNE := Lib.hid hne
            obtain ⟨LS, hLS⟩ : ∃ LS, LS = lineS vbk ss now mj := ⟨_, rfl⟩
            rw [← hLS] at HLC
            have HLS := Lib.hid hLS
            clear hlnc hcs k1 hg1 hbw hne h hmj hLS
            go_wp2_with (refine wpList_load_mid (by rfl) 30 _ (by rfl) _ _ (by rfl) cs _ HRG.out Tryd.underlying30 rfl (by rw [HCL.out]; kernel_rfl) ?_)
            refine HLC.out.mono ?_
            rintro e w7 ⟨rfl, hb7⟩
            have HON7 : Hid (Only (fun x => x = w3.heap.size) W4 w7) := HON6.out.trans (Only.of_below hb7) (fun i _ hi => hi)
            have hsa7 : SeenAt w3.heap.size seen w7 := (hb7.block _ (Array.getElem?_eq_some_iff.1 HNE.out.2).1).trans HNE.out.2
            have x4 := HTA.out w7 (HON.out w7 HON7.out)
            have x5 : w7.cell? ⟨w3.heap.size, mj, none⟩ = some (.bool (seen mj)) := by rw [block_cell hsa7, arr_at (by have := HMJ.out; have := HLN.out; omega)]
            have x6 : w7.frozen? ⟨w3.heap.size, mj, none⟩ = false := block_free hsa7 _
            have y2 : (mj : Int) < 100 := by have := HMJ.out; have := HLN.out; omega
            have HSA7 := Lib.hid hsa7
            clear hb7 hsa7 HLC
            cases hs : seen mj with
            | true =>
              rw [hs] at x5
              have HREL : Hid (∀ t, t < mj + 1 → seen t = true ∨ lineS vbk ss now t ≠ X) := fun t ht => by
                rcases Nat.lt_succ_iff_lt_or_eq.1 ht with h9 | rfl
                · exact HNE.out.1 t h9
                · exact .inl hs
              clear hs
              go_wp2
              go_roundw
              case rel => exact ⟨mj + 1, false, HMJ.out, by go_num, rfl, HON7.out, .inl ⟨rfl, HREL.out, HSA7.out⟩⟩
              case measure => have := HMJ.out; simp [intOf]; omega
            | false =>
              rw [hs] at x5
              have HS := Lib.hid hs
              clear hs
              by_cases hx : LS = X
              · have hq : (LS.toList == X.toList) = true := by rw [hx]; simp
                have HEQ : Hid (lineS vbk ss now mj = X) := HLS.out.symm.trans hx
                have HSA8 := Lib.hid (HSA7.out.set (k := mj))
                have HON8 : Hid (Only (fun x => x = w3.heap.size) W4 (w7.setCell ⟨w3.heap.size, mj, none⟩ (.bool true))) := HON7.out.setCell (p := ⟨w3.heap.size, mj, none⟩) (fun _ => rfl) _
                clear hx
                go_wp2
                go_roundw
                case rel => exact ⟨mj + 1, true, HMJ.out, by go_num, rfl, HON8.out, .inr ⟨rfl, mj, HMJ.out, HS.out, HEQ.out, HSA8.out⟩⟩
                case measure => have := HMJ.out; simp [intOf]; omega
              · have hq : (LS.toList == X.toList) = false := by
                  rw [beq_eq_false_iff_ne]; intro h9; exact hx (by rw [Lib.toList_data, Lib.toList_data] at h9; exact ByteArray.ext (Array.toList_inj.1 h9))
                have HREL : Hid (∀ t, t < mj + 1 → seen t = true ∨ lineS vbk ss now t ≠ X) := fun t ht => by
                  rcases Nat.lt_succ_iff_lt_or_eq.1 ht with h9 | rfl
                  · exact HNE.out.1 t h9
                  · exact .inr (by rw [← HLS.out]; exact hx)
                clear hx
                go_wp2
                go_roundw
                case rel => exact ⟨mj + 1, false, HMJ.out, by go_num, rfl, HON7.out, .inl ⟨rfl, HREL.out, HSA7.out⟩⟩
                case measure => have := HMJ.out; simp [intOf]; omega
          · exact (cSeen_some (T := lineS vbk ss now) HKO.out HWO.out.cnt (fun t ht => by
              rw [← HPL.out, ← HXX.out]
              exact hne.1 t (by omega))).elim
    · have z1 : (ss.length : Int) ≤ (k : Int) := by omega
      obtain rfl : k = ss.length := by omega
      clear h
      go_wp2
      go_ret
      exact ⟨rfl, HB3.out.trans (HBR.out.mono HB3.out.size)⟩
end Vw
end Go.Proofs.YtocoonkachbjaaaDoor

/- Arguments that are lists of structs whose cells are numbers, texts and bools, structs within structs among them. Of any program. -/
namespace Go.Proofs.Ar
open Go.RowKit Go.ChangeShapes Go.WideShapes Go.Deep
set_option linter.unusedVariables false

/-- The cells' types, one behind the other. -/
def leavesFs (P : Program) (g : TypeId → Option (List TypeId)) : List Field → Nat → Option (List TypeId)
  | [], _ => some []
  | fd :: r, o => if fd.offset = o then (g fd.type).bind fun m => if P.cellsOf fd.type = m.length then (leavesFs P g r (o + m.length)).map fun z => m ++ z else none else none
def leaves (P : Program) : Nat → TypeId → Option (List TypeId)
  | 0, _ => none
  | f + 1, t => match P.underlying t with
    | some (.struct fs) => (leavesFs P (leaves P f) fs.toList 0).bind fun l => if P.cellsOf t = l.length then some l else none
    | some .string => some [t]
    | some .bool => some [t]
    | some (.int _) => some [t]
    | _ => none

section
variable {H : Type} {enc : TypeId × Value → H} {P : Program} {w : World} {base : Nat} {spare : Nat → Bool} {held : Bool}

/-- A cell that reads as a value of a type. -/
def LeafIs (enc : TypeId × Value → H) (P : Program) (w : World) (base : Nat) (spare : Nat → Bool) (held : Bool) (t : TypeId) (v : Value) : Prop := ∃ n y, DataW.trod enc P w base spare held n t [v] = some y
theorem LeafIs.int {t : TypeId} {v : Value} {k : IntKind} (ht : P.underlying t = some (.int k)) (h : LeafIs enc P w base spare held t v) : ∃ n, v = .int k n ∧ (Lit.int k n).wf = true := by
  obtain ⟨n, y, h⟩ := h
  obtain ⟨q, e, _, hw⟩ := DataW.trod_int ht h
  exact ⟨q, by simpa using e, hw⟩
theorem LeafIs.string {t : TypeId} {v : Value} (ht : P.underlying t = some .string) (h : LeafIs enc P w base spare held t v) : ∃ s : ByteArray, v = .string s ∧ s.size ≤ maxLen := by
  obtain ⟨n, y, h⟩ := h
  obtain ⟨q, e, _, hw⟩ := DataW.trod_string ht h
  exact ⟨q, by simpa using e, hw⟩
theorem LeafIs.bool {t : TypeId} {v : Value} (ht : P.underlying t = some .bool) (h : LeafIs enc P w base spare held t v) : ∃ b : Bool, v = .bool b := by
  obtain ⟨n, y, h⟩ := h
  obtain ⟨q, e, _⟩ := DataW.trod_bool ht h
  exact ⟨q, by simpa using e⟩

theorem single_at {cs : List Value} {v : Value} {n : Nat} {t : TypeId} {x : DataW H × List MemPlace} (h : DataW.trod enc P w base spare held n t cs = some x) (e : cs = [v]) : cs.length = [t].length ∧ ∀ (i : Nat) (tl : TypeId) (u : Value), [t][i]? = some tl → cs[i]? = some u → LeafIs enc P w base spare held tl u := by
  subst e
  refine ⟨rfl, fun i tl u h1 h2 => ?_⟩
  cases i with
  | zero => simp at h1 h2; subst h1 h2; exact ⟨n, x, h⟩
  | succ i => simp at h1

theorem leaves_fs (f : Nat) (ih : ∀ (t : TypeId) (ls : List TypeId) (n : Nat) (cs : List Value) (x : DataW H × List MemPlace), leaves P f t = some ls → DataW.trod enc P w base spare held n t cs = some x → cs.length = ls.length ∧ ∀ (i : Nat) (tl : TypeId) (u : Value), ls[i]? = some tl → cs[i]? = some u → LeafIs enc P w base spare held tl u)
    (n : Nat) (cs : List Value) : ∀ (fs : List Field) (o : Nat) (m : List TypeId), leavesFs P (leaves P f) fs o = some m → (∀ fd ∈ fs, ∃ x, DataW.trod enc P w base spare held n fd.type ((cs.drop fd.offset).take (P.cellsOf fd.type)) = some x) →
      ∀ (i : Nat) (tl : TypeId) (u : Value), m[i]? = some tl → cs[o + i]? = some u → LeafIs enc P w base spare held tl u
  | [], o, m, h, hf, i, tl, u, h1, h2 => by
    simp [leavesFs] at h; subst h; simp at h1
  | fd :: r, o, m, h, hf, i, tl, u, h1, h2 => by
    unfold leavesFs at h
    by_cases ho : fd.offset = o
    · rw [if_pos ho] at h
      obtain ⟨m1, hm1, h⟩ := Option.bind_eq_some_iff.1 h
      by_cases hc : P.cellsOf fd.type = m1.length
      · rw [if_pos hc] at h
        obtain ⟨z, hz, rfl⟩ := Option.map_eq_some_iff.1 h
        obtain ⟨x, hx⟩ := hf fd List.mem_cons_self
        obtain ⟨hl, hat⟩ := ih _ _ _ _ _ hm1 hx
        by_cases hi : i < m1.length
        · rw [List.getElem?_append_left hi] at h1
          refine hat i tl u h1 ?_
          rw [List.getElem?_take, if_pos (by omega), List.getElem?_drop, ho]
          exact h2
        · rw [List.getElem?_append_right (by omega)] at h1
          refine leaves_fs f ih n cs r (o + m1.length) z hz (fun g hg => hf g (List.mem_cons_of_mem _ hg)) (i - m1.length) tl u h1 ?_
          rw [show o + m1.length + (i - m1.length) = o + i by omega]; exact h2
      · rw [if_neg hc] at h; cases h
    · rw [if_neg ho] at h; cases h

theorem leaves_at : ∀ (f : Nat) (t : TypeId) (ls : List TypeId) (n : Nat) (cs : List Value) (x : DataW H × List MemPlace), leaves P f t = some ls → DataW.trod enc P w base spare held n t cs = some x → cs.length = ls.length ∧ ∀ (i : Nat) (tl : TypeId) (u : Value), ls[i]? = some tl → cs[i]? = some u → LeafIs enc P w base spare held tl u
  | 0, t, ls, n, cs, x, h, hx => by simp [leaves] at h
  | f + 1, t, ls, n, cs, x, h, hx => by
    unfold leaves at h
    split at h
    · rename_i fs hu
      obtain ⟨l, hl, h⟩ := Option.bind_eq_some_iff.1 h
      by_cases hc : P.cellsOf t = l.length
      · rw [if_pos hc] at h
        cases h
        obtain ⟨xs, k, _, _, hlen, hxs, hat⟩ := DataW.trod_struct hu hx
        refine ⟨hlen.trans hc, fun i tl u h1 h2 => leaves_fs f (leaves_at f) k cs fs.toList 0 _ hl (fun fd hfd => ?_) i tl u h1 (by simpa using h2)⟩
        obtain ⟨j, hj, e⟩ := List.getElem_of_mem hfd
        have hj' : j < fs.size := by simpa using hj
        have hget : fs[j]? = some fd := by rw [← e]; simp [hj']
        have hx2 : j < xs.length := by rw [hxs]; exact hj'
        exact ⟨xs[j], (hat j fd hget).trans (List.getElem?_eq_getElem hx2)⟩
      · rw [if_neg hc] at h; cases h
    · rename_i hu
      cases h
      obtain ⟨s, e, _⟩ := DataW.trod_string hu hx
      exact single_at hx e
    · rename_i hu
      cases h
      obtain ⟨s, e, _⟩ := DataW.trod_bool hu hx
      exact single_at hx e
    · rename_i k hu
      cases h
      obtain ⟨s, e, _⟩ := DataW.trod_int hu hx
      exact single_at hx e
    · cases h

/-- A value is a list of rows of c cells each, wherever it lies. -/
def RowArg (w : World) (v : Value) (c : Nat) (rs : List (List Value)) : Prop :=
  ∃ p cap, v = .slice p rs.length cap ∧ ∀ j (hj : j < rs.length), rs[j].length = c ∧ ∃ g o, p = some ⟨g, o, none⟩ ∧ g < w.heap.size ∧ ∀ (i : Nat) (u : Value), rs[j][i]? = some u → w.cell? ⟨g, o + (j * c + i), none⟩ = some u

theorem RowArg.below {w w' : World} {v : Value} {c : Nat} {rs : List (List Value)} (h : RowArg w v c rs) (hb : Below w.heap.size w w') : RowArg w' v c rs := by
  obtain ⟨p, cap, rfl, h⟩ := h
  refine ⟨p, cap, rfl, fun j hj => ?_⟩
  obtain ⟨hc, g, o, h1, h2, h3⟩ := h j hj
  exact ⟨hc, g, o, h1, Nat.lt_of_lt_of_le h2 hb.size, fun i u hi => (hb.cell (p := ⟨g, o + (j * c + i), none⟩) h2).trans (h3 i u hi)⟩

theorem arg_rows {t e : TypeId} {r : Reach} {b0 : Nat} {v : Value} {d : DataW H} {p : List MemPlace} (f : Nat) (ls : List TypeId) (hls : leaves P f e = some ls) (h0 : 0 < ls.length) (ht : P.underlying t = some (.slice e)) (ce : P.cellsOf e = ls.length)
    (hv : Value.okWide P w r b0 t v) (h : DataW.Trod enc P w 0 (fun _ => true) true t v d p) :
    ∃ rs : List (List Value), RowArg w v ls.length rs ∧ (∀ s ∈ rs, s.length = ls.length ∧ ∀ (i : Nat) (tl : TypeId) (u : Value), ls[i]? = some tl → s[i]? = some u → LeafIs enc P w 0 (fun _ => true) true tl u) ∧ rs.length ≤ maxLen := by
  obtain ⟨a0, len, cap, rfl⟩ := okWide_slice ht hv
  obtain ⟨fuel, hf⟩ := h
  rcases open_slice ht hf with ⟨hcs, hx⟩ | ⟨a, len', cap', m, n, D, Pl, hcs, _, hl, hm, hmm, hx, hcell⟩
  · simp [Value.cells] at hcs
    obtain ⟨rfl, rfl, rfl⟩ := hcs
    exact ⟨[], ⟨none, 0, rfl, fun j hj => absurd hj (Nat.not_lt_zero _)⟩, by simp, by simp⟩
  · simp [Value.cells] at hcs
    obtain ⟨rfl, rfl, rfl⟩ := hcs
    simp only [if_true] at hmm
    subst hmm
    have each : ∀ i, i < m → ∃ q : List Value, q.length = ls.length ∧ (∀ k, k < ls.length → w.cell? (a.add (i * ls.length + k)) = q[k]?) ∧ ∀ (k : Nat) (tl : TypeId) (u : Value), ls[k]? = some tl → q[k]? = some u → LeafIs enc P w 0 (fun _ => true) true tl u := fun i hi => by
      obtain ⟨cs', h1, h2⟩ := hcell i hi
      rw [ce] at h1
      obtain ⟨_, hlen, hc⟩ := World.cells?_some h1
      obtain ⟨hl2, hat⟩ := leaves_at f e ls _ _ _ hls h2
      exact ⟨cs', hl2, fun k hk => by rw [← add_add]; exact hc k hk, hat⟩
    obtain ⟨S, hS⟩ := choose_lt each
    refine ⟨(List.range len).map S, ⟨some a, m, by simp, fun j hj => ?_⟩, fun s hs => ?_, by simp; omega⟩
    · have hj' : j < len := by simpa using hj
      obtain ⟨g1, g2, g3⟩ := hS j (by omega)
      obtain ⟨k1, k2, k3⟩ := hS 0 (by omega)
      have h0' := k2 0 h0
      have hsome : (S 0)[0]? = some ((S 0)[0]'(by omega)) := List.getElem?_eq_getElem (by omega)
      rw [hsome] at h0'
      have hcell0 : w.cell? a = some ((S 0)[0]'(by omega)) := by simpa [Addr.add] using h0'
      have hp := plain_of_cell hcell0
      have e : ((List.range len).map S)[j] = S j := by simp
      refine ⟨by rw [e]; exact g1, a.block, a.off, by rw [← hp], lt_of_cell hcell0, fun i u hi => ?_⟩
      rw [e] at hi
      have hil : i < ls.length := by rw [← g1]; exact (List.getElem?_eq_some_iff.1 hi).1
      have := g2 i hil
      rw [hp, add_plain_, hi] at this
      exact this
    · obtain ⟨i, hi, rfl⟩ := List.mem_map.1 hs
      obtain ⟨g1, g2, g3⟩ := hS i (by have := List.mem_range.1 hi; omega)
      exact ⟨g1, g3⟩
end

end Go.Proofs.Ar

/- The arguments of view's laws, and what lies laid. -/
namespace Go.Proofs.YtocoonkachbjaaaDoor
open Go.RowKit Go.Proofs.Ar Go.Proofs.YtocoonkachbjaaaDoor.Sc
set_option linter.unusedVariables false

theorem vu64_nat {n : Int} (wf : (Lit.int .u64 n).wf = true) : ∃ s : Nat, n = (s : Int) ∧ s < 18446744073709551616 := by
  simp [Lit.wf, IntKind.min, IntKind.max, IntKind.signed, IntKind.bits] at wf
  refine ⟨n.toNat, by omega, by omega⟩
theorem view_row {H : Type} {enc : TypeId × Value → H} {w : World} {base : Nat} {spare : Nat → Bool} {held : Bool} (s : List Value) (h : s.length = 12 ∧ ∀ (i : Nat) (tl : TypeId) (u : Value), [3, 3, 3, 3, 3, 9, 9, 28, 3, 3, 3, 3][i]? = some tl → s[i]? = some u → LeafIs enc Tryd.prog w base spare held tl u) : ∃ x : Vw.Sess, s = x.cells ∧ Vw.SessOK x := by
  obtain ⟨hl, hs⟩ := h
  match s, hl with
  | [c0, c1, c2, c3, c4, c5, c6, c7, c8, c9, c10, c11], _ =>
    obtain ⟨n0, rfl, -⟩ := (hs 0 _ c0 rfl rfl).int Tryd.underlying3
    obtain ⟨n1, rfl, w1⟩ := (hs 1 _ c1 rfl rfl).int Tryd.underlying3
    obtain ⟨n2, rfl, -⟩ := (hs 2 _ c2 rfl rfl).int Tryd.underlying3
    obtain ⟨n3, rfl, w3⟩ := (hs 3 _ c3 rfl rfl).int Tryd.underlying3
    obtain ⟨n4, rfl, -⟩ := (hs 4 _ c4 rfl rfl).int Tryd.underlying3
    obtain ⟨s5, rfl, z5⟩ := (hs 5 _ c5 rfl rfl).string Tryd.underlying9
    obtain ⟨s6, rfl, z6⟩ := (hs 6 _ c6 rfl rfl).string Tryd.underlying9
    obtain ⟨n7, rfl, w7⟩ := (hs 7 _ c7 rfl rfl).int Tryd.underlying28
    obtain ⟨n8, rfl, -⟩ := (hs 8 _ c8 rfl rfl).int Tryd.underlying3
    obtain ⟨n9, rfl, -⟩ := (hs 9 _ c9 rfl rfl).int Tryd.underlying3
    obtain ⟨n10, rfl, w10⟩ := (hs 10 _ c10 rfl rfl).int Tryd.underlying3
    obtain ⟨n11, rfl, -⟩ := (hs 11 _ c11 rfl rfl).int Tryd.underlying3
    obtain ⟨k7, rfl, hk7⟩ := vu64_nat w7
    exact ⟨⟨n0, n1, n2, n3, n4, s5, s6, k7, n8, n9, n10, n11⟩, rfl, w1, w3, hk7, by unfold maxLen at z5; omega, by unfold maxLen at z6; omega, w10⟩
theorem sess_of_rows {w : World} {v : Value} {ps : List Vw.Sess} (h : RowArg w v 12 (ps.map Vw.Sess.cells)) : Vw.SessArg w v ps := by
  obtain ⟨p, cap, rfl, h⟩ := h
  refine ⟨p, cap, by simp, fun j hj => ?_⟩
  obtain ⟨_, g, o, h1, h2, h3⟩ := h j (by simpa using hj)
  have e : (ps.map Vw.Sess.cells)[j]'(by simpa using hj) = ps[j].cells := by simp
  rw [e] at h3
  exact ⟨g, o, h1, h2, fun i u hi => by rw [Nat.add_assoc]; exact h3 i u hi⟩
theorem view_rows {rs : List (List Value)} (hz : ∀ s ∈ rs, ∃ x : Vw.Sess, s = x.cells ∧ Vw.SessOK x) : ∃ ps : List Vw.Sess, rs = ps.map Vw.Sess.cells ∧ ∀ s ∈ ps, Vw.SessOK s := by
  induction rs with
  | nil => exact ⟨[], rfl, by simp⟩
  | cons a t ih =>
    obtain ⟨x, rfl, hx⟩ := hz a List.mem_cons_self
    obtain ⟨ps, rfl, hp⟩ := ih (fun s hs => hz s (List.mem_cons_of_mem _ hs))
    exact ⟨x :: ps, rfl, fun s hs => by
      rcases List.mem_cons.1 hs with rfl | hs
      · exact hx
      · exact hp s hs⟩
end Go.Proofs.YtocoonkachbjaaaDoor

/- ViewWhole: the walk, from its arguments. -/
namespace Go.Proofs.YtocoonkachbjaaaDoor
open Go.RowKit Go.Proofs.Ar Go.Proofs.YtocoonkachbjaaaDoor.Sc
set_option linter.unusedVariables false
theorem viewWhole_row0 {H : Type} {enc : TypeId × Value → H} {w : World} {base : Nat} {spare : Nat → Bool} {held : Bool} (s : List Value) (h : s.length = 12 ∧ ∀ (i : Nat) (tl : TypeId) (u : Value), [3, 3, 3, 3, 3, 9, 9, 28, 3, 3, 3, 3][i]? = some tl → s[i]? = some u → LeafIs enc Tryd.prog w base spare held tl u) : ∃ x : Vw.Sess, s = x.cells ∧ Vw.SessOK x := view_row s h
theorem viewWhole_walk (v : Value) (rs : List (List Value)) (hl : rs.length ≤ maxLen) (hz : ∀ s ∈ rs, ∃ x : Vw.Sess, s = x.cells ∧ Vw.SessOK x) (now : Int) (wb : (Lit.int .i64 now).wf = true) (w : World)
    (hL : laidMetH Tryd.prog Rows.viewWholeRow.laid w) (hsh : w.ShapedOpen Tryd.prog) (ht : RowArg w v 12 rs) :
    Calls Tryd.prog 4 #[v, .int .i64 now] w fun e w' => e = .returned (.bool true) ∧ Below w.heap.size w w' := by
  obtain ⟨ps, rfl, hp⟩ := view_rows hz
  exact Vw.viewWhole_core v ps (by rw [List.length_map] at hl; unfold maxLen at hl; omega) hp now wb w ⟨max_of_shape w hsh, parts_of_laid hL (by kernel_rfl), pow_of_laid hL (by kernel_rfl)⟩ (sess_of_rows ht)
end Go.Proofs.YtocoonkachbjaaaDoor
