/- The document's heap, lineageref20: Drop, Set. -/
import Derived.Test.YtkmgpajodbadmaaDoorHpRefW
import Derived.Deep.RegionLaw
import Derived.Test.YtkmgpajodbadmaaDoorAppAny
namespace Go.Proofs.YtkmgpajodbadmaaDoor
open Go.RowKit
set_option linter.unusedVariables false
namespace Hp

def RDropPost (lo r n : Nat) (R : List It) (i : Int) (w : World) (e : Ending) (w' : World) : Prop :=
  e = .returned (.bool (keyOf R i).isSome) ∧ ∃ v', RefAt lo r n (without R i) v' w' ∧ Only (fun b => b = r) w w' ∧ ∀ b, v'.ownBlock = some b → w.heap.size ≤ b

def RDropRel (R : List It) (i : Int) (w : World) (lv kv : Value) (wr : World) : Prop :=
  ∃ k : Nat, k ≤ R.length ∧ kv = .int .i64 k ∧ wr.ownsRow w.heap.size 86 2 lv (without (R.take k) i).length (encL (without (R.take k) i)) ∧ Below w.heap.size w wr

theorem encI_app (L : List It) (x : It) : encL (L ++ [x]) = encL L ++ [.int .i64 x.1, .int .i64 x.2] := by simp [encL, encI]

set_option maxHeartbeats 2000000 in
theorem rdrop_any (lo r n : Nat) (R : List It) (v : Value) (w : World) (h : RefAt lo r n R v w) (hl : (R.length : Int) ≤ 65536) (i : Int) (hlo : lo ≤ w.heap.size) :
    Calls Tryd.prog 13 #[.pointer (some ⟨r, 0, none⟩), .int .i64 i] w (RDropPost lo r n R i w) := by
  obtain ⟨i0, hi, hz0, hz1, hz2⟩ := info_parts ritem_info
  have HR := Lib.hid h
  obtain ⟨q, c, rfl⟩ := h.shape
  clear h
  have HLO := Lib.hid hlo
  clear hlo
  go_enter Tryd.func13, Tryd.ntmps13
  go_wp2
  go_loopw [5, 6] (fun l k wr => RDropRel R i w l k wr) (fun _ k _ => R.length - (intOf k).toNat)
  case atStart => exact ⟨0, Nat.zero_le _, rfl, World.ownsRow_nil _ _ _ _, Below.refl _ _⟩
  case round =>
    obtain ⟨k, hk, rfl, hrow, hb⟩ := hrel
    have HB := Lib.hid hb
    have c1 := (HR.out.below hb).c_l
    by_cases hlt : k < R.length
    · obtain ⟨gv, cap, e, k1, k2⟩ := (HR.out.below hb).item hlt
      obtain ⟨rfl, rfl⟩ : q = some ⟨gv, 0, none⟩ ∧ c = cap := by simpa using e
      have b1 : (0 : Int) ≤ (k : Int) := by omega
      have b2 : (k : Int) < (R.length : Int) := by omega
      have HWT := Lib.hid (without_take hlt i)
      have hle := without_take_le R k i
      obtain ⟨y, hy⟩ : ∃ y, y = g R k := ⟨_, rfl⟩
      rw [← hy] at k1 k2 HWT
      obtain ⟨M, hM⟩ : ∃ M, M = without (R.take k) i := ⟨_, rfl⟩
      rw [← hM] at hrow HWT hle
      have vk : IntKind.i64.wrap ((k : Int) + 1) = ((k + 1 : Nat) : Int) := by rw [IntWalk.i64_in _ (by omega)]; rfl
      by_cases hq : y.1 = i
      · have e1 : (y.1 != i) = false := by simp [hq]
        have HN : Hid (without (R.take (k + 1)) i = M) := by show _ = _; rw [HWT.out, if_pos hq]; simp
        have HROW := Lib.hid hrow
        clear hq hb hy hM e hrow hle
        go_wp2
        go_roundw
        case rel => exact ⟨k + 1, by omega, by go_num, by rw [HN.out]; exact HROW.out, HB.out⟩
        case measure => simp [intOf]; omega
      · have e1 : (y.1 != i) = true := by simp [hq]
        have HN : Hid (without (R.take (k + 1)) i = M ++ [y]) := by show _ = _; rw [HWT.out, if_neg hq]
        obtain ⟨qa, ra, rfl⟩ := own_any_shape hrow
        have m1 : M.length + 1 ≤ maxLen := by unfold maxLen; omega
        have m2 : (M.length + 1) * 16 ≤ 140737488355328 := by omega
        have HROW := Lib.hid hrow
        have HSZ := Lib.hid hb.size
        have m3 : w.heap.size ≤ (wr.alloc (.cells #[.int .i64 y.1, .int .i64 y.2] 86)).heap.size := by simp; exact Nat.le_succ_of_le HSZ.out
        clear hq hb hy hM e hrow hle
        go_wp2_with (at_builtin; refine wpList_append_lies _ rfl _ _ 41 rfl w.heap.size 86 i0 (.agg #[.int .i64 0, .int .i64 0]) 2 16 Tryd.underlying41 hi hz0 hz1 hz2 rfl (by decide) _ _ _ rfl (HROW.out.alloc _) ⟨wr.heap.size, 0, none⟩ 1 1 [.int .i64 y.1, .int .i64 y.2] rfl rfl (World.news_of_block (Ut.alloc_at _ _)) (by intro u hu; simp at hu; rcases hu with rfl | rfl <;> rfl) (by decide) m1 m2 m3 (wr.heap.size + 1) (by simp) ?_; intro g' cap' w1 hown' hgrow hlie hlt2)
        have HBN : Hid (Below w.heap.size w w1) := Ut.below_app HB.out HSZ.out HROW.out hgrow
        have HON : Hid (w1.ownsRow w.heap.size 86 2 (.slice (some ⟨g', 0, none⟩) (M.length + 1) cap') (without (R.take (k + 1)) i).length (encL (without (R.take (k + 1)) i))) := by
          show World.ownsRow _ _ _ _ _ _ _
          rw [HN.out, encI_app, List.length_append]; exact hown'
        clear hown' hgrow hlie hlt2
        go_roundw
        case rel => exact ⟨k + 1, by omega, by go_num, HON.out, HBN.out⟩
        case measure => simp [intOf]; omega
    · have hkl : k = R.length := by omega
      subst hkl
      have b2 : (R.length : Int) ≤ (R.length : Int) := by omega
      rw [List.take_length] at hrow
      have f1 := (HR.out.below hb).f_l 1
      obtain ⟨qa, ra, rfl⟩ := own_any_shape hrow
      have hown : ∀ b, (Value.slice qa (without R i).length ra).ownBlock = some b → w.heap.size ≤ b := fun b e => (hrow.lt b e).1
      have hrl := HR.out.lt
      have hlay := (HR.out.below hb).lay (Ut.own_base hrow HLO.out) (fun b e => by have := hown b e; omega)
      have hon : Only (fun b => b = r) w (wr.setCell ⟨r, 1, none⟩ (.slice qa (without R i).length ra)) := (Only.of_below (F := fun b => b = r) hb).setCell (p := ⟨r, 1, none⟩) (fun _ => rfl) _
      have hle := without_le R i
      have hd := without_len R i
      have HP : Hid (RDropPost lo r n R i w (.returned (.bool (keyOf R i).isSome)) (wr.setCell ⟨r, 1, none⟩ (.slice qa (without R i).length ra))) := ⟨rfl, _, hlay, hon, hown⟩
      obtain ⟨M, hM⟩ : ∃ M, M = without R i := ⟨_, rfl⟩
      rw [← hM] at HP hle hd ⊢
      by_cases hq : M.length < R.length
      · have e1 : decide (M.length < R.length) = true := by simpa using hq
        have HK : Hid ((keyOf R i).isSome = true) := by show _ = _; rw [← hd, e1]
        rw [HK.out] at HP
        clear hb hrow hown hlay hon hd hM hrl
        go_wp2
        go_ret
        exact HP.out
      · have e1 : decide (M.length < R.length) = false := by simpa using hq
        have HK : Hid ((keyOf R i).isSome = false) := by show _ = _; rw [← hd, e1]
        rw [HK.out] at HP
        clear hb hrow hown hlay hon hd hM hrl hq hle
        go_wp2
        go_ret
        exact HP.out


def ins (M : List It) (k : Nat) (x : It) : List It := M.take k ++ x :: M.drop k

def RSetPost (lo r n : Nat) (R : List It) (i key : Int) (w : World) (e : Ending) (w' : World) : Prop :=
  if 0 ≤ i ∧ i < (n : Int) then e = .returned (.int .i64 0) ∧ ∃ R' v', RefAt lo r n R' v' w' ∧ R'.Perm ((i, key) :: without R i) ∧ ((R.Pairwise fun x y => ahd y x = false) → R'.Pairwise fun x y => ahd y x = false) ∧ Only (fun b => b = r) w w' ∧ ∀ b, v'.ownBlock = some b → w.heap.size ≤ b
  else e = .returned (.int .i64 1) ∧ w = w'

def RSetRel (M : List It) (x : It) (w2 : World) (lv kv : Value) (wr : World) : Prop :=
  ∃ k : Nat, k ≤ M.length ∧ kv = .int .i64 k ∧ wr.ownsRow w2.heap.size 86 2 lv k (encL (M.take k)) ∧ (∀ j, j < k → ahd (g M j) x = true) ∧ Below w2.heap.size w2 wr

theorem encL_drop (L : List It) (k : Nat) : (encL L).drop (k * 2) = encL (L.drop k) := by
  induction k generalizing L with
  | zero => simp
  | succ k ih =>
    cases L with
    | nil => simp [encL]
    | cons a r => rw [encL_cons, show (k + 1) * 2 = k * 2 + 1 + 1 by omega]; simpa using ih r
theorem encL_one (L : List It) : ∀ u ∈ encL L, u.oneCell' = true := by
  intro u hu
  unfold encL at hu
  obtain ⟨x, -, hx⟩ := List.mem_flatMap.1 hu
  simp [encI] at hx
  rcases hx with rfl | rfl <;> rfl

/-- What is left when all is laid. -/
theorem rset_end {lo r n k : Nat} {R M : List It} {i key : Int} {v1 v5 : Value} {w w1 W2 w5 : World} (hI : 0 ≤ i ∧ i < (n : Int)) (hM : M = without R i) (hsort : (R.Pairwise fun x y => ahd y x = false) → M.Pairwise fun x y => ahd y x = false) (hlo : lo ≤ w.heap.size) (hs1 : w.heap.size ≤ w1.heap.size) (hs2 : w1.heap.size < W2.heap.size)
    (ho1 : Only (fun b => b = r) w w1) (hb12 : Below w1.heap.size w1 W2) (hr2 : RefAt lo r n M v1 W2) (hrl : r < w1.heap.size) (hk : k ≤ M.length) (hall : ∀ j, j < k → ahd (g M j) (i, key) = true) (hstop : k < M.length → ahd (g M k) (i, key) = false)
    (hb5 : Below W2.heap.size W2 w5) (hown : w5.ownsRow W2.heap.size 86 2 v5 (k + 1 + (M.length - k)) (encL (M.take k) ++ [.int .i64 i, .int .i64 key] ++ (encL M).drop (k * 2))) :
    RSetPost lo r n R i key w (.returned (.int .i64 0)) (w5.setCell ⟨r, 1, none⟩ v5) := by
  unfold RSetPost
  rw [if_pos hI]
  have he : encL (ins M k (i, key)) = encL (M.take k) ++ [.int .i64 i, .int .i64 key] ++ (encL M).drop (k * 2) := by
    unfold ins; rw [encL_drop, encL_app, encL_cons]; simp
  have hlen : (ins M k (i, key)).length = k + 1 + (M.length - k) := by
    unfold ins; simp; omega
  rw [← he, ← hlen] at hown
  have hne : ∀ b, v5.ownBlock = some b → W2.heap.size ≤ b := fun b e => (hown.lt b e).1
  refine ⟨rfl, ins M k (i, key), v5, (hr2.below hb5).lay (Ut.own_base hown (by omega)) (fun b e => by have := hne b e; omega), ?_, fun hs => ins_sorted (hsort hs) hk hall hstop, ?_, fun b e => by have := hne b e; omega⟩
  · unfold ins; rw [← hM]; exact ins_perm M k _
  · have h3 : Only (fun b => b = r) w w5 := (ho1.trans (Only.of_below (F := fun b => b = r) hb12) (fun _ _ h => h)).trans (Only.of_below (F := fun b => b = r) hb5) (fun _ _ h => h)
    exact h3.setCell (p := ⟨r, 1, none⟩) (fun _ => rfl) v5

theorem own_cap {w : World} {base e size n k c : Nat} {q : Option Addr} {xs : List Value} (h : w.ownsRow base e size (.slice q n c) n xs) (hk : k ≤ n) : k ≤ c := by
  rcases h.2 with ⟨h2, h3⟩ | ⟨gg, c2, cur, h2, _, _, h5, _⟩
  · omega
  · injection h2 with _ _ e3
    omega

set_option maxRecDepth 100000 in
set_option maxHeartbeats 4000000 in
theorem rset_any (lo r n : Nat) (R : List It) (v : Value) (w : World) (h : RefAt lo r n R v w) (hl : (R.length : Int) ≤ 65536) (i key : Int) (hlo : lo ≤ w.heap.size) :
    Calls Tryd.prog 17 #[.pointer (some ⟨r, 0, none⟩), .int .i64 i, .int .i64 key] w (RSetPost lo r n R i key w) := by
  obtain ⟨i0, hi, hz0, hz1, hz2⟩ := info_parts ritem_info
  have HD := Lib.hid (rdrop_any lo r n R v w h hl i hlo)
  have c1 := h.c_n
  clear h
  by_cases h0 : i < 0
  · have HR : Hid (RSetPost lo r n R i key w (.returned (.int .i64 1)) w) := by
      unfold RSetPost; rw [if_neg (by omega)]; exact ⟨rfl, rfl⟩
    go_enter Tryd.func17, Tryd.ntmps17
    go_wp2
    go_ret
    exact HR.out
  · have h0' : (0 : Int) ≤ i := by omega
    by_cases h1 : i < (n : Int)
    · have HI : Hid (0 ≤ i ∧ i < (n : Int)) := ⟨h0', h1⟩
      have HLO := Lib.hid hlo
      have HL := Lib.hid hl
      clear hlo h0 hl
      go_enter Tryd.func17, Tryd.ntmps17
      go_wp2_with fail
      refine HD.out.mono ?_
      rintro e w1 ⟨rfl, v1, hr1, ho1, hn1⟩
      have hml : (without R i).length ≤ R.length := without_le R i
      have HSORT : Hid ((R.Pairwise fun x y => ahd y x = false) → (without R i).Pairwise fun x y => ahd y x = false) := fun hs => hs.sublist (List.filter_sublist)
      obtain ⟨M, hM⟩ : ∃ M, M = without R i := ⟨_, rfl⟩
      rw [← hM] at hr1 hml HSORT
      have hm64 : (M.length : Int) ≤ 65536 := by have := HL.out; omega
      have hs1 := ho1.size
      have HRL : Hid (r < w1.heap.size) := hr1.lt
      have HO1 := Lib.hid ho1; have HM := Lib.hid hM; have HM64 := Lib.hid hm64; have HS1 := Lib.hid hs1
      obtain ⟨W2, hW2⟩ : ∃ W2, W2 = w1.alloc (.cells #[.int .i64 i, .int .i64 key] 86) := ⟨_, rfl⟩
      have hb12 : Below w1.heap.size w1 W2 := by rw [hW2]; exact (Below.refl _ _).alloc (Nat.le_refl _) _
      have hr2 := hr1.below hb12
      have d0 : W2.cell? ⟨w1.heap.size, 0, none⟩ = some (.int .i64 i) := by rw [hW2]; simp
      have d1 : W2.cell? ⟨w1.heap.size, 1, none⟩ = some (.int .i64 key) := by rw [hW2]; simp
      have hs2 : w1.heap.size < W2.heap.size := by rw [hW2]; simp
      have HR2 := Lib.hid hr2; have HB12 := Lib.hid hb12; have HS2 := Lib.hid hs2
      obtain ⟨q, c, rfl⟩ := hr1.shape
      clear hr1 ho1 hn1 hM hm64 hs1 hb12 hr2 hs2 hml
      go_wp2
      rw [← hW2]
      have HD0 := Lib.hid d0; have HD1 := Lib.hid d1
      clear hW2 d0 d1
      go_loopw [8, 9] (fun l k wr => RSetRel M (i, key) W2 l k wr) (fun _ k _ => M.length - (intOf k).toNat)
      case atStart => exact ⟨0, Nat.zero_le _, rfl, World.ownsRow_nil _ _ _ _, fun j hj => absurd hj (Nat.not_lt_zero _), Below.refl _ _⟩
      case round =>
        obtain ⟨k, hk, rfl, hrow, hall, hb⟩ := hrel
        have HB := Lib.hid hb; have HALL := Lib.hid hall; have HROW := Lib.hid hrow
        have hrr := HR2.out.below hb
        have c2 := hrr.c_l
        have x0 : wr.cell? ⟨w1.heap.size, 0, none⟩ = some (.int .i64 i) := (hb.cell (p := ⟨w1.heap.size, 0, none⟩) HS2.out).trans HD0.out
        have x1 : wr.cell? ⟨w1.heap.size, 1, none⟩ = some (.int .i64 key) := (hb.cell (p := ⟨w1.heap.size, 1, none⟩) HS2.out).trans HD1.out
        have HRR := Lib.hid hrr
        have b1 : (0 : Int) ≤ (k : Int) := by omega
        have HKL := Lib.hid hk
        have HX0 := Lib.hid x0; have HX1 := Lib.hid x1; have HC2 := Lib.hid c2
        by_cases hlt : k < M.length
        · obtain ⟨gv, cap, e, k1, k2⟩ := hrr.item hlt
          obtain ⟨rfl, rfl⟩ : q = some ⟨gv, 0, none⟩ ∧ c = cap := by simpa using e
          have b2 : (k : Int) < (M.length : Int) := by omega
          have HTG := Lib.hid (take_g hlt)
          have HLT := Lib.hid hlt
          obtain ⟨y, hy⟩ : ∃ y, y = g M k := ⟨_, rfl⟩
          have HY := Lib.hid hy
          rw [← hy] at k1 k2 HTG
          have HAH := Lib.hid (fun w' (h : w'.cell? ⟨r, 1, none⟩ = some (.slice (some ⟨gv, 0, none⟩) M.length c) ∧ w'.cell? ⟨gv, k * 2, none⟩ = some (.int .i64 y.1) ∧ w'.cell? ⟨gv, k * 2 + 1, none⟩ = some (.int .i64 y.2) ∧ w'.cell? ⟨w1.heap.size, 0, none⟩ = some (.int .i64 i) ∧ w'.cell? ⟨w1.heap.size, 1, none⟩ = some (.int .i64 key) ∧ Below wr.heap.size wr w') =>
            (rahead_any y (i, key) w').mono fun e w2 h2 => (⟨h2.1, ⟨(h2.2.cell (p := ⟨r, 1, none⟩) (World.block_lt_of_cell? w' _ h.1)).trans h.1, (h2.2.cell (p := ⟨gv, k * 2, none⟩) (World.block_lt_of_cell? w' _ h.2.1)).trans h.2.1, (h2.2.cell (p := ⟨gv, k * 2 + 1, none⟩) (World.block_lt_of_cell? w' _ h.2.2.1)).trans h.2.2.1, (h2.2.cell (p := ⟨w1.heap.size, 0, none⟩) (World.block_lt_of_cell? w' _ h.2.2.2.1)).trans h.2.2.2.1, (h2.2.cell (p := ⟨w1.heap.size, 1, none⟩) (World.block_lt_of_cell? w' _ h.2.2.2.2.1)).trans h.2.2.2.2.1, h.2.2.2.2.2.trans (h2.2.mono h.2.2.2.2.2.size)⟩⟩ :
              e = .returned (.bool (ahd y (i, key))) ∧ (w2.cell? ⟨r, 1, none⟩ = some (.slice (some ⟨gv, 0, none⟩) M.length c) ∧ w2.cell? ⟨gv, k * 2, none⟩ = some (.int .i64 y.1) ∧ w2.cell? ⟨gv, k * 2 + 1, none⟩ = some (.int .i64 y.2) ∧ w2.cell? ⟨w1.heap.size, 0, none⟩ = some (.int .i64 i) ∧ w2.cell? ⟨w1.heap.size, 1, none⟩ = some (.int .i64 key) ∧ Below wr.heap.size wr w2)))
          have hbd : Below wr.heap.size wr wr.drew := (Below.refl _ _).drew
          clear hrow hall hb hrr hlt hy e hk
          have HCAP : Hid (k ≤ c) := own_cap HRR.out.row HKL.out
          have HCK : Hid (¬ c = k) := by
            have h1 := own_cap HRR.out.row (Nat.le_refl _)
            have h2 := HLT.out
            show ¬ c = k
            omega
          cases hah : ahd y (i, key) with
          | true =>
            rw [hah] at HAH
            have HAHT := Lib.hid hah
            clear hah
            go_wp2
            go_region_held3 (fun w' => w'.cell? ⟨r, 1, none⟩ = some (.slice (some ⟨gv, 0, none⟩) M.length c) ∧ w'.cell? ⟨gv, k * 2, none⟩ = some (.int .i64 y.1) ∧ w'.cell? ⟨gv, k * 2 + 1, none⟩ = some (.int .i64 y.2) ∧ w'.cell? ⟨w1.heap.size, 0, none⟩ = some (.int .i64 i) ∧ w'.cell? ⟨w1.heap.size, 1, none⟩ = some (.int .i64 key) ∧ Below wr.heap.size wr w') (go_keep) (first | (go_at_call 37; refine (HAH.out _ ?_).mono ?_; (simp [*]); rintro e w3 ⟨rfl, n1, n2, n3, n4, n5, n6⟩))
            obtain ⟨ql, rl, rfl⟩ := own_any_shape HROW.out
            have hrq := Ut.own_below HROW.out (n6)
            have HROWQ := Lib.hid hrq
            have hbq : Below W2.heap.size W2 w3 := HB.out.trans (n6.mono HB.out.size)
            have HBQ := Lib.hid hbq
            have m1 : k + 1 ≤ maxLen := by have := HM64.out; have := HKL.out; unfold maxLen; omega
            have m2 : (k + 1) * 16 ≤ 140737488355328 := by have := HM64.out; have := HKL.out; omega
            have m3 : W2.heap.size ≤ (w3.alloc (.cells #[.int .i64 y.1, .int .i64 y.2] 86)).heap.size := by simp; exact Nat.le_succ_of_le HBQ.out.size
            have HALL2 : Hid (∀ j, j < k + 1 → ahd (g M j) (i, key) = true) := fun j hj => by
              by_cases e : j = k
              · rw [e, ← HY.out]; exact HAHT.out
              · exact HALL.out j (by omega)
            have vk : IntKind.i64.wrap ((k : Int) + 1) = ((k + 1 : Nat) : Int) := by rw [IntWalk.i64_in _ (by have := HM64.out; omega)]; rfl
            clear hrq hbq n6 x0 x1 c2 k1 k2
            have hcap : k ≤ c := HCAP.out
            have b3 : (k : Int) ≤ (c : Int) := by omega
            have b4 : (k : Int) ≤ (M.length : Int) := by have := HKL.out; omega
            have m4 : k + 1 + (M.length - k) ≤ maxLen := by have := HM64.out; have := HKL.out; unfold maxLen; omega
            have m5 : (k + 1 + (M.length - k)) * 16 ≤ 140737488355328 := by have := HM64.out; have := HKL.out; omega
            have HONE := Lib.hid (fun u (hu : u ∈ (encL M).drop (k * 2)) => encL_one M u (List.mem_of_mem_drop hu))
            clear hcap
            go_wp2_with (at_builtin; refine wpList_append_lies _ rfl _ _ 41 rfl W2.heap.size 86 i0 (.agg #[.int .i64 0, .int .i64 0]) 2 16 Tryd.underlying41 hi hz0 hz1 hz2 rfl (by decide) _ _ _ rfl (HROWQ.out.alloc _) ⟨w3.heap.size, 0, none⟩ 1 1 [.int .i64 y.1, .int .i64 y.2] rfl rfl (World.news_of_block (Ut.alloc_at _ _)) (by intro u hu; simp at hu; rcases hu with rfl | rfl <;> rfl) (by decide) m1 m2 m3 (w3.heap.size + 1) (by simp) ?_; intro g4 cap4 w4 hown4 hgrow4 hlie4 hlt4)
            have HBN : Hid (Below W2.heap.size W2 w4) := Ut.below_app HBQ.out HBQ.out.size HROWQ.out hgrow4
            have HON : Hid (w4.ownsRow W2.heap.size 86 2 (.slice (some ⟨g4, 0, none⟩) (k + 1) cap4) (k + 1) (encL (M.take (k + 1)))) := by
              show World.ownsRow _ _ _ _ _ _ _
              rw [HTG.out, encI_app]; exact hown4
            clear hown4 hgrow4 hlie4 hlt4
            go_roundw
            case rel => exact ⟨k + 1, by have := HLT.out; omega, by go_num, HON.out, HALL2.out, HBN.out⟩
            case measure => have := HLT.out; simp [intOf]; omega
          | false =>
            rw [hah] at HAH
            have HAHF := Lib.hid hah
            clear hah
            go_wp2
            go_region_held3 (fun w' => w'.cell? ⟨r, 1, none⟩ = some (.slice (some ⟨gv, 0, none⟩) M.length c) ∧ w'.cell? ⟨gv, k * 2, none⟩ = some (.int .i64 y.1) ∧ w'.cell? ⟨gv, k * 2 + 1, none⟩ = some (.int .i64 y.2) ∧ w'.cell? ⟨w1.heap.size, 0, none⟩ = some (.int .i64 i) ∧ w'.cell? ⟨w1.heap.size, 1, none⟩ = some (.int .i64 key) ∧ Below wr.heap.size wr w') (go_keep) (first | (go_at_call 37; refine (HAH.out _ ?_).mono ?_; (simp [*]); rintro e w3 ⟨rfl, n1, n2, n3, n4, n5, n6⟩))

            have hrq := Ut.own_below HROW.out n6
            have HROWQ := Lib.hid hrq
            have hbq : Below W2.heap.size W2 w3 := HB.out.trans (n6.mono HB.out.size)
            have HBQ := Lib.hid hbq
            have HSTOP : Hid (k < M.length → ahd (g M k) (i, key) = false) := fun _ => by rw [← HY.out]; exact HAHF.out
            clear hrq hbq n6 x0 x1 c2 k1 k2 n1 n2 n3

            have hck : ¬ c = k := HCK.out
            obtain ⟨ql, rl, rfl⟩ := own_any_shape HROWQ.out
            have m1 : k + 1 ≤ maxLen := by have := HM64.out; have := HKL.out; unfold maxLen; omega
            have m2 : (k + 1) * 16 ≤ 140737488355328 := by have := HM64.out; have := HKL.out; omega
            have m3 : W2.heap.size ≤ (w3.alloc (.cells #[.int .i64 i, .int .i64 key] 86)).heap.size := by simp; exact Nat.le_succ_of_le HBQ.out.size
            have b3 : (k : Int) ≤ (c : Int) := by have := HCAP.out; omega
            have b4 : (k : Int) ≤ (M.length : Int) := by have := HKL.out; omega
            have m4 : k + 1 + (M.length - k) ≤ maxLen := by have := HM64.out; have := HKL.out; unfold maxLen; omega
            have m5 : (k + 1 + (M.length - k)) * 16 ≤ 140737488355328 := by have := HM64.out; have := HKL.out; omega
            have HONE := Lib.hid (fun u (hu : u ∈ (encL M).drop (k * 2)) => encL_one M u (List.mem_of_mem_drop hu))
            go_wp2_with (first
              | (at_builtin; refine wpList_append_lies _ rfl _ _ 41 rfl W2.heap.size 86 i0 (.agg #[.int .i64 0, .int .i64 0]) 2 16 Tryd.underlying41 hi hz0 hz1 hz2 rfl (by decide) _ _ _ rfl (HROWQ.out.alloc _) ⟨w3.heap.size, 0, none⟩ 1 1 [.int .i64 i, .int .i64 key] rfl rfl (World.news_of_block (Ut.alloc_at _ _)) (by intro u hu; simp at hu; rcases hu with rfl | rfl <;> rfl) (by decide) m1 m2 m3 (w3.heap.size + 1) (by simp) ?_; intro g4 cap4 w4 hown4 hgrow4 hlie4 hlt4; (have hb4 : Below W2.heap.size W2 w4 := Ut.below_app HBQ.out HBQ.out.size HROWQ.out hgrow4); (have hr4 := HR2.out.below hb4); have f1 := hr4.c_l; (have hsrc := Ap.SrcAt.back (k := k) hr4.row HKL.out); rw [if_neg hck, Option.map_some, Ap.add_plain] at hsrc; (have HSRC := Lib.hid hsrc); have HOWN4 := Lib.hid hown4; have HB4 := Lib.hid hb4; clear hown4 hgrow4 hlie4 hlt4 hb4 hr4 hsrc)
              | (at_builtin; refine Ap.wpList_any _ rfl _ _ 41 rfl W2.heap.size 86 i0 (.agg #[.int .i64 0, .int .i64 0]) 2 16 Tryd.underlying41 hi hz0 hz1 hz2 rfl (by decide) _ _ _ rfl HOWN4.out _ _ _ _ rfl HSRC.out HONE.out m4 m5 HB4.out.size ?_; intro v5 w5 hown5 hgrow5 hlie5; obtain ⟨q5, r5, rfl⟩ := own_any_shape hown5; (have hb5 : Below W2.heap.size W2 w5 := HB4.out.grown hgrow5 HB4.out.size (fun j hj => (HOWN4.out.lt j hj).1)); (have hr5 := HR2.out.below hb5); have f2 := hr5.c_l; have f3 := hr5.f_l 1; have HOWN5 := Lib.hid hown5; have HB5 := Lib.hid hb5; clear hown5 hgrow5 hlie5 hb5 hr5))
            have HFIN := Lib.hid (rset_end HI.out HM.out HSORT.out HLO.out HS1.out HS2.out HO1.out HB12.out HR2.out HRL.out HKL.out HALL.out HSTOP.out HB5.out HOWN5.out)
            go_ret
            exact HFIN.out
        · have e9 : decide (k < M.length) = false := by simpa using hlt
          obtain ⟨ql, rl, rfl⟩ := own_any_shape hrow
          have HROWQ := Lib.hid (fun n => (show (wr.drewN n).ownsRow W2.heap.size 86 2 (.slice ql k rl) k (encL (M.take k)) from hrow))
          have HBQ := Lib.hid (fun n => Ut.below_drewN hb n)
          have HSTOP : Hid (k < M.length → ahd (g M k) (i, key) = false) := fun h => absurd h hlt
          have HCAP : Hid (k ≤ c) := own_cap hrr.row hk
          have HGV : Hid (¬ c = k → ∃ gv, q = some ⟨gv, 0, none⟩) := fun h => by
            rcases hrr.row.2 with ⟨h2, h3⟩ | ⟨gg, c2, cur, h2, _⟩
            · injection h2 with _ _ h2; omega
            · injection h2 with h2 _ _; exact ⟨gg, h2⟩
          clear hrow hb hrr hlt hall hk HRR HX0 HX1 HC2
          go_wp2
          go_quiet (fail)

          by_cases hck : c = k
          · have hck2 := hck.symm
            subst hck2
            have m1 : k + 1 ≤ maxLen := by have := HM64.out; have := HKL.out; unfold maxLen; omega
            have m2 : (k + 1) * 16 ≤ 140737488355328 := by have := HM64.out; have := HKL.out; omega
            have m3 : W2.heap.size ≤ (wr.alloc (.cells #[.int .i64 i, .int .i64 key] 86)).heap.size := by simp; exact Nat.le_succ_of_le (HBQ.out 0).size
            have b3 : (k : Int) ≤ (k : Int) := by have := HCAP.out; omega
            have b4 : (k : Int) ≤ (M.length : Int) := by have := HKL.out; omega
            have m4 : k + 1 + (M.length - k) ≤ maxLen := by have := HM64.out; have := HKL.out; unfold maxLen; omega
            have m5 : (k + 1 + (M.length - k)) * 16 ≤ 140737488355328 := by have := HM64.out; have := HKL.out; omega
            have HONE := Lib.hid (fun u (hu : u ∈ (encL M).drop (k * 2)) => encL_one M u (List.mem_of_mem_drop hu))
            go_wp2_with (first
              | (at_builtin; refine wpList_append_lies _ rfl _ _ 41 rfl W2.heap.size 86 i0 (.agg #[.int .i64 0, .int .i64 0]) 2 16 Tryd.underlying41 hi hz0 hz1 hz2 rfl (by decide) _ _ _ rfl ((HROWQ.out _).alloc _) ⟨wr.heap.size, 0, none⟩ 1 1 [.int .i64 i, .int .i64 key] rfl rfl (World.news_of_block (Ut.alloc_at _ _)) (by intro u hu; simp at hu; rcases hu with rfl | rfl <;> rfl) (by decide) m1 m2 m3 (wr.heap.size + 1) (by simp) ?_; intro g4 cap4 w4 hown4 hgrow4 hlie4 hlt4; (have hb4 : Below W2.heap.size W2 w4 := Ut.below_app (HBQ.out _) (HBQ.out _).size (HROWQ.out _) hgrow4); (have hr4 := HR2.out.below hb4); have f1 := hr4.c_l; (have hsrc := Ap.SrcAt.back (k := k) hr4.row HKL.out); rw [if_pos rfl] at hsrc; (have HSRC := Lib.hid hsrc); have HOWN4 := Lib.hid hown4; have HB4 := Lib.hid hb4; clear hown4 hgrow4 hlie4 hlt4 hb4 hr4 hsrc)
              | (at_builtin; refine Ap.wpList_any _ rfl _ _ 41 rfl W2.heap.size 86 i0 (.agg #[.int .i64 0, .int .i64 0]) 2 16 Tryd.underlying41 hi hz0 hz1 hz2 rfl (by decide) _ _ _ rfl HOWN4.out _ _ _ _ rfl HSRC.out HONE.out m4 m5 HB4.out.size ?_; intro v5 w5 hown5 hgrow5 hlie5; obtain ⟨q5, r5, rfl⟩ := own_any_shape hown5; (have hb5 : Below W2.heap.size W2 w5 := HB4.out.grown hgrow5 HB4.out.size (fun j hj => (HOWN4.out.lt j hj).1)); (have hr5 := HR2.out.below hb5); have f2 := hr5.c_l; have f3 := hr5.f_l 1; have HOWN5 := Lib.hid hown5; have HB5 := Lib.hid hb5; clear hown5 hgrow5 hlie5 hb5 hr5))
            have HFIN := Lib.hid (rset_end HI.out HM.out HSORT.out HLO.out HS1.out HS2.out HO1.out HB12.out HR2.out HRL.out HKL.out HALL.out HSTOP.out HB5.out HOWN5.out)
            go_ret
            exact HFIN.out
          · obtain ⟨gv, rfl⟩ : ∃ gv, q = some ⟨gv, 0, none⟩ := HGV.out hck
            have m1 : k + 1 ≤ maxLen := by have := HM64.out; have := HKL.out; unfold maxLen; omega
            have m2 : (k + 1) * 16 ≤ 140737488355328 := by have := HM64.out; have := HKL.out; omega
            have m3 : W2.heap.size ≤ (wr.alloc (.cells #[.int .i64 i, .int .i64 key] 86)).heap.size := by simp; exact Nat.le_succ_of_le (HBQ.out 0).size
            have b3 : (k : Int) ≤ (c : Int) := by have := HCAP.out; omega
            have b4 : (k : Int) ≤ (M.length : Int) := by have := HKL.out; omega
            have m4 : k + 1 + (M.length - k) ≤ maxLen := by have := HM64.out; have := HKL.out; unfold maxLen; omega
            have m5 : (k + 1 + (M.length - k)) * 16 ≤ 140737488355328 := by have := HM64.out; have := HKL.out; omega
            have HONE := Lib.hid (fun u (hu : u ∈ (encL M).drop (k * 2)) => encL_one M u (List.mem_of_mem_drop hu))
            go_wp2_with (first
              | (at_builtin; refine wpList_append_lies _ rfl _ _ 41 rfl W2.heap.size 86 i0 (.agg #[.int .i64 0, .int .i64 0]) 2 16 Tryd.underlying41 hi hz0 hz1 hz2 rfl (by decide) _ _ _ rfl ((HROWQ.out _).alloc _) ⟨wr.heap.size, 0, none⟩ 1 1 [.int .i64 i, .int .i64 key] rfl rfl (World.news_of_block (Ut.alloc_at _ _)) (by intro u hu; simp at hu; rcases hu with rfl | rfl <;> rfl) (by decide) m1 m2 m3 (wr.heap.size + 1) (by simp) ?_; intro g4 cap4 w4 hown4 hgrow4 hlie4 hlt4; (have hb4 : Below W2.heap.size W2 w4 := Ut.below_app (HBQ.out _) (HBQ.out _).size (HROWQ.out _) hgrow4); (have hr4 := HR2.out.below hb4); have f1 := hr4.c_l; (have hsrc := Ap.SrcAt.back (k := k) hr4.row HKL.out); rw [if_neg hck, Option.map_some, Ap.add_plain] at hsrc; (have HSRC := Lib.hid hsrc); have HOWN4 := Lib.hid hown4; have HB4 := Lib.hid hb4; clear hown4 hgrow4 hlie4 hlt4 hb4 hr4 hsrc)
              | (at_builtin; refine Ap.wpList_any _ rfl _ _ 41 rfl W2.heap.size 86 i0 (.agg #[.int .i64 0, .int .i64 0]) 2 16 Tryd.underlying41 hi hz0 hz1 hz2 rfl (by decide) _ _ _ rfl HOWN4.out _ _ _ _ rfl HSRC.out HONE.out m4 m5 HB4.out.size ?_; intro v5 w5 hown5 hgrow5 hlie5; obtain ⟨q5, r5, rfl⟩ := own_any_shape hown5; (have hb5 : Below W2.heap.size W2 w5 := HB4.out.grown hgrow5 HB4.out.size (fun j hj => (HOWN4.out.lt j hj).1)); (have hr5 := HR2.out.below hb5); have f2 := hr5.c_l; have f3 := hr5.f_l 1; have HOWN5 := Lib.hid hown5; have HB5 := Lib.hid hb5; clear hown5 hgrow5 hlie5 hb5 hr5))
            have HFIN := Lib.hid (rset_end HI.out HM.out HSORT.out HLO.out HS1.out HS2.out HO1.out HB12.out HR2.out HRL.out HKL.out HALL.out HSTOP.out HB5.out HOWN5.out)
            go_ret
            exact HFIN.out
    · have h1' : (n : Int) ≤ i := by omega
      have HR : Hid (RSetPost lo r n R i key w (.returned (.int .i64 1)) w) := by
        unfold RSetPost; rw [if_neg (by omega)]; exact ⟨rfl, rfl⟩
      clear h1 h0
      go_enter Tryd.func17, Tryd.ntmps17
      go_wp2
      go_ret
      exact HR.out

end Hp
end Go.Proofs.YtkmgpajodbadmaaDoor
