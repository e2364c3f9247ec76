/- The document's expiry, lineageref21: Set, Due. -/
import Derived.Test.YtkmgpajodbadmaaDoorExpRef
import Derived.Deep.Cut
namespace Go.Proofs.YtkmgpajodbadmaaDoor
open Go.RowKit
set_option linter.unusedVariables false
namespace Ex
open Hp (It ahd ahd_iff ahd_no)

theorem put_nil (x : Ent) : put [] x = [x] := rfl
theorem put_cons (e : Ent) (r : List Ent) (x : Ent) : put (e :: r) x = if ahd (itm x) (itm e) = true then x :: e :: r else e :: put r x := by
  cases h : ahd (itm x) (itm e) with
  | true => simp [put, h]
  | false => simp [put, h]
def pf (S : List Ent) (x : Ent) : Bool := S.any fun e => ahd (itm x) (itm e)
theorem put_yes {S : List Ent} {x : Ent} (h : pf S x = true) (T : List Ent) : put (S ++ T) x = put S x ++ T := by
  induction S with
  | nil => cases h
  | cons e r ih =>
    rw [List.cons_append, put_cons, put_cons]
    by_cases he : ahd (itm x) (itm e) = true
    · rw [if_pos he, if_pos he]; rfl
    · rw [if_neg he, if_neg he]
      have : pf r x = true := by unfold pf at h ⊢; simpa [he] using h
      rw [ih this]; rfl
theorem put_no {S : List Ent} {x : Ent} (h : pf S x = false) (T : List Ent) : put (S ++ T) x = S ++ put T x := by
  induction S with
  | nil => rfl
  | cons e r ih =>
    have h1 : ¬ ahd (itm x) (itm e) = true := fun he => by unfold pf at h; simp [he] at h
    have h2 : pf r x = false := by
      unfold pf at h ⊢
      rw [List.any_cons] at h
      exact (Bool.or_eq_false_iff.1 h).2
    rw [List.cons_append, put_cons, if_neg h1, ih h2]; rfl
def outL (S : List Ent) (x : Ent) (k : Nat) : List Ent := if pf (S.take k) x = true then put (S.take k) x else S.take k
theorem pf_snoc (S : List Ent) (e x : Ent) : pf (S ++ [e]) x = (pf S x || ahd (itm x) (itm e)) := by unfold pf; simp
theorem out_next {S : List Ent} {k : Nat} (h : k < S.length) (x : Ent) :
    (pf (S.take k) x = true → pf (S.take (k + 1)) x = true ∧ outL S x (k + 1) = outL S x k ++ [S[k]]) ∧
    (pf (S.take k) x = false → ahd (itm x) (itm S[k]) = true → pf (S.take (k + 1)) x = true ∧ outL S x (k + 1) = outL S x k ++ [x] ++ [S[k]]) ∧
    (pf (S.take k) x = false → ahd (itm x) (itm S[k]) = false → pf (S.take (k + 1)) x = false ∧ outL S x (k + 1) = outL S x k ++ [S[k]]) := by
  unfold outL
  rw [List.take_succ_eq_append_getElem h, pf_snoc]
  refine ⟨fun h1 => ?_, fun h1 h2 => ?_, fun h1 h2 => ?_⟩
  · rw [h1, if_pos (by simp), if_pos rfl, put_yes h1]; exact ⟨rfl, rfl⟩
  · rw [h1, h2, if_pos (by simp), if_neg (by simp), put_no h1, put_cons, if_pos h2]; simp
  · rw [h1, h2, if_neg (by simp), if_neg (by simp)]; exact ⟨rfl, rfl⟩
theorem out_end (S : List Ent) (x : Ent) : put S x = outL S x S.length ++ if pf S x = true then [] else [x] := by
  unfold outL
  rw [List.take_length]
  cases h : pf S x with
  | true => simp
  | false =>
    have := put_no h (T := [])
    rw [List.append_nil, put_nil] at this
    simp [this]
theorem out_len (S : List Ent) (x : Ent) (k : Nat) (hk : k ≤ S.length) : (outL S x k).length ≤ k + 1 := by
  unfold outL
  split
  · have := (put_perm (S.take k) x).length_eq
    rw [this]; simp; omega
  · simp; omega
theorem out_no {S : List Ent} {x : Ent} {k : Nat} (hk : k ≤ S.length) (h : pf (S.take k) x = false) : (outL S x k).length = k := by
  unfold outL
  rw [if_neg (by rw [h]; simp)]
  simp; omega

theorem olen {n k m : Nat} (h : n ≤ k + 1) (h2 : (m : Int) ≤ 65536) (h3 : k < m) : n + 1 ≤ maxLen ∧ (n + 1) * 24 ≤ 140737488355328 ∧ n + 1 + 1 ≤ maxLen ∧ (n + 1 + 1) * 24 ≤ 140737488355328 := by
  unfold maxLen
  refine ⟨by omega, by omega, by omega, by omega⟩
theorem olen2 {n k m : Nat} (h : n ≤ k + 1) (h3 : k ≤ m) (h2 : (m : Int) ≤ 65536) : n + 1 ≤ maxLen ∧ (n + 1) * 24 ≤ 140737488355328 := by
  unfold maxLen
  refine ⟨by omega, by omega⟩
theorem wrap1 {k m : Nat} (h2 : (m : Int) ≤ 65536) (h3 : k < m) : IntKind.i64.wrap ((k : Int) + 1) = ((k + 1 : Nat) : Int) := by rw [IntWalk.i64_in _ (by omega)]; rfl

def RSetE (lo r : Nat) (S : List Ent) (x : Ent) (w : World) (e : Ending) (w' : World) : Prop :=
  e = .returned (.int .i64 0) ∧ ∃ v', RefE lo r (put (wo S x.1) x) v' w' ∧ Only (fun b => b = r) w w' ∧ ∀ b, v'.ownBlock = some b → w.heap.size ≤ b

theorem rset_no (r : Nat) (s b a : Int) (h : ¬ okE s b a) (w : World) : Calls Tryd.prog 48 #[.pointer (some ⟨r, 0, none⟩), .agg #[.int .i64 s, .int .i64 b], .int .i64 a] w fun e w' => e = .returned (.int .i64 1) ∧ Below w.heap.size w w' := by
  have HB : Hid (Below w.heap.size w (w.alloc (.cells #[.int .i64 s, .int .i64 b] 59))) := (Below.refl _ _).alloc (Nat.le_refl _) _
  unfold okE at h
  by_cases h0 : s < 0
  · clear h
    go_enter Tryd.func48, Tryd.ntmps48
    go_wp2
    go_ret
    exact ⟨rfl, HB.out⟩
  · have t0 : 0 ≤ s := by omega
    clear h0
    by_cases h1 : 31 < s
    · have h32 : 32 ≤ s := by omega
      clear h
      go_enter Tryd.func48, Tryd.ntmps48
      go_wp2
      go_ret
      exact ⟨rfl, HB.out⟩
    · have t1 : s ≤ 31 := by omega
      clear h1
      by_cases h2 : b < 1
      · clear h
        go_enter Tryd.func48, Tryd.ntmps48
        go_wp2
        go_ret
        exact ⟨rfl, HB.out⟩
      · have t2 : 1 ≤ b := by omega
        clear h2
        by_cases h3 : 1048576 < b
        · clear h
          go_enter Tryd.func48, Tryd.ntmps48
          go_wp2
          go_ret
          exact ⟨rfl, HB.out⟩
        · have t3 : b ≤ 1048576 := by omega
          clear h3
          by_cases h4 : a < 0
          · clear h
            go_enter Tryd.func48, Tryd.ntmps48
            go_wp2
            go_ret
            exact ⟨rfl, HB.out⟩
          · have t4 : 0 ≤ a := by omega
            clear h4
            have h5 : 1099511627776 < a := by omega
            clear h
            go_enter Tryd.func48, Tryd.ntmps48
            go_wp2
            go_ret
            exact ⟨rfl, HB.out⟩

def RSetRel (S : List Ent) (x : Ent) (W2 : World) (lv pv kv : Value) (wr : World) : Prop :=
  ∃ k : Nat, k ≤ S.length ∧ kv = .int .i64 k ∧ pv = .bool (pf (S.take k) x) ∧ wr.ownsRow W2.heap.size 128 3 lv (outL S x k).length (encEs (outL S x k)) ∧ Below W2.heap.size W2 wr

theorem rset_fin {lo r : Nat} {S M : List Ent} {x : Ent} {v1 v5 : Value} {w W w1 w5 : World} (hM : M = wo S x.1) (hlo : lo ≤ w.heap.size) (hbW : Below w.heap.size w W) (ho1 : Only (fun b => b = r) W w1) (hr1 : RefE lo r M v1 w1) (hrl : r < w.heap.size) (hb5 : Below w1.heap.size w1 w5)
    (hown : w5.ownsRow w1.heap.size 128 3 v5 (put M x).length (encEs (put M x))) : RSetE lo r S x w (.returned (.int .i64 0)) (w5.setCell ⟨r, 0, none⟩ v5) := by
  have hs : w.heap.size ≤ w1.heap.size := Nat.le_trans hbW.size ho1.size
  have hne : ∀ b, v5.ownBlock = some b → w1.heap.size ≤ b := fun b e => (hown.lt b e).1
  subst hM
  refine ⟨rfl, v5, (hr1.below hb5).lay (Ut.own_base hown (Nat.le_trans hlo hs)) (fun b e => by have := hne b e; omega), ?_, fun b e => Nat.le_trans hs (hne b e)⟩
  have h3 : Only (fun b => b = r) w w5 := ((Only.of_below (F := fun b => b = r) hbW).trans ho1 (fun _ _ h => h)).trans (Only.of_below (F := fun b => b = r) hb5) (fun _ _ h => h)
  exact h3.setCell (p := ⟨r, 0, none⟩) (fun _ => rfl) v5

set_option maxRecDepth 100000 in
set_option maxHeartbeats 4000000 in
theorem rset_ok (lo r : Nat) (S : List Ent) (v : Value) (w : World) (h : RefE lo r S v w) (hl : (S.length : Int) ≤ 65536) (hlo : lo ≤ w.heap.size) (s b a : Int) (hok : okE s b a) :
    Calls Tryd.prog 48 #[.pointer (some ⟨r, 0, none⟩), .agg #[.int .i64 s, .int .i64 b], .int .i64 a] w (RSetE lo r S (s, b, a) w) := by
  obtain ⟨i0, hi, hz0, hz1, hz2⟩ := info_parts ent_info
  obtain ⟨g1, g2, g3, g4, g5, g6⟩ := hok
  obtain ⟨W, hW⟩ : ∃ W, W = w.alloc (.cells #[.int .i64 s, .int .i64 b] 59) := ⟨_, rfl⟩
  have hbW : Below w.heap.size w W := by rw [hW]; exact (Below.refl _ _).alloc (Nat.le_refl _) _
  have x0 : W.cell? ⟨w.heap.size, 0, none⟩ = some (.int .i64 s) := by rw [hW]; simp
  have x1 : W.cell? ⟨w.heap.size, 1, none⟩ = some (.int .i64 b) := by rw [hW]; simp
  have hszW : w.heap.size < W.heap.size := by rw [hW]; simp
  have hrl := h.lt
  have HWO := Lib.hid (wo_any lo r S v W (h.below hbW) hl s (by omega))
  have HLO := Lib.hid hlo; have HBW := Lib.hid hbW; have HSW := Lib.hid hszW; have HRL := Lib.hid hrl; have HL := Lib.hid hl; have HX0 := Lib.hid x0; have HX1 := Lib.hid x1
  have hW2 := hW
  rw [hW2] at x0 x1 HWO
  clear h hlo hbW hszW hrl hl hW2
  go_enter Tryd.func48, Tryd.ntmps48
  go_wp2_with fail
  refine HWO.out.mono ?_
  rintro e w1 ⟨rfl, v1, hr1, ho1, hn1⟩
  rw [← hW] at ho1
  have hml : (wo S s).length ≤ S.length := wo_le S s
  obtain ⟨M, hM⟩ : ∃ M, M = wo S s := ⟨_, rfl⟩
  rw [← hM] at hr1 hml
  have hm64 : (M.length : Int) ≤ 65536 := by have := HL.out; omega
  have hs1 := ho1.size
  have hxr : w.heap.size ≠ r := by have := HRL.out; omega
  have z0 : w1.cell? ⟨w.heap.size, 0, none⟩ = some (.int .i64 s) := (ho1.cell (p := ⟨w.heap.size, 0, none⟩) HSW.out hxr).trans HX0.out
  have z1 : w1.cell? ⟨w.heap.size, 1, none⟩ = some (.int .i64 b) := (ho1.cell (p := ⟨w.heap.size, 1, none⟩) HSW.out hxr).trans HX1.out
  have HZ0 := Lib.hid z0; have HZ1 := Lib.hid z1
  have HO1 := Lib.hid ho1; have HM := Lib.hid hM; have HM64 := Lib.hid hm64; have HS1 := Lib.hid hs1
  have hsw1 : w.heap.size < w1.heap.size := Nat.lt_of_lt_of_le HSW.out hs1
  have HSW1 := Lib.hid hsw1
  have HR1 := Lib.hid hr1
  obtain ⟨q, c, rfl⟩ := own_shape hr1.row
  clear hr1 ho1 hn1 hM hm64 hs1 hml z0 z1 hxr x0 x1 hsw1 hW
  go_wp2
  go_loopw [7, 8, 9] (fun l p k wr => RSetRel M (s, b, a) w1 l p k wr) (fun _ _ k _ => M.length - (intOf k).toNat)
  case atStart => exact ⟨0, Nat.zero_le _, rfl, rfl, World.ownsRow_nil _ _ _ _, Below.refl _ _⟩
  case round =>
    obtain ⟨k, hk, rfl, rfl, hrow, hb⟩ := hrel
    have HB := Lib.hid hb; have HROW := Lib.hid hrow
    have c2 := (HR1.out.below hb).c_l
    have z0 : wr.cell? ⟨w.heap.size, 0, none⟩ = some (.int .i64 s) := (hb.cell (p := ⟨w.heap.size, 0, none⟩) HSW1.out).trans HZ0.out
    have z1 : wr.cell? ⟨w.heap.size, 1, none⟩ = some (.int .i64 b) := (hb.cell (p := ⟨w.heap.size, 1, none⟩) HSW1.out).trans HZ1.out
    have b1 : (0 : Int) ≤ (k : Int) := by omega
    obtain ⟨ql, rl, rfl⟩ := own_shape hrow
    have hol := out_len M (s, b, a) k hk
    have HOL := Lib.hid hol
    by_cases hlt : k < M.length
    · obtain ⟨gv, cap, e, k1, k2, k3⟩ := (HR1.out.below hb).item hlt
      obtain ⟨rfl, rfl⟩ : q = some ⟨gv, 0, none⟩ ∧ c = cap := by simpa using e
      have b2 : (k : Int) < (M.length : Int) := by omega
      have hnx := out_next hlt (s, b, a)
      obtain ⟨y, hy⟩ : ∃ y, y = M[k] := ⟨_, rfl⟩
      rw [← hy] at k1 k2 k3 hnx
      have HLT := Lib.hid hlt
      -- the round's own block
      obtain ⟨wx, hwx⟩ : ∃ wx, wx = wr.alloc (.cells #[.int .i64 y.1, .int .i64 y.2.1, .int .i64 y.2.2] 128) := ⟨_, rfl⟩
      have hbx : Below w1.heap.size w1 wx := by rw [hwx]; exact hb.alloc hb.size _
      have hrx : wx.ownsRow w1.heap.size 128 3 (.slice ql (outL M (s, b, a) k).length rl) (outL M (s, b, a) k).length (encEs (outL M (s, b, a) k)) := by rw [hwx]; exact hrow.alloc _
      have y0 : wx.cell? ⟨wr.heap.size, 0, none⟩ = some (.int .i64 y.1) := by rw [hwx]; simp
      have y1 : wx.cell? ⟨wr.heap.size, 1, none⟩ = some (.int .i64 y.2.1) := by rw [hwx]; simp
      have y2 : wx.cell? ⟨wr.heap.size, 2, none⟩ = some (.int .i64 y.2.2) := by rw [hwx]; simp
      have u0 : wx.cell? ⟨w.heap.size, 0, none⟩ = some (.int .i64 s) := (hbx.cell (p := ⟨w.heap.size, 0, none⟩) HSW1.out).trans HZ0.out
      have u1 : wx.cell? ⟨w.heap.size, 1, none⟩ = some (.int .i64 b) := (hbx.cell (p := ⟨w.heap.size, 1, none⟩) HSW1.out).trans HZ1.out
      have HBX := Lib.hid hbx; have HRX := Lib.hid hrx
      have hyl : wr.heap.size < wx.heap.size := by rw [hwx]; simp
      have HYL := Lib.hid hyl
      have HY0 := Lib.hid y0; have HY1 := Lib.hid y1; have HY2 := Lib.hid y2
      have HBS := Lib.hid hb.size
      clear hrow hb hbx hrx hy e hyl hol hlt
      obtain ⟨O, hO⟩ : ∃ O, O = outL M (s, b, a) k := ⟨_, rfl⟩
      rw [← hO] at hnx HRX HROW HOL
      have HNX := Lib.hid hnx
      clear hnx
      rw [← hO]
      obtain ⟨m1, m2, m3, m4⟩ := olen HOL.out HM64.out HLT.out
      have vk : IntKind.i64.wrap ((k : Int) + 1) = ((k + 1 : Nat) : Int) := wrap1 HM64.out HLT.out
      clear hO
      cases hpf : pf (M.take k) (s, b, a) with
      | true =>
        have HN := Lib.hid (HNX.out.1 hpf)
        clear hpf
        go_upto_region 10 with (fail)
        rw [← hwx]
        have HWX := Lib.hid hwx
        clear hwx
        go_wp2_with (at_builtin; refine wpList_append_lies _ rfl _ _ 54 rfl w1.heap.size 128 i0 (.agg #[.int .i64 0, .int .i64 0, .int .i64 0]) 3 24 Tryd.underlying54 hi hz0 hz1 hz2 rfl (by decide) _ _ _ rfl (HRX.out.alloc _) ⟨wx.heap.size, 0, none⟩ 1 1 [.int .i64 y.1, .int .i64 y.2.1, .int .i64 y.2.2] rfl rfl (World.news_of_block (Ut.alloc_at _ _)) (by intro u hu; simp only [List.mem_cons, List.not_mem_nil, or_false] at hu; rcases hu with rfl | rfl | rfl <;> rfl) (by decide) m1 m2 (Nat.le_trans HBX.out.size (by simp)) (wx.heap.size + 1) (by simp) ?_; intro g' cap' w5 hown' hgrow hlie hlt2)
        have HBN := Lib.hid (Ut.below_app HBX.out HBX.out.size HRX.out hgrow)
        have HON : Hid (w5.ownsRow w1.heap.size 128 3 (.slice (some ⟨g', 0, none⟩) (O.length + 1) cap') (outL M (s, b, a) (k + 1)).length (encEs (outL M (s, b, a) (k + 1)))) := by
          show World.ownsRow _ _ _ _ _ _ _
          rw [HN.out.2, encEs_snoc, List.length_append]; exact hown'
        clear hown' hgrow hlie hlt2
        go_roundw
        case rel => exact ⟨k + 1, HLT.out, by go_num, by rw [HN.out.1], HON.out, HBN.out⟩
        case measure => have := HLT.out; clear vk; simp [intOf]; omega
      | false =>
        cases hah : ahd (itm (s, b, a)) (itm y) with
        | true =>
          have HN := Lib.hid (HNX.out.2.1 hpf hah)
          have hah2 := ahd_iff.1 hah
          have h3 : a < y.2.2 ∨ (a = y.2.2 ∧ s < y.1) := hah2
          clear hpf hah hah2
          rcases h3 with h3 | ⟨h3, h4⟩
          · go_upto_region 10 with (fail)
            rw [← hwx]
            have HWX := Lib.hid hwx
            clear hwx
            go_wp2_with (first
              | (at_builtin; refine wpList_append_lies _ rfl _ _ 54 rfl w1.heap.size 128 i0 (.agg #[.int .i64 0, .int .i64 0, .int .i64 0]) 3 24 Tryd.underlying54 hi hz0 hz1 hz2 rfl (by decide) _ _ _ rfl (HRX.out.alloc _) ⟨wx.heap.size, 0, none⟩ 1 1 [.int .i64 s, .int .i64 b, .int .i64 a] rfl rfl (World.news_of_block (Ut.alloc_at _ _)) (by intro u hu; simp only [List.mem_cons, List.not_mem_nil, or_false] at hu; rcases hu with rfl | rfl | rfl <;> rfl) (by decide) m1 m2 (Nat.le_trans HBX.out.size (by simp)) (wx.heap.size + 1) (by simp) ?_; intro g4 cap4 w4 hown4 hgrow4 hlie4 hlt4; (have HB4 := Lib.hid (Ut.below_app HBX.out HBX.out.size HRX.out hgrow4)); (have hkp : ∀ j, w4.cell? ⟨wr.heap.size, j, none⟩ = wx.cell? ⟨wr.heap.size, j, none⟩ := fun j => (World.cell?_of_block (hgrow4.block wr.heap.size (Nat.lt_of_lt_of_le HYL.out (by simp)) (fun e => absurd (HROW.out.lt wr.heap.size e.symm).2 (Nat.lt_irrefl _)))).trans (World.cell?_alloc_lt wx _ ⟨wr.heap.size, j, none⟩ HYL.out)); have v0 := (hkp 0).trans HY0.out; have v1 := (hkp 1).trans HY1.out; have v2 := (hkp 2).trans HY2.out; (have HO4 : Hid (w4.ownsRow w1.heap.size 128 3 (.slice (some ⟨g4, 0, none⟩) (O.length + 1) cap4) (O.length + 1) (encEs (O ++ [(s, b, a)]))) := by (show World.ownsRow _ _ _ _ _ _ _); rw [encEs_snoc]; exact hown4); clear hown4 hgrow4 hlie4 hlt4 hkp)
              | (at_builtin; refine wpList_append_lies _ rfl _ _ 54 rfl w1.heap.size 128 i0 (.agg #[.int .i64 0, .int .i64 0, .int .i64 0]) 3 24 Tryd.underlying54 hi hz0 hz1 hz2 rfl (by decide) _ _ _ rfl (HO4.out.alloc _) ⟨w4.heap.size, 0, none⟩ 1 1 [.int .i64 y.1, .int .i64 y.2.1, .int .i64 y.2.2] rfl rfl (World.news_of_block (Ut.alloc_at _ _)) (by intro u hu; simp only [List.mem_cons, List.not_mem_nil, or_false] at hu; rcases hu with rfl | rfl | rfl <;> rfl) (by decide) m3 m4 (Nat.le_trans HB4.out.size (by simp)) (w4.heap.size + 1) (by simp) ?_; intro g' cap' w5 hown' hgrow hlie hlt2))
            have HBN := Lib.hid (Ut.below_app HB4.out HB4.out.size HO4.out hgrow)
            have HON : Hid (w5.ownsRow w1.heap.size 128 3 (.slice (some ⟨g', 0, none⟩) (O.length + 1 + 1) cap') (outL M (s, b, a) (k + 1)).length (encEs (outL M (s, b, a) (k + 1)))) := by
              show World.ownsRow _ _ _ _ _ _ _
              rw [HN.out.2, encEs_snoc, List.length_append, List.length_append]; exact hown'
            clear hown' hgrow hlie hlt2
            go_roundw
            case rel => exact ⟨k + 1, HLT.out, by go_num, by rw [HN.out.1], HON.out, HBN.out⟩
            case measure => have := HLT.out; clear vk; simp [intOf]; omega
          · have e5 : (y.2.2 == a) = true := by simp [h3]
            have e6 : decide (a < y.2.2) = false := by simp [h3]
            clear h3
            go_upto_region 10 with (fail)
            rw [← hwx]
            have HWX := Lib.hid hwx
            clear hwx
            go_wp2_with (first
              | (at_builtin; refine wpList_append_lies _ rfl _ _ 54 rfl w1.heap.size 128 i0 (.agg #[.int .i64 0, .int .i64 0, .int .i64 0]) 3 24 Tryd.underlying54 hi hz0 hz1 hz2 rfl (by decide) _ _ _ rfl (HRX.out.alloc _) ⟨wx.heap.size, 0, none⟩ 1 1 [.int .i64 s, .int .i64 b, .int .i64 a] rfl rfl (World.news_of_block (Ut.alloc_at _ _)) (by intro u hu; simp only [List.mem_cons, List.not_mem_nil, or_false] at hu; rcases hu with rfl | rfl | rfl <;> rfl) (by decide) m1 m2 (Nat.le_trans HBX.out.size (by simp)) (wx.heap.size + 1) (by simp) ?_; intro g4 cap4 w4 hown4 hgrow4 hlie4 hlt4; (have HB4 := Lib.hid (Ut.below_app HBX.out HBX.out.size HRX.out hgrow4)); (have hkp : ∀ j, w4.cell? ⟨wr.heap.size, j, none⟩ = wx.cell? ⟨wr.heap.size, j, none⟩ := fun j => (World.cell?_of_block (hgrow4.block wr.heap.size (Nat.lt_of_lt_of_le HYL.out (by simp)) (fun e => absurd (HROW.out.lt wr.heap.size e.symm).2 (Nat.lt_irrefl _)))).trans (World.cell?_alloc_lt wx _ ⟨wr.heap.size, j, none⟩ HYL.out)); have v0 := (hkp 0).trans HY0.out; have v1 := (hkp 1).trans HY1.out; have v2 := (hkp 2).trans HY2.out; (have HO4 : Hid (w4.ownsRow w1.heap.size 128 3 (.slice (some ⟨g4, 0, none⟩) (O.length + 1) cap4) (O.length + 1) (encEs (O ++ [(s, b, a)]))) := by (show World.ownsRow _ _ _ _ _ _ _); rw [encEs_snoc]; exact hown4); clear hown4 hgrow4 hlie4 hlt4 hkp)
              | (at_builtin; refine wpList_append_lies _ rfl _ _ 54 rfl w1.heap.size 128 i0 (.agg #[.int .i64 0, .int .i64 0, .int .i64 0]) 3 24 Tryd.underlying54 hi hz0 hz1 hz2 rfl (by decide) _ _ _ rfl (HO4.out.alloc _) ⟨w4.heap.size, 0, none⟩ 1 1 [.int .i64 y.1, .int .i64 y.2.1, .int .i64 y.2.2] rfl rfl (World.news_of_block (Ut.alloc_at _ _)) (by intro u hu; simp only [List.mem_cons, List.not_mem_nil, or_false] at hu; rcases hu with rfl | rfl | rfl <;> rfl) (by decide) m3 m4 (Nat.le_trans HB4.out.size (by simp)) (w4.heap.size + 1) (by simp) ?_; intro g' cap' w5 hown' hgrow hlie hlt2))
            have HBN := Lib.hid (Ut.below_app HB4.out HB4.out.size HO4.out hgrow)
            have HON : Hid (w5.ownsRow w1.heap.size 128 3 (.slice (some ⟨g', 0, none⟩) (O.length + 1 + 1) cap') (outL M (s, b, a) (k + 1)).length (encEs (outL M (s, b, a) (k + 1)))) := by
              show World.ownsRow _ _ _ _ _ _ _
              rw [HN.out.2, encEs_snoc, List.length_append, List.length_append]; exact hown'
            clear hown' hgrow hlie hlt2
            go_roundw
            case rel => exact ⟨k + 1, HLT.out, by go_num, by rw [HN.out.1], HON.out, HBN.out⟩
            case measure => have := HLT.out; clear vk; simp [intOf]; omega
        | false =>
          have HN := Lib.hid (HNX.out.2.2 hpf hah)
          have hah2 := ahd_no.1 hah
          have h3 : ¬ (a < y.2.2 ∨ (a = y.2.2 ∧ s < y.1)) := hah2
          clear hpf hah hah2
          by_cases h4 : a = y.2.2
          · have h5 : y.1 ≤ s := by omega
            have e5 : (y.2.2 == a) = true := by simp [h4]
            have e6 : decide (a < y.2.2) = false := by simp [h4]
            clear h3 h4
            go_upto_region 10 with (fail)
            rw [← hwx]
            have HWX := Lib.hid hwx
            clear hwx
            go_wp2_with (at_builtin; refine wpList_append_lies _ rfl _ _ 54 rfl w1.heap.size 128 i0 (.agg #[.int .i64 0, .int .i64 0, .int .i64 0]) 3 24 Tryd.underlying54 hi hz0 hz1 hz2 rfl (by decide) _ _ _ rfl (HRX.out.alloc _) ⟨wx.heap.size, 0, none⟩ 1 1 [.int .i64 y.1, .int .i64 y.2.1, .int .i64 y.2.2] rfl rfl (World.news_of_block (Ut.alloc_at _ _)) (by intro u hu; simp only [List.mem_cons, List.not_mem_nil, or_false] at hu; rcases hu with rfl | rfl | rfl <;> rfl) (by decide) m1 m2 (Nat.le_trans HBX.out.size (by simp)) (wx.heap.size + 1) (by simp) ?_; intro g' cap' w5 hown' hgrow hlie hlt2)
            have HBN := Lib.hid (Ut.below_app HBX.out HBX.out.size HRX.out hgrow)
            have HON : Hid (w5.ownsRow w1.heap.size 128 3 (.slice (some ⟨g', 0, none⟩) (O.length + 1) cap') (outL M (s, b, a) (k + 1)).length (encEs (outL M (s, b, a) (k + 1)))) := by
              show World.ownsRow _ _ _ _ _ _ _
              rw [HN.out.2, encEs_snoc, List.length_append]; exact hown'
            clear hown' hgrow hlie hlt2
            go_roundw
            case rel => exact ⟨k + 1, HLT.out, by go_num, by rw [HN.out.1], HON.out, HBN.out⟩
            case measure => have := HLT.out; clear vk; simp [intOf]; omega
          · have h5 : y.2.2 < a := by omega
            have e5 : (y.2.2 == a) = false := by rw [beq_eq_false_iff_ne]; omega
            clear h3 h4
            go_upto_region 10 with (fail)
            rw [← hwx]
            have HWX := Lib.hid hwx
            clear hwx
            go_wp2_with (at_builtin; refine wpList_append_lies _ rfl _ _ 54 rfl w1.heap.size 128 i0 (.agg #[.int .i64 0, .int .i64 0, .int .i64 0]) 3 24 Tryd.underlying54 hi hz0 hz1 hz2 rfl (by decide) _ _ _ rfl (HRX.out.alloc _) ⟨wx.heap.size, 0, none⟩ 1 1 [.int .i64 y.1, .int .i64 y.2.1, .int .i64 y.2.2] rfl rfl (World.news_of_block (Ut.alloc_at _ _)) (by intro u hu; simp only [List.mem_cons, List.not_mem_nil, or_false] at hu; rcases hu with rfl | rfl | rfl <;> rfl) (by decide) m1 m2 (Nat.le_trans HBX.out.size (by simp)) (wx.heap.size + 1) (by simp) ?_; intro g' cap' w5 hown' hgrow hlie hlt2)
            have HBN := Lib.hid (Ut.below_app HBX.out HBX.out.size HRX.out hgrow)
            have HON : Hid (w5.ownsRow w1.heap.size 128 3 (.slice (some ⟨g', 0, none⟩) (O.length + 1) cap') (outL M (s, b, a) (k + 1)).length (encEs (outL M (s, b, a) (k + 1)))) := by
              show World.ownsRow _ _ _ _ _ _ _
              rw [HN.out.2, encEs_snoc, List.length_append]; exact hown'
            clear hown' hgrow hlie hlt2
            go_roundw
            case rel => exact ⟨k + 1, HLT.out, by go_num, by rw [HN.out.1], HON.out, HBN.out⟩
            case measure => have := HLT.out; clear vk; simp [intOf]; omega
    · have hkl : k = M.length := by omega
      have b2 : (M.length : Int) ≤ (k : Int) := by omega
      have hpk : pf (M.take k) (s, b, a) = pf M (s, b, a) := by rw [hkl, List.take_length]
      have hend := out_end M (s, b, a)
      rw [← hkl] at hend
      have HEND := Lib.hid hend
      have f1 := (HR1.out.below hb).f_l 0
      obtain ⟨m1, m2⟩ := olen2 hol hk HM64.out
      obtain ⟨O, hO⟩ : ∃ O, O = outL M (s, b, a) k := ⟨_, rfl⟩
      rw [← hO] at HEND HROW m1 m2
      rw [← hO, hpk]
      cases hpf : pf M (s, b, a) with
      | true =>
        have hfin := rset_fin (x := (s, b, a)) HM.out HLO.out HBW.out HO1.out HR1.out HRL.out HB.out (by rw [HEND.out, hpf, if_pos rfl, List.append_nil]; exact HROW.out)
        have HF := Lib.hid hfin
        clear hfin hpf hpk hend hO hrow hb hol hk hkl hlt
        go_wp2
        go_ret
        exact HF.out
      | false =>
        have HPF := Lib.hid hpf
        have hfr : ∀ w5, Below w1.heap.size w1 w5 → w5.frozen? ⟨r, 0, none⟩ = false ∧ w5.cell? ⟨r, 0, none⟩ = some (.slice q M.length c) := fun w5 h5 => ⟨(HR1.out.below h5).f_l 0, (HR1.out.below h5).c_l⟩
        have HFR := Lib.hid hfr
        clear hfr hpf hpk hend hO hrow hb hol hk hkl hlt
        go_wp2_with (at_builtin; refine wpList_append_lies _ rfl _ _ 54 rfl w1.heap.size 128 i0 (.agg #[.int .i64 0, .int .i64 0, .int .i64 0]) 3 24 Tryd.underlying54 hi hz0 hz1 hz2 rfl (by decide) _ _ _ rfl (HROW.out.alloc _) ⟨wr.heap.size, 0, none⟩ 1 1 [.int .i64 s, .int .i64 b, .int .i64 a] rfl rfl (World.news_of_block (Ut.alloc_at _ _)) (by intro u hu; simp only [List.mem_cons, List.not_mem_nil, or_false] at hu; rcases hu with rfl | rfl | rfl <;> rfl) (by decide) m1 m2 (Nat.le_trans HB.out.size (by simp)) (wr.heap.size + 1) (by simp) ?_; intro g' cap' w5 hown' hgrow hlie hlt2; (have HB5 := Lib.hid (Ut.below_app HB.out HB.out.size HROW.out hgrow)); obtain ⟨f5, c5⟩ := HFR.out _ HB5.out; have HOWN := Lib.hid hown'; clear hown' hgrow hlie hlt2)
        have hfin := rset_fin (x := (s, b, a)) (v5 := .slice (some ⟨g', 0, none⟩) (O.length + 1) cap') HM.out HLO.out HBW.out HO1.out HR1.out HRL.out HB5.out (by
          rw [HEND.out, HPF.out, if_neg (by simp), encEs_snoc, List.length_append]; exact HOWN.out)
        have HF := Lib.hid hfin
        clear hfin
        go_ret
        exact HF.out

end Ex
end Go.Proofs.YtkmgpajodbadmaaDoor
