/- The document's expiry, lineageref21: entries as a list. without, Forget, Next, Due. -/
import Derived.Test.YtkmgpajodbadmaaDoorExpFor
import Derived.Deep.AppendLies
namespace Go.Proofs.YtkmgpajodbadmaaDoor
open Go.RowKit
set_option linter.unusedVariables false
namespace Ex
open Hp (It ahd)

def encE (x : Ent) : List Value := [.int .i64 x.1, .int .i64 x.2.1, .int .i64 x.2.2]
def encEs (L : List Ent) : List Value := L.flatMap encE
theorem encEs_len (L : List Ent) : (encEs L).length = L.length * 3 := by
  induction L with
  | nil => rfl
  | cons a r ih => simp [encEs, encE] at ih ⊢; omega
theorem encEs_cons (a : Ent) (r : List Ent) : encEs (a :: r) = .int .i64 a.1 :: .int .i64 a.2.1 :: .int .i64 a.2.2 :: encEs r := rfl
theorem encEs_snoc (L : List Ent) (x : Ent) : encEs (L ++ [x]) = encEs L ++ [.int .i64 x.1, .int .i64 x.2.1, .int .i64 x.2.2] := by simp [encEs, encE]
theorem encEs_at : ∀ (L : List Ent) (k : Nat) (h : k < L.length), (encEs L)[k * 3]? = some (.int .i64 L[k].1) ∧ (encEs L)[k * 3 + 1]? = some (.int .i64 L[k].2.1) ∧ (encEs L)[k * 3 + 2]? = some (.int .i64 L[k].2.2)
  | a :: r, 0, _ => ⟨rfl, rfl, rfl⟩
  | a :: r, k + 1, h => by
    have ih := encEs_at r k (by simpa using h)
    rw [encEs_cons, show (k + 1) * 3 = k * 3 + 1 + 1 + 1 by omega]
    exact ⟨by simpa using ih.1, by simpa using ih.2.1, by simpa using ih.2.2⟩
theorem ent_info : (Tryd.prog.info? 128).map (fun i => (i.zero, i.size, i.bytes)) = some (some (.agg #[.int .i64 0, .int .i64 0, .int .i64 0]), 3, 24) := by kernel_rfl
theorem own_shape {w : World} {base e size n : Nat} {v : Value} {xs : List Value} (h : w.ownsRow base e size v n xs) : ∃ q r, v = .slice q n r := by
  rcases h.2 with ⟨rfl, rfl⟩ | ⟨g, cap, cur, rfl, _⟩
  · exact ⟨_, _, rfl⟩
  · exact ⟨_, _, rfl⟩

/-- The reference's expiry: the list S, whose value is v. -/
structure RefE (lo r : Nat) (S : List Ent) (v : Value) (w : World) : Prop where
  top : w.heap[r]? = some (.cells #[v] 56 (0, 0))
  row : w.ownsRow lo 128 3 v S.length (encEs S)
  loR : lo ≤ r
theorem RefE.c_l {lo r : Nat} {S : List Ent} {v : Value} {w : World} (h : RefE lo r S v w) : w.cell? ⟨r, 0, none⟩ = some v := by rw [cell_of_row _ _ _ _ _ _ h.top]; rfl
theorem RefE.f_l {lo r : Nat} {S : List Ent} {v : Value} {w : World} (h : RefE lo r S v w) (j : Nat) : w.frozen? ⟨r, j, none⟩ = false := by unfold World.frozen?; rw [h.top]; rfl
theorem RefE.lt {lo r : Nat} {S : List Ent} {v : Value} {w : World} (h : RefE lo r S v w) : r < w.heap.size := (Array.getElem?_eq_some_iff.1 h.top).1
theorem RefE.only {G : Nat → Prop} {lo r : Nat} {S : List Ent} {v : Value} {w w' : World} (h : RefE lo r S v w) (ho : Only G w w') (h1 : ¬ G r) (h2 : ∀ b, v.ownBlock = some b → ¬ G b) : RefE lo r S v w' :=
  ⟨(ho.block r h.lt h1).trans h.top, ho.row h.row h2, h.loR⟩
theorem RefE.below {lo r : Nat} {S : List Ent} {v : Value} {w w' : World} (h : RefE lo r S v w) (hb : Below w.heap.size w w') : RefE lo r S v w' :=
  h.only (Only.of_below (F := fun _ => False) hb) (fun h => h) (fun _ _ h => h)
theorem RefE.lay {lo r : Nat} {S S' : List Ent} {v v' : Value} {w1 : World} (h : RefE lo r S v w1) (hr : w1.ownsRow lo 128 3 v' S'.length (encEs S')) (hne : ∀ b, v'.ownBlock = some b → b ≠ r) : RefE lo r S' v' (w1.setCell ⟨r, 0, none⟩ v') := by
  have ho : Only (fun b => b = r) w1 (w1.setCell ⟨r, 0, none⟩ v') := (Only.refl (fun b => b = r) w1).setCell (p := ⟨r, 0, none⟩) (fun _ => rfl) v'
  refine ⟨?_, ho.row hr (fun b e => hne b e), h.loR⟩
  have := heap_setCell_same w1 r 0 _ _ v' h.top
  rw [this]; rfl
theorem RefE.item {lo r : Nat} {S : List Ent} {v : Value} {w : World} (h : RefE lo r S v w) {k : Nat} (hk : k < S.length) :
    ∃ gv cap, v = .slice (some ⟨gv, 0, none⟩) S.length cap ∧ w.cell? ⟨gv, k * 3, none⟩ = some (.int .i64 S[k].1) ∧ w.cell? ⟨gv, k * 3 + 1, none⟩ = some (.int .i64 S[k].2.1) ∧ w.cell? ⟨gv, k * 3 + 2, none⟩ = some (.int .i64 S[k].2.2) := by
  rcases h.row.2 with ⟨_, h0⟩ | ⟨gg, cap, cur, rfl, h3, h4, h5, h6, h7, h8⟩
  · omega
  · have hc : ∀ j, j < S.length * 3 → w.cell? ⟨gg, j, none⟩ = (encEs S)[j]? := fun j hj => World.ownsRow.cellAt (w := w) ⟨h.row.1, .inr ⟨gg, cap, cur, rfl, h3, h4, h5, h6, h7, h8⟩⟩ j hj
    have e := encEs_at S k hk
    exact ⟨gg, cap, rfl, by rw [← e.1]; exact hc _ (by omega), by rw [← e.2.1]; exact hc _ (by omega), by rw [← e.2.2]; exact hc _ (by omega)⟩

theorem wo_take {S : List Ent} {k : Nat} (h : k < S.length) (s : Int) : wo (S.take (k + 1)) s = wo (S.take k) s ++ if S[k].1 = s then [] else [S[k]] := by
  rw [List.take_succ_eq_append_getElem h]
  unfold wo
  rw [List.filter_append]
  congr 1
  by_cases e : S[k].1 = s
  · rw [if_pos e]; simp [e]
  · rw [if_neg e]; simp [e]
theorem wo_le (S : List Ent) (s : Int) : (wo S s).length ≤ S.length := List.length_filter_le _ _
theorem wo_len (S : List Ent) (s : Int) : decide ((wo S s).length < S.length) = (birthOf S s).isSome := by
  induction S with
  | nil => rfl
  | cons x r ih =>
    rw [birthOf_cons]
    unfold wo
    rw [List.filter_cons]
    by_cases e : x.1 = s
    · rw [if_neg (by simp [e]), if_pos e]
      have := List.length_filter_le (fun e : Ent => e.1 != s) r
      simp; omega
    · rw [if_pos (by simp [e]), if_neg e, ← ih]
      unfold wo; simp

def WoPost (lo r : Nat) (S : List Ent) (s : Int) (w : World) (e : Ending) (w' : World) : Prop :=
  e = .returned (.bool (birthOf S s).isSome) ∧ ∃ v', RefE lo r (wo S s) v' w' ∧ Only (fun b => b = r) w w' ∧ ∀ b, v'.ownBlock = some b → w.heap.size ≤ b
def WoRel (S : List Ent) (s : Int) (w : World) (lv kv : Value) (wr : World) : Prop :=
  ∃ k : Nat, k ≤ S.length ∧ kv = .int .i64 k ∧ wr.ownsRow w.heap.size 128 3 lv (wo (S.take k) s).length (encEs (wo (S.take k) s)) ∧ Below w.heap.size w wr

set_option maxHeartbeats 2000000 in
theorem wo_any (lo r : Nat) (S : List Ent) (v : Value) (w : World) (h : RefE lo r S v w) (hl : (S.length : Int) ≤ 65536) (s : Int) (hlo : lo ≤ w.heap.size) :
    Calls Tryd.prog 66 #[.pointer (some ⟨r, 0, none⟩), .int .i64 s] w (WoPost lo r S s w) := by
  obtain ⟨i0, hi, hz0, hz1, hz2⟩ := info_parts ent_info
  have HR := Lib.hid h
  obtain ⟨q, c, rfl⟩ := own_shape h.row
  clear h
  have HLO := Lib.hid hlo
  clear hlo
  go_enter Tryd.func66, Tryd.ntmps66
  go_wp2
  go_loopw [5, 6] (fun l k wr => WoRel S s w l k wr) (fun _ k _ => S.length - (intOf k).toNat)
  case atStart => exact ⟨0, Nat.zero_le _, rfl, World.ownsRow_nil _ _ _ _, Below.refl _ _⟩
  case round =>
    obtain ⟨k, hk, rfl, hrow, hb⟩ := hrel
    have HB := Lib.hid hb
    have c1 := (HR.out.below hb).c_l
    by_cases hlt : k < S.length
    · obtain ⟨gv, cap, e, k1, k2, k3⟩ := (HR.out.below hb).item hlt
      obtain ⟨rfl, rfl⟩ : q = some ⟨gv, 0, none⟩ ∧ c = cap := by simpa using e
      have b1 : (0 : Int) ≤ (k : Int) := by omega
      have b2 : (k : Int) < (S.length : Int) := by omega
      have HWT := Lib.hid (wo_take hlt s)
      have hle : (wo (S.take k) s).length ≤ k := by have := wo_le (S.take k) s; rw [List.length_take] at this; omega
      obtain ⟨y, hy⟩ : ∃ y, y = S[k] := ⟨_, rfl⟩
      rw [← hy] at k1 k2 k3 HWT
      obtain ⟨M, hM⟩ : ∃ M, M = wo (S.take k) s := ⟨_, rfl⟩
      rw [← hM] at hrow HWT hle
      have vk : IntKind.i64.wrap ((k : Int) + 1) = ((k + 1 : Nat) : Int) := by rw [IntWalk.i64_in _ (by omega)]; rfl
      by_cases hq : y.1 = s
      · have e1 : (y.1 != s) = false := by simp [hq]
        have HN : Hid (wo (S.take (k + 1)) s = M) := by show _ = _; rw [HWT.out, if_pos hq]; simp
        have HROW := Lib.hid hrow
        clear hq hb hy hM e hrow hle
        go_wp2
        go_roundw
        case rel => exact ⟨k + 1, by omega, by go_num, by rw [HN.out]; exact HROW.out, HB.out⟩
        case measure => simp [intOf]; omega
      · have e1 : (y.1 != s) = true := by simp [hq]
        have HN : Hid (wo (S.take (k + 1)) s = M ++ [y]) := by show _ = _; rw [HWT.out, if_neg hq]
        obtain ⟨qa, ra, rfl⟩ := own_shape hrow
        have m1 : M.length + 1 ≤ maxLen := by unfold maxLen; omega
        have m2 : (M.length + 1) * 24 ≤ 140737488355328 := by omega
        have HROW := Lib.hid hrow
        have HSZ := Lib.hid hb.size
        have m3 : w.heap.size ≤ (wr.alloc (.cells #[.int .i64 y.1, .int .i64 y.2.1, .int .i64 y.2.2] 128)).heap.size := by simp; exact Nat.le_succ_of_le HSZ.out
        clear hq hb hy hM e hrow hle
        go_wp2_with (at_builtin; refine wpList_append_lies _ rfl _ _ 54 rfl w.heap.size 128 i0 (.agg #[.int .i64 0, .int .i64 0, .int .i64 0]) 3 24 Tryd.underlying54 hi hz0 hz1 hz2 rfl (by decide) _ _ _ rfl (HROW.out.alloc _) ⟨wr.heap.size, 0, none⟩ 1 1 [.int .i64 y.1, .int .i64 y.2.1, .int .i64 y.2.2] rfl rfl (World.news_of_block (Ut.alloc_at _ _)) (by intro u hu; simp only [List.mem_cons, List.not_mem_nil, or_false] at hu; rcases hu with rfl | rfl | rfl <;> rfl) (by decide) m1 m2 m3 (wr.heap.size + 1) (by simp) ?_; intro g' cap' w1 hown' hgrow hlie hlt2)
        have HBN : Hid (Below w.heap.size w w1) := Ut.below_app HB.out HSZ.out HROW.out hgrow
        have HON : Hid (w1.ownsRow w.heap.size 128 3 (.slice (some ⟨g', 0, none⟩) (M.length + 1) cap') (wo (S.take (k + 1)) s).length (encEs (wo (S.take (k + 1)) s))) := by
          show World.ownsRow _ _ _ _ _ _ _
          rw [HN.out, encEs_snoc, List.length_append]; exact hown'
        clear hown' hgrow hlie hlt2
        go_roundw
        case rel => exact ⟨k + 1, by omega, by go_num, HON.out, HBN.out⟩
        case measure => simp [intOf]; omega
    · have hkl : k = S.length := by omega
      subst hkl
      have b2 : (S.length : Int) ≤ (S.length : Int) := by omega
      rw [List.take_length] at hrow
      have f1 := (HR.out.below hb).f_l 0
      obtain ⟨qa, ra, rfl⟩ := own_shape hrow
      have hown : ∀ b, (Value.slice qa (wo S s).length ra).ownBlock = some b → w.heap.size ≤ b := fun b e => (hrow.lt b e).1
      have hrl := HR.out.lt
      have hlay := (HR.out.below hb).lay (Ut.own_base hrow HLO.out) (fun b e => by have := hown b e; omega)
      have hon : Only (fun b => b = r) w (wr.setCell ⟨r, 0, none⟩ (.slice qa (wo S s).length ra)) := (Only.of_below (F := fun b => b = r) hb).setCell (p := ⟨r, 0, none⟩) (fun _ => rfl) _
      have hle := wo_le S s
      have hd := wo_len S s
      have HP : Hid (WoPost lo r S s w (.returned (.bool (birthOf S s).isSome)) (wr.setCell ⟨r, 0, none⟩ (.slice qa (wo S s).length ra))) := ⟨rfl, _, hlay, hon, hown⟩
      obtain ⟨M, hM⟩ : ∃ M, M = wo S s := ⟨_, rfl⟩
      rw [← hM] at HP hle hd ⊢
      by_cases hq : M.length < S.length
      · have e1 : decide (M.length < S.length) = true := by simpa using hq
        have HK : Hid ((birthOf S s).isSome = true) := by show _ = _; rw [← hd, e1]
        rw [HK.out] at HP
        clear hb hrow hown hlay hon hd hM hrl
        go_wp2
        go_ret
        exact HP.out
      · have e1 : decide (M.length < S.length) = false := by simpa using hq
        have HK : Hid ((birthOf S s).isSome = false) := by show _ = _; rw [← hd, e1]
        rw [HK.out] at HP
        clear hb hrow hown hlay hon hd hM hrl hq hle
        go_wp2
        go_ret
        exact HP.out

theorem rforget_any (lo r : Nat) (S : List Ent) (v : Value) (w : World) (h : RefE lo r S v w) (hl : (S.length : Int) ≤ 65536) (s : Int) (hlo : lo ≤ w.heap.size) :
    Calls Tryd.prog 50 #[.pointer (some ⟨r, 0, none⟩), .int .i64 s] w (WoPost lo r S s w) := by
  have HW := Lib.hid (wo_any lo r S v w h hl s hlo)
  clear h hl hlo
  go_enter Tryd.func50, Tryd.ntmps50
  go_wp2_with fail
  refine HW.out.mono ?_
  rintro e w1 ⟨rfl, h1⟩
  have HR : Hid (WoPost lo r S s w (.returned (.bool (birthOf S s).isSome)) w1) := ⟨rfl, h1⟩
  clear h1
  go_wp2
  go_ret
  exact HR.out

def nxt (S : List Ent) : Int := match S with | [] => 0 | e :: _ => e.2.2
theorem rnext_any (lo r : Nat) (S : List Ent) (v : Value) (w : World) (h : RefE lo r S v w) :
    Calls Tryd.prog 52 #[.pointer (some ⟨r, 0, none⟩)] w fun e w' => e = .returned (.tuple #[.int .i64 (nxt S), .bool (!S.isEmpty)]) ∧ w = w' := by
  have c1 := h.c_l
  cases S with
  | nil =>
    obtain ⟨q, c, rfl⟩ := own_shape h.row
    simp only [List.length_nil] at c1
    clear h
    go_enter Tryd.func52, Tryd.ntmps52
    go_wp2
    go_ret2
    exact ⟨rfl, rfl⟩
  | cons x t =>
    obtain ⟨gv, cap, rfl, k1, k2, k3⟩ := h.item (k := 0) (by simp)
    simp only [List.getElem_cons_zero] at k1 k2 k3
    obtain ⟨n, hn⟩ : ∃ n, n = (x :: t).length := ⟨_, rfl⟩
    have hn0 : 0 < n := by rw [hn]; simp
    rw [← hn] at c1
    have e0 : ((n : Int) == 0) = false := by rw [beq_eq_false_iff_ne]; omega
    have b1 : (0 : Int) < (n : Int) := by omega
    clear h hn
    go_enter Tryd.func52, Tryd.ntmps52
    go_wp2
    go_ret2
    exact ⟨rfl, rfl⟩

end Ex
end Go.Proofs.YtkmgpajodbadmaaDoor
