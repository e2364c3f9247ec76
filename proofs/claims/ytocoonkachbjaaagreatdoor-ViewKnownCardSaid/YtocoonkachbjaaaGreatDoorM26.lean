/- Several texts in one: what each proves its own first comment says. -/
import Derived.Test.YtocoonkachbjaaaGreatDoorM23
import Derived.Test.YtocoonkachbjaaaGreatDoorM17
import Derived.Test.YtocoonkachbjaaaGreatDoorM25
import Derived.Test.YtocoonkachbjaaaGreatDoorM24
import Derived.Maps.AppendAt
import Derived.Test.YtocoonkachbjaaaGreatDoorM10
import Derived.Lay
import Derived.LaidHandle

/- knownOdd: lists that are no forest; ViewKnown (printed by wip/mkkn3.py). -/
namespace Go.Proofs.YtocoonkachbjaaaGreatDoor
open Go.RowKit Go.Maps Go.Proofs.NmPlain Go.Proofs.Ar Go.Proofs.YtocoonkachbjaaaGreatDoor.Sc
set_option linter.unusedVariables false
namespace Vw
/-- A list that grows: of sessions that may be asked for. -/
def Grow (B m : Nat) (l : Value) (wr : World) : Prop := ∃ ss : List Sess, ss.length = m ∧ (∀ s ∈ ss, Good s) ∧ wr.ownsRow B 30 12 l m (allV ss)
theorem Grow.nil (B : Nat) (w : World) : Grow B 0 (.slice none 0 0) w := ⟨[], rfl, fun s hs => absurd hs (by simp), World.ownsRow_nil _ _ _ _⟩
theorem Grow.push {B m : Nat} {v' : Value} {w1 : World} {ss : List Sess} (hl : ss.length = m) (hg : ∀ s ∈ ss, Good s) {s : Sess} (hs : Good s) (hown' : w1.ownsRow B 30 12 v' (m + 1) (allV ss ++ s.cells)) : Grow B (m + 1) v' w1 :=
  ⟨ss ++ [s], by rw [List.length_append, hl]; rfl, fun t ht => by
    rcases List.mem_append.1 ht with h | h
    · exact hg t h
    · rw [List.mem_singleton.1 h]; exact hs, by rw [allV_snoc]; exact hown'⟩
def G1 (W1 : World) (l k i : Value) (wr : World) : Prop :=
  ∃ m : Nat, m ≤ 5 ∧ i = .int .i64 m ∧ (∃ d : Nat, d ≤ 243 ∧ k = .int .i64 d) ∧ Grow W1.heap.size m l wr ∧ Below W1.heap.size W1 wr
def G2 (W1 : World) (l n i : Value) (wr : World) : Prop :=
  ∃ m : Nat, m ≤ 9 ∧ i = .int .i64 m ∧ Grow W1.heap.size m l wr ∧ Grow W1.heap.size m n wr ∧ (∀ b, l.ownBlock = some b → n.ownBlock ≠ some b) ∧ Below W1.heap.size W1 wr
theorem wf_nat {n : Nat} (h : n ≤ 1000) : (Lit.int .i64 (n : Int)).wf = true := WalkArith.wf_i64 (n := (n : Int)) (by omega)
theorem good_lit (b u d : Nat) (user label : ByteArray) (hb : b ≤ 1000) (hu : u ≤ 1000) (hd : d ≤ 1000) (h1 : user.size ≤ 1048576) (h2 : label.size ≤ 1048576) : Good ⟨0, b, 0, u, 0, user, label, 0, 0, 0, d, 0⟩ :=
  ⟨⟨wf_nat hb, wf_nat hu, by show (0 : Nat) < 18446744073709551616; decide, by show user.size ≤ _; omega, by show label.size ≤ _; omega, wf_nat hd⟩, h1, h2⟩

theorem onto {f : Nat} {args : Array Value} {B W : World} {r : Ending} (hb : Below B.heap.size B W) (h : Calls Tryz.prog f args W fun e w' => e = r ∧ Below W.heap.size W w') : Calls Tryz.prog f args W fun e w' => e = r ∧ Below B.heap.size B w' :=
  h.mono fun e w' h => ⟨h.1, hb.trans (h.2.mono hb.size)⟩
theorem sess_low {w : World} {q q' : Option Addr} {n c c' a : Nat} {ss : List Sess} (h : SessArg w (.slice q n c) ss) (ha : a < c) (hn : n = ss.length) (hq : q' = (if c = a then q else q.map (·.add (a * 12)))) : SessArg w (.slice q' (n - a) c') (ss.drop a) := by
  subst hn
  refine ⟨q', c', by rw [List.length_drop], fun j hj => ?_⟩
  rw [List.length_drop] at hj
  have hj2 : a + j < ss.length := by omega
  obtain ⟨g, o, h1, h2, h3⟩ := h.at hj2
  subst h1
  rw [if_neg (by omega)] at hq
  refine ⟨g, o + a * 12, by rw [hq]; simp [Addr.add], h2, fun i u hi => ?_⟩
  rw [List.getElem_drop] at hi
  have := h3 i u hi
  rw [show o + a * 12 + j * 12 + i = o + (a + j) * 12 + i by omega]
  exact this

theorem two_apart {B m k : Nat} {w w1 : World} {e : TypeId} {l n v' : Value} {xs ys : List Value} {o : Obj} (hl : w.ownsRow B e 12 l m xs) (hn : w.ownsRow B e 12 n k ys) (hap : ∀ b, l.ownBlock = some b → n.ownBlock ≠ some b) (hg : (w.alloc o).grownBy w1 l.ownBlock) (hat : v'.ownBlock = l.ownBlock ∨ v'.ownBlock = some (w.alloc o).heap.size) : w1.ownsRow B e 12 n k ys ∧ ∀ b, v'.ownBlock = some b → n.ownBlock ≠ some b := by
  refine ⟨own_grown (hn.alloc o) hg (fun b hb e2 => hap b e2.symm hb), fun b hb hc => ?_⟩
  rcases hat with h | h
  · exact hap b (h ▸ hb) hc
  · rw [h] at hb
    have h1 := (hn.lt b hc).2
    have h2 : (w.alloc o).heap.size = b := Option.some.inj hb
    rw [World.size_alloc] at h2
    omega
theorem nil_sess (w : World) : SessArg w (.slice none 0 0) [] := ⟨none, 0, rfl, fun j hj => absurd hj (Nat.not_lt_zero _)⟩

set_option maxRecDepth 100000 in
set_option maxHeartbeats 8000000 in
theorem knownOdd_any (w : World) (hg : erHandle w) (he : VEnv w) : Calls Tryz.prog 19 #[] w fun e w' => e = .returned (.bool true) ∧ Below w.heap.size w w' := by
  have HE := Lib.hid he; have HG := Lib.hid hg
  clear he hg
  obtain ⟨i0, hi, hz0, hz1, hz2⟩ := info_parts vinfo_sess
  obtain ⟨vb, hvb⟩ : ∃ vb : List ByteArray, vb = [⟨#[97]⟩] := ⟨_, rfl⟩
  have hvl : vb.length ≤ maxLen := by rw [hvb]; decide
  have hvs : ∀ s ∈ vb, s.size ≤ 1048576 := by rw [hvb]; intro s hs; rw [List.mem_singleton.1 hs]; decide
  obtain ⟨W1, hW1⟩ : ∃ W1, W1 = (w.alloc (.cells (vb.map Value.string).toArray 9)).alloc (.cells #[.slice (some ⟨w.heap.size, 0, none⟩) 1 1, .int .i64 5] 24) := ⟨_, rfl⟩
  have hb1 : Below w.heap.size w W1 := by rw [hW1]; exact ((Below.refl _ _).alloc (Nat.le_refl _) _).alloc (by simp) _
  have hx1 : W1.heap[w.heap.size + 1]? = some (.cells #[.slice (some ⟨w.heap.size, 0, none⟩) 1 1, .int .i64 5] 24 (0, 0)) := by
    rw [hW1]
    have := Ut.alloc_at (w.alloc (.cells (vb.map Value.string).toArray 9)) (.cells #[.slice (some ⟨w.heap.size, 0, none⟩) 1 1, .int .i64 5] 24)
    rwa [World.size_alloc] at this
  have ht1 : TextArg W1 (.slice (some ⟨w.heap.size, 0, none⟩) 1 1) vb := by
    rw [hW1]
    have h := (Tx.lit_arg w vb 9)
    have e1 : vb.length = 1 := by rw [hvb]; rfl
    rw [e1] at h
    exact h.below ((Below.refl _ _).alloc (Nat.le_refl _) _)
  have HVL := Lib.hid hvl; have HVS := Lib.hid hvs
  have HB1 := Lib.hid hb1; have HX1 := Lib.hid hx1; have HT1 := Lib.hid ht1
  have HRM : Hid (∀ W, Below W1.heap.size W1 W → W.heap[w.heap.size + 1]? = some (.cells #[.slice (some ⟨w.heap.size, 0, none⟩) 1 1, .int .i64 5] 24 (0, 0))) := fun W hb => (hb.block _ (Array.getElem?_eq_some_iff.1 hx1).1).trans hx1
  have HCTR : Hid (∀ (v : Value) (ss : List Sess) (B W : World), ss.length ≤ 300 → (∀ s ∈ ss, Good s) → Below W1.heap.size W1 B → Below B.heap.size B W → SessArg B v ss → Calls Tryz.prog 4 #[.agg #[.slice (some ⟨w.heap.size, 0, none⟩) 1 1, .int .i64 5], v] W fun e w' => e = .returned (.bool true) ∧ Below B.heap.size B w') := fun v ss B W h1 h2 h3 h4 h5 => by
    have hw1 : Below W1.heap.size W1 W := h3.trans (h4.mono h3.size)
    have hw : Below w.heap.size w W := HB1.out.trans (hw1.mono HB1.out.size)
    exact onto h4 (viewTrees_core _ vb HVL.out HVS.out 5 (by decide) v ss (by omega) (fun t ht => (h2 t ht).1) (fun t ht => (h2 t ht).2) W (HG.out.below HG.out.lt hw) (HE.out.below hw) (HT1.out.below hw1) (h5.below h4))
  have HCBE : Hid (∀ (v : Value) (ss : List Sess) (b m : Int) (B W : World), ss.length ≤ 300 → (∀ s ∈ ss, Good s) → Below B.heap.size B W → SessArg B v ss → Calls Tryz.prog 57 #[v, .int .i64 b, .int .i64 m] W fun e w' => e = .returned (.bool true) ∧ Below B.heap.size B w') := fun v ss b m B W h1 h2 h4 h5 =>
    onto h4 (viewBelow_core v ss (by omega) (fun t ht => ⟨(h2 t ht).1.wb, (h2 t ht).1.wu⟩) b m W (h5.below h4))
  have HCWH : Hid (∀ (v : Value) (ss : List Sess) (B W : World), ss.length ≤ 300 → (∀ s ∈ ss, Good s) → Below W1.heap.size W1 B → Below B.heap.size B W → SessArg B v ss → Calls Tryz.prog 58 #[v, .int .i64 5] W fun e w' => e = .returned (.bool true) ∧ Below B.heap.size B w') := fun v ss B W h1 h2 h3 h4 h5 =>
    onto h4 (viewWhole_core v ss (by omega) (fun t ht => (h2 t ht).1) 5 (by decide) W (HE.out.below (HB1.out.trans ((h3.trans (h4.mono h3.size)).mono HB1.out.size))) (h5.below h4))
  have HCSM : Hid (∀ (v : Value) (ss : List Sess) (B W : World), ss.length ≤ 300 → (∀ s ∈ ss, Good s) → Below W1.heap.size W1 B → Below B.heap.size B W → SessArg B v ss → Calls Tryz.prog 59 #[v, .int .i64 5] W fun e w' => e = .returned (.bool true) ∧ Below B.heap.size B w') := fun v ss B W h1 h2 h3 h4 h5 =>
    onto h4 (viewSame_core v ss (by omega) (fun t ht => (h2 t ht).1) 5 (by decide) W (HE.out.below (HB1.out.trans ((h3.trans (h4.mono h3.size)).mono HB1.out.size))) (h5.below h4))
  have HCKI : Hid (∀ (v : Value) (ss : List Sess) (n : Int) (B W : World), ss.length ≤ 300 → (∀ s ∈ ss, Good s) → Below W1.heap.size W1 B → Below B.heap.size B W → SessArg B v ss → Calls Tryz.prog 60 #[v, .int .i64 n] W fun e w' => e = .returned (.bool true) ∧ Below B.heap.size B w') := fun v ss n B W h1 h2 h3 h4 h5 =>
    onto h4 (viewKids_core v ss (by omega) (fun t ht => ⟨(h2 t ht).1.wb, (h2 t ht).1.wu⟩) n W (HE.out.below (HB1.out.trans ((h3.trans (h4.mono h3.size)).mono HB1.out.size))) (h5.below h4))
  clear hb1 hx1 ht1 hvl hvs
  subst hvb
  go_enter Tryz.func19, Tryz.ntmps19
  go_wp2_with fail
  change Code.wp _ _ _ _ ((w.alloc (.cells (([⟨#[97]⟩] : List ByteArray).map Value.string).toArray 9)).alloc (.cells #[.slice (some ⟨w.heap.size, 0, none⟩) 1 1, .int .i64 5] 24))
  rw [← hW1]
  clear hW1
  go_loopw [2] (fun t wr => ∃ k : Nat, k ≤ 243 ∧ t = .int .i64 k ∧ Below W1.heap.size W1 wr) (fun t _ => 243 - (intOf t).toNat)
  case atStart => exact ⟨0, Nat.zero_le _, rfl, Below.refl _ _⟩
  case round =>
    obtain ⟨n, hn, rfl, hb⟩ := hrel
    have HB := Lib.hid hb
    clear hb
    have z0 : (0 : Int) ≤ (n : Int) := by omega
    by_cases h : n < 243
    · have z1 : (n : Int) < 243 := by omega
      have HN := Lib.hid h
      have HST : Hid (G1 W1 (.slice none 0 0) (.int .i64 n) (.int .i64 0) wr) := ⟨0, by omega, rfl, ⟨n, hn, rfl⟩, Grow.nil _ _, HB.out⟩
      clear h hn
      go_wp2_with fail
      obtain ⟨wn, rfl⟩ : ∃ x, x = wr := ⟨_, rfl⟩
      go_loopw [3, 4, 5] (fun l k i wr => G1 W1 l k i wr) (fun _ _ i _ => 5 - (intOf i).toNat)
      case atStart => exact HST.out
      case round =>
        obtain ⟨m, hm, rfl, ⟨d, hd, rfl⟩, ⟨ss, hl, hgs, hown⟩, hb⟩ := hrel
        have HL := Lib.hid hl; have HGS := Lib.hid hgs; have HO := Lib.hid hown; have HB2 := Lib.hid hb
        have hzw : W1.heap.size ≤ wr.heap.size := hb.size
        clear hl hgs hown hb
        have y0 : (0 : Int) ≤ (m : Int) := by omega
        have x0 : (0 : Int) ≤ (d : Int) := by omega
        have x1 : (d : Int) ≤ 243 := by omega
        by_cases h5 : m < 5
        · have y1 : (m : Int) < 5 := by omega
          obtain ⟨r1, hr1⟩ : ∃ r : Nat, (m : Int).tmod 3 = (r : Int) := ⟨m % 3, by rw [Int.tmod_eq_emod_of_nonneg y0]; omega⟩
          obtain ⟨r2, hr2⟩ : ∃ r : Nat, (d : Int).tmod 3 = (r : Int) := ⟨d % 3, by rw [Int.tmod_eq_emod_of_nonneg x0]; omega⟩
          obtain ⟨r3, hr3⟩ : ∃ r : Nat, (d : Int).tdiv 3 = (r : Int) := ⟨d / 3, by rw [Int.tdiv_eq_ediv_of_nonneg x0]; omega⟩
          have k1 : r1 < 3 := by rw [Int.tmod_eq_emod_of_nonneg y0] at hr1; omega
          have k2 : r2 < 3 := by rw [Int.tmod_eq_emod_of_nonneg x0] at hr2; omega
          have k3 : r3 ≤ 243 := by rw [Int.tdiv_eq_ediv_of_nonneg x0] at hr3; omega
          have s1 : (r1 : Int) < 3 := by omega
          have s2 : (r2 : Int) < 3 := by omega
          have s3 : (r3 : Int) ≤ 243 := by omega
          have s4 : (0 : Int) ≤ (r1 : Int) := by omega
          have s5 : (0 : Int) ≤ (r2 : Int) := by omega
          have s6 : (0 : Int) ≤ (r3 : Int) := by omega
          have am1 : m + 1 ≤ maxLen := by unfold maxLen; omega
          have am2 : (m + 1) * 112 ≤ 140737488355328 := by omega
          obtain ⟨s, hs⟩ : ∃ s : Sess, s = ⟨0, 1 + (r1 : Int), 0, (r2 : Int), 0, ⟨#[117]⟩, ⟨#[98]⟩, 0, 0, 0, 9 + (m : Int), 0⟩ := ⟨_, rfl⟩
          have hgs : Good s := by
            have h := good_lit (1 + r1) r2 (9 + m) ⟨#[117]⟩ ⟨#[98]⟩ (by omega) (by omega) (by omega) (by decide) (by decide)
            rw [hs]; push_cast at h; exact h
          obtain ⟨cs, hcs⟩ : ∃ cs, cs = s.cells := ⟨_, rfl⟩
          have HCL : Hid (cs.length = 12) := by show _ = _; rw [hcs]; rfl
          have HC1 : Hid (∀ u ∈ cs, u.oneCell' = true) := by show ∀ _, _; rw [hcs]; exact s.one
          have HPU : Hid (∀ (l v' : Value) (w1 : World) (o : Obj), wr.ownsRow W1.heap.size 30 12 l m (allV ss) → w1.ownsRow W1.heap.size 30 12 v' (m + 1) (allV ss ++ cs) → (wr.alloc o).grownBy w1 l.ownBlock → G1 W1 v' (.int .i64 (r3 : Int)) (.int .i64 ((m : Int) + 1)) w1) := fun l v' w1 o a1 a2 a3 =>
            ⟨m + 1, by omega, by go_num, ⟨r3, k3, rfl⟩, Grow.push HL.out HGS.out hgs (by rw [← hcs]; exact a2), Ut.below_app HB2.out HB2.out.size a1 a3⟩
          rw [hs] at hcs
          have HCS := Lib.hid hcs
          have HK5 := Lib.hid h5
          clear hcs hs hgs k1 k2 k3 h5 hm hd
          go_wp2_with (first
            | (refine Ag.wpList_one (by rfl) 42 30 _ (by rfl) cs (by rw [HCS.out]; rfl) i0 _ Tryz.underlying42 hi hz0 (by rw [hz1]; exact HCL.out) (by rw [hz1]; decide) (by rw [hz1]; decide) ?_)
            | (at_builtin; refine wpList_append_own_at _ rfl _ _ 42 rfl W1.heap.size 30 i0 (.agg #[.int .i64 0, .int .i64 0, .int .i64 0, .int .i64 0, .int .i64 0, .string ByteArray.empty, .string ByteArray.empty, .int .u64 0, .int .i64 0, .int .i64 0, .int .i64 0, .int .i64 0]) 12 112 Tryz.underlying42 hi hz0 hz1 hz2 rfl (by decide) _ _ _ rfl (HO.out.alloc _) ⟨wr.heap.size, 0, none⟩ 1 1 cs rfl HCL.out (World.news_of_block (Ut.alloc_at _ _)) HC1.out am1 am2 (by simp; exact Nat.le_succ_of_le hzw) ?_; intro v' w1 hown' hgrow _ hat))
          have HU := Lib.hid (HPU.out _ _ _ _ HO.out hown' hgrow)
          clear hown' hgrow hat
          go_wp2
          go_roundw
          case rel => exact HU.out
          case measure => have := HK5.out; simp [intOf]; omega
        · have y1 : (5 : Int) ≤ (m : Int) := by omega
          have hm5 : m = 5 := by omega
          have hown5 := HO.out
          rw [hm5] at hown5
          obtain ⟨q, c, rfl, hc⟩ := own_any_shape hown5
          have hsa : SessArg wr (.slice q 5 c) ss := by
            have e5 : ss.length = 5 := by rw [HL.out, hm5]
            rw [← e5] at hown5 ⊢
            exact sess_of_own hown5
          have e5 : ss.length = 5 := by rw [HL.out, hm5]
          have hsa3 : SessArg wr (.slice q 3 c) (ss.take 3) := hsa.take (by omega)
          have hg3 : ∀ s ∈ ss.take 3, Good s := fun s hs => HGS.out s (List.mem_of_mem_take hs)
          have e3 : (ss.take 3).length ≤ 300 := by rw [List.length_take]; omega
          have hsh : ∀ W : World, (Instr.slice 42 (.slice q 5 c) none (some (.int .i64 3)) none).run Tryz.prog W = .ok (.slice q 3 c) W := fun W => Sl.run_high 42 30 q 5 c 3 Tryz.underlying42 (by kernel_rfl) (by omega) W
          have e300 : ss.length ≤ 300 := by omega
          have CT : Hid (∀ W, Below wr.heap.size wr W → Calls Tryz.prog 4 #[.agg #[.slice (some ⟨w.heap.size, 0, none⟩) 1 1, .int .i64 5], .slice q 5 c] W fun e w' => e = .returned (.bool true) ∧ Below wr.heap.size wr w') := fun W hb => HCTR.out _ ss wr W e300 HGS.out HB2.out hb hsa
          have CB : Hid (∀ (b m : Int) W, Below wr.heap.size wr W → Calls Tryz.prog 57 #[.slice q 5 c, .int .i64 b, .int .i64 m] W fun e w' => e = .returned (.bool true) ∧ Below wr.heap.size wr w') := fun b m W hb => HCBE.out _ ss b m wr W e300 HGS.out hb hsa
          have CW : Hid (∀ W, Below wr.heap.size wr W → Calls Tryz.prog 58 #[.slice q 5 c, .int .i64 5] W fun e w' => e = .returned (.bool true) ∧ Below wr.heap.size wr w') := fun W hb => HCWH.out _ ss wr W e300 HGS.out HB2.out hb hsa
          have CS : Hid (∀ W, Below wr.heap.size wr W → Calls Tryz.prog 59 #[.slice q 3 c, .int .i64 5] W fun e w' => e = .returned (.bool true) ∧ Below wr.heap.size wr w') := fun W hb => HCSM.out _ (ss.take 3) wr W e3 hg3 HB2.out hb hsa3
          have CK : Hid (∀ W, Below wr.heap.size wr W → Calls Tryz.prog 60 #[.slice q 3 c, .int .i64 (n : Int)] W fun e w' => e = .returned (.bool true) ∧ Below wr.heap.size wr w') := fun W hb => HCKI.out _ (ss.take 3) n wr W e3 hg3 HB2.out hb hsa3
          have HRW : Hid (∀ W, Below wr.heap.size wr W → W.heap[w.heap.size + 1]? = some (.cells #[.slice (some ⟨w.heap.size, 0, none⟩) 1 1, .int .i64 5] 24 (0, 0))) := fun W hb => HRM.out W (HB2.out.trans (hb.mono HB2.out.size))
          clear hsa hsa3 hg3 e3 e300 hown5 hm5 hm hd h5 hc e5
          have hrm := HRW.out wr (Below.refl _ _)
          go_wp2_with (first
            | (refine wpList_load_row rfl 24 _ rfl _ rfl 24 _ (0, 0) _ hrm Tryz.underlying24 rfl (by kernel_rfl) ?_))
          refine (CT.out wr (Below.refl _ _)).mono ?_
          rintro e v1 ⟨rfl, hb1⟩
          have K1 := Lib.hid hb1
          clear hb1 hrm
          go_wp2_with fail
          refine (CB.out 0 2 v1 K1.out).mono ?_
          rintro e v2 ⟨rfl, hb1⟩
          have K2 := Lib.hid hb1
          clear hb1
          go_wp2_with fail
          refine (CB.out 1 9 v2 K2.out).mono ?_
          rintro e v3 ⟨rfl, hb1⟩
          have K3 := Lib.hid hb1
          clear hb1
          go_wp2_with fail
          refine (CB.out 2 1 v3 K3.out).mono ?_
          rintro e v4 ⟨rfl, hb1⟩
          have K4 := Lib.hid hb1
          clear hb1
          go_wp2_with fail
          refine (CW.out v4 K4.out).mono ?_
          rintro e v5 ⟨rfl, hb1⟩
          have K5 := Lib.hid hb1
          clear hb1
          go_wp2_with fail
          refine (CS.out v5 K5.out).mono ?_
          rintro e v6 ⟨rfl, hb1⟩
          have K6 := Lib.hid hb1
          clear hb1
          go_wp2_with fail
          refine (CK.out v6 K6.out).mono ?_
          rintro e v7 ⟨rfl, hb1⟩
          have K7 : Hid (Below W1.heap.size W1 v7) := HB2.out.trans (hb1.mono HB2.out.size)
          clear hb1 hsh
          go_wp2
          go_roundw
          case rel => exact ⟨n + 1, HN.out, by go_num, K7.out⟩
          case measure => have := HN.out; simp [intOf]; omega
    · have z1 : (243 : Int) ≤ (n : Int) := by omega
      have HST2 : Hid (G2 W1 (.slice none 0 0) (.slice none 0 0) (.int .i64 0) wr) := ⟨0, by omega, rfl, Grow.nil _ _, Grow.nil _ _, fun b hb => (by cases hb), HB.out⟩
      clear h hn
      go_wp2_with fail
      obtain ⟨wm, rfl⟩ : ∃ x, x = wr := ⟨_, rfl⟩
      go_loopw [6, 7, 8] (fun l k i wr => G2 W1 l k i wr) (fun _ _ i _ => 9 - (intOf i).toNat)
      case atStart => exact HST2.out
      case round =>
        obtain ⟨m, hm, rfl, ⟨ss, hl, hgs, hown⟩, ⟨ts, hl2, hgt, hown2⟩, hap, hb⟩ := hrel
        have HL := Lib.hid hl; have HGS := Lib.hid hgs; have HO := Lib.hid hown; have HB2 := Lib.hid hb
        have HL2 := Lib.hid hl2; have HGT := Lib.hid hgt; have HO2 := Lib.hid hown2; have HAP := Lib.hid hap
        have hzw : W1.heap.size ≤ wr.heap.size := hb.size
        clear hl hgs hown hb hl2 hgt hown2 hap
        have y0 : (0 : Int) ≤ (m : Int) := by omega
        by_cases h9 : m < 9
        · have y1 : (m : Int) < 9 := by omega
          obtain ⟨r1, hr1⟩ : ∃ r : Nat, (m : Int).tmod 4 = (r : Int) := ⟨m % 4, by rw [Int.tmod_eq_emod_of_nonneg y0]; omega⟩
          obtain ⟨r2, hr2⟩ : ∃ r : Nat, (m : Int).tmod 3 = (r : Int) := ⟨m % 3, by rw [Int.tmod_eq_emod_of_nonneg y0]; omega⟩
          have k1 : r1 < 4 := by rw [Int.tmod_eq_emod_of_nonneg y0] at hr1; omega
          have k2 : r2 < 3 := by rw [Int.tmod_eq_emod_of_nonneg y0] at hr2; omega
          have am1 : m + 1 ≤ maxLen := by unfold maxLen; omega
          have am2 : (m + 1) * 112 ≤ 140737488355328 := by omega
          obtain ⟨s, hs⟩ : ∃ s : Sess, s = ⟨0, (m : Int) + 1, 0, (m : Int), 0, ⟨#[117]⟩, ⟨#[98]⟩, 0, 0, 0, 9, 0⟩ := ⟨_, rfl⟩
          have hgs : Good s := by
            have h := good_lit (m + 1) m 9 ⟨#[117]⟩ ⟨#[98]⟩ (by omega) (by omega) (by omega) (by decide) (by decide)
            rw [hs]; push_cast at h; exact h
          obtain ⟨t, ht⟩ : ∃ t : Sess, t = ⟨0, (r1 : Int), 0, (r2 : Int), 0, ByteArray.empty, ByteArray.empty, 0, 0, 0, 0, 0⟩ := ⟨_, rfl⟩
          have hgt : Good t := by
            have h := good_lit r1 r2 0 ByteArray.empty ByteArray.empty (by omega) (by omega) (by omega) (by decide) (by decide)
            rw [ht]; push_cast at h; exact h
          obtain ⟨cs, hcs⟩ : ∃ cs, cs = s.cells := ⟨_, rfl⟩
          obtain ⟨ds, hds⟩ : ∃ ds, ds = t.cells := ⟨_, rfl⟩
          have HCL : Hid (cs.length = 12) := by show _ = _; rw [hcs]; rfl
          have HC1 : Hid (∀ u ∈ cs, u.oneCell' = true) := by show ∀ _, _; rw [hcs]; exact s.one
          have HDL : Hid (ds.length = 12) := by show _ = _; rw [hds]; rfl
          have HD1 : Hid (∀ u ∈ ds, u.oneCell' = true) := by show ∀ _, _; rw [hds]; exact t.one
          have HPU : Hid (∀ (v1 v2 : Value) (w1 w2 : World), Below W1.heap.size W1 w2 → w2.ownsRow W1.heap.size 30 12 v1 (m + 1) (allV ss ++ cs) → w2.ownsRow W1.heap.size 30 12 v2 (m + 1) (allV ts ++ ds) → (∀ b, v2.ownBlock = some b → v1.ownBlock ≠ some b) → G2 W1 v1 v2 (.int .i64 ((m : Int) + 1)) w2) := fun v1 v2 w1 w2 a1 a2 a3 a4 =>
            ⟨m + 1, by omega, by go_num, Grow.push HL.out HGS.out hgs (by rw [← hcs]; exact a2), Grow.push HL2.out HGT.out hgt (by rw [← hds]; exact a3), fun b h1 h2 => a4 b h2 h1, a1⟩
          rw [hs] at hcs
          rw [ht] at hds
          have HCS := Lib.hid hcs; have HDS := Lib.hid hds
          have HK9 := Lib.hid h9
          have s1 : (0 : Int) ≤ (r1 : Int) := by omega
          have s2 : (0 : Int) ≤ (r2 : Int) := by omega
          clear hcs hds hs ht hgs hgt k1 k2 h9 hm
          go_upto_region 19 with (first
            | (refine Ag.wpList_one (by rfl) 42 30 _ (by rfl) cs (by rw [HCS.out]; rfl) i0 _ Tryz.underlying42 hi hz0 (by rw [hz1]; exact HCL.out) (by rw [hz1]; decide) (by rw [hz1]; decide) ?_)
            | (at_builtin; refine wpList_append_own_at _ rfl _ _ 42 rfl W1.heap.size 30 i0 (.agg #[.int .i64 0, .int .i64 0, .int .i64 0, .int .i64 0, .int .i64 0, .string ByteArray.empty, .string ByteArray.empty, .int .u64 0, .int .i64 0, .int .i64 0, .int .i64 0, .int .i64 0]) 12 112 Tryz.underlying42 hi hz0 hz1 hz2 rfl (by decide) _ _ _ rfl (HO.out.alloc _) ⟨wr.heap.size, 0, none⟩ 1 1 cs rfl HCL.out (World.news_of_block (Ut.alloc_at _ _)) HC1.out am1 am2 (by simp; exact Nat.le_succ_of_le hzw) ?_; intro v' w1 hown' hgrow _ hat))
          obtain ⟨ho7, hap7⟩ := two_apart HO.out HO2.out HAP.out hgrow hat
          have HO7 := Lib.hid ho7; have HAP7 := Lib.hid hap7; have HO6 := Lib.hid hown'
          have HB3 : Hid (Below W1.heap.size W1 w1) := Ut.below_app HB2.out HB2.out.size HO.out hgrow
          have hz1' : W1.heap.size ≤ w1.heap.size := HB3.out.size
          obtain ⟨wv, rfl⟩ : ∃ x, x = w1 := ⟨_, rfl⟩
          obtain ⟨vv, rfl⟩ : ∃ x, x = v' := ⟨_, rfl⟩
          clear hown' hgrow hat ho7 hap7
          go_wp2_with (first
            | (refine Ag.wpList_one (by rfl) 42 30 _ (by rfl) ds (by rw [HDS.out]; rfl) i0 _ Tryz.underlying42 hi hz0 (by rw [hz1]; exact HDL.out) (by rw [hz1]; decide) (by rw [hz1]; decide) ?_)
            | (at_builtin; refine wpList_append_own_at _ rfl _ _ 42 rfl W1.heap.size 30 i0 (.agg #[.int .i64 0, .int .i64 0, .int .i64 0, .int .i64 0, .int .i64 0, .string ByteArray.empty, .string ByteArray.empty, .int .u64 0, .int .i64 0, .int .i64 0, .int .i64 0, .int .i64 0]) 12 112 Tryz.underlying42 hi hz0 hz1 hz2 rfl (by decide) _ _ _ rfl (HO7.out.alloc _) ⟨wv.heap.size, 0, none⟩ 1 1 ds rfl HDL.out (World.news_of_block (Ut.alloc_at _ _)) HD1.out am1 am2 (by simp; exact Nat.le_succ_of_le hz1') ?_; intro v' w1 hown' hgrow _ hat))
          obtain ⟨ho8, hap8⟩ := two_apart HO7.out HO6.out (fun b h1 h2 => HAP7.out b h2 h1) hgrow hat
          have HU := Lib.hid (HPU.out _ _ w1 w1 (Ut.below_app HB3.out HB3.out.size HO7.out hgrow) ho8 hown' hap8)
          clear hown' hgrow hat ho8 hap8
          go_wp2
          go_roundw
          case rel => exact HU.out
          case measure => have := HK9.out; simp [intOf]; omega
        · have y1 : (9 : Int) ≤ (m : Int) := by omega
          have hm9 : m = 9 := by omega
          have hown9 := HO.out
          have hown9b := HO2.out
          rw [hm9] at hown9 hown9b
          obtain ⟨q, c, rfl, hc⟩ := own_any_shape hown9
          obtain ⟨q2, c2, rfl, hc2⟩ := own_any_shape hown9b
          have e9 : ss.length = 9 := by rw [HL.out, hm9]
          have e9b : ts.length = 9 := by rw [HL2.out, hm9]
          have hsa : SessArg wr (.slice q 9 c) ss := by
            rw [← e9] at hown9 ⊢
            exact sess_of_own hown9
          have hsb : SessArg wr (.slice q2 9 c2) ts := by
            rw [← e9b] at hown9b ⊢
            exact sess_of_own hown9b
          have CT : Hid (∀ W, Below wr.heap.size wr W → Calls Tryz.prog 4 #[.agg #[.slice (some ⟨w.heap.size, 0, none⟩) 1 1, .int .i64 5], .slice q 9 c] W fun e w' => e = .returned (.bool true) ∧ Below wr.heap.size wr w') := fun W hb => HCTR.out _ ss wr W (by omega) HGS.out HB2.out hb hsa
          have CN : Hid (∀ W, Below wr.heap.size wr W → Calls Tryz.prog 4 #[.agg #[.slice (some ⟨w.heap.size, 0, none⟩) 1 1, .int .i64 5], .slice none 0 0] W fun e w' => e = .returned (.bool true) ∧ Below wr.heap.size wr w') := fun W hb => HCTR.out _ [] wr W (by simp) (by simp) HB2.out hb (nil_sess _)
          have CB : Hid (∀ (b m : Int) W, Below wr.heap.size wr W → Calls Tryz.prog 57 #[.slice q 9 c, .int .i64 b, .int .i64 m] W fun e w' => e = .returned (.bool true) ∧ Below wr.heap.size wr w') := fun b m W hb => HCBE.out _ ss b m wr W (by omega) HGS.out hb hsa
          have CO : Hid (∀ (b m : Int) W, Below wr.heap.size wr W → Calls Tryz.prog 57 #[.slice q2 9 c2, .int .i64 b, .int .i64 m] W fun e w' => e = .returned (.bool true) ∧ Below wr.heap.size wr w') := fun b m W hb => HCBE.out _ ts b m wr W (by omega) HGT.out hb hsb
          have CZ : Hid (∀ (b m : Int) W, Below wr.heap.size wr W → Calls Tryz.prog 57 #[.slice none 0 0, .int .i64 b, .int .i64 m] W fun e w' => e = .returned (.bool true) ∧ Below wr.heap.size wr w') := fun b m W hb => HCBE.out _ [] b m wr W (by simp) (by simp) hb (nil_sess _)
          have CP : Hid (∀ (k : Nat) (q' : Option Addr) (b m : Int) W, k < 9 → q' = (if c2 = k then q2 else q2.map (·.add (k * 12))) → Below wr.heap.size wr W → Calls Tryz.prog 57 #[.slice q' (9 - k) (c2 - k), .int .i64 b, .int .i64 m] W fun e w' => e = .returned (.bool true) ∧ Below wr.heap.size wr w') := fun k q' b m W hk hq hb => HCBE.out _ (ts.drop k) b m wr W (by rw [List.length_drop]; omega) (fun s hs => HGT.out s (List.mem_of_mem_drop hs)) hb (sess_low hsb (by omega) e9b.symm hq)
          have CQ : Hid (∀ (k : Nat) (b m : Int) W, k < 9 → Below wr.heap.size wr W → Calls Tryz.prog 57 #[.slice q2 k c2, .int .i64 b, .int .i64 m] W fun e w' => e = .returned (.bool true) ∧ Below wr.heap.size wr w') := fun k b m W hk hb => HCBE.out _ (ts.take k) b m wr W (by rw [List.length_take]; omega) (fun s hs => HGT.out s (List.mem_of_mem_take hs)) hb (hsb.take (by omega))
          have HRW : Hid (∀ W, Below wr.heap.size wr W → W.heap[w.heap.size + 1]? = some (.cells #[.slice (some ⟨w.heap.size, 0, none⟩) 1 1, .int .i64 5] 24 (0, 0))) := fun W hb => HRM.out W (HB2.out.trans (hb.mono HB2.out.size))
          have HC2 := Lib.hid hc2; have SAH := Lib.hid hsa; have HE9 : Hid (ss.length ≤ 300) := (show ss.length ≤ 300 by omega)
          clear hsa hsb hown9 hown9b hm9 hm h9 hc hc2 e9 e9b
          have hrm := HRW.out wr (Below.refl _ _)
          go_wp2_with (first
            | (refine wpList_load_row rfl 24 _ rfl _ rfl 24 _ (0, 0) _ hrm Tryz.underlying24 rfl (by kernel_rfl) ?_))
          refine (CT.out wr (Below.refl _ _)).mono ?_
          rintro e v1 ⟨rfl, hb1⟩
          have K1 := Lib.hid hb1
          clear hb1 hrm
          go_wp2_with fail
          refine (HCSM.out _ ss wr v1 HE9.out HGS.out HB2.out K1.out (SAH.out)).mono ?_
          rintro e v2 ⟨rfl, hb1⟩
          have K2 := Lib.hid hb1
          clear hb1
          go_wp2_with fail
          refine (CB.out 2 3 v2 K2.out).mono ?_
          rintro e v3 ⟨rfl, hb1⟩
          have K3 := Lib.hid hb1
          clear hb1
          obtain ⟨wz, rfl⟩ : ∃ x, x = wr := ⟨_, rfl⟩
          go_wp2_with fail
          go_loopw [9] (fun t wr => ∃ k : Nat, k ≤ 9 ∧ t = .int .i64 k ∧ Below wz.heap.size wz wr) (fun t _ => 9 - (intOf t).toNat)
          case atStart => exact ⟨0, Nat.zero_le _, rfl, K3.out⟩
          case round =>
            obtain ⟨k, hk, rfl, hb⟩ := hrel
            have L0 := Lib.hid hb
            clear hb
            have x0 : (0 : Int) ≤ (k : Int) := by omega
            by_cases h9 : k < 9
            · have x1 : (k : Int) < 9 := by omega
              obtain ⟨q', hq', hsl⟩ := Sl.run_low (P := Tryz.prog) 42 30 q2 9 c2 k 12 Tryz.underlying42 (by kernel_rfl) (by omega) HC2.out
              have hsh := Sl.run_high (P := Tryz.prog) 42 30 q2 9 c2 k Tryz.underlying42 (by kernel_rfl) (by have := HC2.out; omega)
              have HQ := Lib.hid hq'; have HK9 := Lib.hid h9
              clear hq' h9 hk
              go_wp2_with fail
              refine (CP.out k q' 0 k wr HK9.out HQ.out L0.out).mono ?_
              rintro e y1 ⟨rfl, hb1⟩
              have L1 := Lib.hid hb1
              clear hb1
              go_wp2_with fail
              refine (CQ.out k 0 2 y1 HK9.out L1.out).mono ?_
              rintro e y2 ⟨rfl, hb1⟩
              have L2 := Lib.hid hb1
              clear hb1
              go_wp2_with fail
              refine (CO.out k 3 y2 L2.out).mono ?_
              rintro e y3 ⟨rfl, hb1⟩
              have L3 := Lib.hid hb1
              clear hb1 hsl hsh
              go_wp2
              go_roundw
              case rel => exact ⟨k + 1, HK9.out, by go_num, L3.out⟩
              case measure => have := HK9.out; simp [intOf]; omega
            · have x1 : (9 : Int) ≤ (k : Int) := by omega
              clear h9 hk
              have hrm := HRW.out wr L0.out
              go_wp2_with (first
                | (refine wpList_load_row rfl 24 _ rfl _ rfl 24 _ (0, 0) _ hrm Tryz.underlying24 rfl (by kernel_rfl) ?_))
              refine (CN.out wr L0.out).mono ?_
              rintro e y1 ⟨rfl, hb1⟩
              have L1 := Lib.hid hb1
              clear hb1 hrm
              go_wp2_with fail
              refine (CZ.out 0 0 y1 L1.out).mono ?_
              rintro e y2 ⟨rfl, hb1⟩
              have L2 := Lib.hid hb1
              clear hb1
              go_wp2_with fail
              refine (CZ.out 7 1 y2 L2.out).mono ?_
              rintro e y3 ⟨rfl, hb1⟩
              have L3 : Hid (Below w.heap.size w y3) := HB1.out.trans ((HB2.out.trans (hb1.mono HB2.out.size)).mono HB1.out.size)
              clear hb1
              go_wp2
              go_ret
              exact ⟨rfl, L3.out⟩

end Vw
end Go.Proofs.YtocoonkachbjaaaGreatDoor

/- ViewKnown: the walk. -/
namespace Go.Proofs.YtocoonkachbjaaaGreatDoor
open Go.RowKit Go.Proofs.Ar Go.Proofs.YtocoonkachbjaaaGreatDoor.Sc
set_option linter.unusedVariables false
namespace Vw
theorem viewKnown_core (w : World) (hg : erHandle w) (he : VEnv w) : Calls Tryz.prog 5 #[] w fun e w' => e = .returned (.bool true) ∧ Below w.heap.size w w' := by
  have HE := Lib.hid he; have HG := Lib.hid hg
  clear he hg
  go_enter Tryz.func5, Tryz.ntmps5
  go_wp2_with fail
  refine (knownSaid_any w HE.out).mono ?_
  rintro e w1 ⟨rfl, hb⟩
  have B1 := Lib.hid hb
  clear hb
  go_wp2_with fail
  refine (knownWrong_any w1 (HG.out.below HG.out.lt B1.out) (HE.out.below B1.out)).mono ?_
  rintro e w2 ⟨rfl, hb⟩
  have B2 : Hid (Below w.heap.size w w2) := B1.out.trans (hb.mono B1.out.size)
  clear hb
  go_wp2_with fail
  refine (knownOdd_any w2 (HG.out.below HG.out.lt B2.out) (HE.out.below B2.out)).mono ?_
  rintro e w3 ⟨rfl, hb⟩
  have B3 : Hid (Below w.heap.size w w3) := B2.out.trans (hb.mono B2.out.size)
  clear hb
  go_wp2
  go_ret
  exact ⟨rfl, B3.out⟩
end Vw
theorem viewKnown_walk (w : World) (hL : laidMetH Tryz.prog Rows.viewKnownRow.laid w) (hsh : w.ShapedOpen Tryz.prog) :
    Calls Tryz.prog 5 #[] w fun e w' => e = .returned (.bool true) ∧ Below w.heap.size w w' :=
  Vw.viewKnown_core w (handle_of_laid hL (by kernel_rfl)) ⟨max_of_shape w hsh, parts_of_laid hL (by kernel_rfl), pow_of_laid hL (by kernel_rfl)⟩
end Go.Proofs.YtocoonkachbjaaaGreatDoor

/- A witness for a row that lists handles and pinned tables: the plain variables laid over the door's world. Of any program. -/
namespace Go.Proofs.La
open Go

theorem laidMet_over {P : Program} {w0 : World} {laid : List (String × DataW Unit)} (args : Array Value)
    (hf : w0.layFits P laid [] = true) (hi : w0.layIfaces P laid (w0.layVars P laid) = true) :
    laidMet P laid ((w0.layVars P laid).forCall (fun _ _ => 0) ⟨#[], args, []⟩).memory := by
  have e1 : (laid.filter fun x => (laid.map (·.1)).contains x.1) = laid := List.filter_eq_self.2 fun x hx => List.contains_iff_mem.2 (List.mem_map.2 ⟨x, hx, rfl⟩)
  have e2 : (laid.filter fun x => !(laid.map (·.1)).contains x.1) = [] := List.filter_eq_nil_iff.2 fun x hx => by rw [List.contains_iff_mem.2 (List.mem_map.2 ⟨x, hx, rfl⟩)]; simp
  have h : laidMet P laid (w0.layVars P laid) := laidMet_layVars (w0 := w0) (laid.map (·.1)) [] (by rw [e1]) (by rw [e1]; exact hf) (by rw [e1]; exact hi) (by rw [e2]; exact LaidIn.none)
  exact h.of_heap (by simp [World.memory, World.forCall, Input.heap])

end Go.Proofs.La
