/- The law HeapKnown: knownRows. -/
import Derived.Test.YtkmgpajodbadmaaDoorHpKnown
import Derived.Test.YtkmgpajodbadmaaDoorAppAny
namespace Go.Proofs.YtkmgpajodbadmaaDoor
open Go.RowKit Go.Proofs.Ar
set_option linter.unusedVariables false
namespace Hp

theorem lpair_info : (Tryd.prog.info? 96).map (fun i => (i.zero, i.size, i.bytes)) = some (some (.agg #[.int .i64 0, .int .i64 0]), 2, 16) := by kernel_rfl

/-- Three lists of the call's own, apart. -/
structure Three (B : Nat) (a b p : Value) (la lb : List Tri) (lp : List It) (w : World) : Prop where
  ra : w.ownsRow B 38 3 a la.length (encTs la)
  rb : w.ownsRow B 38 3 b lb.length (encTs lb)
  rp : w.ownsRow B 96 2 p lp.length (encL lp)
  ab : ∀ g, a.ownBlock = some g → b.ownBlock ≠ some g

theorem Three.ap {B : Nat} {a b p : Value} {la lb : List Tri} {lp : List It} {w : World} (h : Three B a b p la lb lp w) (g : Nat) (e : p.ownBlock = some g) : a.ownBlock ≠ some g ∧ b.ownBlock ≠ some g := by
  obtain ⟨c, hc⟩ := own_block_t h.rp e
  refine ⟨fun e2 => ?_, fun e2 => ?_⟩
  · obtain ⟨c2, h2⟩ := own_block_t h.ra e2; rw [hc] at h2; simp at h2
  · obtain ⟨c2, h2⟩ := own_block_t h.rb e2; rw [hc] at h2; simp at h2
theorem Three.below {B : Nat} {a b p : Value} {la lb : List Tri} {lp : List It} {w w' : World} (h : Three B a b p la lb lp w) (hb : Below w.heap.size w w') : Three B a b p la lb lp w' :=
  ⟨Ut.own_below h.ra hb, Ut.own_below h.rb hb, Ut.own_below h.rp hb, h.ab⟩
theorem row_keep {w w' : World} {base e size n : Nat} {v : Value} {xs : List Value} {row : Option Nat} (h : w.ownsRow base e size v n xs) (hg : w.grownBy w' row) (hr : ∀ g, v.ownBlock = some g → row ≠ some g) : w'.ownsRow base e size v n xs := by
  refine ⟨h.1, ?_⟩
  rcases h.2 with h2 | ⟨g, cap, cur, h1, h2, h3, h4⟩
  · exact .inl h2
  · exact .inr ⟨g, cap, cur, h1, h2, (hg.block g (Array.getElem?_eq_some_iff.1 h3).1 (fun e => hr g (by rw [h1]; rfl) e.symm)).trans h3, h4⟩
theorem Three.setA {B : Nat} {a a' b p : Value} {la la' lb : List Tri} {lp : List It} {w w' : World} (h : Three B a b p la lb lp w) (hg : w.grownBy w' a.ownBlock) (hr : w'.ownsRow B 38 3 a' la'.length (encTs la')) (hw : ∀ g, a'.ownBlock = some g → a.ownBlock = some g ∨ w.heap.size ≤ g) : Three B a' b p la' lb lp w' :=
  ⟨hr, row_keep h.rb hg (fun g e e2 => h.ab g e2 e), row_keep h.rp hg (fun g e e2 => (h.ap g e).1 e2), fun g e e2 => by
    rcases hw g e with h1 | h1
    · exact h.ab g h1 e2
    · have := (h.rb.lt g e2).2; omega⟩
theorem Three.setB {B : Nat} {a b b' p : Value} {la lb lb' : List Tri} {lp : List It} {w w' : World} (h : Three B a b p la lb lp w) (hg : w.grownBy w' b.ownBlock) (hr : w'.ownsRow B 38 3 b' lb'.length (encTs lb')) (hw : ∀ g, b'.ownBlock = some g → b.ownBlock = some g ∨ w.heap.size ≤ g) : Three B a b' p la lb' lp w' :=
  ⟨row_keep h.ra hg (fun g e e2 => h.ab g e e2), hr, row_keep h.rp hg (fun g e e2 => (h.ap g e).2 e2), fun g e e2 => by
    rcases hw g e2 with h1 | h1
    · exact h.ab g e h1
    · have := (h.ra.lt g e).2; omega⟩
theorem Three.setP {B : Nat} {a b p p' : Value} {la lb : List Tri} {lp lp' : List It} {w w' : World} (h : Three B a b p la lb lp w) (hg : w.grownBy w' p.ownBlock) (hr : w'.ownsRow B 96 2 p' lp'.length (encL lp')) : Three B a b p' la lb lp' w' :=
  ⟨row_keep h.ra hg (fun g e e2 => (h.ap g e2).1 e), row_keep h.rb hg (fun g e e2 => (h.ap g e2).2 e), hr, h.ab⟩

def RowRel (n : Nat) (w0 : World) (a b p i : Value) (wr : World) : Prop :=
  ∃ (k : Nat) (la lb : List Tri) (lp : List It), k ≤ n ∧ i = .int .i64 k ∧ la.length = k * 2 ∧ lb.length = k * 2 ∧ lp.length = k ∧ Three w0.heap.size a b p la lb lp wr ∧ Below w0.heap.size w0 wr

theorem own_src {w : World} {base e size n c : Nat} {q : Option Addr} {xs : List Value} (h : w.ownsRow base e size (.slice q n c) n xs) : Ap.SrcAt w q n size xs := by
  have h2 := Ap.SrcAt.back (k := 0) h (Nat.zero_le _)
  rcases h.2 with ⟨h3, h4⟩ | ⟨gg, c2, cur, h3, _⟩
  · refine .inl ⟨h4, ?_⟩
    have := h.1
    rw [h4] at this
    exact List.eq_nil_of_length_eq_zero (by simpa using this)
  · injection h3 with e1 e2 e3
    subst e1
    simp only [Nat.zero_mul, Nat.sub_zero, List.drop_zero, Option.map_some, Ap.add_plain] at h2
    split at h2 <;> exact h2

def OutRel (w0 : World) (i : Value) (wr : World) : Prop := ∃ n : Nat, 1 ≤ n ∧ n ≤ 20 ∧ i = .int .i64 n ∧ Below w0.heap.size w0 wr

set_option maxRecDepth 100000 in
set_option maxHeartbeats 4000000 in
theorem knownRows_any (w : World) (hg : erHandle w) : Calls Tryd.prog 20 #[] w fun e w' => e = .returned (.bool true) ∧ Below w.heap.size w w' := by
  obtain ⟨i0, hi, hz0, hz1, hz2⟩ := info_parts act_info
  obtain ⟨i1, hi', hz0', hz1', hz2'⟩ := info_parts lpair_info
  have HG := Lib.hid hg
  clear hg
  go_enter Tryd.func20, Tryd.ntmps20
  go_wp2
  go_loopw [1] (fun i wr => OutRel w i wr) (fun i _ => 20 - (intOf i).toNat)
  case atStart => exact ⟨1, by omega, by omega, rfl, Below.refl _ _⟩
  case round =>
    obtain ⟨n, hn1, hn2, rfl, hb⟩ := hrel
    have HB := Lib.hid hb
    clear hb
    obtain ⟨W0, rfl⟩ : ∃ W0 : World, W0 = wr := ⟨_, rfl⟩
    have b1 : (0 : Int) ≤ (n : Int) := by omega
    by_cases h : n < 20
    · have b2 : (n : Int) < 20 := by omega
      have HN := Lib.hid h
      clear h
      have hst : RowRel n W0 (.slice none 0 0) (.slice none 0 0) (.slice none 0 0) (.int .i64 (0 : Nat)) W0 :=
        ⟨0, [], [], [], by omega, rfl, rfl, rfl, rfl, ⟨World.ownsRow_nil _ _ _ _, World.ownsRow_nil _ _ _ _, World.ownsRow_nil _ _ _ _, fun g e => by simp [Value.ownBlock] at e⟩, Below.refl _ _⟩
      have HST := Lib.hid hst
      clear hst
      go_wp2
      go_loopw [2, 3, 4, 5] (fun a b p i wr => RowRel n W0 a b p i wr) (fun _ _ _ i _ => n - (intOf i).toNat)
      case atStart => exact HST.out
      case round =>
        obtain ⟨k, la, lb, lp, hk, rfl, hla, hlb, hlp, ht, hb⟩ := hrel
        have HT := Lib.hid ht; have HBK := Lib.hid hb
        have c1 : (0 : Int) ≤ (k : Int) := by omega
        by_cases h : k < n
        · have c2 : (k : Int) < (n : Int) := by omega
          have c3 : (k : Int) ≤ 19 := by omega
          have HK := Lib.hid h
          obtain ⟨qa, ra, rfl⟩ := own_any_shape ht.ra
          obtain ⟨qb, rb, rfl⟩ := own_any_shape ht.rb
          obtain ⟨qp, rp, rfl⟩ := own_any_shape ht.rp
          have HLA := Lib.hid hla; have HLB := Lib.hid hlb; have HLP := Lib.hid hlp
          have m1 : la.length + 2 ≤ maxLen := by unfold maxLen; omega
          have m2 : (la.length + 2) * 24 ≤ 140737488355328 := by omega
          have m3 : lb.length + 2 ≤ maxLen := by unfold maxLen; omega
          have m4 : (lb.length + 2) * 24 ≤ 140737488355328 := by omega
          have m5 : lp.length + 1 ≤ maxLen := by unfold maxLen; omega
          have m6 : (lp.length + 1) * 16 ≤ 140737488355328 := by omega
          clear hla hlb hlp ht hb h hk
          have vk : IntKind.i64.wrap ((k : Int) + 1) = ((k + 1 : Nat) : Int) := by rw [IntWalk.i64_in _ (by omega)]; rfl
          go_wp2_with (first
            | (at_builtin; refine wpList_append_lies _ rfl _ _ 22 rfl W0.heap.size 38 i0 (.agg #[.int .i64 0, .int .i64 0, .int .i64 0]) 3 24 Tryd.underlying22 hi hz0 hz1 hz2 rfl (by decide) _ _ _ rfl (HT.out.ra.alloc _) ⟨wr.heap.size, 0, none⟩ 2 2 [.int .i64 0, .int .i64 (k : Int), .int .i64 ((k : Int) / 2), .int .i64 3, .int .i64 0, .int .i64 (k : Int)] rfl rfl (World.news_of_block (Ut.alloc_at _ _)) (by intro u hu; simp only [List.mem_cons, List.not_mem_nil, or_false] at hu; rcases hu with rfl | rfl | rfl | rfl | rfl | rfl <;> rfl) (by decide) m1 m2 (Nat.le_trans HBK.out.size (by simp)) (wr.heap.size + 1) (by simp) ?_; intro g1 cap1 w1 hown hgrow hlie hlt; (have HB1 := Lib.hid (Ut.below_app HBK.out HBK.out.size HT.out.ra hgrow)); (have HT1 := Lib.hid ((HT.out.below ((Below.refl _ _).alloc (Nat.le_refl _) _)).setA hgrow (la' := la ++ [(0, (k : Int), (k : Int) / 2), (3, 0, (k : Int))]) (by rw [List.length_append, encTs_app]; exact hown) (fun gg e => by
                obtain rfl : g1 = gg := by simpa [Value.ownBlock] using e
                rcases hlie with h1 | h1
                · exact .inl h1
                · right; simp; omega))); clear hown hgrow hlie hlt)
            | (at_builtin; refine wpList_append_lies _ rfl _ _ 22 rfl W0.heap.size 38 i0 (.agg #[.int .i64 0, .int .i64 0, .int .i64 0]) 3 24 Tryd.underlying22 hi hz0 hz1 hz2 rfl (by decide) _ _ _ rfl (HT1.out.rb.alloc _) ⟨w1.heap.size, 0, none⟩ 2 2 [.int .i64 0, .int .i64 (k : Int), .int .i64 (-(k : Int)), .int .i64 2, .int .i64 ((k : Int) / 3), .int .i64 0] rfl rfl (World.news_of_block (Ut.alloc_at _ _)) (by intro u hu; simp only [List.mem_cons, List.not_mem_nil, or_false] at hu; rcases hu with rfl | rfl | rfl | rfl | rfl | rfl <;> rfl) (by decide) m3 m4 (Nat.le_trans HB1.out.size (by simp)) (w1.heap.size + 1) (by simp) ?_; intro g2 cap2 w2 hown hgrow hlie hlt; (have HB2 := Lib.hid (Ut.below_app HB1.out HB1.out.size HT1.out.rb hgrow)); (have HT2 := Lib.hid ((HT1.out.below ((Below.refl _ _).alloc (Nat.le_refl _) _)).setB hgrow (lb' := lb ++ [(0, (k : Int), -(k : Int)), (2, (k : Int) / 3, 0)]) (by rw [List.length_append, encTs_app]; exact hown) (fun gg e => by
                obtain rfl : g2 = gg := by simpa [Value.ownBlock] using e
                rcases hlie with h1 | h1
                · exact .inl h1
                · right; simp; omega))); clear hown hgrow hlie hlt)
            | (at_builtin; refine wpList_append_lies _ rfl _ _ 95 rfl W0.heap.size 96 i1 (.agg #[.int .i64 0, .int .i64 0]) 2 16 Tryd.underlying95 hi' hz0' hz1' hz2' rfl (by decide) _ _ _ rfl (HT2.out.rp.alloc _) ⟨w2.heap.size, 0, none⟩ 1 1 [.int .i64 ((k : Int) * 7), .int .i64 ((k : Int) % 4)] rfl rfl (World.news_of_block (Ut.alloc_at _ _)) (by intro u hu; simp only [List.mem_cons, List.not_mem_nil, or_false] at hu; rcases hu with rfl | rfl <;> rfl) (by decide) m5 m6 (Nat.le_trans HB2.out.size (by simp)) (w2.heap.size + 1) (by simp) ?_; intro g3 cap3 w3 hown hgrow hlie hlt; (have HB3 := Lib.hid (Ut.below_app HB2.out HB2.out.size HT2.out.rp hgrow)); (have HT3 := Lib.hid ((HT2.out.below ((Below.refl _ _).alloc (Nat.le_refl _) _)).setP hgrow (lp' := lp ++ [((k : Int) * 7, (k : Int) % 4)]) (by rw [List.length_append, encL_app]; exact hown))); clear hown hgrow hlie hlt))
          go_roundw
          case rel => exact ⟨k + 1, _, _, _, by have := HK.out; omega, by go_num, by have := HLA.out; rw [List.length_append]; simp; omega, by have := HLB.out; rw [List.length_append]; simp; omega, by have := HLP.out; rw [List.length_append]; simp; omega, HT3.out, HB3.out⟩
          case measure => have := HK.out; simp [intOf]; omega
        · have hkn : k = n := by omega
          subst hkn
          have b3 : decide (k < k) = false := by simp
          obtain ⟨qa, ra, rfl⟩ := own_any_shape ht.ra
          obtain ⟨qb, rb, rfl⟩ := own_any_shape ht.rb
          have HN20 : Hid (la.length + lb.length ≤ 80 ∧ lp.length ≤ 20) := ⟨by omega, by omega⟩
          have m1 : la.length + lb.length ≤ maxLen := by unfold maxLen; omega
          have m2 : (la.length + lb.length) * 24 ≤ 140737488355328 := by omega
          have HSRC := Lib.hid (own_src ht.rb)
          have HONE := Lib.hid (encTs_one lb)
          clear hla hlb hlp ht hb h hk
          go_wp2_with (first
            | (at_builtin; refine Ap.wpList_any _ rfl _ _ 22 rfl W0.heap.size 38 i0 (.agg #[.int .i64 0, .int .i64 0, .int .i64 0]) 3 24 Tryd.underlying22 hi hz0 hz1 hz2 rfl (by decide) _ _ _ rfl HT.out.ra _ _ _ _ rfl HSRC.out HONE.out m1 m2 HBK.out.size ?_; intro v5 w5 hown hgrow hlie; obtain ⟨q5, r5, rfl⟩ := own_any_shape hown; (have HB5 := Lib.hid (HBK.out.grown hgrow HBK.out.size (fun j hj => (HT.out.ra.lt j hj).1))); (have HT5 := Lib.hid (HT.out.setA hgrow (la' := la ++ lb) (by rw [List.length_append, encTs_app]; exact hown) (fun gg e => by
                rcases hlie with h1 | h1
                · exact .inl (h1.symm.trans e)
                · right; have := Option.some.inj (h1.symm.trans e); omega))); clear hown hgrow hlie)
            | fail)
          have HNL := HN20.out
          have HER := Lib.hid (fun w' (hb : Below W0.heap.size W0 w') => HG.out.below HG.out.lt (HB.out.trans (hb.mono HB.out.size)))
          obtain ⟨qp, rp, rfl⟩ := own_any_shape HT5.out.rp
          have HLN := Lib.hid HNL
          clear HNL m1 m2
          have HC1 := Lib.hid (heapPlays_core (k : Int) _ (la ++ lb) (by have := HLN.out; rw [List.length_append]; omega) w5 (HER.out _ HB5.out) (own_acts (by rw [List.length_append]) HT5.out.ra))
          go_wp2_with fail
          refine HC1.out.mono ?_
          rintro e w6 ⟨rfl, hb6⟩
          have HT6 := Lib.hid (HT5.out.below hb6)
          have HB6 := Lib.hid (HB5.out.trans (hb6.mono HB5.out.size))
          clear hb6
          have HC2 := Lib.hid (heapPlays_core (k : Int) _ lb (by have := HLN.out; omega) w6 (HER.out _ HB6.out) (own_acts rfl HT6.out.rb))
          go_wp2_with fail
          refine HC2.out.mono ?_
          rintro e w7 ⟨rfl, hb7⟩
          have HT7 := Lib.hid (HT6.out.below hb7)
          have HB7 := Lib.hid (HB6.out.trans (hb7.mono HB6.out.size))
          clear hb7
          have HC3 := Lib.hid (heapTaken_core _ lp (by have := HLN.out; omega) w7 (own_pairs rfl HT7.out.rp))
          go_wp2_with fail
          refine HC3.out.mono ?_
          rintro e w8 ⟨rfl, hb8⟩
          have HT8 := Lib.hid (HT7.out.below hb8)
          have HB8 := Lib.hid (HB7.out.trans (hb8.mono HB7.out.size))
          clear hb8
          have HC4 := Lib.hid (heapOrder_core _ lp ((k : Int), 3) (by have := HLN.out; omega) w8 (own_pairs rfl HT8.out.rp))
          go_wp2_with fail
          refine HC4.out.mono ?_
          rintro e w9 ⟨rfl, hb9⟩
          have HT9 := Lib.hid (HT8.out.below hb9)
          have HB9 := Lib.hid (HB8.out.trans (hb9.mono HB8.out.size))
          clear hb9
          have HC5 := Lib.hid (heapLast_core _ lp (by have := HLN.out; omega) w9 (own_pairs rfl HT9.out.rp))
          go_wp2_with fail
          refine HC5.out.mono ?_
          rintro e wa ⟨rfl, hba⟩
          have HBA := Lib.hid (HB.out.trans ((HB9.out.trans (hba.mono HB9.out.size)).mono HB.out.size))
          clear hba
          have vk : IntKind.i64.wrap ((k : Int) + 1) = ((k + 1 : Nat) : Int) := by rw [IntWalk.i64_in _ (by omega)]; rfl
          go_wp2
          go_roundw
          case rel => exact ⟨k + 1, by omega, by have := HN.out; omega, by go_num, HBA.out⟩
          case measure => have := HN.out; simp [intOf]; omega
    · have b2 : (20 : Int) ≤ (n : Int) := by omega
      go_wp2
      go_ret
      exact ⟨rfl, HB.out⟩

end Hp
end Go.Proofs.YtkmgpajodbadmaaDoor
