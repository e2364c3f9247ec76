/- The law HeapOrder. -/
import Derived.Test.YtkmgpajodbadmaaDoorHpTaken
import Derived.Laws.AppendOwnNone
namespace Go.Proofs.YtkmgpajodbadmaaDoor
open Go.RowKit Go.Proofs.Ar
set_option linter.unusedVariables false
namespace Hp

/-- Of the numbers the first of each, with its key. -/
def fsts (ps : List It) : List It := ps.foldl (fun S p => if p.1 % 64 ∈ S.map Prod.fst then S else S ++ [(p.1 % 64, p.2)]) []
theorem fsts_next {ps : List It} {k : Nat} (h : k < ps.length) : fsts (ps.take (k + 1)) = if ps[k].1 % 64 ∈ (fsts (ps.take k)).map Prod.fst then fsts (ps.take k) else fsts (ps.take k) ++ [(ps[k].1 % 64, ps[k].2)] := by
  rw [List.take_succ_eq_append_getElem h]
  unfold fsts
  rw [List.foldl_append]; rfl
theorem fsts_good (ps : List It) : ∀ k, k ≤ ps.length → Good (fsts (ps.take k)) 64
  | 0, _ => ⟨by simp [fsts], by simp [fsts]⟩
  | k + 1, h => by
    have ih := fsts_good ps k (by omega)
    rw [fsts_next (by omega)]
    split
    · exact ih
    · rename_i hno
      have h1 : Good ((ps[k].1 % 64, ps[k].2) :: fsts (ps.take k)) 64 := ih.cons (by simp only; omega) (by simp only; omega) (fun y hy e => hno (by rw [List.mem_map]; exact ⟨y, hy, e⟩))
      exact h1.perm (List.perm_append_comm (l₁ := fsts (ps.take k)) (l₂ := [(ps[k].1 % 64, ps[k].2)]))
theorem fin_distinct : ∀ (ps : List It), Good ps 64 → (fin ps).Perm ps := by
  intro ps
  suffices h : ∀ k, k ≤ ps.length → Good ps 64 → (fin (ps.take k)).Perm (ps.take k) by
    intro hg
    have := h ps.length (Nat.le_refl _) hg
    rwa [List.take_length] at this
  intro k
  induction k with
  | zero => intro _ _; simp [fin]
  | succ k ih =>
    intro h hg
    have ih := ih (by omega) hg
    have hk : k < ps.length := by omega
    rw [fin_next hk]
    have hr := hg.range ps[k] (List.getElem_mem hk)
    have hm : ps[k].1 % 64 = ps[k].1 := by omega
    rw [hm]
    have hno : ∀ x ∈ fin (ps.take k), x.1 ≠ ps[k].1 := fun x hx e => by
      have h1 := ih.mem_iff.1 hx
      obtain ⟨j, hj, e2⟩ := List.getElem_of_mem h1
      rw [List.length_take] at hj
      rw [List.getElem_take] at e2
      have h2 := hg.inj (i := j) (j := k) (by omega) hk (by rw [g_eq (by omega), g_eq hk, e2, e])
      omega
    rw [without_none hno, List.take_succ_eq_append_getElem hk]
    exact (List.Perm.cons _ ih).trans (List.perm_append_comm (l₁ := [ps[k]]) (l₂ := ps.take k))

theorem own_pairs {w : World} {base n : Nat} {v : Value} {ps : List It} (hn : n = ps.length) (h : w.ownsRow base 96 2 v n (encL ps)) : PairArg w v ps := by
  subst hn
  rcases Nat.eq_zero_or_pos ps.length with h0 | h0
  · have e : ps = [] := List.eq_nil_of_length_eq_zero h0
    subst e
    rcases h.2 with ⟨rfl, _⟩ | ⟨g, cap, cur, rfl, _⟩
    · exact ⟨none, 0, rfl, fun j hj => absurd hj (Nat.not_lt_zero _)⟩
    · exact ⟨_, cap, rfl, fun j hj => absurd hj (Nat.not_lt_zero _)⟩
  · obtain ⟨gv, cap, rfl, -, -, hlt, hc, -, -⟩ := row_cells h rfl h0
    refine ⟨_, cap, rfl, fun j hj => ⟨gv, 0, rfl, hlt, ?_, ?_⟩⟩
    · rw [Nat.zero_add, (hc j hj).1, g_eq hj]
    · rw [Nat.zero_add, (hc j hj).2, g_eq hj]

theorem pair_info : (Tryd.prog.info? 96).map (fun i => (i.zero, i.size, i.bytes)) = some (some (.agg #[.int .i64 0, .int .i64 0]), 2, 16) := by kernel_rfl

/-- The loop over the pairs: each number once, in order and back; which there are. -/
def OrdRel (ps : List It) (sb : Nat) (w0 : World) (once back k : Value) (wr : World) : Prop :=
  ∃ j : Nat, j ≤ ps.length ∧ k = .int .i64 j ∧ wr.ownsRow (sb + 1) 96 2 once (fsts (ps.take j)).length (encL (fsts (ps.take j))) ∧ wr.ownsRow (sb + 1) 96 2 back (fsts (ps.take j)).length (encL (fsts (ps.take j)).reverse) ∧
    (fsts (ps.take j) = [] → back = .slice none 0 0) ∧ (∀ b, once.ownBlock = some b → back.ownBlock ≠ some b) ∧ (∀ i, i < 64 → wr.cell? ⟨sb, i, none⟩ = some (.bool (decide ((i : Int) ∈ (fsts (ps.take j)).map Prod.fst))) ∧ wr.frozen? ⟨sb, i, none⟩ = false) ∧ Below sb w0 wr

theorem lit_row (w : World) (x : It) (t : TypeId) : (w.alloc (.cells #[.int .i64 x.1, .int .i64 x.2] t)).ownsRow w.heap.size t 2 (.slice (some ⟨w.heap.size, 0, none⟩) 1 1) 1 [.int .i64 x.1, .int .i64 x.2] :=
  ⟨rfl, .inr ⟨w.heap.size, 1, _, rfl, Nat.le_refl _, Ut.alloc_at _ _, Nat.le_refl _, by unfold maxLen; omega, rfl, rfl⟩⟩

theorem ahead_row {W w8 w9 : World} {n m m' gb r6 c' g2 : Nat} {x : It} {t : TypeId} {xs : List Value} (h : w9.ownsRow w8.heap.size t 2 (.slice (some ⟨g2, 0, none⟩) n c') n xs) (hg : (w8.alloc (.cells #[.int .i64 x.1, .int .i64 x.2] t)).grownBy w9 (Value.slice (some ⟨w8.heap.size, 0, none⟩) 1 1).ownBlock) : Below w8.heap.size w8 w9 :=
  ((Below.refl _ _).alloc (Nat.le_refl _) _).grown hg (by simp) (fun k e => by
    obtain rfl : w8.heap.size = k := by simpa [Value.ownBlock] using e
    exact Nat.le_refl _)
theorem row_news {W : World} {base gb m r6 : Nat} {t : TypeId} {xs : List Value} (h : W.ownsRow base t 2 (.slice (some ⟨gb, 0, none⟩) m r6) m xs) : ∀ jj u, xs[jj]? = some u → W.cell? ((⟨gb, 0, none⟩ : Addr).add jj) = some u := fun jj u hu => by
  have hj : jj < xs.length := by
    rcases Nat.lt_or_ge jj xs.length with h1 | h1
    · exact h1
    · rw [List.getElem?_eq_none h1] at hu; cases hu
  have hlen : xs.length = m * 2 := h.1
  have e : (⟨gb, 0, none⟩ : Addr).add jj = ⟨gb, jj, none⟩ := by
    unfold Addr.add; simp
    intro h; exact h.symm
  rw [e, World.ownsRow.cellAt h jj (by omega)]
  exact hu

theorem OrdRel.next {ps : List It} {sb j mn : Nat} {w0 wr w8 w9 : World} {once once' back' : Value} {o : Obj} (hj : j < ps.length) (hm : (mn : Int) = ps[j].1 % 64) (hmn : mn < 64)
    (hno : ps[j].1 % 64 ∉ (fsts (ps.take j)).map Prod.fst) (h1 : wr.ownsRow (sb + 1) 96 2 once (fsts (ps.take j)).length (encL (fsts (ps.take j))))
    (h4 : ∀ i, i < 64 → wr.cell? ⟨sb, i, none⟩ = some (.bool (decide ((i : Int) ∈ (fsts (ps.take j)).map Prod.fst))) ∧ wr.frozen? ⟨sb, i, none⟩ = false) (h5 : Below sb w0 wr)
    (hown1 : w8.ownsRow (sb + 1) 96 2 once' ((fsts (ps.take j)).length + 1) (encL (fsts (ps.take j)) ++ [.int .i64 (mn : Int), .int .i64 ps[j].2]))
    (hgrow1 : ((wr.setCell ⟨sb, mn, none⟩ (.bool true)).alloc o).grownBy w8 once.ownBlock)
    (hown2 : w9.ownsRow w8.heap.size 96 2 back' (1 + (fsts (ps.take j)).length) ([.int .i64 (mn : Int), .int .i64 ps[j].2] ++ encL (fsts (ps.take j)).reverse))
    (hb9 : Below w8.heap.size w8 w9) : OrdRel ps sb w0 once' back' (.int .i64 (j + 1 : Nat)) w9 := by
  have hfs : fsts (ps.take (j + 1)) = fsts (ps.take j) ++ [((mn : Int), ps[j].2)] := by
    rw [fsts_next hj, if_neg hno, hm]
  have hsz8 : wr.heap.size + 1 ≤ w8.heap.size := by have := hgrow1.size; simpa [World.setCell] using this
  have hsb : sb < wr.heap.size := World.block_lt_of_cell? wr _ (h4 0 (by omega)).1
  have hon : Only (fun b => b = sb ∨ once.ownBlock = some b) wr w8 :=
    ((((Only.refl _ wr).setCell (p := ⟨sb, mn, none⟩) (fun _ => .inl rfl) _).alloc o).grown hgrow1 (fun b _ e => .inr e))
  refine ⟨j + 1, hj, rfl, ?_, ?_, ?_, ?_, fun i hi => ?_, ?_⟩
  · rw [hfs, List.length_append, encL_app]
    exact Ut.own_below hown1 hb9
  · rw [hfs, List.length_append, List.reverse_append, List.reverse_singleton, encL_app]
    have := Ut.own_base hown2 (show sb + 1 ≤ w8.heap.size by omega)
    rw [Nat.add_comm 1] at this
    exact this
  · intro e; rw [hfs] at e; simp at e
  · intro b e1 e2
    have a1 := (hown1.lt b e1).2
    have a2 := (hown2.lt b e2).1
    omega
  · have hc8 : w8.cell? ⟨sb, i, none⟩ = (wr.setCell ⟨sb, mn, none⟩ (.bool true)).cell? ⟨sb, i, none⟩ := by
      have e1 : ((wr.setCell ⟨sb, mn, none⟩ (.bool true)).alloc o).cell? ⟨sb, i, none⟩ = (wr.setCell ⟨sb, mn, none⟩ (.bool true)).cell? ⟨sb, i, none⟩ := World.cell?_of_block (Below.heap_alloc _ _ _ (by simpa [World.setCell] using hsb))
      rw [← e1]
      exact World.cell?_of_block (hgrow1.block sb (by simp [World.setCell]; omega) (fun e => by have := (h1.lt sb e.symm).1; omega))
    have hf8 : w8.frozen? ⟨sb, i, none⟩ = wr.frozen? ⟨sb, i, none⟩ := by
      have e1 : ((wr.setCell ⟨sb, mn, none⟩ (.bool true)).alloc o).frozen? ⟨sb, i, none⟩ = (wr.setCell ⟨sb, mn, none⟩ (.bool true)).frozen? ⟨sb, i, none⟩ := World.frozen?_of_block (Below.heap_alloc _ _ _ (by simpa [World.setCell] using hsb))
      rw [← World.frozen?_setCell (w := wr) (a := ⟨sb, mn, none⟩) (v := .bool true), ← e1]
      exact World.frozen?_of_block (hgrow1.block sb (by simp [World.setCell]; omega) (fun e => by have := (h1.lt sb e.symm).1; omega))
    have hblk : w9.heap[sb]? = w8.heap[sb]? := hb9.block sb (by omega)
    rw [World.cell?_of_block (a := ⟨sb, i, none⟩) hblk, World.frozen?_of_block (a := ⟨sb, i, none⟩) hblk, hc8, hf8]
    refine ⟨?_, (h4 i hi).2⟩
    by_cases hi2 : i = mn
    · subst hi2
      rw [World.cell?_setCell_same _ _ _ (h4 i hi).1, hfs]
      simp
    · rw [World.cell?_setCell_other _ _ _ _ (by intro e; apply hi2; simpa using e.symm), (h4 i hi).1, hfs]
      congr 2
      have : (i : Int) ≠ (mn : Int) := by omega
      simp [this]
  · exact (h5.trans (hon.below (by omega) (fun i hi e => by
      rcases e with e | e
      · omega
      · have := (h1.lt i e).1; omega))).trans (hb9.mono (by omega))

theorem pairs64 (Bs lo : Nat) (zs : List It) (w : World) (hit : ItAt lo Bs zs w) (hl : zs.length ≤ 64) :
    Calls Tryd.prog 15 #[.func (.func 33) #[] #[.pointer (some ⟨Bs, 0, none⟩)], .int .i64 64] w fun e w' => ∃ v, e = .returned v ∧ w'.ownsRow w.heap.size 3 1 v (zs.length * 2) ((flat zs).map vJ) ∧ Below w.heap.size w w' := by
  have h := pairs_any Bs 64 lo zs w hit (by omega) (by omega)
  rwa [List.take_of_length_le hl] at h
theorem same_flat (v u : Value) (zs : List It) (hl : zs.length ≤ 64) (b1 b2 : Nat) (w : World) (h1 : w.ownsRow b1 3 1 v (zs.length * 2) ((flat zs).map vJ)) (h2 : w.ownsRow b2 3 1 u (zs.length * 2) ((flat zs).map vJ)) :
    Calls Tryd.prog 14 #[v, u] w fun e w' => e = .returned (.bool true) ∧ Below w.heap.size w w' := by
  have hfl : (flat zs).length = zs.length * 2 := flat_len zs
  refine (In.same_any v u (flat zs) (flat zs) (by omega) (by omega) w (In.own_ints (fun _ => rfl) hfl.symm h1) (In.own_ints (fun _ => rfl) hfl.symm h2)).mono ?_
  rintro e w' ⟨rfl, hb⟩
  exact ⟨by simp, hb⟩
theorem fsts_perm (ps : List It) : (fin (fsts ps)).Perm (fsts ps) ∧ (fin (fsts ps).reverse).Perm (fsts ps) ∧ (fsts ps).length ≤ 64 := by
  have hg := fsts_good ps ps.length (Nat.le_refl _)
  rw [List.take_length] at hg
  exact ⟨fin_distinct _ hg, (fin_distinct _ (hg.perm (List.reverse_perm _))).trans (List.reverse_perm _), hg.len⟩
/-- Set what is not in it, and drop it again: as before. -/
theorem set_drop {L L1 L2 S : List It} {i key : Int} {n : Nat} (hn : ∀ x ∈ S, x.1 ≠ i) (hL : L.Perm S) (h1 : L1.Perm ((i, key) :: without L i)) (hG : Good L1 n) (h2 : L2.Perm (without L1 i)) : L2.Perm S ∧ (keyOf L1 i).isSome = true := by
  have e1 : without L i = L := without_none fun x hx => hn x (hL.mem_iff.1 hx)
  rw [e1] at h1
  have hG2 := hG.perm h1.symm
  have h3 := without_perm h1 i
  rw [without_cons hG2] at h3
  refine ⟨(h2.trans h3).trans hL, ?_⟩
  rw [keyOf_some hG (h1.mem_iff.2 List.mem_cons_self)]; rfl

set_option maxRecDepth 100000 in
set_option maxHeartbeats 4000000 in
theorem heapOrder_core (v : Value) (ps : List It) (x : It) (hl : (ps.length : Int) ≤ 9223372036854775807) (w : World) (ht : PairArg w v ps) :
    Calls Tryd.prog 45 #[v, .agg #[.int .i64 x.1, .int .i64 x.2]] w fun e w' => e = .returned (.bool true) ∧ Below w.heap.size w w' := by
  obtain ⟨i0, hi, hz0, hz1, hz2⟩ := info_parts hpj_info
  have HW := Lib.hid (fun w' => hworks_any w')
  have HFL := Lib.hid (fun v ps (hl : (ps.length : Int) ≤ 9223372036854775807) w' (ht : PairArg w' v ps) => filled_any v ps hl w' ht)
  obtain ⟨q, c, rfl, h1⟩ := ht
  have H1 := Lib.hid h1
  clear h1
  by_cases hbig : ps.length ≤ 1000
  · have b0 : (ps.length : Int) ≤ 1000 := by omega
    have HB0 := Lib.hid hbig
    clear hbig hl
    go_enter Tryd.func45, Tryd.ntmps45
    go_wp2_with fail
    refine (HW.out _).mono ?_
    rintro e w1 ⟨rfl, hb1⟩
    go_wp2
    have hx1 : Below (w.heap.size + 1) (w.alloc (.cells #[.int .i64 x.1, .int .i64 x.2] 96)) w1 := by simpa using hb1
    have HX0 := Lib.hid hx1
    have hbw : Below w.heap.size w w1 := ((Below.refl _ w).alloc (Nat.le_refl _) _).trans (hx1.mono (Nat.le_succ _))
    have HBW := Lib.hid hbw
    obtain ⟨p0, hpi, hp0, hp1, hp2⟩ := info_parts pair_info
    have HPK := Lib.hid (fun (k : Int) w' => Pk.pick_any k 64 (by omega) (by omega) w')
    clear hb1 hx1 hbw
    go_loopw [5, 6, 8] (fun once back k wr => OrdRel ps w1.heap.size w1 once back k wr) (fun _ _ k _ => ps.length - (intOf k).toNat)
    case atStart =>
      refine ⟨0, Nat.zero_le _, rfl, World.ownsRow_nil _ _ _ _, World.ownsRow_nil _ _ _ _, fun _ => rfl, fun b e => by simp [Value.ownBlock] at e, fun i hi => ?_, (Below.refl _ _).alloc (Nat.le_refl _) _⟩
      refine ⟨?_, by unfold World.frozen?; rw [Ut.alloc_at]; rfl⟩
      rw [cell_of_row _ _ _ _ _ _ (Ut.alloc_at _ _)]
      have e : ∀ A : Array Value, A = Array.replicate 64 (.bool false) → A[i]? = some (.bool (decide ((i : Int) ∈ (fsts (ps.take 0)).map Prod.fst))) := fun A h => by
        rw [h]; simp [hi, fsts]
      exact e _ rfl
    case round =>
      obtain ⟨j, hj, rfl, ho1, ho2, hnil, hap, hseen, hbl⟩ := hrel
      by_cases h : j < ps.length
      · obtain ⟨g1, o1, rfl, hg1, k1, k2⟩ := H1.out j h
        have b1 : (j : Int) < (ps.length : Int) := by omega
        have hgl := (fsts_good ps j hj).len
        obtain ⟨mn, hmn⟩ : ∃ mn : Nat, (mn : Int) = ps[j].1 % 64 := ⟨(ps[j].1 % 64).toNat, by omega⟩
        have hmn64 : mn < 64 := by omega
        obtain ⟨p, hp⟩ : ∃ p, p = ps[j] := ⟨_, rfl⟩
        rw [← hp] at k1 k2 hmn
        have hg1w : g1 < w1.heap.size := Nat.lt_of_lt_of_le hg1 HBW.out.size
        have k1' : wr.cell? ⟨g1, o1 + j * 2, none⟩ = some (.int .i64 p.1) := (hbl.cell (p := ⟨g1, o1 + j * 2, none⟩) hg1w).trans ((HBW.out.cell (p := ⟨g1, o1 + j * 2, none⟩) hg1).trans k1)
        have k2' : wr.cell? ⟨g1, o1 + j * 2 + 1, none⟩ = some (.int .i64 p.2) := (hbl.cell (p := ⟨g1, o1 + j * 2 + 1, none⟩) hg1w).trans ((HBW.out.cell (p := ⟨g1, o1 + j * 2 + 1, none⟩) hg1).trans k2)
        have hPK : Hid (Calls Tryd.prog 11 #[.int .i64 p.1, .int .i64 64] wr fun e w' => e = .returned (.int .i64 (mn : Int)) ∧ wr = w') := by
          have := HPK.out p.1 wr
          rw [hmn]; exact this
        have hs1 := (hseen mn hmn64).1
        have hs2 := (hseen mn hmn64).2
        have q1 : mn < 64 := hmn64
        have b2 : (0 : Int) ≤ (mn : Int) := by omega
        have HJ := Lib.hid h; have HMN := Lib.hid hmn; have HP := Lib.hid hp
        by_cases hin : ((mn : Int) ∈ (fsts (ps.take j)).map Prod.fst)
        · have hfs : fsts (ps.take (j + 1)) = fsts (ps.take j) := by
            rw [fsts_next h, if_pos (by rw [← hp, ← hmn]; exact hin)]
          have HEND : Hid (OrdRel ps w1.heap.size w1 u5 u6 (.int .i64 (j + 1 : Nat)) wr) := ⟨j + 1, h, rfl, by rw [hfs]; exact ho1, by rw [hfs]; exact ho2, by rw [hfs]; exact hnil, hap, by rw [hfs]; exact hseen, hbl⟩
          rw [decide_eq_true hin] at hs1
          clear hin hfs ho1 ho2 hnil hap hseen hbl k1 k2 hgl hp hmn hj hg1 hg1w
          go_wp2_with fail
          refine hPK.out.mono ?_
          rintro e w2 ⟨rfl, rfl⟩
          go_wp2
          have HJ2 := HJ.out
          exact ⟨by simpa using HEND.out, by simp [intOf]; omega⟩
        · obtain ⟨m, hm⟩ : ∃ m, m = (fsts (ps.take j)).length := ⟨_, rfl⟩
          rw [← hm] at ho1 ho2
          obtain ⟨q5, r5, rfl⟩ := own_any_shape ho1
          obtain ⟨q6, r6, rfl⟩ := own_any_shape ho2
          have hsbl : w1.heap.size < wr.heap.size := World.block_lt_of_cell? wr _ hs1
          have hne : g1 ≠ w1.heap.size := by omega
          have kA : (wr.setCell ⟨w1.heap.size, mn, none⟩ (.bool true)).cell? ⟨g1, o1 + j * 2 + 1, none⟩ = some (.int .i64 p.2) := by
            rw [World.cell?_setCell_other _ _ _ _ (by intro e; apply hne; have := congrArg Addr.block e; simpa using this.symm)]; exact k2'
          have honA : Only (fun b => b = w1.heap.size) wr (wr.setCell ⟨w1.heap.size, mn, none⟩ (.bool true)) := (Only.refl (fun b => b = w1.heap.size) wr).setCell (p := ⟨w1.heap.size, mn, none⟩) (fun _ => rfl) _
          have hoA := honA.row ho1 (fun k e hk => by have := (ho1.lt k e).1; omega)
          have hoB := honA.row ho2 (fun k e hk => by have := (ho2.lt k e).1; omega)
          rw [decide_eq_false hin] at hs1
          have HNX : Hid (∀ (w8 w9 : World) (once' back' : Value), w8.ownsRow (w1.heap.size + 1) 96 2 once' (m + 1) (encL (fsts (ps.take j)) ++ [.int .i64 (mn : Int), .int .i64 p.2]) →
              (((wr.setCell ⟨w1.heap.size, mn, none⟩ (.bool true)).alloc (.cells #[.int .i64 (mn : Int), .int .i64 p.2] 96)).grownBy w8 (Value.slice q5 m r5).ownBlock) →
              w9.ownsRow w8.heap.size 96 2 back' (1 + m) ([.int .i64 (mn : Int), .int .i64 p.2] ++ encL (fsts (ps.take j)).reverse) → Below w8.heap.size w8 w9 → OrdRel ps w1.heap.size w1 once' back' (.int .i64 (j + 1 : Nat)) w9) := fun w8 w9 once' back' a1 a2 a3 a4 => by
            rw [hp, hm] at a1 a3
            rw [hm] at ho1 a2
            exact OrdRel.next h (by rw [← hp]; exact hmn) hmn64 (by rw [← hp, ← hmn]; exact hin) ho1 hseen hbl a1 a2 a3 a4
          have HKB : Hid (∀ w8 : World, (((wr.setCell ⟨w1.heap.size, mn, none⟩ (.bool true)).alloc (.cells #[.int .i64 (mn : Int), .int .i64 p.2] 96)).grownBy w8 (Value.slice q5 m r5).ownBlock) → w8.cell? ⟨g1, o1 + j * 2 + 1, none⟩ = some (.int .i64 p.2)) := fun w8 hg => by
            have e : Below (w1.heap.size + 1) ((wr.setCell ⟨w1.heap.size, mn, none⟩ (.bool true)).alloc (.cells #[.int .i64 (mn : Int), .int .i64 p.2] 96)) w8 := (Below.refl _ _).grown hg (by simp [World.setCell]; omega) (fun k ek => (ho1.lt k ek).1)
            have e2 := cell_keep ((Below.refl _ _).alloc (Nat.le_refl _) (.cells #[.int .i64 (mn : Int), .int .i64 p.2] 96)) kA
            exact (e.cell (p := ⟨g1, o1 + j * 2 + 1, none⟩) (by simp; omega)).trans e2
          have HBK : Hid (∀ w8 : World, (((wr.setCell ⟨w1.heap.size, mn, none⟩ (.bool true)).alloc (.cells #[.int .i64 (mn : Int), .int .i64 p.2] 96)).grownBy w8 (Value.slice q5 m r5).ownBlock) → w8.ownsRow (w1.heap.size + 1) 96 2 (.slice q6 m r6) m (encL (fsts (ps.take j)).reverse)) := fun w8 hg =>
            Only.row (((Only.refl (fun b => (Value.slice q5 m r5).ownBlock = some b) _).alloc _).grown hg (fun k _ e => e)) hoB (fun k e1 e2 => hap k e2 e1)
          have HLIT : Hid (∀ w8 : World, (w8.alloc (.cells #[.int .i64 (mn : Int), .int .i64 p.2] 96)).ownsRow w8.heap.size 96 2 (.slice (some ⟨w8.heap.size, 0, none⟩) 1 1) 1 [.int .i64 (mn : Int), .int .i64 p.2]) := fun w8 => lit_row w8 ((mn : Int), p.2) _
          have HL2 : Hid ((encL (fsts (ps.take j)).reverse).length = m * 2) := by
            show _ = _
            rw [encL_len, List.length_reverse, hm]
          rw [← hm] at hgl
          have hnil' : m = 0 → Value.slice q6 m r6 = .slice none 0 0 := fun e => hnil (List.length_eq_zero_iff.1 (by rw [← hm]; exact e))
          have HNIL := Lib.hid hnil'
          have HOA := Lib.hid hoA
          have HGB : Hid (0 < m → ∃ gb, q6 = some ⟨gb, 0, none⟩) := fun h0 => by
            obtain ⟨gv, cap, e, _⟩ := row_cells ho2 (by rw [List.length_reverse, hm]) h0
            exact ⟨gv, by have := e; simp only [Value.slice.injEq] at this; exact this.1⟩
          have am1 : m + 1 ≤ maxLen := by unfold maxLen; omega
          have am2 : (m + 1) * 16 ≤ 140737488355328 := by omega
          have am3 : 1 + m ≤ maxLen := by unfold maxLen; omega
          have am4 : (1 + m) * 16 ≤ 140737488355328 := by omega
          have am5 : w1.heap.size + 1 ≤ ((wr.setCell ⟨w1.heap.size, mn, none⟩ (.bool true)).alloc (.cells #[.int .i64 (mn : Int), .int .i64 p.2] 96)).heap.size := by simp [World.setCell]; omega
          have HN1 : Hid (∀ jj u, [Value.int .i64 (mn : Int), Value.int .i64 p.2][jj]? = some u → ((wr.setCell ⟨w1.heap.size, mn, none⟩ (.bool true)).alloc (.cells #[.int .i64 (mn : Int), .int .i64 p.2] 96)).cell? ((⟨wr.heap.size, 0, none⟩ : Addr).add jj) = some u) := fun jj u h => by
            have := news_two (wr.setCell ⟨w1.heap.size, mn, none⟩ (.bool true)) [Value.int .i64 (mn : Int), Value.int .i64 p.2] 96 jj u h
            rw [show (wr.setCell ⟨w1.heap.size, mn, none⟩ (.bool true)).heap.size = wr.heap.size by simp [World.setCell]] at this
            exact this
          have HONE : Hid (∀ u ∈ encL (fsts (ps.take j)).reverse, u.oneCell' = true) := fun u hu => by
            unfold encL at hu
            obtain ⟨y, -, hy⟩ := List.mem_flatMap.1 hu
            simp [encI] at hy
            rcases hy with rfl | rfl <;> rfl
          clear hin hap hseen hbl k1 k2 hgl hp hmn hj hg1 hg1w ho1 ho2 hnil honA hoA hoB hnil' hsbl hne k2'
          by_cases hm0 : m = 0
          · have e6 := HNIL.out hm0
            clear hm HNIL
            subst hm0
            obtain ⟨rfl, rfl⟩ : q6 = none ∧ r6 = 0 := by simpa using e6
            clear e6
            go_wp2_with (first
              | (go_at_call 11; refine hPK.out.mono ?_; rintro e w2 ⟨rfl, rfl⟩)
              | (at_builtin; refine wpList_append_lies _ rfl _ _ 95 rfl (w1.heap.size + 1) 96 p0 (.agg #[.int .i64 0, .int .i64 0]) 2 16 Tryd.underlying95 hpi hp0 hp1 hp2 rfl (by decide) _ _ _ rfl (HOA.out.alloc _) ⟨wr.heap.size, 0, none⟩ 1 1 [.int .i64 (mn : Int), .int .i64 p.2] rfl rfl HN1.out (by intro u hu; simp at hu; rcases hu with rfl | rfl <;> rfl) (by decide) am1 am2 am5 _ rfl ?_; intro g' cap' w8 hown' hgrow hlie hlt; have kB := HKB.out w8 hgrow)
              | (at_builtin; refine wpList_append_own_none rfl _ _ 95 rfl w8.heap.size 96 p0 2 Tryd.underlying95 hpi hp1 _ _ _ rfl (HLIT.out w8) rfl ?_))
            have HU := HNX.out w8 _ _ (.slice (some ⟨w8.heap.size, 0, none⟩) 1 1) hown' hgrow (by
              have e0 : encL (fsts (ps.take j)).reverse = [] := List.eq_nil_of_length_eq_zero (by rw [HL2.out])
              rw [e0, List.append_nil]; exact HLIT.out w8) ((Below.refl _ _).alloc (Nat.le_refl _) _)
            have HJ2 := HJ.out
            exact ⟨by simpa using HU, by simp [intOf]; omega⟩
          · have hm1 : 0 < m := Nat.pos_of_ne_zero hm0
            obtain ⟨gb, rfl⟩ := HGB.out hm1
            clear HGB HNIL hm0 hm
            go_wp2_with (first
              | (go_at_call 11; refine hPK.out.mono ?_; rintro e w2 ⟨rfl, rfl⟩)
              | (at_builtin; refine wpList_append_lies _ rfl _ _ 95 rfl (w1.heap.size + 1) 96 p0 (.agg #[.int .i64 0, .int .i64 0]) 2 16 Tryd.underlying95 hpi hp0 hp1 hp2 rfl (by decide) _ _ _ rfl (HOA.out.alloc _) ⟨wr.heap.size, 0, none⟩ 1 1 [.int .i64 (mn : Int), .int .i64 p.2] rfl rfl HN1.out (by intro u hu; simp at hu; rcases hu with rfl | rfl <;> rfl) (by decide) am1 am2 am5 _ rfl ?_; intro g' cap' w8 hown' hgrow hlie hlt; have kB := HKB.out w8 hgrow; have rB := (HBK.out w8 hgrow).alloc (.cells #[.int .i64 (mn : Int), .int .i64 p.2] 96))
              | (at_builtin; refine wpList_append_lies _ rfl _ _ 95 rfl w8.heap.size 96 p0 (.agg #[.int .i64 0, .int .i64 0]) 2 16 Tryd.underlying95 hpi hp0 hp1 hp2 rfl (by decide) _ _ _ rfl (HLIT.out w8) ⟨gb, 0, none⟩ m r6 (encL (fsts (ps.take j)).reverse) rfl HL2.out (row_news rB) HONE.out hm1 am3 am4 (by simp) _ rfl ?_; intro g2 cap2 w9 hown2 hgrow2 hlie2 hlt2))
            have HU := HNX.out w8 w9 _ _ hown' hgrow hown2 (ahead_row (W := w8) (m := m) (m' := m) (gb := gb) (r6 := r6) (x := ((mn : Int), p.2)) hown2 hgrow2)
            have HJ2 := HJ.out
            exact ⟨by simpa using HU, by simp [intOf]; omega⟩
      · obtain rfl : j = ps.length := by omega
        rw [List.take_length] at ho1 ho2 hseen
        obtain ⟨hf1, hf2, hf3⟩ := fsts_perm ps
        have b1 : (ps.length : Int) ≤ (ps.length : Int) := Int.le_refl _
        obtain ⟨S, hS⟩ : ∃ S, S = fsts ps := ⟨_, rfl⟩
        rw [← hS] at ho1 ho2 hseen hf1 hf2 hf3
        have hpa : PairArg wr u5 S := own_pairs rfl ho1
        have hpb : PairArg wr u6 S.reverse := own_pairs (by rw [List.length_reverse]) ho2
        have HFA := Lib.hid (HFL.out u5 S (by omega) wr hpa)
        have HFB := Lib.hid (fun w' (hb : Below wr.heap.size wr w') => HFL.out u6 S.reverse (by rw [List.length_reverse]; omega) w' (hpb.below hb))
        obtain ⟨mn, hmn⟩ : ∃ mn : Nat, (mn : Int) = x.1 % 64 := ⟨(x.1 % 64).toNat, by omega⟩
        have hmn64 : mn < 64 := by omega
        have b2 : (0 : Int) ≤ (mn : Int) := by omega
        have hsz1 : w.heap.size < w1.heap.size := by have := HX0.out.size; simp at this; omega
        have hx1 : (w.alloc (.cells #[.int .i64 x.1, .int .i64 x.2] 96)).cell? ⟨w.heap.size, 0, none⟩ = some (.int .i64 x.1) := by rw [cell_of_row _ _ _ _ _ _ (Ut.alloc_at _ _)]; rfl
        have hx2 : (w.alloc (.cells #[.int .i64 x.1, .int .i64 x.2] 96)).cell? ⟨w.heap.size, 1, none⟩ = some (.int .i64 x.2) := by rw [cell_of_row _ _ _ _ _ _ (Ut.alloc_at _ _)]; rfl
        have hy1 : w1.cell? ⟨w.heap.size, 0, none⟩ = some (.int .i64 x.1) := (HX0.out.cell (p := ⟨w.heap.size, 0, none⟩) (by simp)).trans hx1
        have hy2 : w1.cell? ⟨w.heap.size, 1, none⟩ = some (.int .i64 x.2) := (HX0.out.cell (p := ⟨w.heap.size, 1, none⟩) (by simp)).trans hx2
        have HY1 : Hid (∀ W, Below w1.heap.size w1 W → W.cell? ⟨w.heap.size, 0, none⟩ = some (.int .i64 x.1)) := fun W hb => (hb.cell (p := ⟨w.heap.size, 0, none⟩) hsz1).trans hy1
        have HY2 : Hid (∀ W, Below w1.heap.size w1 W → W.cell? ⟨w.heap.size, 1, none⟩ = some (.int .i64 x.2)) := fun W hb => (hb.cell (p := ⟨w.heap.size, 1, none⟩) hsz1).trans hy2
        have hsw : w1.heap.size < wr.heap.size := World.block_lt_of_cell? wr _ (hseen 0 (by omega)).1
        have hseen1 := (hseen mn hmn64).1
        have HSE : Hid (∀ W, Below wr.heap.size wr W → W.cell? ⟨w1.heap.size, mn, none⟩ = some (.bool (decide ((mn : Int) ∈ S.map Prod.fst)))) := fun W hb => (hb.cell (p := ⟨w1.heap.size, mn, none⟩) hsw).trans hseen1
        have HPX : Hid (∀ W, Calls Tryd.prog 11 #[.int .i64 x.1, .int .i64 64] W fun e w' => e = .returned (.int .i64 (mn : Int)) ∧ W = w') := fun W => by
          have := HPK.out x.1 W
          rw [hmn]; exact this
        have HBL := Lib.hid hbl; have HSW := Lib.hid hsw; have HF1 := Lib.hid hf1; have HF2 := Lib.hid hf2; have HF3 := Lib.hid hf3
        clear h hj ho1 ho2 hnil hap hseen hbl hf1 hf2 hf3 hpa hpb hx1 hx2 hy1 hy2 hsz1 hsw hseen1 hS hmn
        go_wp2_with fail
        refine HFA.out.mono ?_
        rintro e w2 ⟨Ha, Fa, La, rfl, hha, hpa, hb2⟩
        have hlta := hha.lt
        go_wp2_with fail
        refine (HFB.out _ hb2).mono ?_
        rintro e w3 ⟨Hb, Fb, Lb, rfl, hhb, hpb, hb3⟩
        have hha3 := hha.below hb3
        have hltb := hhb.lt
        have hla : La.Perm S := hpa.trans HF1.out
        have hlb : Lb.Perm S := hpb.trans HF2.out
        have hsl : (srt S).length ≤ 64 := by rw [srt_len]; exact HF3.out
        have HSL := Lib.hid hsl; have HLA := Lib.hid hla; have HLB := Lib.hid hlb; have HLTA := Lib.hid hlta; have HLTB := Lib.hid hltb
        have HAA := Lib.hid (fun W (hh : HeapAt wr.heap.size Ha 64 La Fa W) => all_any _ Ha 64 La Fa W hh (by omega))
        rw [srt_congr hla] at HAA
        have HA3 := Lib.hid hha3; have HHB := Lib.hid hhb
        have HB2 := Lib.hid hb2; have HB3 := Lib.hid hb3
        clear hha hpa hpb hhb hha3 hla hlb hsl hlta hltb hb2 hb3
        go_wp2_with fail
        refine (HAA.out w3 HA3.out).mono ?_
        rintro e w4 ⟨Bs, rfl, hit, hb4⟩
        have HP := Lib.hid (pairs64 Bs _ (srt S) w4 hit HSL.out)
        clear hit
        go_wp2_with fail
        refine HP.out.mono ?_
        rintro e w5 ⟨v1, rfl, hr1, hb5⟩
        have hb35 : Below w3.heap.size w3 w5 := hb4.trans (hb5.mono hb4.size)
        have HAB := Lib.hid (all_any _ Hb 64 Lb Fb w5 (HHB.out.below hb35) (by omega))
        rw [srt_congr HLB.out] at HAB
        clear hb4 hb5 HP
        go_wp2_with fail
        refine HAB.out.mono ?_
        rintro e w6 ⟨Bt, rfl, hit, hb6⟩
        have HP := Lib.hid (pairs64 Bt _ (srt S) w6 hit HSL.out)
        clear hit
        go_wp2_with fail
        refine HP.out.mono ?_
        rintro e w7 ⟨v2, rfl, hr2, hb7⟩
        have hb57 : Below w5.heap.size w5 w7 := hb6.trans (hb7.mono hb6.size)
        have HSF := Lib.hid (same_flat v1 v2 (srt S) HSL.out _ _ w7 (Ut.own_below hr1 hb57) hr2)
        clear hb6 hb7 hr1 hr2 HP HAB
        go_wp2_with fail
        refine HSF.out.mono ?_
        rintro e w8 ⟨rfl, hb8⟩
        have hb38 : Below w3.heap.size w3 w8 := (hb35.trans (hb57.mono hb35.size)).trans (hb8.mono (Nat.le_trans hb35.size hb57.size))
        have hbr8 : Below wr.heap.size wr w8 := (HB2.out.trans (HB3.out.mono HB2.out.size)).trans (hb38.mono (Nat.le_trans HB2.out.size HB3.out.size))
        have hb18 : Below w1.heap.size w1 w8 := HBL.out.trans (hbr8.mono (Nat.le_of_lt HSW.out))
        clear hb35 hb57 hb8 HSF
        have kx1 := HY1.out _ hb18
        have kx2 := HY2.out _ hb18
        have ks := HSE.out _ hbr8
        have HB38 := Lib.hid hb38; have HBR8 := Lib.hid hbr8; have HB18 := Lib.hid hb18
        clear hb38 hbr8 hb18
        by_cases hin : ((mn : Int) ∈ S.map Prod.fst)
        · rw [decide_eq_true hin] at ks
          clear hin
          go_wp2_with fail
          refine (HPX.out _).mono ?_
          rintro e w9 ⟨rfl, rfl⟩
          go_wp2
          go_ret
          exact ⟨rfl, HBW.out.trans (HB18.out.mono HBW.out.size)⟩
        · rw [decide_eq_false hin] at ks
          have HNI : Hid (∀ y ∈ S, y.1 ≠ (mn : Int)) := fun y hy e => hin (List.mem_map.2 ⟨y, hy, e⟩)
          have HST := Lib.hid (hset_any _ Hb 64 Lb Fb w8 (HHB.out.below HB38.out) (by omega) (Nat.le_trans HB3.out.size HB38.out.size) (mn : Int) x.2)
          have HR := Lib.hid (show (0 : Int) ≤ (mn : Int) ∧ (mn : Int) < ((64 : Nat) : Int) by omega)
          clear hin
          go_wp2_with fail
          refine (HPX.out _).mono ?_
          rintro e w9 ⟨rfl, rfl⟩
          go_wp2_with fail
          refine HST.out.mono ?_
          rintro e w9 hset
          unfold SetPost at hset
          rw [if_pos HR.out] at hset
          obtain ⟨rfl, L1, F1, hh1, hp1, ho1, hn1⟩ := hset
          have HSD := Lib.hid (fun L2 (h2 : List.Perm L2 (without L1 (mn : Int))) => set_drop HNI.out HLB.out hp1 hh1.good h2)
          have HDR := Lib.hid (hdrop_any _ Hb 64 L1 F1 w9 hh1 (by omega) (mn : Int))
          have hA9 : HeapAt wr.heap.size Ha 64 La Fa w9 := (HA3.out.below HB38.out).only ho1 (fun k hk e => by
            have h1 := (HLTA.out k hk).2; have h2 := (HLTB.out k e).1; omega)
          have hFF : ∀ k, Fa k → ¬ F1 k := fun k hk e => by
            have h1 := (HLTA.out k hk).2
            rcases hn1 k e with e2 | e2
            · have h2 := (HLTB.out k e2).1; omega
            · have h3 := HB38.out.size; have h4 := HB3.out.size; omega
          have hb9 : Below w2.heap.size w8 w9 := ho1.below (Nat.le_trans HB3.out.size HB38.out.size) (fun k hk e => by have := (HLTB.out k e).1; omega)
          have hl1 := hh1.lt
          have HA9 := Lib.hid hA9; have HFF := Lib.hid hFF; have HB9 := Lib.hid hb9; have HL1 := Lib.hid hl1
          clear hA9 hFF hb9 hl1 hh1 hp1 ho1 hn1
          go_wp2_with fail
          refine HDR.out.mono ?_
          rintro e w10 ⟨rfl, L2, F2, hh2, hp2, ho2, hn2⟩
          rw [(HSD.out L2 hp2).2]
          have hL2 := (HSD.out L2 hp2).1
          have hA10 : HeapAt wr.heap.size Ha 64 La Fa w10 := HA9.out.only ho2 HFF.out
          have hsz2 : w2.heap.size ≤ w8.heap.size := Nat.le_trans HB3.out.size HB38.out.size
          have hb10 : Below w2.heap.size w9 w10 := ho2.below (Nat.le_trans hsz2 HB9.out.size) (fun k hk e => by have := (HL1.out k e).1; omega)
          have hb810 : Below w2.heap.size w8 w10 := HB9.out.trans hb10
          have HH2 := Lib.hid hh2; have HL2 := Lib.hid hL2; have HA10 := Lib.hid hA10; have HB810 := Lib.hid hb810; have HSZ2 := Lib.hid hsz2
          clear hh2 hL2 hA10 hb810 hb10 hp2 ho2 hn2 HDR HST HSD hsz2
          go_wp2_with fail
          refine (HAA.out w10 HA10.out).mono ?_
          rintro e w11 ⟨Bs2, rfl, hit, hb4⟩
          have HP := Lib.hid (pairs64 Bs2 _ (srt S) w11 hit HSL.out)
          clear hit
          go_wp2_with fail
          refine HP.out.mono ?_
          rintro e w12 ⟨v3, rfl, hr1, hb5⟩
          have hb35 : Below w10.heap.size w10 w12 := hb4.trans (hb5.mono hb4.size)
          have HAB := Lib.hid (all_any _ Hb 64 L2 F2 w12 (HH2.out.below hb35) (by omega))
          rw [srt_congr HL2.out] at HAB
          clear hb4 hb5 HP
          go_wp2_with fail
          refine HAB.out.mono ?_
          rintro e w13 ⟨Bt2, rfl, hit, hb6⟩
          have HP := Lib.hid (pairs64 Bt2 _ (srt S) w13 hit HSL.out)
          clear hit
          go_wp2_with fail
          refine HP.out.mono ?_
          rintro e w14 ⟨v4, rfl, hr2, hb7⟩
          have hb57 : Below w12.heap.size w12 w14 := hb6.trans (hb7.mono hb6.size)
          have HSF := Lib.hid (same_flat v3 v4 (srt S) HSL.out _ _ w14 (Ut.own_below hr1 hb57) hr2)
          clear hb6 hb7 hr1 hr2 HP HAB
          go_wp2_with fail
          refine HSF.out.mono ?_
          rintro e w15 ⟨rfl, hb8⟩
          have hb1015 : Below w10.heap.size w10 w15 := (hb35.trans (hb57.mono hb35.size)).trans (hb8.mono (Nat.le_trans hb35.size hb57.size))
          have hbZ : Below w.heap.size w w15 := HBW.out.trans ((HB18.out.trans ((HB810.out.trans (hb1015.mono (Nat.le_trans HSZ2.out HB810.out.size))).mono (Nat.le_of_lt (Nat.lt_of_lt_of_le HSW.out HB2.out.size)))).mono HBW.out.size)
          clear hb35 hb57 hb8 hb1015
          have HZ := Lib.hid hbZ
          clear hbZ
          go_wp2
          go_ret
          exact ⟨rfl, HZ.out⟩
  · have b0 : (1000 : Int) < (ps.length : Int) := by omega
    clear hbig hl
    go_enter Tryd.func45, Tryd.ntmps45
    go_wp2_with fail
    refine (HW.out _).mono ?_
    rintro e w1 ⟨rfl, hb1⟩
    go_wp2_with fail
    refine (HW.out _).mono ?_
    rintro e w2 ⟨rfl, hb2⟩
    have hb0 : Below w.heap.size w (w.alloc (.cells #[.int .i64 x.1, .int .i64 x.2] 96)) := (Below.refl _ _).alloc (Nat.le_refl _) _
    go_wp2
    go_ret
    exact ⟨rfl, hb0.trans ((hb1.trans (hb2.mono hb1.size)).mono hb0.size)⟩

end Hp

theorem heapOrder_walk (v : Value) (ps : List (Int × Int)) (hl : ps.length ≤ maxLen) (hz : ∀ s ∈ ps, (Lit.int .i64 s.1).wf = true ∧ (Lit.int .i64 s.2).wf = true) (x : Int × Int) (w : World) (ht : PairArg w v ps) :
    Calls Tryd.prog 45 #[v, .agg #[.int .i64 x.1, .int .i64 x.2]] w fun e w' => e = .returned (.bool true) ∧ Below w.heap.size w w' :=
  Hp.heapOrder_core v ps x (by unfold maxLen at hl; omega) w ht

end Go.Proofs.YtkmgpajodbadmaaDoor
