/- Several texts in one: what each proves its own first comment says. -/
import Derived.Test.YtocoonkachbjaaaGreatDoorM10
import Derived.Test.YtocoonkachbjaaaGreatDoorM1
import Derived.Test.YtocoonkachbjaaaGreatDoorProg
import Derived.Test.YtocoonkachbjaaaGreatDoorM3
import Derived.BigQuiet
import Derived.Deep.QuietTactic
import Derived.Outline
import Derived.WalkLawsBesides
import Derived.WalkSpells
import Derived.Great.BuildSlice
import Derived.Deep.MidRow
import Derived.Deep.AppendLies
import Derived.WalkKit
import Derived.Laws.NewBlocks
import Derived.Test.YtocoonkachbjaaaGreatDoorM5
import Derived.Maps.Own
import Derived.Maps.AppendAt
import Derived.RegionTactic
import Derived.OwnWalk
import Derived.Laws.Slices

/- One's block in the order is the walk from it; the walk does not depend on the fuel. No program's code. -/
namespace Go.Proofs.YtocoonkachbjaaaGreatDoor
set_option linter.unusedVariables false
namespace Vt

theorem pre_fuel (kids : Nat → List Nat) (N : Nat) (hk : ∀ i, ∀ j ∈ kids i, i < j ∧ j ≤ N) : ∀ (f g far : Nat) (l : List Nat), (∀ i ∈ l, i ≤ N ∧ N < f + i ∧ N < g + i) → pre kids f far l = pre kids g far l
  | 0, g, far, l, h => by
    cases l with
    | nil => rw [pre_nil, pre_nil]
    | cons i l => have := h i List.mem_cons_self; omega
  | f + 1, 0, far, l, h => by
    cases l with
    | nil => rw [pre_nil, pre_nil]
    | cons i l => have := h i List.mem_cons_self; omega
  | f + 1, g + 1, far, [], h => rfl
  | f + 1, g + 1, far, i :: l, h => by
    have hi := h i List.mem_cons_self
    rw [pre_cons, pre_cons, pre_fuel kids N hk f g (far + 1) (kids i) (fun j hj => by have := hk i j hj; omega), pre_fuel kids N hk (f + 1) (g + 1) far l (fun j hj => h j (List.mem_cons_of_mem _ hj))]
theorem pre_shift (kids : Nat → List Nat) (k : Nat) : ∀ (f far : Nat) (l : List Nat), pre kids f (far + k) l = (pre kids f far l).map (fun y => (y.1 + k, y.2))
  | 0, far, l => rfl
  | f + 1, far, [] => rfl
  | f + 1, far, i :: l => by
    rw [pre_cons, pre_cons, show far + k + 1 = far + 1 + k by omega, pre_shift kids k f (far + 1) (kids i), pre_shift kids k (f + 1) far l]
    simp

/-- One and its block, how far below it. -/
def blk (p : Nat) : List (Nat × Nat) → List (Nat × Nat)
  | [] => []
  | x :: r => if x.2 = p then (0, p) :: (r.takeWhile (fun y => decide (x.1 < y.1))).map (fun y => (y.1 - x.1, y.2)) else blk p r
theorem blk_skip (p : Nat) : ∀ (a b : List (Nat × Nat)), (∀ x ∈ a, x.2 ≠ p) → blk p (a ++ b) = blk p b
  | [], b, h => rfl
  | x :: a, b, h => by
    rw [List.cons_append, blk, if_neg (h x List.mem_cons_self)]
    exact blk_skip p a b (fun y hy => h y (List.mem_cons_of_mem _ hy))
theorem blk_left (p far : Nat) : ∀ (a b : List (Nat × Nat)), (∃ x ∈ a, x.2 = p) → (∀ x ∈ a, far < x.1) → (∀ x, b.head? = some x → x.1 ≤ far) → blk p (a ++ b) = blk p a
  | [], b, h, _, _ => by obtain ⟨x, hx, _⟩ := h; cases hx
  | x :: a, b, h, hf, hb => by
    rw [List.cons_append]
    by_cases e : x.2 = p
    · have hs := takeWhile_stop (fun y : Nat × Nat => decide (x.1 < y.1)) a b (fun y hy => by
        have h1 := hb y hy; have h2 := hf x List.mem_cons_self
        exact decide_eq_false (by omega))
      rw [blk, blk, if_pos e, if_pos e, hs.1]
    · rw [blk, blk, if_neg e, if_neg e]
      refine blk_left p far a b ?_ (fun y hy => hf y (List.mem_cons_of_mem _ hy)) hb
      obtain ⟨y, hy, e2⟩ := h
      rcases List.mem_cons.1 hy with rfl | hy
      · exact absurd e2 e
      · exact ⟨y, hy, e2⟩
theorem blk_pre (kids : Nat → List Nat) (p N : Nat) (hk : ∀ i, ∀ j ∈ kids i, i < j ∧ j ≤ N) : ∀ (f far : Nat) (l : List Nat), (∀ i ∈ l, i ≤ N ∧ N < f + i) → ((pre kids f far l).map (·.2)).Nodup → (∃ x ∈ pre kids f far l, x.2 = p) →
    blk p (pre kids f far l) = pre kids (N + 1) 0 [p]
  | 0, far, l, _, _, h => by obtain ⟨x, hx, _⟩ := h; simp [pre] at hx
  | f + 1, far, [], _, _, h => by obtain ⟨x, hx, _⟩ := h; simp [pre] at hx
  | f + 1, far, i :: l, hf, hd, h => by
    rw [pre_cons] at hd h
    rw [List.map_cons, List.nodup_cons, List.map_append, List.nodup_append] at hd
    obtain ⟨d1, d2, d3, d4⟩ := hd
    have hfi := hf i List.mem_cons_self
    by_cases e : i = p
    · subst e
      rw [pre_cons, blk, if_pos rfl, pre_cons, pre_nil, List.append_nil]
      have hs := takeWhile_stop (fun y : Nat × Nat => decide (far < y.1)) (pre kids f (far + 1) (kids i)) (pre kids (f + 1) far l) (fun y hy => by
        have h1 := pre_head kids _ _ _ y hy
        exact decide_eq_false (by omega))
      have ht : ∀ x ∈ pre kids f (far + 1) (kids i), decide (far < x.1) = true := fun x hx => decide_eq_true (by have := pre_far kids _ _ _ x hx; omega)
      simp only
      rw [hs.1, (tw_all _ _ ht).1, show far + 1 = 0 + 1 + far by omega, pre_shift kids far f (0 + 1) (kids i), List.map_map]
      have hid : ((fun y : Nat × Nat => (y.1 - far, y.2)) ∘ fun y : Nat × Nat => (y.1 + far, y.2)) = id := by
        funext y; simp
      rw [hid, List.map_id, pre_fuel kids N hk f N (0 + 1) (kids i) (fun j hj => by have := hk i j hj; omega)]
    · rw [pre_cons, blk, if_neg e]
      obtain ⟨x, hx, ex⟩ := h
      rw [List.mem_cons, List.mem_append] at hx
      rcases hx with rfl | hx | hx
      · exact absurd ex e
      · rw [blk_left p far _ _ ⟨x, hx, ex⟩ (fun y hy => by have := pre_far kids _ _ _ y hy; omega) (fun y hy => by have := pre_head kids _ _ _ y hy; omega)]
        exact blk_pre kids p N hk f (far + 1) (kids i) (fun j hj => by have := hk i j hj; omega) d2 ⟨x, hx, ex⟩
      · have n1 : ∀ y ∈ pre kids f (far + 1) (kids i), y.2 ≠ p := fun y hy e2 => d4 p (List.mem_map.2 ⟨y, hy, e2⟩) p (List.mem_map.2 ⟨x, hx, ex⟩) rfl
        rw [blk_skip p _ _ n1]
        exact blk_pre kids p N hk (f + 1) far l (fun j hj => hf j (List.mem_cons_of_mem _ hj)) d3 ⟨x, hx, ex⟩

theorem roots_lt (l : List (Int × Int)) : ∀ n, ∀ i ∈ roots l n, i < n
  | 0, i, h => by cases h
  | n + 1, i, h => by
    cases hp : par l n with
    | none =>
      simp only [roots, hp, List.mem_append, List.mem_singleton] at h
      rcases h with h | rfl
      · have := roots_lt l n i h; omega
      · omega
    | some p =>
      simp only [roots, hp] at h
      have := roots_lt l n i h; omega
/-- The document's Pre is the walk from one. -/
theorem ord_blk (l : List (Int × Int)) (n p : Nat) (h : p < n) : blk p (ordL l n) = pre (kidsN l n) (n + 1) 0 [p] := by
  have ho := ord_pre l n (n + 1) (by omega) n (Nat.le_refl _)
  have hm := ord_mem (l := l) h
  have hd := ord_nodup l n
  rw [ho] at hm hd ⊢
  exact blk_pre (kidsN l n) p n (fun i j hj => by have := kids_up l n i j hj; omega) (n + 1) 0 (roots l n) (fun i hi => by have := roots_lt l n i hi; omega) hd hm
end Vt
end Go.Proofs.YtocoonkachbjaaaGreatDoor

/- Lists of sessions among the arguments, and the document's Parent. -/
namespace Go.Proofs.YtocoonkachbjaaaGreatDoor
open Go.RowKit
set_option linter.unusedVariables false
namespace Vw
/-- A list of sessions, wherever it lies. -/
def SessArg (w : World) (v : Value) (ss : List Sess) : Prop :=
  ∃ p cap, v = .slice p ss.length cap ∧ ∀ j (hj : j < ss.length), ∃ g o, p = some ⟨g, o, none⟩ ∧ g < w.heap.size ∧ ∀ (i : Nat) (u : Value), ss[j].cells[i]? = some u → w.cell? ⟨g, o + j * 12 + i, none⟩ = some u
theorem SessArg.below {w w' : World} {v : Value} {ss : List Sess} (h : SessArg w v ss) (hb : Below w.heap.size w w') : SessArg w' v ss := by
  obtain ⟨p, cap, rfl, h⟩ := h
  refine ⟨p, cap, rfl, fun j hj => ?_⟩
  obtain ⟨g, o, h1, h2, h3⟩ := h j hj
  exact ⟨g, o, h1, Nat.lt_of_lt_of_le h2 hb.size, fun i u hi => (hb.cell (p := ⟨g, o + j * 12 + i, none⟩) h2).trans (h3 i u hi)⟩
/-- The births, and those of the parents. -/
def bu (ss : List Sess) : List (Int × Int) := ss.map fun s => (s.birth, s.ub)
theorem bu_at {ss : List Sess} {j : Nat} (hj : j < ss.length) : (bu ss)[j]? = some (ss[j].birth, ss[j].ub) := by
  unfold bu; rw [List.getElem?_map, List.getElem?_eq_getElem hj]; rfl
def parI (l : List (Int × Int)) (n : Nat) : Int := match Vt.par l n with
  | none => -1
  | some p => p

def PRel (l : List (Int × Int)) (up : Int) (n : Nat) (w : World) (i : Value) (wr : World) : Prop :=
  ∃ k : Nat, k ≤ n ∧ i = .int .i64 ((k : Int) - 1) ∧ Vt.lastTo l up n = Vt.lastTo l up k ∧ Below w.heap.size w wr

set_option maxRecDepth 100000 in
set_option maxHeartbeats 2000000 in
theorem rparent_any (v : Value) (ss : List Sess) (hl : (ss.length : Int) ≤ 9223372036854775807) (n : Nat) (hn : n < ss.length) (w : World) (h1 : SessArg w v ss) :
    Calls Tryz.prog 88 #[v, .int .i64 n] w fun e w' => e = .returned (.int .i64 (parI (bu ss) n)) ∧ Below w.heap.size w w' := by
  obtain ⟨p, cap, rfl, h⟩ := h1
  obtain ⟨g, o, rfl, hg, hc⟩ := h n hn
  have e0 : w.cell? ⟨g, o + n * 12 + 2 + 1, none⟩ = some (.int .i64 ss[n].ub) := hc 3 _ rfl
  have b0 : (0 : Int) ≤ (n : Int) := by omega
  have b1 : (n : Int) < (ss.length : Int) := by omega
  by_cases hz : ss[n].ub = 0
  · have hp : parI (bu ss) n = -1 := by unfold parI Vt.par; rw [bu_at hn]; simp only; rw [if_pos hz]
    rw [hp]
    rw [hz] at e0
    clear hc h hz hp
    go_enter Tryz.func88, Tryz.ntmps88
    go_wp2
    go_ret
    exact ⟨rfl, Below.refl _ _⟩
  · have hp : Vt.par (bu ss) n = Vt.lastTo (bu ss) ss[n].ub n := by unfold Vt.par; rw [bu_at hn]; simp only; rw [if_neg hz]
    have hq : (ss[n].ub == 0) = false := by rw [beq_eq_false_iff_ne]; exact hz
    obtain ⟨U, hU⟩ : ∃ U, U = ss[n].ub := ⟨_, rfl⟩
    rw [← hU] at hp hq e0
    have HP := Lib.hid hp
    have H := Lib.hid h
    have w1 : IntKind.i64.wrap ((n : Int) - 1) = (n : Int) - 1 := IntWalk.i64_in _ (by omega)
    clear hc h hz hp hU
    go_enter Tryz.func88, Tryz.ntmps88
    go_wp2
    go_loopw [5] (fun i wr => PRel (bu ss) U n w i wr) (fun i _ => (intOf i + 1).toNat)
    case atStart => exact ⟨n, Nat.le_refl _, rfl, rfl, Below.refl _ _⟩
    case round =>
      obtain ⟨k, hk, rfl, heq, hbr⟩ := hrel
      have HE := Lib.hid heq; clear heq
      rcases Nat.eq_zero_or_pos k with rfl | h0
      · have hno : parI (bu ss) n = -1 := by unfold parI; rw [HP.out, HE.out]; rfl
        have HF : Hid (Ending.returned (.int .i64 (-1)) = .returned (.int .i64 (parI (bu ss) n))) := by show _ = _; rw [hno]
        clear hno
        go_wp2
        go_ret
        exact ⟨HF.out, hbr⟩
      · obtain ⟨j, rfl⟩ : ∃ j, k = j + 1 := ⟨k - 1, by omega⟩
        have hj : j < ss.length := by omega
        obtain ⟨g2, o2, e2, hg2, k2⟩ := H.out j hj
        cases e2
        have e1 : wr.cell? ⟨g, o + j * 12 + 1, none⟩ = some (.int .i64 ss[j].birth) := (hbr.cell (p := ⟨g, o + j * 12 + 1, none⟩) hg).trans (k2 1 _ rfl)
        have e0' : wr.cell? ⟨g, o + n * 12 + 2 + 1, none⟩ = some (.int .i64 U) := (hbr.cell (p := ⟨g, o + n * 12 + 2 + 1, none⟩) hg).trans e0
        have c1 : ((j + 1 : Nat) : Int) - 1 = (j : Int) := by omega
        rw [c1]
        have c2 : (0 : Int) ≤ (j : Int) := by omega
        have c3 : (j : Int) < (ss.length : Int) := by omega
        have w2 : IntKind.i64.wrap ((j : Int) - 1) = (j : Int) - 1 := IntWalk.i64_in _ (by omega)
        obtain ⟨X, hX⟩ : ∃ X, X = ss[j].birth := ⟨_, rfl⟩
        rw [← hX] at e1
        have hlast : Vt.lastTo (bu ss) U (j + 1) = if X = U then some j else Vt.lastTo (bu ss) U j := by
          rw [Vt.lastTo, bu_at hj, hX]; simp
        clear k2 hX
        by_cases hxu : X = U
        · subst hxu
          rw [if_pos rfl] at hlast
          have HF : Hid (Ending.returned (.int .i64 (j : Int)) = .returned (.int .i64 (parI (bu ss) n))) := by show _ = _; unfold parI; rw [HP.out, HE.out, hlast]
          clear hlast c1
          have hxq : (X == X) = true := by simp
          go_wp2
          go_quiet (fail)
          go_wp2
          go_ret
          exact ⟨HF.out, Ut.below_drewN hbr _⟩
        · rw [if_neg hxu] at hlast
          have HE2 : Hid (Vt.lastTo (bu ss) U n = Vt.lastTo (bu ss) U j) := by show _ = _; rw [HE.out, hlast]
          have hxq : (X == U) = false := by rw [beq_eq_false_iff_ne]; exact hxu
          clear hlast c1 hxu
          go_wp2
          go_quiet (fail)
          go_wp2
          go_roundw
          case rel => exact ⟨j, by omega, by go_num, HE2.out, Ut.below_drewN hbr _⟩
          case measure => simp [intOf]
end Vw
end Go.Proofs.YtocoonkachbjaaaGreatDoor

/- Structs whose cells are letters: a slice of one of them. No program's code. -/
namespace Go.Proofs.YtocoonkachbjaaaGreatDoor
open Go.RowKit
set_option linter.unusedVariables false
namespace Ag

theorem fill_one (ie : TypeInfo) (z : Value) (cs : List Value) (hn : cs.length = ie.size) (h0 : 0 < ie.size) : Instr.fill (fun i => some (i * ie.size, ie.size)) ((Array.range (1 * ie.size)).map (z.cells[· % z.cells.size]!)) [(0, .agg cs.toArray)] = some cs.toArray := by
  have h := Go.Great.fill_whole (s := ie.size) h0 [Value.agg cs.toArray] ((Array.range (1 * ie.size)).map (z.cells[· % z.cells.size]!)) (by simp [Value.cells, hn]) (by simp)
  simpa [Value.cells] using h
/-- The same where the walk stands. -/
theorem wpList_one {P : Program} {ops : Array Oper} {rest : List Oper} {o : Oper} {a : Act} {w : World} {Q : Exit → Act → World → Prop} (hg : o.guard = none) (t e : TypeId) (x : Operand) (ho : o.op = .buildSlice t 1 #[(0, x)])
    (cs : List Value) (hx : a.eval x = .agg cs.toArray) (ie : TypeInfo) (z : Value) (hu : P.underlying t = some (.slice e)) (hie : P.info? e = some ie) (hz : ie.zero = some z) (hn : cs.length = ie.size) (h0 : 0 < ie.size) (hs : ie.size ≤ 16777216)
    (h : wpList P ops Q rest (a.put o.dst (.slice (some ⟨w.heap.size, 0, none⟩) 1 1)) (w.alloc (.cells cs.toArray e))) : wpList P ops Q (o :: rest) a w := by
  refine Go.wpList_buildSlice hg t e 1 #[(0, x)] ho cs.toArray ie z hu hie hz (by omega) (by omega) ?_ h
  have h := fill_one ie z cs hn h0
  simpa [hx] using h
/-- Cells set one behind the other. -/
def put (Z : Array Value) : Nat → List Value → Array Value
  | _, [] => Z
  | o, v :: r => put (Z.setIfInBounds o v) (o + 1) r
theorem put_at : ∀ (vs : List Value) (o : Nat) (Z : Array Value) (i : Nat), (put Z o vs)[i]? = if o ≤ i ∧ i < o + vs.length ∧ i < Z.size then vs[i - o]? else Z[i]?
  | [], o, Z, i => by rw [if_neg (by simp; omega)]; rfl
  | v :: r, o, Z, i => by
    rw [put, put_at r]
    by_cases h1 : o = i
    · subst h1
      rw [if_neg (by omega)]
      by_cases h2 : o < Z.size
      · rw [if_pos (by simp; omega)]; simp [h2]
      · rw [if_neg (by simp; omega)]; simp [h2]
    · by_cases h2 : o + 1 ≤ i ∧ i < o + 1 + r.length ∧ i < Z.size
      · rw [if_pos (by simpa using h2), if_pos (by simp; omega), show i - o = (i - (o + 1)) + 1 by omega, List.getElem?_cons_succ]
      · rw [if_neg (by simpa using h2), if_neg (by simp; omega), Array.getElem?_setIfInBounds, if_neg h1]
theorem put_all {Z : Array Value} {cs : List Value} (h : Z.size = cs.length) : put Z 0 cs = cs.toArray := by
  apply Array.ext_getElem?
  intro i
  rw [put_at]
  by_cases h1 : i < cs.length
  · rw [if_pos (by omega)]; simp
  · rw [if_neg (by omega)]
    simp [h1, h]
theorem setCells_new (w : World) (t : TypeId) : ∀ (vs : List Value) (o : Nat) (Z : Array Value), (w.alloc (.cells Z t)).setCells w.heap.size o vs = w.alloc (.cells (put Z o vs) t)
  | [], _, _ => rfl
  | v :: r, o, Z => by
    rw [World.setCells, World.setCell_alloc_at (hn := rfl), setCells_new w t r]; rfl
theorem there_new (w : World) (t : TypeId) (Z : Array Value) (n : Nat) (h : n ≤ Z.size) : (w.alloc (.cells Z t)).there w.heap.size 0 n := fun j hj => by
  refine ⟨?_, World.frozen?_alloc_new w Z t _⟩
  rw [cell_of_row _ _ _ _ _ _ (Ut.alloc_at w (.cells Z t)), Nat.zero_add]
  have h2 : j < Z.size := by omega
  simp [h2]
/-- A struct stored into a variable that was just made. -/
theorem wpList_store_new {P : Program} {ops : Array Oper} {rest : List Oper} {o : Oper} {a : Act} {w : World} {Q : Exit → Act → World → Prop} {t : TypeId} {Z : Array Value} (hg : o.guard = none) (ty : TypeId) (x y : Operand) (ho : o.op = .store ty x y) (cs : List Value)
    (hx : a.eval x = .pointer (some ⟨w.heap.size, 0, none⟩)) (hy : a.eval y = .agg cs.toArray) (hi : (P.info? ty).map (·.size) = some cs.length) (hZ : Z.size = cs.length) (h1 : ∀ v ∈ cs, v.oneCell' = true)
    (h : wpList P ops Q rest (a.put o.dst undef) (w.alloc (.cells cs.toArray t))) : wpList P ops Q (o :: rest) a (w.alloc (.cells Z t)) := by
  refine wpList_store_mid hg ty x y ho w.heap.size 0 cs.toArray hx hy (there_new w t Z _ (by simp [hZ])) (by simpa using hi) (all_oneCell_toArray h1) ?_
  rw [setCells_new, List.toList_toArray, put_all hZ]
  exact h
theorem setCells_row (b : Nat) (t : TypeId) : ∀ (vs : List Value) (o : Nat) (Z : Array Value) (w : World), w.heap[b]? = some (.cells Z t (0, 0)) → (w.setCells b o vs).heap[b]? = some (.cells (put Z o vs) t (0, 0))
  | [], _, _, _, h => h
  | v :: r, o, Z, w, h => by
    rw [World.setCells, put]
    exact setCells_row b t r _ _ _ (heap_setCell_same w b o _ _ v h)
theorem there_row {w : World} {b : Nat} {t : TypeId} {Z : Array Value} (h : w.heap[b]? = some (.cells Z t (0, 0))) (n : Nat) (hn : n ≤ Z.size) : w.there b 0 n := fun j hj => by
  refine ⟨?_, by unfold World.frozen?; rw [h]; rfl⟩
  rw [cell_of_row _ _ _ _ _ _ h, Nat.zero_add]
  have h2 : j < Z.size := by omega
  simp [h2]
theorem below_setCells {B : Nat} {a : World} {b : Nat} (hb : B ≤ b) : ∀ (vs : List Value) (o : Nat) (w : World), Below B a w → Below B a (w.setCells b o vs)
  | [], _, _, h => h
  | v :: r, o, w, h => by
    rw [World.setCells]
    exact below_setCells hb r _ _ (h.setCell (p := ⟨b, o, none⟩) hb v)
end Ag
end Go.Proofs.YtocoonkachbjaaaGreatDoor

/- view's laws: the book of three scopes, the chapter's sessions, works. -/
namespace Go.Proofs.YtocoonkachbjaaaGreatDoor
open Go.RowKit Go.Maps Go.ChangeMaps Go.Proofs.NmPlain Go.Proofs.Ar Go.Proofs.YtocoonkachbjaaaGreatDoor.Sc
set_option linter.unusedVariables false
namespace Vw
def vbk : List ByteArray := [⟨#[109, 97, 105, 108, 46, 114, 101, 97, 100]⟩, ⟨#[109, 97, 105, 108, 46, 115, 101, 110, 100]⟩, ⟨#[112, 97, 121]⟩]
def vfour : List Sess := [⟨1, 3, 0, 0, 0, ⟨#[97, 110, 110]⟩, ⟨#[]⟩, 7, 0, 0, 100, 0⟩, ⟨2, 5, 1, 3, 1, ⟨#[97, 110, 110]⟩, ⟨#[112, 104, 111, 110, 101]⟩, 1, 0, 0, 90, 1⟩, ⟨3, 7, 0, 0, 0, ⟨#[98, 111, 98]⟩, ⟨#[]⟩, 0, 2, 0, 40, 0⟩, ⟨4, 9, 2, 5, 2, ⟨#[97, 110, 110]⟩, ⟨#[112, 97, 121]⟩, 1, 1, 0, 50, 2⟩]
def vfour0 : Sess := ⟨1, 3, 0, 0, 0, ⟨#[97, 110, 110]⟩, ⟨#[]⟩, 7, 0, 0, 100, 0⟩
set_option maxRecDepth 100000 in
theorem vbk_new : newL vbk = (0, -1) := by decide +kernel
set_option maxRecDepth 100000 in
theorem vbk_line : lineL vbk vfour0 40 = ([51, 32, 97, 110, 110, 32, 108, 111, 103, 105, 110, 32, 108, 111, 119, 32, 91, 109, 97, 105, 108, 46, 114, 101, 97, 100, 32, 109, 97, 105, 108, 46, 115, 101, 110, 100, 32, 112, 97, 121, 93, 32, 49, 109], 0) := by decide +kernel
theorem vbk_small : ∀ s ∈ vbk, s.size ≤ 16777216 := by decide +kernel
theorem vbk_book : IsBook vbk := book_of vbk_new

def VBookPost (w : World) (e : Ending) (w' : World) : Prop := ∃ lo B, e = .returned (.pointer (some ⟨B, 0, none⟩)) ∧ BookAt lo w' B vbk ∧ Below w.heap.size w w'

set_option maxHeartbeats 2000000 in
theorem vbook_any (w : World) (hm : MaxAt w) : Calls Tryz.prog 50 #[] w (VBookPost w) := by
  have hb0 : Below w.heap.size w (w.alloc (.cells (vbk.map Value.string).toArray 9)) := (Below.refl _ w).alloc (Nat.le_refl _) _
  have HB0 := Lib.hid hb0
  have hn := new_any (.slice (some ⟨w.heap.size, 0, none⟩) 3 3) vbk (by decide) (fun _ => vbk_small) _ (hm.below hb0) (Tx.lit_arg w vbk 9)
  have HN := Lib.hid hn
  clear hn hm hb0
  go_enter Tryz.func50, Tryz.ntmps50
  go_wp2_with fail
  refine HN.out.mono ?_
  rintro e w1 ⟨hp, hb1⟩
  have hb2 : Below w.heap.size w w1 := HB0.out.trans (hb1.mono HB0.out.size)
  rcases hp with ⟨-, B, rfl, hB⟩ | ⟨h, -⟩
  · have HB := Lib.hid hB
    clear hB hb1
    go_wp2
    go_ret
    exact ⟨_, B, rfl, HB.out, hb2⟩
  · exact absurd vbk_new h

def fourCells : List Value := vfour.flatMap Sess.cells
set_option maxRecDepth 100000 in
set_option maxHeartbeats 2000000 in
theorem vfour_any (w : World) : Calls Tryz.prog 51 #[] w fun e w' => e = .returned (.slice (some ⟨w.heap.size, 0, none⟩) 4 4) ∧ w' = w.alloc (.cells fourCells.toArray 30) := by
  go_enter Tryz.func51, Tryz.ntmps51
  go_wp2_with (refine Go.wpList_buildSlice rfl _ _ 4 _ rfl fourCells.toArray _ _ rfl rfl rfl (by decide) (by decide) (by kernel_rfl) ?_)
  go_ret
  exact ⟨rfl, rfl⟩
theorem vbook_parts {w w' : World} (h : PartsAt w) (hb : Below w.heap.size w w') : PartsAt w' := by
  have hl := h.lt
  obtain ⟨t, fr, h⟩ := h
  exact ⟨t, fr, by rw [hb.block _ hl]; exact h⟩
/-- What view's code reads besides its arguments. -/
structure VEnv (w : World) : Prop where
  max : MaxAt w
  parts : PartsAt w
  tab : Lib.TabIs Tryz.prog w "internal/strconv.uint64pow10" .u64 Lib.pow10Tab
theorem VEnv.below {w w' : World} (h : VEnv w) (hb : Below w.heap.size w w') : VEnv w' := ⟨h.max.below hb, vbook_parts h.parts hb, tab_below gPow h.tab (tab_lt gPow h.tab) hb⟩
theorem VEnv.line {lo B : Nat} {ls : List ByteArray} {w : World} (h : VEnv w) (hB : BookAt lo w B ls) : ∀ w', Below w.heap.size w w' → Env lo B ls w' := fun w' hb => ⟨hB.below hb, (h.below hb).parts, (h.below hb).tab⟩

set_option maxHeartbeats 2000000 in
theorem vworks_any (w : World) (he : VEnv w) : Calls Tryz.prog 49 #[] w fun e w' => e = .returned (.bool true) ∧ Below w.heap.size w w' := by
  have HK := Lib.hid (vbook_any w he.max)
  have HL := Lib.hid (fun lo B (w' : World) (hb : Below w.heap.size w w') (hB : BookAt lo w' B vbk) => line_any lo B vbk vfour0 40 (by decide) w' ⟨vbk_book, by decide, by decide, by decide, (he.below hb).line hB, by decide⟩)
  unfold LinePost at HL
  rw [vbk_line] at HL
  have e3 : errVal 0 = .nilIface := rfl
  simp only [e3, Vw.vfour0] at HL
  clear he e3
  go_enter Tryz.func49, Tryz.ntmps49
  go_wp2_with fail
  refine HK.out.mono ?_
  rintro e w1 ⟨lo, B, rfl, hB, hb1⟩
  have HB := Lib.hid hB; have HB1 := Lib.hid hb1
  clear hB hb1
  go_wp2_with fail
  refine (vfour_any w1).mono ?_
  rintro e w2 ⟨rfl, hw2⟩
  have hb2 : Below w1.heap.size w1 w2 := by rw [hw2]; exact (Below.refl _ _).alloc (Nat.le_refl _) _
  have hrow : w2.heap[w1.heap.size]? = some (.cells fourCells.toArray 30 (0, 0)) := by rw [hw2]; exact Ut.alloc_at _ _
  have hr : w2.rangeAt w1.heap.size 0 vfour0.cells := fun j u hu => by
    rw [Nat.zero_add, cell_of_row _ _ _ _ _ _ hrow]
    have e : fourCells = vfour0.cells ++ vfour.tail.flatMap Sess.cells := rfl
    have hj := (List.getElem?_eq_some_iff.1 hu).1
    rw [e, List.getElem?_toArray, List.getElem?_append_left hj]; exact hu
  have HB2 := Lib.hid (HB1.out.trans (hb2.mono HB1.out.size))
  have HBK := Lib.hid (HB.out.below hb2)
  have HR := Lib.hid hr
  clear hb2 hrow hr hw2
  go_wp2_with (refine wpList_load_mid (by rfl) 30 _ (by rfl) _ _ (by rfl) vfour0.cells _ HR.out Tryz.underlying30 rfl (by kernel_rfl) ?_)
  refine (HL.out lo B w2 HB2.out HBK.out).mono ?_
  rintro e w3 ⟨rfl, hb3⟩
  have HB3 := Lib.hid (HB2.out.trans (hb3.mono HB2.out.size))
  clear hb3
  go_wp2
  go_ret
  exact ⟨rfl, HB3.out⟩
/-- What a session's cells may be. -/
structure SessOK (s : Sess) : Prop where
  wb : (Lit.int .i64 s.birth).wf = true
  wu : (Lit.int .i64 s.ub).wf = true
  sc : s.scopes < 18446744073709551616
  z1 : s.user.size ≤ 9223372036854775807
  z2 : s.label.size ≤ 9223372036854775807
  wd : (Lit.int .i64 s.dl).wf = true
theorem vline_any {lo B : Nat} {ls : List ByteArray} (hbk : IsBook ls) (now : Int) (wn : (Lit.int .i64 now).wf = true) (s : Sess) (hs : SessOK s) (w : World) (he : VEnv w) (hB : BookAt lo w B ls) :
    Calls Tryz.prog 7 #[.pointer (some ⟨B, 0, none⟩), .agg s.cells.toArray, .int .i64 now] w fun e w' => LinePost ls s now e ∧ Below w.heap.size w w' :=
  line_any lo B ls s now wn w ⟨hbk, hs.sc, hs.z1, hs.z2, he.line hB, hs.wd⟩
end Vw
end Go.Proofs.YtocoonkachbjaaaGreatDoor

/- A new one behind one's block, by places: as the document's Order finds the place. No program's code. -/
namespace Go.Proofs.YtocoonkachbjaaaGreatDoor
set_option linter.unusedVariables false
namespace Vt

theorem tw_at {α : Type} (q : α → Bool) : ∀ (r : List α) (a : Nat), a ≤ r.length → (∀ j y, j < a → r[j]? = some y → q y = true) → (∀ y, r[a]? = some y → q y = false) → r.takeWhile q = r.take a ∧ r.dropWhile q = r.drop a
  | [], a, _, _, _ => by simp
  | x :: r, 0, _, _, h2 => by
    have := h2 x rfl
    simp [List.takeWhile, List.dropWhile, this]
  | x :: r, a + 1, h, h1, h2 => by
    have hx := h1 0 x (by omega) rfl
    obtain ⟨e1, e2⟩ := tw_at q r a (by simpa using h) (fun j y hj hy => h1 (j + 1) y (by omega) (by simpa using hy)) (fun y hy => h2 y (by simpa using hy))
    simp [List.takeWhile, List.dropWhile, hx, e1, e2]
theorem ins_at (p n : Nat) : ∀ (o : List (Nat × Nat)) (i a : Nat) (x : Nat × Nat), o[i]? = some x → x.2 = p → (∀ j y, j < i → o[j]? = some y → y.2 ≠ p) → i < a → a ≤ o.length → (∀ j y, i < j → j < a → o[j]? = some y → x.1 < y.1) → (∀ y, o[a]? = some y → ¬ x.1 < y.1) →
    ins p n o = o.take a ++ (x.1 + 1, n) :: o.drop a
  | [], i, a, x, h, _, _, _, _, _, _ => by simp at h
  | z :: r, 0, 0, x, h, e, hn, hia, ha, h1, h2 => by omega
  | z :: r, 0, a + 1, x, h, e, hn, hia, ha, h1, h2 => by
    have hz : z = x := by simpa using h
    subst hz
    obtain ⟨e1, e2⟩ := tw_at (fun y : Nat × Nat => decide (z.1 < y.1)) r a (by simpa using ha) (fun j y hj hy => decide_eq_true (h1 (j + 1) y (by omega) (by omega) (by simpa using hy))) (fun y hy => decide_eq_false (h2 y (by simpa using hy)))
    rw [ins, if_pos e, e1, e2]
    simp
  | z :: r, i + 1, 0, x, h, e, hn, hia, ha, h1, h2 => by omega
  | z :: r, i + 1, a + 1, x, h, e, hn, hia, ha, h1, h2 => by
    have hz : z.2 ≠ p := hn 0 z (by omega) rfl
    have ih := ins_at p n r i a x (by simpa using h) e (fun j y hj hy => hn (j + 1) y (by omega) (by simpa using hy)) (by omega) (by simpa using ha) (fun j y hj hj2 hy => h1 (j + 1) y (by omega) (by omega) (by simpa using hy)) (fun y hy => h2 y (by simpa using hy))
    rw [ins, if_neg hz, ih]
    simp

/-- The order alone. -/
def ordI (l : List (Int × Int)) (n : Nat) : List Nat := (ordL l n).map (·.2)
theorem ordI_len (l : List (Int × Int)) (n : Nat) : (ordI l n).length = n := by unfold ordI; rw [List.length_map, ord_len]
theorem ordI_lt {l : List (Int × Int)} {n j x : Nat} (h : (ordI l n)[j]? = some x) : x < n := List.mem_range.1 ((ord_perm l n).mem_iff.1 (List.mem_of_getElem? h))
theorem ordI_has {l : List (Int × Int)} {n p : Nat} (h : p < n) : ∃ j : Nat, (ordI l n)[j]? = some p := List.getElem?_of_mem ((ord_perm l n).mem_iff.2 (List.mem_range.2 h))
theorem ordI_none {l : List (Int × Int)} {n : Nat} (h : par l n = none) : ordI l (n + 1) = ordI l n ++ [n] := by simp only [ordI, ordL, h, List.map_append]; rfl
theorem ordI_some {l : List (Int × Int)} {n p i a : Nat} (h : par l n = some p) (hi : (ordI l n)[i]? = some p) (hn : ∀ (j y : Nat), j < i → (ordI l n)[j]? = some y → y ≠ p) (hia : i < a) (ha : a ≤ n) (h1 : ∀ (j y : Nat), i < j → j < a → (ordI l n)[j]? = some y → dep l p < dep l y)
    (h2 : ∀ (y : Nat), (ordI l n)[a]? = some y → ¬ dep l p < dep l y) : ordI l (n + 1) = (ordI l n).take a ++ n :: (ordI l n).drop a := by
  have get : ∀ {j : Nat} {y : Nat × Nat}, (ordL l n)[j]? = some y → (ordI l n)[j]? = some y.2 := fun {j y} hy => by unfold ordI; rw [List.getElem?_map, hy]; rfl
  obtain ⟨x, hx, ex⟩ : ∃ x, (ordL l n)[i]? = some x ∧ x.2 = p := by
    unfold ordI at hi
    rw [List.getElem?_map] at hi
    exact Option.map_eq_some_iff.1 hi
  have dx := ord_dep l n x (List.mem_of_getElem? hx)
  have hh := ins_at p n (ordL l n) i a x hx ex (fun j y hj hy => hn j y.2 hj (get hy)) hia (by rw [ord_len]; exact ha)
    (fun j y hj hj2 hy => by rw [dx, ex, ord_dep l n y (List.mem_of_getElem? hy)]; exact h1 j y.2 hj hj2 (get hy))
    (fun y hy => by rw [dx, ex, ord_dep l n y (List.mem_of_getElem? hy)]; exact h2 y.2 (get hy))
  have e : ordL l (n + 1) = ins p n (ordL l n) := by simp only [ordL, h]
  unfold ordI
  rw [e, hh]
  simp [List.map_take, List.map_drop]
end Vt
end Go.Proofs.YtocoonkachbjaaaGreatDoor

/- Rows of children as the program's grow makes them, and its map of births: plain. No program's code. -/
namespace Go.Proofs.YtocoonkachbjaaaGreatDoor
set_option linter.unusedVariables false
namespace Vt

/-- The rows: of the roots, then of each one's children. -/
def krow (l : List (Int × Int)) (n : Nat) : Nat → List Nat
  | 0 => roots l n
  | p + 1 => kidsN l n p
/-- The row in which the n-th one goes. -/
def upN (l : List (Int × Int)) (n : Nat) : Nat := match par l n with
  | none => 0
  | some p => p + 1
theorem upN_le (l : List (Int × Int)) (n : Nat) : upN l n ≤ n := by
  unfold upN
  cases h : par l n with
  | none => exact Nat.zero_le _
  | some p => exact par_lt h
theorem krow_zero (l : List (Int × Int)) (r : Nat) : krow l 0 r = [] := by cases r <;> rfl
theorem krow_succ (l : List (Int × Int)) (n r : Nat) : krow l (n + 1) r = if r = upN l n then krow l n r ++ [n] else krow l n r := by
  unfold upN
  cases h : par l n with
  | none =>
    simp only
    cases r with
    | zero => simp [krow, roots, h]
    | succ p => simp [krow, kidsN_none h]
  | some q =>
    simp only
    cases r with
    | zero => simp [krow, roots, h]
    | succ p =>
      show kidsN l (n + 1) p = _
      rw [kidsN_some h]
      unfold more
      by_cases e : p = q
      · subst e; simp [krow]
      · simp [krow, e]
theorem krow_len (l : List (Int × Int)) : ∀ n r, (krow l n r).length ≤ n
  | 0, r => by rw [krow_zero]; exact Nat.le_refl _
  | n + 1, r => by
    have := krow_len l n r
    rw [krow_succ]
    split
    · simp; exact this
    · omega
theorem lastTo_succ (l : List (Int × Int)) (up : Int) (k : Nat) : lastTo l up (k + 1) = if (l[k]?).map (·.1) = some up then some k else lastTo l up k := rfl
theorem upN_eq {l : List (Int × Int)} {n : Nat} {x : Int × Int} (h : l[n]? = some x) : upN l n = if x.2 = 0 then 0 else match lastTo l x.2 n with
  | none => 0
  | some p => p + 1 := by
  unfold upN par
  rw [h]
  simp only
  by_cases e : x.2 = 0
  · rw [if_pos e, if_pos e]
  · rw [if_neg e, if_neg e]
end Vt
end Go.Proofs.YtocoonkachbjaaaGreatDoor

/- The document's Depths. -/
namespace Go.Proofs.YtocoonkachbjaaaGreatDoor
open Go.RowKit Go.Maps
set_option linter.unusedVariables false
namespace Vw
theorem vown_kept {w w' : World} {lo e size n : Nat} {v : Value} {xs : List Value} (h : w.ownsRow lo e size v n xs) (hb : Below w.heap.size w w') : w'.ownsRow lo e size v n xs := by
  refine ⟨h.1, ?_⟩
  rcases h.2 with h2 | ⟨g, cap, cur, h1, h2, h3, h4⟩
  · exact .inl h2
  · refine .inr ⟨g, cap, cur, h1, h2, ?_, h4⟩
    rw [hb.block g (Array.getElem?_eq_some_iff.1 h3).1]; exact h3
theorem vinfo_int : (Tryz.prog.info? 3).map (fun i => (i.zero, i.size, i.bytes)) = some (some (.int .i64 0), 1, 8) := by kernel_rfl
def dv (l : List (Int × Int)) (j : Nat) : Value := .int .i64 (Vt.dep l j : Int)
def DpRel (ss : List Sess) (w : World) (d i : Value) (wr : World) : Prop :=
  ∃ k : Nat, k ≤ ss.length ∧ i = .int .i64 k ∧ wr.ownsRow w.heap.size 3 1 d k ((List.range k).map (dv (bu ss))) ∧ Below w.heap.size w wr
theorem DpRel.push {ss : List Sess} {w wr w1 : World} {d v' : Value} {k : Nat} {o : Obj} (hown : wr.ownsRow w.heap.size 3 1 d k ((List.range k).map (dv (bu ss)))) (hbl : Below w.heap.size w wr)
    (hown' : w1.ownsRow w.heap.size 3 1 v' (k + 1) ((List.range k).map (dv (bu ss)) ++ [dv (bu ss) k])) (hgrow : (wr.alloc o).grownBy w1 d.ownBlock) (h : k < ss.length) : DpRel ss w v' (.int .i64 ((k + 1 : Nat) : Int)) w1 :=
  ⟨k + 1, by omega, rfl, by rw [List.range_succ, List.map_append]; exact hown', Ut.below_app hbl hbl.size hown hgrow⟩
theorem dep_le (l : List (Int × Int)) : ∀ n, Vt.dep l n ≤ n := by
  intro n
  induction n using Nat.strongRecOn with
  | _ n ih =>
    cases hp : Vt.par l n with
    | none => rw [Vt.dep_none hp]; omega
    | some p =>
      have h1 := Vt.par_lt hp
      have h2 := ih p h1
      rw [Vt.dep_some hp]; omega

set_option maxRecDepth 100000 in
set_option maxHeartbeats 4000000 in
theorem rdepths_any (v : Value) (ss : List Sess) (hl : ss.length ≤ 65536) (w : World) (h1 : SessArg w v ss) :
    Calls Tryz.prog 44 #[v] w fun e w' => (∃ d, e = .returned d ∧ w'.ownsRow w.heap.size 3 1 d ss.length ((List.range ss.length).map (dv (bu ss)))) ∧ Below w.heap.size w w' := by
  have HA := Lib.hid h1
  obtain ⟨p, cap, rfl, -⟩ := h1
  obtain ⟨i0, hi, hz0, hz1, hz2⟩ := info_parts vinfo_int
  have hlI : (ss.length : Int) ≤ 9223372036854775807 := by omega
  have HLI := Lib.hid hlI
  go_enter Tryz.func44, Tryz.ntmps44
  go_wp2
  go_loopw [3, 4, 5] (fun d i _ wr => DpRel ss w d i wr) (fun _ i _ _ => ss.length - (intOf i).toNat)
  case atStart => exact ⟨0, Nat.zero_le _, rfl, World.ownsRow_nil _ _ _ _, Below.refl _ _⟩
  case round =>
    obtain ⟨k, hk, rfl, hown, hbr⟩ := hrel
    have HO := Lib.hid hown; have HB := Lib.hid hbr
    clear hown hbr
    have b0 : (0 : Int) ≤ (k : Int) := by omega
    by_cases h : k < ss.length
    · have b1 : (k : Int) < (ss.length : Int) := by omega
      have HC := Lib.hid (rparent_any _ ss hlI k h wr (HA.out.below HB.out))
      have am1 : k + 1 ≤ maxLen := by unfold maxLen; omega
      have am2 : (k + 1) * 8 ≤ 140737488355328 := by omega
      have w1' : IntKind.i64.wrap ((k : Int) + 1) = ((k + 1 : Nat) : Int) := by rw [IntWalk.i64_in _ (by omega)]; rfl
      have hk' : Hid (k < ss.length) := h
      cases hp : Vt.par (bu ss) k with
      | none =>
        have e1 : parI (bu ss) k = -1 := by unfold parI; rw [hp]
        have e2 : Hid (dv (bu ss) k = .int .i64 0) := by show _ = _; unfold dv; rw [Vt.dep_none hp]; rfl
        rw [e1] at HC
        clear e1 hp h
        go_wp2_with fail
        refine HC.out.mono ?_
        rintro e w2 ⟨rfl, hb2⟩
        have HB2 : Hid (Below w.heap.size w w2) := HB.out.trans (hb2.mono HB.out.size)
        have HO2 : Hid (w2.ownsRow w.heap.size 3 1 _ k ((List.range k).map (dv (bu ss)))) := vown_kept HO.out hb2
        have hzw : w.heap.size ≤ w2.heap.size := HB2.out.size
        clear hb2
        go_wp2_with (at_builtin; refine wpList_append_own _ rfl _ _ 82 rfl w.heap.size 3 i0 (.int .i64 0) 1 8 Tryz.underlying82 hi hz0 hz1 hz2 rfl (by decide) _ _ _ rfl (HO2.out.alloc _) ⟨w2.heap.size, 0, none⟩ 1 1 [Value.int .i64 0] rfl rfl (cell_one_new _ _ _) (by intro u hu; simp at hu; subst hu; rfl) am1 am2 (by simp; exact Nat.le_succ_of_le hzw) ?_; intro v' w3 hown' hgrow _)
        have HU := Lib.hid (DpRel.push HO2.out HB2.out (by rw [e2.out]; exact hown') hgrow hk'.out)
        clear hown' hgrow
        go_wp2
        go_roundw
        case rel => exact HU.out
        case measure => simp [intOf]; omega
      | some q =>
        have hql : q < k := Vt.par_lt hp
        have e1 : parI (bu ss) k = (q : Int) := by unfold parI; rw [hp]
        have hdq := dep_le (bu ss) q
        have w2' : IntKind.i64.wrap ((Vt.dep (bu ss) q : Int) + 1) = ((Vt.dep (bu ss) q + 1 : Nat) : Int) := by rw [IntWalk.i64_in _ (by omega)]; rfl
        obtain ⟨D, hD⟩ : ∃ D, D = Vt.dep (bu ss) q := ⟨_, rfl⟩
        have e2 : Hid (dv (bu ss) k = .int .i64 ((D + 1 : Nat) : Int)) := by show _ = _; unfold dv; rw [Vt.dep_some hp, hD]
        rw [e1] at HC
        rw [← hD] at w2'
        have HOC := Lib.hid (fun (w2 : World) (x : Value) (hx : w2.ownsRow w.heap.size 3 1 x k ((List.range k).map (dv (bu ss)))) => (by
          have hlen : 0 < ((List.range k).map (dv (bu ss))).length := by simp; omega
          obtain ⟨g, c, rfl, _, _, _, hg, hc⟩ := Ut.own_cells hx (by simpa using hlen)
          refine ⟨g, c, rfl, ?_⟩
          rw [hc q (by simpa using hql)]
          simp [hql, dv, hD] : ∃ g c, x = .slice (some ⟨g, 0, none⟩) k c ∧ w2.cell? ⟨g, q, none⟩ = some (.int .i64 (D : Int))))
        have c0 : (0 : Int) ≤ (q : Int) := by omega
        have c1 : (q : Int) < (k : Int) := by omega
        clear e1 hp h hdq hD hql
        go_wp2_with fail
        refine HC.out.mono ?_
        rintro e w2 ⟨rfl, hb2⟩
        have HB2 : Hid (Below w.heap.size w w2) := HB.out.trans (hb2.mono HB.out.size)
        have HO2 := Lib.hid (vown_kept HO.out hb2)
        obtain ⟨g, c, rfl, hcell⟩ := HOC.out w2 _ HO2.out
        have hzw : w.heap.size ≤ w2.heap.size := HB2.out.size
        clear hb2 HO HOC
        go_wp2_with (at_builtin; refine wpList_append_own _ rfl _ _ 82 rfl w.heap.size 3 i0 (.int .i64 0) 1 8 Tryz.underlying82 hi hz0 hz1 hz2 rfl (by decide) _ _ _ rfl (HO2.out.alloc _) ⟨w2.heap.size, 0, none⟩ 1 1 [Value.int .i64 ((D + 1 : Nat) : Int)] rfl rfl (cell_one_new _ _ _) (by intro u hu; simp at hu; subst hu; rfl) am1 am2 (by simp; exact Nat.le_succ_of_le hzw) ?_; intro v' w3 hown' hgrow _)
        have HU := Lib.hid (DpRel.push HO2.out HB2.out (by rw [e2.out]; exact hown') hgrow hk'.out)
        clear hown' hgrow
        go_wp2
        go_roundw
        case rel => exact HU.out
        case measure => simp [intOf]; omega
    · have b1 : (ss.length : Int) ≤ (k : Int) := by omega
      have e : k = ss.length := by omega
      have h3 := HO.out
      rw [e] at h3
      have HO3 := Lib.hid h3
      clear h3
      clear h
      go_wp2
      go_ret
      exact ⟨⟨_, rfl, HO3.out⟩, HB.out⟩
end Vw
end Go.Proofs.YtocoonkachbjaaaGreatDoor

/- lineageref0.SameInts of any two lists of numbers, wherever they lie. -/
namespace Go.Proofs.YtocoonkachbjaaaGreatDoor
open Go.RowKit
set_option linter.unusedVariables false
namespace In

/-- A value is a list of numbers, wherever it lies. -/
def IntArg (w : World) (v : Value) (ps : List Int) : Prop :=
  ∃ p cap, v = .slice p ps.length cap ∧ ∀ j (hj : j < ps.length), ∃ g o, p = some ⟨g, o, none⟩ ∧ g < w.heap.size ∧ w.cell? ⟨g, o + j, none⟩ = some (.int .i64 ps[j])
theorem IntArg.below {w w' : World} {v : Value} {ps : List Int} (h : IntArg w v ps) (hb : Below w.heap.size w w') : IntArg w' v ps := by
  obtain ⟨p, cap, rfl, h⟩ := h
  refine ⟨p, cap, rfl, fun j hj => ?_⟩
  obtain ⟨g, o, h1, h2, h3⟩ := h j hj
  exact ⟨g, o, h1, Nat.lt_of_lt_of_le h2 hb.size, (hb.cell (p := ⟨g, o + j, none⟩) h2).trans h3⟩
/-- A list of the call's own. -/
theorem own_ints {w : World} {base n : Nat} {v : Value} {ps : List Int} {f : Int → Value} (hf : ∀ x, f x = .int .i64 x) (hn : n = ps.length) (h : w.ownsRow base 3 1 v n (ps.map f)) : IntArg w v ps := by
  subst hn
  rcases Nat.eq_zero_or_pos ps.length with h0 | h0
  · have e : ps = [] := List.eq_nil_of_length_eq_zero h0
    subst e
    rcases h.2 with ⟨rfl, _⟩ | ⟨g, cap, cur, rfl, _⟩
    · exact ⟨none, 0, rfl, fun j hj => absurd hj (Nat.not_lt_zero _)⟩
    · exact ⟨_, cap, rfl, fun j hj => absurd hj (Nat.not_lt_zero _)⟩
  · obtain ⟨g, c, rfl, _, _, _, hg, hc⟩ := Ut.own_cells h h0
    exact ⟨_, c, rfl, fun j hj => ⟨g, 0, rfl, hg, by rw [Nat.zero_add, hc j hj]; simp [hj, hf]⟩⟩
theorem lit_ints (w : World) (ps : List Int) (t : TypeId) : IntArg (w.alloc (.cells (ps.map (Value.int .i64)).toArray t)) (.slice (some ⟨w.heap.size, 0, none⟩) ps.length ps.length) ps :=
  ⟨_, ps.length, rfl, fun j hj => ⟨w.heap.size, 0, rfl, by simp, by
    unfold World.cell?
    rw [Ut.alloc_at]
    simp [hj]⟩⟩

def SameRel (ps qs : List Int) (w : World) (i : Value) (wr : World) : Prop :=
  ∃ k : Nat, k ≤ ps.length ∧ i = .int .i64 k ∧ ps.take k = qs.take k ∧ Below w.heap.size w wr

set_option maxRecDepth 100000 in
set_option maxHeartbeats 1000000 in
theorem same_any (v u : Value) (ps qs : List Int) (hp : (ps.length : Int) ≤ 9223372036854775807) (hq : (qs.length : Int) ≤ 9223372036854775807) (w : World) (h1 : IntArg w v ps) (h2 : IntArg w u qs) :
    Calls Tryz.prog 54 #[v, u] w fun e w' => e = .returned (.bool (decide (ps = qs))) ∧ Below w.heap.size w w' := by
  obtain ⟨p, cp, rfl, h1⟩ := h1
  obtain ⟨q, cq, rfl, h2⟩ := h2
  have H1 := Lib.hid h1; have H2 := Lib.hid h2
  clear h1 h2
  by_cases hl : ps.length = qs.length
  · have e1 : ((ps.length : Int) != (qs.length : Int)) = false := by rw [hl]; simp
    have HL := Lib.hid hl
    clear hl
    go_enter Tryz.func54, Tryz.ntmps54
    go_wp2
    go_loopw [5] (fun i wr => SameRel ps qs w i wr) (fun i _ => ps.length - (intOf i).toNat)
    case atStart => exact ⟨0, Nat.zero_le _, rfl, by simp, Below.refl _ _⟩
    case round =>
      obtain ⟨k, hk, rfl, heq, hbr⟩ := hrel
      have HE := Lib.hid heq; clear heq
      by_cases h : k < ps.length
      · have hlt : k < qs.length := by rw [← HL.out]; exact h
        obtain ⟨g1, o1, rfl, hg1, k1⟩ := H1.out k h
        obtain ⟨g2, o2, rfl, hg2, k2⟩ := H2.out k hlt
        have k1' : wr.cell? ⟨g1, o1 + k, none⟩ = some (.int .i64 ps[k]) := (hbr.cell (p := ⟨g1, o1 + k, none⟩) hg1).trans k1
        have k2' : wr.cell? ⟨g2, o2 + k, none⟩ = some (.int .i64 qs[k]) := (hbr.cell (p := ⟨g2, o2 + k, none⟩) hg2).trans k2
        have hyes : ps[k] = qs[k] → ps.take (k + 1) = qs.take (k + 1) := fun e => by
          rw [List.take_succ_eq_append_getElem h, List.take_succ_eq_append_getElem hlt, HE.out, e]
        have hno : ps[k] ≠ qs[k] → decide (ps = qs) = false := fun e => by
          rw [decide_eq_false_iff_not]; intro e2; apply e
          have : ps[k]? = qs[k]? := by rw [e2]
          rw [List.getElem?_eq_getElem h, List.getElem?_eq_getElem hlt] at this
          exact Option.some.inj this
        obtain ⟨p, hpk⟩ : ∃ p, p = ps[k] := ⟨_, rfl⟩
        obtain ⟨q, hqk⟩ : ∃ q, q = qs[k] := ⟨_, rfl⟩
        clear k1 k2 H1 H2
        rw [← hpk] at k1' hyes hno; rw [← hqk] at k2' hyes hno
        have HY := Lib.hid hyes; have HN := Lib.hid hno
        clear hyes hno hpk hqk
        have b1 : (0 : Int) ≤ (k : Int) := by omega
        have b2 : (k : Int) < (ps.length : Int) := by omega
        have b3 : (k : Int) < (qs.length : Int) := by omega
        by_cases hz : p = q
        · have HT : Hid (ps.take (k + 1) = qs.take (k + 1)) := HY.out hz
          subst hz
          have hn : (p == p) = true := by simp
          go_wp2
          go_quiet (fail)
          go_wp2
          go_roundw
          case rel => exact ⟨k + 1, by omega, by go_num, HT, Ut.below_drewN hbr _⟩
          case measure => simp [intOf]; omega
        · have hn : (p == q) = false := by simp [hz]
          have HZ := Lib.hid hz; clear hz
          go_wp2
          go_quiet (fail)
          go_wp2
          go_ret
          exact ⟨Ut.ret_bool (by rw [HN.out HZ.out]), Ut.below_drewN hbr _⟩
      · obtain rfl : k = ps.length := by omega
        have HG : Hid (decide (ps = qs) = true) := by
          show _ = _
          have e := HE.out
          rw [List.take_length, HL.out, List.take_length] at e
          rw [decide_eq_true_eq]; exact e
        clear HE HL
        go_wp2
        go_ret
        exact ⟨Ut.ret_bool HG.out.symm, hbr⟩
  · have e1 : ((ps.length : Int) != (qs.length : Int)) = true := by rw [bne_iff_ne]; omega
    have HG : Hid (decide (ps = qs) = false) := by
      show _ = _; rw [decide_eq_false_iff_not]; intro e; exact hl (by rw [e])
    clear hl
    go_enter Tryz.func54, Tryz.ntmps54
    go_wp2
    go_ret
    exact ⟨Ut.ret_bool HG.out.symm, Below.refl _ _⟩

end In
end Go.Proofs.YtocoonkachbjaaaGreatDoor

/- lineageref0.CopyInts of any list of numbers, wherever it lies. -/
namespace Go.Proofs.YtocoonkachbjaaaGreatDoor
open Go.RowKit Go.Maps
set_option linter.unusedVariables false
namespace In
theorem cinfo_int : (Tryz.prog.info? 3).map (fun i => (i.zero, i.size, i.bytes)) = some (some (.int .i64 0), 1, 8) := by kernel_rfl
def CpRel (ps : List Int) (w : World) (d i : Value) (wr : World) : Prop :=
  ∃ k : Nat, k ≤ ps.length ∧ i = .int .i64 k ∧ wr.ownsRow w.heap.size 3 1 d k ((ps.take k).map (Value.int .i64)) ∧ Below w.heap.size w wr
theorem CpRel.push {ps : List Int} {w wr w1 : World} {d v' : Value} {k : Nat} {o : Obj} (hown : wr.ownsRow w.heap.size 3 1 d k ((ps.take k).map (Value.int .i64))) (hbl : Below w.heap.size w wr) (h : k < ps.length)
    (hown' : w1.ownsRow w.heap.size 3 1 v' (k + 1) ((ps.take k).map (Value.int .i64) ++ [Value.int .i64 ps[k]])) (hgrow : (wr.alloc o).grownBy w1 d.ownBlock) : CpRel ps w v' (.int .i64 ((k + 1 : Nat) : Int)) w1 :=
  ⟨k + 1, by omega, rfl, by rw [List.take_succ_eq_append_getElem h, List.map_append]; exact hown', Ut.below_app hbl hbl.size hown hgrow⟩

set_option maxRecDepth 100000 in
set_option maxHeartbeats 2000000 in
theorem rcopy_any (v : Value) (ps : List Int) (hl : ps.length ≤ 65536) (w : World) (h1 : IntArg w v ps) :
    Calls Tryz.prog 89 #[v] w fun e w' => (∃ d, e = .returned d ∧ w'.ownsRow w.heap.size 3 1 d ps.length (ps.map (Value.int .i64))) ∧ Below w.heap.size w w' := by
  obtain ⟨p, cap, rfl, h1⟩ := h1
  have H1 := Lib.hid h1
  clear h1
  obtain ⟨i0, hi, hz0, hz1, hz2⟩ := info_parts cinfo_int
  go_enter Tryz.func89, Tryz.ntmps89
  go_wp2
  go_loopw [3, 4] (fun d i wr => CpRel ps w d i wr) (fun _ i _ => ps.length - (intOf i).toNat)
  case atStart => exact ⟨0, Nat.zero_le _, rfl, World.ownsRow_nil _ _ _ _, Below.refl _ _⟩
  case round =>
    obtain ⟨k, hk, rfl, hown, hbr⟩ := hrel
    have HO := Lib.hid hown; have HB := Lib.hid hbr
    have hzw : w.heap.size ≤ wr.heap.size := hbr.size
    clear hown
    have b0 : (0 : Int) ≤ (k : Int) := by omega
    by_cases h : k < ps.length
    · have b1 : (k : Int) < (ps.length : Int) := by omega
      obtain ⟨g1, o1, rfl, hg1, k1⟩ := H1.out k h
      have k1' : wr.cell? ⟨g1, o1 + k, none⟩ = some (.int .i64 ps[k]) := (hbr.cell (p := ⟨g1, o1 + k, none⟩) hg1).trans k1
      have am1 : k + 1 ≤ maxLen := by unfold maxLen; omega
      have am2 : (k + 1) * 8 ≤ 140737488355328 := by omega
      have w1' : IntKind.i64.wrap ((k : Int) + 1) = ((k + 1 : Nat) : Int) := by rw [IntWalk.i64_in _ (by omega)]; rfl
      have HP := Lib.hid (fun (v' : Value) (w1 : World) (d : Value) (o : Obj) (a1 : wr.ownsRow w.heap.size 3 1 d k ((ps.take k).map (Value.int .i64))) (a2 : Below w.heap.size w wr) => CpRel.push (ps := ps) (w := w) (wr := wr) (w1 := w1) (d := d) (v' := v') (k := k) (o := o) a1 a2 h)
      obtain ⟨X, hX⟩ : ∃ X, X = ps[k] := ⟨_, rfl⟩
      rw [← hX] at k1' HP
      clear k1 hX h
      go_wp2_with (at_builtin; refine wpList_append_own _ rfl _ _ 82 rfl w.heap.size 3 i0 (.int .i64 0) 1 8 Tryz.underlying82 hi hz0 hz1 hz2 rfl (by decide) _ _ _ rfl (HO.out.alloc _) ⟨wr.heap.size, 0, none⟩ 1 1 [Value.int .i64 X] rfl rfl (cell_one_new _ _ _) (by intro u hu; simp at hu; subst hu; rfl) am1 am2 (by simp; exact Nat.le_succ_of_le hzw) ?_; intro v' w3 hown' hgrow _)
      have HU := Lib.hid (HP.out _ _ _ _ HO.out HB.out hown' hgrow)
      clear hown' hgrow
      go_wp2
      go_roundw
      case rel => exact HU.out
      case measure => simp [intOf]; omega
    · have b1 : (ps.length : Int) ≤ (k : Int) := by omega
      have e : k = ps.length := by omega
      have h3 := HO.out
      rw [e, List.take_length] at h3
      have HO3 := Lib.hid h3
      clear h h3
      go_wp2
      go_ret
      exact ⟨⟨_, rfl, HO3.out⟩, HB.out⟩
end In
end Go.Proofs.YtocoonkachbjaaaGreatDoor

/- append onto a list of the call's own: the source is another list, a part of it, nil or empty too. No program's code. -/
namespace Go.Proofs.YtocoonkachbjaaaGreatDoor
open Go Go.RowKit
set_option linter.unusedVariables false
namespace Ap

/-- What a source holds: nothing, or these cells from its address on. -/
def SrcAt (w : World) (A : Option Addr) (m size : Nat) (xs : List Value) : Prop :=
  (m = 0 ∧ xs = []) ∨ ∃ ad, A = some ad ∧ xs.length = m * size ∧ ∀ j u, xs[j]? = some u → w.cell? (ad.add j) = some u

section
variable {P : Program} (w : World)

theorem run_nil (base : Nat) (t ty e : TypeId) (i : TypeInfo) (size : Nat) (ht : P.underlying t = some (.slice e)) (hi : P.info? e = some i) (v : Value) (n : Nat) (xs : List Value) (hown : w.ownsRow base e size v n xs) (c : Nat) :
    (Builtin.append_ #[t, t] ty #[v, .slice none 0 c]).run P w = .ok v w := by
  obtain ⟨_, h⟩ := hown
  rcases h with ⟨rfl, rfl⟩ | ⟨gg, cap, cur, rfl, _, _, hnc, _⟩
  · simp [Builtin.append_, run_underlying ht, sizeOf, typeInfo, hi, Builtin.lenOf, Builtin.firstCells]
  · simp [Builtin.append_, run_underlying ht, sizeOf, typeInfo, hi, Builtin.lenOf, Builtin.firstCells, hnc, storeCells]

theorem run_any (base : Nat) (t ty e : TypeId) (i : TypeInfo) (z : Value) (size bytes : Nat) (ht : P.underlying t = some (.slice e)) (hi : P.info? e = some i) (hz : i.zero = some z)
    (hsize : i.size = size) (hby : i.bytes = bytes) (hzs : z.cells.size = size) (hsz : 0 < size) (v : Value) (n : Nat) (xs : List Value) (hown : w.ownsRow base e size v n xs)
    (A : Option Addr) (m c : Nat) (news : List Value) (hr : SrcAt w A m size news) (h1 : ∀ u ∈ news, u.oneCell' = true) (h63 : n + m ≤ maxLen) (hbytes : (n + m) * bytes ≤ 140737488355328) (hbase : base ≤ w.heap.size) :
    ∃ v' w', (Builtin.append_ #[t, t] ty #[v, .slice A m c]).run P w = .ok v' w' ∧ w'.ownsRow base e size v' (n + m) (xs ++ news) ∧ w.grownBy w' v.ownBlock ∧ (v'.ownBlock = v.ownBlock ∨ v'.ownBlock = some w.heap.size) := by
  rcases hr with ⟨rfl, rfl⟩ | ⟨ad, rfl, hl, hc⟩
  · rcases A with _ | ad
    · exact ⟨v, w, run_nil w base t ty e i size ht hi v n xs hown c, by simpa using hown, World.grownBy.refl w _, .inl rfl⟩
    · obtain ⟨v', w', hrun, h2, h3, _, h5⟩ := run_append_own_at (P := P) w base t ty e i z size bytes ht hi hz hsize hby hzs hsz v n xs hown ad 0 c [] (by simp) (fun j u h => by simp at h) h1 h63 hbytes hbase
      exact ⟨v', w', hrun, h2, h3, h5⟩
  · obtain ⟨v', w', hrun, h2, h3, _, h5⟩ := run_append_own_at (P := P) w base t ty e i z size bytes ht hi hz hsize hby hzs hsz v n xs hown ad m c news hl hc h1 h63 hbytes hbase
    exact ⟨v', w', hrun, h2, h3, h5⟩

theorem wpList_any {ops : Array Oper} {rest : List Oper} {o : Oper} {a : Act} {Q : Exit → Act → World → Prop} (hgd : o.guard = none) (s x : Operand) (t : TypeId)
    (ho : o.op = .call { callee := .builtin .append, args := #[s, x], argTypes := #[t, t] })
    (base : Nat) (e : TypeId) (i : TypeInfo) (z : Value) (size bytes : Nat) (ht : P.underlying t = some (.slice e)) (hi : P.info? e = some i) (hz : i.zero = some z)
    (hsize : i.size = size) (hby : i.bytes = bytes) (hzs : z.cells.size = size) (hsz : 0 < size) (v : Value) (n : Nat) (xs : List Value) (hs : a.eval s = v) (hown : w.ownsRow base e size v n xs)
    (A : Option Addr) (m c : Nat) (news : List Value) (hx : a.eval x = .slice A m c) (hr : SrcAt w A m size news) (h1 : ∀ u ∈ news, u.oneCell' = true) (h63 : n + m ≤ maxLen) (hbytes : (n + m) * bytes ≤ 140737488355328) (hbase : base ≤ w.heap.size)
    (h : ∀ v' w', w'.ownsRow base e size v' (n + m) (xs ++ news) → w.grownBy w' v.ownBlock → (v'.ownBlock = v.ownBlock ∨ v'.ownBlock = some w.heap.size) → wpList P ops Q rest (a.put o.dst v') w') : wpList P ops Q (o :: rest) a w := by
  refine wpList_plain hgd fun K hK => ?_
  obtain ⟨v', w', hr, h2, h3, h4⟩ := run_any (P := P) w base t o.type e i z size bytes ht hi hz hsize hby hzs hsz v n xs hown A m c news hr h1 h63 hbytes hbase
  unfold Oper.wp execOp
  simp only [ho, resolve, invoke, builtin, Sem.run_bind, Sem.run_pure, Result.andThen_ok, List.map_toArray, List.map_cons, List.map_nil, hs, hx, hr]
  exact hK _ _ (h v' w' h2 h3 h4)

end

theorem add_plain (gv k : Nat) : (⟨gv, 0, none⟩ : Addr).add k = ⟨gv, k, none⟩ := by
  unfold Addr.add
  by_cases h : k = 0
  · subst h; simp
  · simp [h]

end Ap
end Go.Proofs.YtocoonkachbjaaaGreatDoor

/- Reslicing, its address a letter: no ways. No program's code. -/
namespace Go.Proofs.YtocoonkachbjaaaGreatDoor
open Go.RowKit
set_option linter.unusedVariables false
set_option linter.unusedSimpArgs false
namespace Sl
theorem run_low {P : Program} (t e : TypeId) (q : Option Addr) (n c a size : Nat) (hu : P.underlying t = some (.slice e)) (hsz : (P.info? e).map (·.size) = some size) (ha : a ≤ n) (hn : n ≤ c) :
    ∃ q', q' = (if c = a then q else q.map (·.add (a * size))) ∧ ∀ w : World, (Instr.slice t (.slice q n c) (some (.int .i64 (a : Int))) none none).run P w = .ok (.slice q' (n - a) (c - a)) w := by
  refine ⟨_, rfl, fun w => ?_⟩
  cases hi : P.info? e with
  | none => simp [hi] at hsz
  | some i =>
    have hs : i.size = size := by simpa [hi] using hsz
    unfold Instr.slice Instr.sliceBounds
    have h0 : (0 : Int) ≤ (a : Int) := by omega
    have h1 : (a : Int) ≤ (n : Int) := by omega
    have hb := run_sliceBound (P := P) (w := w) .i64 (a : Int) n
    simp [run_underlying hu, run_sliceBound, ha, hn, sizeOf, typeInfo, hi, hs, Sem.run_bind]
theorem run_high {P : Program} (t e : TypeId) (q : Option Addr) (n c a : Nat) (hu : P.underlying t = some (.slice e)) (hsz : (P.info? e).isSome = true) (ha : a ≤ c) (w : World) :
    (Instr.slice t (.slice q n c) none (some (.int .i64 (a : Int))) none).run P w = .ok (.slice q a c) w := by
  cases hi : P.info? e with
  | none => simp [hi] at hsz
  | some i =>
    unfold Instr.slice Instr.sliceBounds
    have e0 : q.map (·.add 0) = q := by cases q with
      | none => rfl
      | some x => simp [Addr.add]
    by_cases hc : c = 0
    · have h0 : a = 0 := by omega
      subst hc h0
      simp [run_underlying hu, run_sliceBound, sizeOf, typeInfo, hi, Sem.run_bind]
    · simp [run_underlying hu, run_sliceBound, ha, sizeOf, typeInfo, hi, Sem.run_bind, hc, e0]
end Sl
end Go.Proofs.YtocoonkachbjaaaGreatDoor
