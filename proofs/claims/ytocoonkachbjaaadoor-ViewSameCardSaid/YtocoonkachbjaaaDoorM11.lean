/- Several texts in one: what each proves its own first comment says. -/
import Derived.Test.YtocoonkachbjaaaDoorM10
import Derived.Maps.Own
import Derived.Test.YtocoonkachbjaaaDoorProg
import Derived.Test.YtocoonkachbjaaaDoorM1
import Derived.BigQuiet
import Derived.Deep.QuietTactic
import Derived.Outline
import Derived.WalkLawsBesides
import Derived.WalkSpells
import Derived.Maps.AppendAt
import Derived.Deep.AppendLies
import Derived.RegionTactic
import Derived.OwnWalk
import Derived.WalkKit
import Derived.Laws.Slices
import Derived.Deep.CutRange
import Derived.Deep.RegionHeld3
import Derived.Deep.RegionLaw

/- Rows of children as the program's grow makes them, and its map of births: plain. No program's code. -/
namespace Go.Proofs.YtocoonkachbjaaaDoor
set_option linter.unusedVariables false
namespace Vt

/-- The rows: of the roots, then of each one's children. -/
def krow (l : List (Int × Int)) (n : Nat) : Nat → List Nat
  | 0 => roots l n
  | p + 1 => kidsN l n p
/-- The row in which the n-th one goes. -/
def upN (l : List (Int × Int)) (n : Nat) : Nat := match par l n with
  | none => 0
  | some p => p + 1
theorem upN_le (l : List (Int × Int)) (n : Nat) : upN l n ≤ n := by
  unfold upN
  cases h : par l n with
  | none => exact Nat.zero_le _
  | some p => exact par_lt h
theorem krow_zero (l : List (Int × Int)) (r : Nat) : krow l 0 r = [] := by cases r <;> rfl
theorem krow_succ (l : List (Int × Int)) (n r : Nat) : krow l (n + 1) r = if r = upN l n then krow l n r ++ [n] else krow l n r := by
  unfold upN
  cases h : par l n with
  | none =>
    simp only
    cases r with
    | zero => simp [krow, roots, h]
    | succ p => simp [krow, kidsN_none h]
  | some q =>
    simp only
    cases r with
    | zero => simp [krow, roots, h]
    | succ p =>
      show kidsN l (n + 1) p = _
      rw [kidsN_some h]
      unfold more
      by_cases e : p = q
      · subst e; simp [krow]
      · simp [krow, e]
theorem krow_lt (l : List (Int × Int)) (n r : Nat) : ∀ j ∈ krow l n r, j < n := fun j hj => by
  cases r with
  | zero => exact roots_lt l n j hj
  | succ p => exact (kids_up l n p j hj).2
theorem krow_len (l : List (Int × Int)) : ∀ n r, (krow l n r).length ≤ n
  | 0, r => by rw [krow_zero]; exact Nat.le_refl _
  | n + 1, r => by
    have := krow_len l n r
    rw [krow_succ]
    split
    · simp; exact this
    · omega
theorem lastTo_succ (l : List (Int × Int)) (up : Int) (k : Nat) : lastTo l up (k + 1) = if (l[k]?).map (·.1) = some up then some k else lastTo l up k := rfl
theorem upN_eq {l : List (Int × Int)} {n : Nat} {x : Int × Int} (h : l[n]? = some x) : upN l n = if x.2 = 0 then 0 else match lastTo l x.2 n with
  | none => 0
  | some p => p + 1 := by
  unfold upN par
  rw [h]
  simp only
  by_cases e : x.2 = 0
  · rw [if_pos e, if_pos e]
  · rw [if_neg e, if_neg e]
/-- The walk's children of one are those of the row behind. -/
theorem kidsN_row (l : List (Int × Int)) (n p : Nat) : kidsN l n p = krow l n (p + 1) := rfl
end Vt
end Go.Proofs.YtocoonkachbjaaaDoor

/- The document's Depths. -/
namespace Go.Proofs.YtocoonkachbjaaaDoor
open Go.RowKit Go.Maps
set_option linter.unusedVariables false
namespace Vw
theorem vown_kept {w w' : World} {lo e size n : Nat} {v : Value} {xs : List Value} (h : w.ownsRow lo e size v n xs) (hb : Below w.heap.size w w') : w'.ownsRow lo e size v n xs := by
  refine ⟨h.1, ?_⟩
  rcases h.2 with h2 | ⟨g, cap, cur, h1, h2, h3, h4⟩
  · exact .inl h2
  · refine .inr ⟨g, cap, cur, h1, h2, ?_, h4⟩
    rw [hb.block g (Array.getElem?_eq_some_iff.1 h3).1]; exact h3
theorem vinfo_int : (Tryd.prog.info? 3).map (fun i => (i.zero, i.size, i.bytes)) = some (some (.int .i64 0), 1, 8) := by kernel_rfl
def dv (l : List (Int × Int)) (j : Nat) : Value := .int .i64 (Vt.dep l j : Int)
def DpRel (ss : List Sess) (w : World) (d i : Value) (wr : World) : Prop :=
  ∃ k : Nat, k ≤ ss.length ∧ i = .int .i64 k ∧ wr.ownsRow w.heap.size 3 1 d k ((List.range k).map (dv (bu ss))) ∧ Below w.heap.size w wr
theorem DpRel.push {ss : List Sess} {w wr w1 : World} {d v' : Value} {k : Nat} {o : Obj} (hown : wr.ownsRow w.heap.size 3 1 d k ((List.range k).map (dv (bu ss)))) (hbl : Below w.heap.size w wr)
    (hown' : w1.ownsRow w.heap.size 3 1 v' (k + 1) ((List.range k).map (dv (bu ss)) ++ [dv (bu ss) k])) (hgrow : (wr.alloc o).grownBy w1 d.ownBlock) (h : k < ss.length) : DpRel ss w v' (.int .i64 ((k + 1 : Nat) : Int)) w1 :=
  ⟨k + 1, by omega, rfl, by rw [List.range_succ, List.map_append]; exact hown', Ut.below_app hbl hbl.size hown hgrow⟩
theorem dep_le (l : List (Int × Int)) : ∀ n, Vt.dep l n ≤ n := by
  intro n
  induction n using Nat.strongRecOn with
  | _ n ih =>
    cases hp : Vt.par l n with
    | none => rw [Vt.dep_none hp]; omega
    | some p =>
      have h1 := Vt.par_lt hp
      have h2 := ih p h1
      rw [Vt.dep_some hp]; omega

end Vw
end Go.Proofs.YtocoonkachbjaaaDoor

/- lineageref0.SameInts of any two lists of numbers, wherever they lie. -/
namespace Go.Proofs.YtocoonkachbjaaaDoor
open Go.RowKit
set_option linter.unusedVariables false
namespace In

/-- A value is a list of numbers, wherever it lies. -/
def IntArg (w : World) (v : Value) (ps : List Int) : Prop :=
  ∃ p cap, v = .slice p ps.length cap ∧ ∀ j (hj : j < ps.length), ∃ g o, p = some ⟨g, o, none⟩ ∧ g < w.heap.size ∧ w.cell? ⟨g, o + j, none⟩ = some (.int .i64 ps[j])
theorem IntArg.below {w w' : World} {v : Value} {ps : List Int} (h : IntArg w v ps) (hb : Below w.heap.size w w') : IntArg w' v ps := by
  obtain ⟨p, cap, rfl, h⟩ := h
  refine ⟨p, cap, rfl, fun j hj => ?_⟩
  obtain ⟨g, o, h1, h2, h3⟩ := h j hj
  exact ⟨g, o, h1, Nat.lt_of_lt_of_le h2 hb.size, (hb.cell (p := ⟨g, o + j, none⟩) h2).trans h3⟩
/-- A list of the call's own. -/
theorem own_ints {w : World} {base n : Nat} {v : Value} {ps : List Int} {f : Int → Value} (hf : ∀ x, f x = .int .i64 x) (hn : n = ps.length) (h : w.ownsRow base 3 1 v n (ps.map f)) : IntArg w v ps := by
  subst hn
  rcases Nat.eq_zero_or_pos ps.length with h0 | h0
  · have e : ps = [] := List.eq_nil_of_length_eq_zero h0
    subst e
    rcases h.2 with ⟨rfl, _⟩ | ⟨g, cap, cur, rfl, _⟩
    · exact ⟨none, 0, rfl, fun j hj => absurd hj (Nat.not_lt_zero _)⟩
    · exact ⟨_, cap, rfl, fun j hj => absurd hj (Nat.not_lt_zero _)⟩
  · obtain ⟨g, c, rfl, _, _, _, hg, hc⟩ := Ut.own_cells h h0
    exact ⟨_, c, rfl, fun j hj => ⟨g, 0, rfl, hg, by rw [Nat.zero_add, hc j hj]; simp [hj, hf]⟩⟩
theorem lit_ints (w : World) (ps : List Int) (t : TypeId) : IntArg (w.alloc (.cells (ps.map (Value.int .i64)).toArray t)) (.slice (some ⟨w.heap.size, 0, none⟩) ps.length ps.length) ps :=
  ⟨_, ps.length, rfl, fun j hj => ⟨w.heap.size, 0, rfl, by simp, by
    unfold World.cell?
    rw [Ut.alloc_at]
    simp [hj]⟩⟩

def SameRel (ps qs : List Int) (w : World) (i : Value) (wr : World) : Prop :=
  ∃ k : Nat, k ≤ ps.length ∧ i = .int .i64 k ∧ ps.take k = qs.take k ∧ Below w.heap.size w wr

end In
end Go.Proofs.YtocoonkachbjaaaDoor

/- lineageref0.CopyInts of any list of numbers, wherever it lies. -/
namespace Go.Proofs.YtocoonkachbjaaaDoor
open Go.RowKit Go.Maps
set_option linter.unusedVariables false
namespace In
theorem cinfo_int : (Tryd.prog.info? 3).map (fun i => (i.zero, i.size, i.bytes)) = some (some (.int .i64 0), 1, 8) := by kernel_rfl
def CpRel (ps : List Int) (w : World) (d i : Value) (wr : World) : Prop :=
  ∃ k : Nat, k ≤ ps.length ∧ i = .int .i64 k ∧ wr.ownsRow w.heap.size 3 1 d k ((ps.take k).map (Value.int .i64)) ∧ Below w.heap.size w wr
theorem CpRel.push {ps : List Int} {w wr w1 : World} {d v' : Value} {k : Nat} {o : Obj} (hown : wr.ownsRow w.heap.size 3 1 d k ((ps.take k).map (Value.int .i64))) (hbl : Below w.heap.size w wr) (h : k < ps.length)
    (hown' : w1.ownsRow w.heap.size 3 1 v' (k + 1) ((ps.take k).map (Value.int .i64) ++ [Value.int .i64 ps[k]])) (hgrow : (wr.alloc o).grownBy w1 d.ownBlock) : CpRel ps w v' (.int .i64 ((k + 1 : Nat) : Int)) w1 :=
  ⟨k + 1, by omega, rfl, by rw [List.take_succ_eq_append_getElem h, List.map_append]; exact hown', Ut.below_app hbl hbl.size hown hgrow⟩

end In
end Go.Proofs.YtocoonkachbjaaaDoor

/- append onto a list of the call's own: the source is another list, a part of it, nil or empty too. No program's code. -/
namespace Go.Proofs.YtocoonkachbjaaaDoor
open Go Go.RowKit
set_option linter.unusedVariables false
namespace Ap

/-- What a source holds: nothing, or these cells from its address on. -/
def SrcAt (w : World) (A : Option Addr) (m size : Nat) (xs : List Value) : Prop :=
  (m = 0 ∧ xs = []) ∨ ∃ ad, A = some ad ∧ xs.length = m * size ∧ ∀ j u, xs[j]? = some u → w.cell? (ad.add j) = some u

section
variable {P : Program} (w : World)

theorem run_nil (base : Nat) (t ty e : TypeId) (i : TypeInfo) (size : Nat) (ht : P.underlying t = some (.slice e)) (hi : P.info? e = some i) (v : Value) (n : Nat) (xs : List Value) (hown : w.ownsRow base e size v n xs) (c : Nat) :
    (Builtin.append_ #[t, t] ty #[v, .slice none 0 c]).run P w = .ok v w := by
  obtain ⟨_, h⟩ := hown
  rcases h with ⟨rfl, rfl⟩ | ⟨gg, cap, cur, rfl, _, _, hnc, _⟩
  · simp [Builtin.append_, run_underlying ht, sizeOf, typeInfo, hi, Builtin.lenOf, Builtin.firstCells]
  · simp [Builtin.append_, run_underlying ht, sizeOf, typeInfo, hi, Builtin.lenOf, Builtin.firstCells, hnc, storeCells]

theorem run_any (base : Nat) (t ty e : TypeId) (i : TypeInfo) (z : Value) (size bytes : Nat) (ht : P.underlying t = some (.slice e)) (hi : P.info? e = some i) (hz : i.zero = some z)
    (hsize : i.size = size) (hby : i.bytes = bytes) (hzs : z.cells.size = size) (hsz : 0 < size) (v : Value) (n : Nat) (xs : List Value) (hown : w.ownsRow base e size v n xs)
    (A : Option Addr) (m c : Nat) (news : List Value) (hr : SrcAt w A m size news) (h1 : ∀ u ∈ news, u.oneCell' = true) (h63 : n + m ≤ maxLen) (hbytes : (n + m) * bytes ≤ 140737488355328) (hbase : base ≤ w.heap.size) :
    ∃ v' w', (Builtin.append_ #[t, t] ty #[v, .slice A m c]).run P w = .ok v' w' ∧ w'.ownsRow base e size v' (n + m) (xs ++ news) ∧ w.grownBy w' v.ownBlock ∧ (v'.ownBlock = v.ownBlock ∨ v'.ownBlock = some w.heap.size) := by
  rcases hr with ⟨rfl, rfl⟩ | ⟨ad, rfl, hl, hc⟩
  · rcases A with _ | ad
    · exact ⟨v, w, run_nil w base t ty e i size ht hi v n xs hown c, by simpa using hown, World.grownBy.refl w _, .inl rfl⟩
    · obtain ⟨v', w', hrun, h2, h3, _, h5⟩ := run_append_own_at (P := P) w base t ty e i z size bytes ht hi hz hsize hby hzs hsz v n xs hown ad 0 c [] (by simp) (fun j u h => by simp at h) h1 h63 hbytes hbase
      exact ⟨v', w', hrun, h2, h3, h5⟩
  · obtain ⟨v', w', hrun, h2, h3, _, h5⟩ := run_append_own_at (P := P) w base t ty e i z size bytes ht hi hz hsize hby hzs hsz v n xs hown ad m c news hl hc h1 h63 hbytes hbase
    exact ⟨v', w', hrun, h2, h3, h5⟩

theorem wpList_any {ops : Array Oper} {rest : List Oper} {o : Oper} {a : Act} {Q : Exit → Act → World → Prop} (hgd : o.guard = none) (s x : Operand) (t : TypeId)
    (ho : o.op = .call { callee := .builtin .append, args := #[s, x], argTypes := #[t, t] })
    (base : Nat) (e : TypeId) (i : TypeInfo) (z : Value) (size bytes : Nat) (ht : P.underlying t = some (.slice e)) (hi : P.info? e = some i) (hz : i.zero = some z)
    (hsize : i.size = size) (hby : i.bytes = bytes) (hzs : z.cells.size = size) (hsz : 0 < size) (v : Value) (n : Nat) (xs : List Value) (hs : a.eval s = v) (hown : w.ownsRow base e size v n xs)
    (A : Option Addr) (m c : Nat) (news : List Value) (hx : a.eval x = .slice A m c) (hr : SrcAt w A m size news) (h1 : ∀ u ∈ news, u.oneCell' = true) (h63 : n + m ≤ maxLen) (hbytes : (n + m) * bytes ≤ 140737488355328) (hbase : base ≤ w.heap.size)
    (h : ∀ v' w', w'.ownsRow base e size v' (n + m) (xs ++ news) → w.grownBy w' v.ownBlock → (v'.ownBlock = v.ownBlock ∨ v'.ownBlock = some w.heap.size) → wpList P ops Q rest (a.put o.dst v') w') : wpList P ops Q (o :: rest) a w := by
  refine wpList_plain hgd fun K hK => ?_
  obtain ⟨v', w', hr, h2, h3, h4⟩ := run_any (P := P) w base t o.type e i z size bytes ht hi hz hsize hby hzs hsz v n xs hown A m c news hr h1 h63 hbytes hbase
  unfold Oper.wp execOp
  simp only [ho, resolve, invoke, builtin, Sem.run_bind, Sem.run_pure, Result.andThen_ok, List.map_toArray, List.map_cons, List.map_nil, hs, hx, hr]
  exact hK _ _ (h v' w' h2 h3 h4)

theorem step_any {ops : Array Oper} {o : Oper} {a : Act} {K : Act → World → Prop} {Q : Exit → Act → World → Prop} {E : Prop} (hgd : o.guard = none) (s x : Operand) (t : TypeId)
    (ho : o.op = .call { callee := .builtin .append, args := #[s, x], argTypes := #[t, t] })
    (base : Nat) (e : TypeId) (i : TypeInfo) (z : Value) (size bytes : Nat) (ht : P.underlying t = some (.slice e)) (hi : P.info? e = some i) (hz : i.zero = some z)
    (hsize : i.size = size) (hby : i.bytes = bytes) (hzs : z.cells.size = size) (hsz : 0 < size) (v : Value) (n : Nat) (xs : List Value) (hs : a.eval s = v) (hown : w.ownsRow base e size v n xs)
    (A : Option Addr) (m c : Nat) (news : List Value) (hx : a.eval x = .slice A m c) (hr : SrcAt w A m size news) (h1 : ∀ u ∈ news, u.oneCell' = true) (h63 : n + m ≤ maxLen) (hbytes : (n + m) * bytes ≤ 140737488355328) (hbase : base ≤ w.heap.size)
    (h : ∀ v' w', w'.ownsRow base e size v' (n + m) (xs ++ news) → w.grownBy w' v.ownBlock → (v'.ownBlock = v.ownBlock ∨ v'.ownBlock = some w.heap.size) → K (a.put o.dst v') w') :
    if Region.wanted o (yielded ops a.tmps) = true then Oper.wp P o a w K Q else E := by
  have hw : Region.wanted o (yielded ops a.tmps) = true := by simp [Region.wanted, hgd]
  rw [if_pos hw]
  obtain ⟨v', w', hr, h2, h3, h4⟩ := run_any (P := P) w base t o.type e i z size bytes ht hi hz hsize hby hzs hsz v n xs hown A m c news hr h1 h63 hbytes hbase
  unfold Oper.wp execOp
  simp only [ho, resolve, invoke, builtin, Sem.run_bind, Sem.run_pure, Result.andThen_ok, List.map_toArray, List.map_cons, List.map_nil, hs, hx, hr]
  exact h v' w' h2 h3 h4
end

theorem add_add_ (a : Addr) (i j : Nat) : (a.add i).add j = a.add (i + j) := by
  unfold Addr.add
  by_cases hi : i = 0 <;> by_cases hj : j = 0 <;> simp [hi, hj, Nat.add_assoc]
theorem add_plain (gv k : Nat) : (⟨gv, 0, none⟩ : Addr).add k = ⟨gv, k, none⟩ := by
  unfold Addr.add
  by_cases h : k = 0
  · subst h; simp
  · simp [h]

/-- The back part of a list of the call's own, whatever the model spells where the cut is at the very end. -/
theorem SrcAt.back {w : World} {base e size n k cap : Nat} {q : Option Addr} {xs : List Value} (h : w.ownsRow base e size (.slice q n cap) n xs) (hk : k ≤ n) : SrcAt w (if cap = k then q else q.map (·.add (k * size))) (n - k) size (xs.drop (k * size)) := by
  obtain ⟨hl, h2⟩ := h
  by_cases he : k = n
  · subst he
    exact .inl ⟨by omega, by rw [← hl]; simp⟩
  · rcases h2 with ⟨h2, h3⟩ | ⟨gg, c, cur, h2, h3, h4, h5, h6, h7, h8⟩
    · injection h2 with _ h2 _; omega
    · injection h2 with e1 e2 e3
      subst e1 e3
      rw [if_neg (by omega)]
      refine .inr ⟨_, rfl, by rw [List.length_drop, hl, Nat.sub_mul], fun j u hu => ?_⟩
      show w.cell? (Addr.add (Addr.add ⟨gg, 0, none⟩ (k * size)) j) = some u
      rw [add_add_, add_plain]
      rw [List.getElem?_drop] at hu
      have hlt : k * size + j < n * size := by rw [← hl]; exact (List.getElem?_eq_some_iff.1 hu).1
      have := World.ownsRow.cellAt (w := w) (base := base) (e := e) (size := size) (n := n) (xs := xs) (g := gg) (cap := cap) ⟨hl, .inr ⟨gg, cap, cur, rfl, h3, h4, h5, h6, h7, h8⟩⟩ (k * size + j) (by omega)
      rw [this]; exact hu
end Ap
end Go.Proofs.YtocoonkachbjaaaDoor

/- Reslicing, its address a letter: no ways. No program's code. -/
namespace Go.Proofs.YtocoonkachbjaaaDoor
open Go.RowKit
set_option linter.unusedVariables false
set_option linter.unusedSimpArgs false
namespace Sl
theorem run_low {P : Program} (t e : TypeId) (q : Option Addr) (n c a size : Nat) (hu : P.underlying t = some (.slice e)) (hsz : (P.info? e).map (·.size) = some size) (ha : a ≤ n) (hn : n ≤ c) :
    ∃ q', q' = (if c = a then q else q.map (·.add (a * size))) ∧ ∀ w : World, (Instr.slice t (.slice q n c) (some (.int .i64 (a : Int))) none none).run P w = .ok (.slice q' (n - a) (c - a)) w := by
  refine ⟨_, rfl, fun w => ?_⟩
  cases hi : P.info? e with
  | none => simp [hi] at hsz
  | some i =>
    have hs : i.size = size := by simpa [hi] using hsz
    unfold Instr.slice Instr.sliceBounds
    have h0 : (0 : Int) ≤ (a : Int) := by omega
    have h1 : (a : Int) ≤ (n : Int) := by omega
    have hb := run_sliceBound (P := P) (w := w) .i64 (a : Int) n
    simp [run_underlying hu, run_sliceBound, ha, hn, sizeOf, typeInfo, hi, hs, Sem.run_bind]
theorem run_high {P : Program} (t e : TypeId) (q : Option Addr) (n c a : Nat) (hu : P.underlying t = some (.slice e)) (hsz : (P.info? e).isSome = true) (ha : a ≤ c) (w : World) :
    (Instr.slice t (.slice q n c) none (some (.int .i64 (a : Int))) none).run P w = .ok (.slice q a c) w := by
  cases hi : P.info? e with
  | none => simp [hi] at hsz
  | some i =>
    unfold Instr.slice Instr.sliceBounds
    have e0 : q.map (·.add 0) = q := by cases q with
      | none => rfl
      | some x => simp [Addr.add]
    by_cases hc : c = 0
    · have h0 : a = 0 := by omega
      subst hc h0
      simp [run_underlying hu, run_sliceBound, sizeOf, typeInfo, hi, Sem.run_bind]
    · simp [run_underlying hu, run_sliceBound, ha, sizeOf, typeInfo, hi, Sem.run_bind, hc, e0]
end Sl
end Go.Proofs.YtocoonkachbjaaaDoor

/- The document's Order. -/
namespace Go.Proofs.YtocoonkachbjaaaDoor
open Go.RowKit Go.Maps
set_option linter.unusedVariables false
namespace Vw
def nv (x : Nat) : Value := .int .i64 (x : Int)
theorem first_at (p : Nat) : ∀ (o : List Nat), p ∈ o → ∃ i : Nat, o[i]? = some p ∧ ∀ (j y : Nat), j < i → o[j]? = some y → y ≠ p
  | [], h => by cases h
  | x :: o, h => by
    by_cases e : x = p
    · exact ⟨0, by simp [e], fun j y hj => absurd hj (Nat.not_lt_zero _)⟩
    · obtain ⟨i, h1, h2⟩ := first_at p o (by
        rcases List.mem_cons.1 h with h | h
        · exact absurd h.symm e
        · exact h)
      refine ⟨i + 1, by simpa using h1, fun j y hj hy => ?_⟩
      cases j with
      | zero => have : x = y := by simpa using hy
                rw [← this]; exact e
      | succ j => exact h2 j y (by omega) (by simpa using hy)
theorem own_at {w : World} {base n : Nat} {v : Value} {o : List Nat} (h : w.ownsRow base 3 1 v n (o.map nv)) (hn : 0 < n) : ∃ g c, v = .slice (some ⟨g, 0, none⟩) n c ∧ base ≤ g ∧ g < w.heap.size ∧ ∀ (j x : Nat), o[j]? = some x → w.cell? ⟨g, j, none⟩ = some (.int .i64 (x : Int)) := by
  obtain ⟨g, c, rfl, _, _, h1, h2, h3⟩ := Ut.own_cells h hn
  refine ⟨g, c, rfl, h1, h2, fun j x hx => ?_⟩
  have hl : o.length = n := by have := h.1; simpa using this
  rw [h3 j (by rw [← hl]; exact (List.getElem?_eq_some_iff.1 hx).1), List.getElem?_map, hx]; rfl
/-- The first of a list of the call's own. -/
theorem own_take {w : World} {base e size n a cap : Nat} {q : Option Addr} {xs : List Value} (h : w.ownsRow base e size (.slice q n cap) n xs) (ha : a ≤ n) : w.ownsRow base e size (.slice q a cap) a (xs.take (a * size)) := by
  have hle : a * size ≤ n * size := Nat.mul_le_mul_right _ ha
  refine ⟨by rw [List.length_take, h.1]; omega, ?_⟩
  rcases h.2 with ⟨h1, h2⟩ | ⟨g, c, cur, h1, h2, h3, h4, h5, h6, h7⟩
  · injection h1 with e1 e2 e3
    subst e1 e2 e3
    exact .inl ⟨by rw [show a = 0 by omega], by omega⟩
  · injection h1 with e1 e2 e3
    subst e1 e3
    exact .inr ⟨g, cap, cur, rfl, h2, h3, by omega, h5, h6, by rw [← h7, List.take_take, Nat.min_eq_left hle]⟩
/-- Its back part, as a list of numbers. -/
theorem back_ints {w : World} {base n a cap : Nat} {q : Option Addr} {ps : List Int} (h : w.ownsRow base 3 1 (.slice q n cap) n (ps.map (Value.int .i64))) (ha : a ≤ n) :
    In.IntArg w (.slice (if cap = a then q else q.map (·.add (a * 1))) (n - a) (cap - a)) (ps.drop a) := by
  have hl : ps.length = n := by have := h.1; simpa using this
  refine ⟨_, _, by rw [List.length_drop, hl], fun j hj => ?_⟩
  rw [List.length_drop, hl] at hj
  rcases h.2 with ⟨h1, h2⟩ | ⟨g, c, cur, h1, h2, h3, h4, h5, h6, h7⟩
  · omega
  · injection h1 with e1 e2 e3
    subst e1 e3
    rw [if_neg (by omega)]
    refine ⟨g, a, by simp [Ap.add_plain], (Array.getElem?_eq_some_iff.1 h3).1, ?_⟩
    have := World.ownsRow.cellAt (w := w) h (a + j) (by omega)
    rw [this]
    simp [show a + j < ps.length by omega]

theorem own_any_shape {w : World} {base e size n : Nat} {v : Value} {xs : List Value} (h : w.ownsRow base e size v n xs) : ∃ q r, v = .slice q n r ∧ n ≤ r := by
  rcases h.2 with ⟨rfl, rfl⟩ | ⟨g, cap, cur, rfl, h2, h3, h4, h5⟩
  · exact ⟨_, _, rfl, Nat.le_refl _⟩
  · exact ⟨_, _, rfl, h4⟩

theorem own_grown {w w' : World} {base e size n : Nat} {v : Value} {xs : List Value} {row : Option Nat} (h : w.ownsRow base e size v n xs) (hg : w.grownBy w' row) (hne : ∀ b, v.ownBlock = some b → some b ≠ row) : w'.ownsRow base e size v n xs := by
  refine ⟨h.1, ?_⟩
  rcases h.2 with h2 | ⟨g, cap, cur, rfl, h2, h3, h4⟩
  · exact .inl h2
  · refine .inr ⟨g, cap, cur, rfl, h2, ?_, h4⟩
    rw [hg.block g (Array.getElem?_eq_some_iff.1 h3).1 (hne g rfl)]; exact h3
theorem src_own {w : World} {base e size n cap : Nat} {q : Option Addr} {xs : List Value} (h : w.ownsRow base e size (.slice q n cap) n xs) : Ap.SrcAt w q n size xs := by
  rcases h.2 with ⟨h1, h2⟩ | ⟨g, c, cur, h1, h2, h3, h4, h5, h6, h7⟩
  · exact .inl ⟨h2, List.eq_nil_of_length_eq_zero (by rw [h.1, h2]; simp)⟩
  · injection h1 with e1 e2 e3
    subst e1 e3
    refine .inr ⟨_, rfl, h.1, fun j u hu => ?_⟩
    rw [Ap.add_plain]
    have hlt : j < n * size := by rw [← h.1]; exact (List.getElem?_eq_some_iff.1 hu).1
    rw [World.ownsRow.cellAt (w := w) h j hlt]; exact hu
theorem src_grown {w w' : World} {A : Option Addr} {m size : Nat} {xs : List Value} {row : Option Nat} (h : Ap.SrcAt w A m size xs) (hg : w.grownBy w' row) (hne : ∀ a, A = some a → some a.block ≠ row) : Ap.SrcAt w' A m size xs := by
  rcases h with h | ⟨ad, rfl, h1, h2⟩
  · exact .inl h
  · refine .inr ⟨ad, rfl, h1, fun j u hu => ?_⟩
    have h3 := h2 j u hu
    have hb : (ad.add j).block = ad.block := by unfold Addr.add; split <;> rfl
    have h4 := World.block_lt_of_cell? w _ h3
    have h5 := hg.block (ad.add j).block h4 (by rw [hb]; exact hne ad rfl)
    unfold World.cell? at h3 ⊢
    rw [h5]; exact h3
def OrRel (ss : List Sess) (lo : Nat) (w1 : World) (o i : Value) (wr : World) : Prop :=
  ∃ k : Nat, k ≤ ss.length ∧ i = .int .i64 k ∧ wr.ownsRow lo 3 1 o k ((Vt.ordI (bu ss) k).map nv) ∧ Below lo w1 wr
/-- Behind both appends: the new one in its place. -/
theorem OrRel.step {ss : List Sess} {lo k a : Nat} {w1 w3 w4 w5 : World} {q : Option Addr} {c : Nat} {ob : Obj} {v1 v2 : Value} (hk : k < ss.length) (ha : a ≤ k) (hlo : w1.heap.size = lo) (hord : Vt.ordI (bu ss) (k + 1) = (Vt.ordI (bu ss) k).take a ++ k :: (Vt.ordI (bu ss) k).drop a)
    (hb3 : Below lo w1 w3) (hown3 : w3.ownsRow lo 3 1 (.slice q a c) a (((Vt.ordI (bu ss) k).take a).map nv)) (hown4 : w4.ownsRow lo 3 1 v1 (a + 1) (((Vt.ordI (bu ss) k).take a).map nv ++ [nv k])) (hg4 : (w3.alloc ob).grownBy w4 (Value.slice q a c).ownBlock)
    (hown5 : w5.ownsRow lo 3 1 v2 (a + 1 + (k - a)) (((Vt.ordI (bu ss) k).take a).map nv ++ [nv k] ++ ((Vt.ordI (bu ss) k).drop a).map nv)) (hg5 : w4.grownBy w5 v1.ownBlock) : OrRel ss lo w1 v2 (.int .i64 ((k + 1 : Nat) : Int)) w5 := by
  have hb4 := Ut.below_app hb3 (by rw [← hlo]; exact hb3.size) hown3 hg4
  refine ⟨k + 1, by omega, rfl, ?_, hb4.grown hg5 (by rw [← hlo]; exact hb4.size) (fun j hj => (hown4.lt j hj).1)⟩
  rw [show k + 1 = a + 1 + (k - a) by omega]
  rw [show a + 1 + (k - a) = k + 1 by omega] at hown5 ⊢
  rw [hord]
  simpa using hown5

def OrAt (ss : List Sess) (k : Nat) (W : World) (at_ : Value) (wc : World) : Prop :=
  ∃ a : Nat, at_ = .int .i64 a ∧ a ≤ k ∧ Vt.ordI (bu ss) (k + 1) = (Vt.ordI (bu ss) k).take a ++ k :: (Vt.ordI (bu ss) k).drop a ∧ Below W.heap.size W wc

end Vw
end Go.Proofs.YtocoonkachbjaaaDoor

/- The document's first: the place of the first session of a birth number. -/
namespace Go.Proofs.YtocoonkachbjaaaDoor
open Go.RowKit
set_option linter.unusedVariables false
namespace Vw
def firstL (ss : List Sess) (b : Int) : Option Nat := ss.findIdx? (fun s => s.birth == b)
def firstI (ss : List Sess) (b : Int) : Int := match firstL ss b with
  | none => -1
  | some p => p
def FsRel (ss : List Sess) (b : Int) (w : World) (i : Value) (wr : World) : Prop :=
  ∃ k : Nat, k ≤ ss.length ∧ i = .int .i64 k ∧ (∀ j (h : j < ss.length), j < k → ss[j].birth ≠ b) ∧ Below w.heap.size w wr

end Vw
end Go.Proofs.YtocoonkachbjaaaDoor

/- The document's Kids (printed by wip/mkrkids.py). -/
namespace Go.Proofs.YtocoonkachbjaaaDoor
open Go.RowKit Go.Maps
set_option linter.unusedVariables false
namespace Vw
def ksel (ss : List Sess) (b : Int) (j : Nat) : Bool := decide ((b = 0 ∧ parI (bu ss) j < 0) ∨ (b ≠ 0 ∧ 0 ≤ firstI ss b ∧ parI (bu ss) j = firstI ss b))
def csAt (ss : List Sess) (j : Nat) : List Value := match ss[j]? with
  | some s => s.cells
  | none => []
theorem csAt_at {ss : List Sess} {j : Nat} (h : j < ss.length) : csAt ss j = ss[j].cells := by unfold csAt; rw [List.getElem?_eq_getElem h]
/-- Those that hang below one, by places. -/
def kidsTo (ss : List Sess) (b : Int) (k : Nat) : List Nat := (List.range k).filter (ksel ss b)
theorem Sess.one (s : Sess) : ∀ u ∈ s.cells, u.oneCell' = true := by
  intro u hu
  simp only [Sess.cells, List.mem_cons, List.not_mem_nil, or_false] at hu
  rcases hu with rfl | rfl | rfl | rfl | rfl | rfl | rfl | rfl | rfl | rfl | rfl | rfl <;> rfl
theorem kidsTo_le (ss : List Sess) (b : Int) (k : Nat) : (kidsTo ss b k).length ≤ k := by
  have := List.length_filter_le (ksel ss b) (List.range k)
  unfold kidsTo; simpa using this
theorem kidsTo_yes {ss : List Sess} {b : Int} {k : Nat} (h : ksel ss b k = true) : kidsTo ss b (k + 1) = kidsTo ss b k ++ [k] := by unfold kidsTo; rw [List.range_succ, List.filter_append]; simp [h]
theorem kidsTo_no {ss : List Sess} {b : Int} {k : Nat} (h : ksel ss b k = false) : kidsTo ss b (k + 1) = kidsTo ss b k := by unfold kidsTo; rw [List.range_succ, List.filter_append]; simp [h]
def KdRel (ss : List Sess) (b : Int) (w : World) (d i : Value) (wr : World) : Prop :=
  ∃ k : Nat, k ≤ ss.length ∧ i = .int .i64 k ∧ wr.ownsRow w.heap.size 30 12 d (kidsTo ss b k).length ((kidsTo ss b k).flatMap (csAt ss)) ∧ Below w.heap.size w wr
theorem KdRel.yes {ss : List Sess} {b : Int} {w wr w1 : World} {d v' : Value} {k : Nat} {o : Obj} (h : k < ss.length) (hs : ksel ss b k = true) (hown : wr.ownsRow w.heap.size 30 12 d (kidsTo ss b k).length ((kidsTo ss b k).flatMap (csAt ss))) (hbl : Below w.heap.size w wr)
    (hown' : w1.ownsRow w.heap.size 30 12 v' ((kidsTo ss b k).length + 1) ((kidsTo ss b k).flatMap (csAt ss) ++ csAt ss k)) (hgrow : (wr.alloc o).grownBy w1 d.ownBlock) : KdRel ss b w v' (.int .i64 ((k + 1 : Nat) : Int)) w1 :=
  ⟨k + 1, by omega, rfl, by rw [kidsTo_yes hs, List.flatMap_append, List.length_append]; simpa using hown', Ut.below_app hbl hbl.size hown hgrow⟩
theorem KdRel.no {ss : List Sess} {b : Int} {w wr : World} {d : Value} {k : Nat} (h : k < ss.length) (hs : ksel ss b k = false) (hown : wr.ownsRow w.heap.size 30 12 d (kidsTo ss b k).length ((kidsTo ss b k).flatMap (csAt ss))) (hbl : Below w.heap.size w wr) : KdRel ss b w d (.int .i64 ((k + 1 : Nat) : Int)) wr :=
  ⟨k + 1, by omega, rfl, by rw [kidsTo_no hs]; exact hown, hbl⟩
theorem vinfo_sess : (Tryd.prog.info? 30).map (fun i => (i.zero, i.size, i.bytes)) = some (some (.agg #[.int .i64 0, .int .i64 0, .int .i64 0, .int .i64 0, .int .i64 0, .string ByteArray.empty, .string ByteArray.empty, .int .u64 0, .int .i64 0, .int .i64 0, .int .i64 0, .int .i64 0]), 12, 112) := by kernel_rfl

end Vw
end Go.Proofs.YtocoonkachbjaaaDoor

/- One's block in the order, by places: as the document's Pre takes it. No program's code. -/
namespace Go.Proofs.YtocoonkachbjaaaDoor
set_option linter.unusedVariables false
namespace Vt
theorem blk_at (p : Nat) : ∀ (o : List (Nat × Nat)) (i a : Nat) (x : Nat × Nat), o[i]? = some x → x.2 = p → (∀ j y, j < i → o[j]? = some y → y.2 ≠ p) → i < a → a ≤ o.length → (∀ j y, i < j → j < a → o[j]? = some y → x.1 < y.1) → (∀ y, o[a]? = some y → ¬ x.1 < y.1) →
    blk p o = (0, p) :: ((o.take a).drop (i + 1)).map (fun y => (y.1 - x.1, y.2))
  | [], i, a, x, h, _, _, _, _, _, _ => by simp at h
  | z :: r, 0, 0, x, h, e, hn, hia, ha, h1, h2 => by omega
  | z :: r, 0, a + 1, x, h, e, hn, hia, ha, h1, h2 => by
    have hz : z = x := by simpa using h
    subst hz
    obtain ⟨e1, e2⟩ := tw_at (fun y : Nat × Nat => decide (z.1 < y.1)) r a (by simpa using ha) (fun j y hj hy => decide_eq_true (h1 (j + 1) y (by omega) (by omega) (by simpa using hy))) (fun y hy => decide_eq_false (h2 y (by simpa using hy)))
    rw [blk, if_pos e, e1]
    simp
  | z :: r, i + 1, 0, x, h, e, hn, hia, ha, h1, h2 => by omega
  | z :: r, i + 1, a + 1, x, h, e, hn, hia, ha, h1, h2 => by
    have hz : z.2 ≠ p := hn 0 z (by omega) rfl
    have ih := blk_at p r i a x (by simpa using h) e (fun j y hj hy => hn (j + 1) y (by omega) (by simpa using hy)) (by omega) (by simpa using ha) (fun j y hj hj2 hy => h1 (j + 1) y (by omega) (by omega) (by simpa using hy)) (fun y hy => h2 y (by simpa using hy))
    rw [blk, if_neg hz, ih]
    simp
def blkTo (l : List (Int × Int)) (n p i a : Nat) : List (Nat × Nat) := (0, p) :: (((ordI l n).take a).drop (i + 1)).map fun y => (dep l y - dep l p, y)
theorem blkTo_len {l : List (Int × Int)} {n p i a : Nat} (ha : a ≤ n) (hia : i < a) : (blkTo l n p i a).length = a - i := by
  unfold blkTo
  rw [List.length_cons, List.length_map, List.length_drop, List.length_take, ordI_len]
  omega
theorem blkTo_one {l : List (Int × Int)} {n p i : Nat} : blkTo l n p i (i + 1) = [(0, p)] := by
  unfold blkTo
  rw [List.drop_of_length_le (by rw [List.length_take]; omega)]; rfl
theorem blkTo_succ {l : List (Int × Int)} {n p i a y : Nat} (hia : i < a) (hy : (ordI l n)[a]? = some y) : blkTo l n p i (a + 1) = blkTo l n p i a ++ [(dep l y - dep l p, y)] := by
  have hlt := (List.getElem?_eq_some_iff.1 hy).1
  unfold blkTo
  rw [List.take_succ_eq_append_getElem hlt, List.drop_append_of_le_length (by rw [List.length_take]; omega)]
  have e : (ordI l n)[a] = y := (List.getElem?_eq_some_iff.1 hy).2
  simp [e]
theorem blk_to {l : List (Int × Int)} {n p i a : Nat} (hi : (ordI l n)[i]? = some p) (hn : ∀ (j y : Nat), j < i → (ordI l n)[j]? = some y → y ≠ p) (hia : i < a) (ha : a ≤ n) (h1 : ∀ (j y : Nat), i < j → j < a → (ordI l n)[j]? = some y → dep l p < dep l y)
    (h2 : ∀ (y : Nat), (ordI l n)[a]? = some y → ¬ dep l p < dep l y) : blk p (ordL l n) = blkTo l n p i a := by
  have get : ∀ {j : Nat} {y : Nat × Nat}, (ordL l n)[j]? = some y → (ordI l n)[j]? = some y.2 := fun {j y} hy => by unfold ordI; rw [List.getElem?_map, hy]; rfl
  obtain ⟨x, hx, ex⟩ : ∃ x, (ordL l n)[i]? = some x ∧ x.2 = p := by
    unfold ordI at hi
    rw [List.getElem?_map] at hi
    exact Option.map_eq_some_iff.1 hi
  have dx := ord_dep l n x (List.mem_of_getElem? hx)
  have hh := blk_at p (ordL l n) i a x hx ex (fun j y hj hy => hn j y.2 hj (get hy)) hia (by rw [ord_len]; exact ha)
    (fun j y hj hj2 hy => by rw [dx, ex, ord_dep l n y (List.mem_of_getElem? hy)]; exact h1 j y.2 hj hj2 (get hy))
    (fun y hy => by rw [dx, ex, ord_dep l n y (List.mem_of_getElem? hy)]; exact h2 y.2 (get hy))
  rw [hh]
  unfold blkTo ordI
  rw [← List.map_take, ← List.map_drop, List.map_map, dx, ex]
  congr 1
  apply List.map_congr_left
  intro y hy
  have hm : y ∈ ordL l n := (List.take_sublist _ _).subset ((List.drop_sublist _ _).subset hy)
  simp [ord_dep l n y hm]
end Vt
end Go.Proofs.YtocoonkachbjaaaDoor

/- The document's Pre. -/
namespace Go.Proofs.YtocoonkachbjaaaDoor
open Go.RowKit Go.Maps
set_option linter.unusedVariables false
namespace Vw
theorem own_new {w : World} {lo e size n : Nat} {cs : List Value} (hl : cs.length = n * size) (hlo : lo ≤ w.heap.size) (hn : n ≤ maxLen) : (w.alloc (.cells cs.toArray e)).ownsRow lo e size (.slice (some ⟨w.heap.size, 0, none⟩) n n) n cs :=
  ⟨hl, .inr ⟨w.heap.size, n, cs.toArray, rfl, hlo, Ut.alloc_at _ _, Nat.le_refl _, hn, by simp [hl], by rw [← hl]; simp⟩⟩
/-- What the document's Pre hands back: how far, which. -/
def preL (ss : List Sess) (b : Int) : List (Nat × Nat) := match firstL ss b with
  | none => []
  | some p => Vt.blk p (Vt.ordL (bu ss) ss.length)
def farV (l : List (Nat × Nat)) : List Value := l.map fun y => nv y.1
def outV (ss : List Sess) (l : List (Nat × Nat)) : List Value := l.flatMap fun y => csAt ss y.2
def PrRel (ss : List Sess) (p i1 lo : Nat) (w2 : World) (far out i : Value) (wr : World) : Prop :=
  ∃ a : Nat, i1 < a ∧ a ≤ ss.length ∧ i = .int .i64 a ∧ wr.ownsRow lo 3 1 far (a - i1) (farV (Vt.blkTo (bu ss) ss.length p i1 a)) ∧ wr.ownsRow lo 30 12 out (a - i1) (outV ss (Vt.blkTo (bu ss) ss.length p i1 a)) ∧
    (∀ x, far.ownBlock = some x → out.ownBlock ≠ some x) ∧ (∀ (z y : Nat), i1 < z → z < a → (Vt.ordI (bu ss) ss.length)[z]? = some y → Vt.dep (bu ss) p < Vt.dep (bu ss) y) ∧ Below lo w2 wr
theorem firstL_lt {ss : List Sess} {b : Int} {p : Nat} (h : firstL ss b = some p) : p < ss.length := by
  unfold firstL at h
  rw [List.findIdx?_eq_some_iff_getElem] at h
  exact h.1
theorem PrRel.start {ss : List Sess} {p i1 j : Nat} {w2 wr : World} (hj : j = i1) (hi : i1 < ss.length) (hb : Below w2.heap.size w2 wr) (hp : (csAt ss p).length = 12) :
    PrRel ss p i1 w2.heap.size w2 (.slice (some ⟨wr.heap.size, 0, none⟩) 1 1) (.slice (some ⟨wr.heap.size + 1, 0, none⟩) 1 1) (.int .i64 ((j + 1 : Nat) : Int)) ((wr.alloc (.cells #[.int .i64 0] 3)).alloc (.cells (csAt ss p).toArray 30)) := by
  have h1 : (wr.alloc (.cells [Value.int .i64 0].toArray 3)).ownsRow w2.heap.size 3 1 (.slice (some ⟨wr.heap.size, 0, none⟩) 1 1) 1 [.int .i64 0] := own_new rfl hb.size (by unfold maxLen; omega)
  have h2 := own_new (w := wr.alloc (.cells [Value.int .i64 0].toArray 3)) (lo := w2.heap.size) (e := 30) (size := 12) (n := 1) (cs := csAt ss p) (by rw [hp]) (by rw [World.size_alloc]; exact Nat.le_succ_of_le hb.size) (by unfold maxLen; omega)
  subst hj
  refine ⟨j + 1, by omega, by omega, rfl, ?_, ?_, ?_, fun z y h3 h4 => by omega, ?_⟩
  · rw [Vt.blkTo_one, show j + 1 - j = 1 by omega]
    exact Ut.own_below h1 ((Below.refl _ _).alloc (Nat.le_refl _) _)
  · rw [Vt.blkTo_one, show j + 1 - j = 1 by omega]
    rw [World.size_alloc] at h2
    have e : outV ss [(0, p)] = csAt ss p := by simp [outV]
    rw [e]; exact h2
  · intro x hx hy
    simp [Value.ownBlock] at hx hy
    omega
  · exact (hb.alloc hb.size _).alloc (by rw [World.size_alloc]; exact Nat.le_succ_of_le hb.size) _

theorem PrRel.step {ss : List Sess} {p i1 a y lo : Nat} {w2 wv w3 w4 : World} {fv fv' ov ov' : Value} {o1 o2 : Obj} (hlo : w2.heap.size = lo) (hia : i1 < a) (han : a < ss.length) (hy : (Vt.ordI (bu ss) ss.length)[a]? = some y)
    (hall : ∀ (z y : Nat), i1 < z → z < a → (Vt.ordI (bu ss) ss.length)[z]? = some y → Vt.dep (bu ss) p < Vt.dep (bu ss) y) (hd : Vt.dep (bu ss) p < Vt.dep (bu ss) y) (hbr : Below lo w2 wv)
    (hof : wv.ownsRow lo 3 1 fv (a - i1) (farV (Vt.blkTo (bu ss) ss.length p i1 a))) (hoo : wv.ownsRow lo 30 12 ov (a - i1) (outV ss (Vt.blkTo (bu ss) ss.length p i1 a))) (hap : ∀ x, fv.ownBlock = some x → ov.ownBlock ≠ some x)
    (hof1 : w3.ownsRow lo 3 1 fv' (a - i1 + 1) (farV (Vt.blkTo (bu ss) ss.length p i1 a) ++ [nv (Vt.dep (bu ss) y - Vt.dep (bu ss) p)])) (hg1 : (wv.alloc o1).grownBy w3 fv.ownBlock) (hat1 : fv'.ownBlock = fv.ownBlock ∨ fv'.ownBlock = some (wv.heap.size + 1))
    (hoo1 : w4.ownsRow lo 30 12 ov' (a - i1 + 1) (outV ss (Vt.blkTo (bu ss) ss.length p i1 a) ++ csAt ss y)) (hg2 : (w3.alloc o2).grownBy w4 ov.ownBlock) (hat2 : ov'.ownBlock = ov.ownBlock ∨ ov'.ownBlock = some (w3.heap.size + 1)) :
    PrRel ss p i1 lo w2 fv' ov' (.int .i64 ((a + 1 : Nat) : Int)) w4 := by
  have hs2 : lo ≤ wv.heap.size := by rw [← hlo]; exact hbr.size
  have hb3 := Ut.below_app hbr hs2 hof hg1
  have hs3 : lo ≤ w3.heap.size := by rw [← hlo]; exact hb3.size
  have hg1s : wv.heap.size + 1 ≤ w3.heap.size := by have := hg1.size; simpa using this
  have hoo3 : w3.ownsRow lo 30 12 ov (a - i1) (outV ss (Vt.blkTo (bu ss) ss.length p i1 a)) := own_grown (hoo.alloc o1) hg1 (fun b e e2 => hap b e2.symm e)
  have hb4 := Ut.below_app hb3 hs3 hoo3 hg2
  have hfo : ∀ x, fv'.ownBlock = some x → ov.ownBlock ≠ some x := fun x e e2 => by
    rcases hat1 with h | h
    · exact hap x (h ▸ e) e2
    · rw [h] at e
      have h1 := Option.some.inj e
      have h2 := (hoo.lt x e2).2
      omega
  have hsub : a + 1 - i1 = a - i1 + 1 := by omega
  refine ⟨a + 1, by omega, by omega, rfl, ?_, ?_, fun x e e2 => ?_, fun z y2 h1 h2 h3 => ?_, hb4⟩
  · rw [hsub, Vt.blkTo_succ hia hy]
    unfold farV at *
    rw [List.map_append]
    exact own_grown (hof1.alloc o2) hg2 (fun b e e2 => hfo b e e2.symm)
  · rw [hsub, Vt.blkTo_succ hia hy]
    unfold outV at *
    rw [List.flatMap_append]
    simpa using hoo1
  · rcases hat2 with h | h
    · exact hfo x e (h ▸ e2)
    · rw [h] at e2
      have h1 := Option.some.inj e2
      have h2 := (hof1.lt x e).2
      omega
  · rcases Nat.lt_or_ge z a with h4 | h4
    · exact hall z y2 h1 h4 h3
    · have e : z = a := by omega
      subst e
      rw [hy] at h3
      rw [← Option.some.inj h3]; exact hd

end Vw
end Go.Proofs.YtocoonkachbjaaaDoor

/- What a call has written: blocks of a footprint alone. No program's code. -/
namespace Go.Proofs.YtocoonkachbjaaaDoor
open Go.RowKit
set_option linter.unusedVariables false

/-- Of what was there nothing has turned but blocks of F. -/
structure Only (F : Nat → Prop) (w w' : World) : Prop where
  os : w'.os = w.os
  tape : w'.tape = w.tape
  output : w'.output = w.output
  size : w.heap.size ≤ w'.heap.size
  block : ∀ k, k < w.heap.size → ¬ F k → w'.heap[k]? = w.heap[k]?

theorem Only.refl (F : Nat → Prop) (w : World) : Only F w w := ⟨rfl, rfl, rfl, Nat.le_refl _, fun _ _ _ => rfl⟩
theorem Only.trans {F G : Nat → Prop} {a b c : World} (h : Only F a b) (k : Only G b c) (hG : ∀ i, i < a.heap.size → G i → F i) : Only F a c :=
  ⟨k.os.trans h.os, k.tape.trans h.tape, k.output.trans h.output, Nat.le_trans h.size k.size, fun i hi hF => (k.block i (Nat.lt_of_lt_of_le hi h.size) (fun hg => hF (hG i hi hg))).trans (h.block i hi hF)⟩
theorem Only.mono {F G : Nat → Prop} {w w' : World} (h : Only F w w') (hF : ∀ i, i < w.heap.size → F i → G i) : Only G w w' :=
  ⟨h.os, h.tape, h.output, h.size, fun i hi hg => h.block i hi (fun hf => hg (hF i hi hf))⟩
theorem Only.drew {F : Nat → Prop} {a w : World} (h : Only F a w) : Only F a w.drew := ⟨h.os, h.tape, h.output, h.size, h.block⟩
theorem Only.alloc {F : Nat → Prop} {a w : World} (h : Only F a w) (o : Obj) : Only F a (w.alloc o) :=
  ⟨h.os, h.tape, h.output, by simp; exact Nat.le_succ_of_le h.size, fun i hi hF => (Below.heap_alloc _ _ _ (Nat.lt_of_lt_of_le hi h.size)).trans (h.block i hi hF)⟩
theorem Only.setCell {F : Nat → Prop} {a w : World} (h : Only F a w) {p : Addr} (hp : p.block < a.heap.size → F p.block) (u : Value) : Only F a (w.setCell p u) :=
  ⟨h.os, h.tape, h.output, by simp [World.setCell]; exact h.size, fun i hi hF => (Below.heap_setCell _ _ _ _ (fun e => hF (by subst e; exact hp hi))).trans (h.block i hi hF)⟩
theorem Only.of_below {F : Nat → Prop} {w w' : World} (h : Below w.heap.size w w') : Only F w w' := ⟨h.os, h.tape, h.output, h.size, fun i hi _ => h.block i hi⟩
theorem Only.below {F : Nat → Prop} {w w' : World} (h : Only F w w') {B : Nat} (hB : B ≤ w.heap.size) (hF : ∀ i, i < B → ¬ F i) : Below B w w' :=
  ⟨h.os, h.tape, h.output, h.size, fun i hi => h.block i (Nat.lt_of_lt_of_le hi hB) (hF i hi)⟩
theorem Only.grown {F : Nat → Prop} {a w w' : World} {row : Option Nat} (h : Only F a w) (hg : w.grownBy w' row) (hr : ∀ k, k < a.heap.size → row = some k → F k) : Only F a w' :=
  ⟨hg.os.trans h.os, hg.tape.trans h.tape, hg.output.trans h.output, Nat.le_trans h.size hg.size, fun i hi hF => (hg.block i (Nat.lt_of_lt_of_le hi h.size) (fun e => hF (hr i hi e.symm))).trans (h.block i hi hF)⟩
theorem Only.row {F : Nat → Prop} {w w' : World} (h : Only F w w') {base e size n : Nat} {v : Value} {xs : List Value} (ho : w.ownsRow base e size v n xs) (hF : ∀ k, v.ownBlock = some k → ¬ F k) : w'.ownsRow base e size v n xs := by
  refine ⟨ho.1, ?_⟩
  rcases ho.2 with h2 | ⟨g, cap, cur, h1, h2, h3, h4⟩
  · exact .inl h2
  · exact .inr ⟨g, cap, cur, h1, h2, (h.block g (Array.getElem?_eq_some_iff.1 h3).1 (hF g (by rw [h1]; rfl))).trans h3, h4⟩
theorem Only.cell {F : Nat → Prop} {w w' : World} (h : Only F w w') {p : Addr} (hp : p.block < w.heap.size) (hF : ¬ F p.block) : w'.cell? p = w.cell? p := World.cell?_of_block (w := w) (h.block p.block hp hF)

end Go.Proofs.YtocoonkachbjaaaDoor
