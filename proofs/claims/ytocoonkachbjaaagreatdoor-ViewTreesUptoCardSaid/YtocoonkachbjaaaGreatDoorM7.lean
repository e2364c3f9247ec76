/- Several texts in one: what each proves its own first comment says. -/
import Derived.Test.YtocoonkachbjaaaGreatDoorM6
import Derived.Test.YtocoonkachbjaaaGreatDoorM2
import Derived.Maps.OwnSet
import Derived.Maps.OwnOps
import Derived.Test.YtocoonkachbjaaaGreatDoorM1
import Derived.OneCell
import Derived.Laws.Cells
import Derived.Deep.RegionWith

/- A Book where it lies: its names, its map. The map's reading, slices.Clone. -/
namespace Go.Proofs.YtocoonkachbjaaaGreatDoor
open Go.RowKit Go.Maps Go.ChangeMaps Go.Proofs.NmPlain Go.Proofs.Ar
set_option linter.unusedVariables false
namespace Sc

theorem kLaw : Keyed Tryz.prog 9 := string_keyed Tryz.underlying9
theorem zeroI (w : World) : (zeroValue 3).run Tryz.prog w = .ok (.int .i64 0) w := by kernel_rfl

def keyL (x : ByteArray) : Lit := .string x.data.toList
/-- The map of the first k names: each with its place. -/
def mapL (ls : List ByteArray) : Nat → DataW Unit
  | 0 => .map []
  | k + 1 => match ls[k]? with
    | some x => (mapL ls k).put (keyL x) (.lit (.int .i64 k))
    | none => mapL ls k
theorem mapL_next {ls : List ByteArray} {k : Nat} (h : k < ls.length) : mapL ls (k + 1) = (mapL ls k).put (keyL ls[k]) (.lit (.int .i64 k)) := by
  rw [mapL, List.getElem?_eq_getElem h]
theorem mapL_map (ls : List ByteArray) : ∀ k, IsMap (mapL ls k)
  | 0 => isMap_empty
  | k + 1 => by
    rw [mapL]
    split
    · exact (mapL_map ls k).put _ _
    · exact mapL_map ls k
theorem keyL_ne {x y : ByteArray} (h : x ≠ y) : keyL x ≠ keyL y := by
  intro e; apply h
  cases x; cases y
  simpa [keyL] using e
theorem key_is (x : ByteArray) : WideAt.IsKeyLit (keyL x) := by
  simp [WideAt.IsKeyLit, keyL]
theorem map_no {ls : List ByteArray} {x : ByteArray} : ∀ k, (∀ i (h : i < ls.length), i < k → ls[i] ≠ x) → Maps.has (mapL ls k) (keyL x) = false
  | 0, _ => rfl
  | k + 1, h => by
    by_cases hk : k < ls.length
    · rw [mapL_next hk, has_put_other (keyL_ne (fun e => h k hk (by omega) e.symm))]
      exact map_no k fun i hi hik => h i hi (by omega)
    · rw [mapL, List.getElem?_eq_none (by omega)]
      exact map_no k fun i hi hik => h i hi (by omega)
theorem map_yes {ls : List ByteArray} : ∀ k j (hj : j < ls.length), j < k → (∀ i (h : i < ls.length), i < k → ls[i] = ls[j] → i = j) → Maps.has (mapL ls k) (keyL ls[j]) = true ∧ ∀ z, (mapL ls k).atKey (keyL ls[j]) z = .lit (.int .i64 j)
  | 0, j, hj, h0, _ => by omega
  | k + 1, j, hj, hjk, h => by
    by_cases hk : k < ls.length
    · rw [mapL_next hk]
      by_cases e : k = j
      · subst e
        exact ⟨has_put_same (mapL_map ls k) (key_is _) _, fun z => atKey_put_same (mapL_map ls k) (key_is _) _ z⟩
      · have hne : ls[j] ≠ ls[k] := fun e2 => e (h k hk (by omega) e2.symm)
        have ih := map_yes k j hj (by omega) fun i hi hik => h i hi (by omega)
        rw [has_put_other (keyL_ne hne)]
        exact ⟨ih.1, fun z => by rw [atKey_put_other (keyL_ne hne)]; exact ih.2 z⟩
    · rw [mapL, List.getElem?_eq_none (by omega)]
      exact map_yes k j hj (by omega) fun i hi hik => h i hi (by omega)

/-- A Book of these names. -/
def BookAt (lo : Nat) (w : World) (B : Nat) (ls : List ByteArray) : Prop :=
  ∃ v bm, w.heap[B]? = some (.cells #[v, .map (some bm)] 59 (0, 0)) ∧ lo ≤ B ∧ lo ≤ bm ∧ w.ownsRow lo 9 1 v ls.length (ls.map Value.string) ∧ w.ownsMap Tryz.prog 9 (plainElem Tryz.prog 3) bm ls.length (mapL ls ls.length)

theorem own_kept {w w' : World} {lo e size n : Nat} {v : Value} {xs : List Value} (h : w.ownsRow lo e size v n xs) (hk : ∀ i, lo ≤ i → i < w.heap.size → w'.heap[i]? = w.heap[i]?) : w'.ownsRow lo e size v n xs := by
  refine ⟨h.1, ?_⟩
  rcases h.2 with h2 | ⟨g, cap, cur, h1, h2, h3, h4⟩
  · exact .inl h2
  · refine .inr ⟨g, cap, cur, h1, h2, ?_, h4⟩
    rw [hk g h2 (Array.getElem?_eq_some_iff.1 h3).1]; exact h3
theorem BookAt.kept {lo : Nat} {w w' : World} {B : Nat} {ls : List ByteArray} (h : BookAt lo w B ls) (hk : ∀ i, lo ≤ i → i < w.heap.size → w'.heap[i]? = w.heap[i]?) : BookAt lo w' B ls := by
  obtain ⟨v, bm, h1, h2, h3, h4, es, clock, h5, h6⟩ := h
  exact ⟨v, bm, (hk B h2 (Array.getElem?_eq_some_iff.1 h1).1).trans h1, h2, h3, own_kept h4 hk, es, clock, (hk bm h3 (Array.getElem?_eq_some_iff.1 h5).1).trans h5, h6⟩
theorem BookAt.below {lo : Nat} {w w' : World} {B : Nat} {ls : List ByteArray} (h : BookAt lo w B ls) (hb : Below w.heap.size w w') : BookAt lo w' B ls :=
  h.kept fun i _ hi => hb.block i hi
theorem BookAt.lt {lo : Nat} {w : World} {B : Nat} {ls : List ByteArray} (h : BookAt lo w B ls) : B < w.heap.size := by
  obtain ⟨v, bm, h1, _⟩ := h
  exact (Array.getElem?_eq_some_iff.1 h1).1

theorem own_shape {w : World} {base e n : Nat} {v : Value} {xs : List Value} (h : w.ownsRow base e 1 v n xs) : ∃ q r, v = .slice q n r := by
  rcases h.2 with ⟨h1, h2⟩ | ⟨g, cap, cur, h1, _⟩
  · exact ⟨none, 0, by rw [h1, h2]⟩
  · exact ⟨_, cap, h1⟩

/-- .. its value written out. -/
def Cloned (ls : List ByteArray) (w : World) (e : Ending) (w' : World) : Prop :=
  ∃ q c, e = .returned (.slice q ls.length c) ∧ w'.ownsRow w.heap.size 9 1 (.slice q ls.length c) ls.length (ls.map Value.string) ∧ Below w.heap.size w w'

/-- slices.Clone of a list of texts, wherever it lies. -/
theorem clone_any (v : Value) (ls : List ByteArray) (hl : ls.length ≤ 1048576) (w : World) (h : TextArg w v ls) :
    Calls Tryz.prog 20 #[v] w fun e w' => ∃ v', e = .returned v' ∧ w'.ownsRow w.heap.size 9 1 v' ls.length (ls.map Value.string) ∧ Below w.heap.size w w' := by
  obtain ⟨p, c, rfl, h⟩ := h
  cases ls with
  | nil =>
    cases p with
    | none =>
      refine (Tryz.slices_Clone_string_nil 0 c w).mono fun e w' h => ⟨_, h.1, World.ownsRow_nil _ _ _ _, by rw [h.2]; exact Below.refl _ _⟩
    | some a =>
      exact (Tryz.slices_Clone_string_zero a c w).mono fun e w' ⟨v', h1, h2, _, h4⟩ => ⟨v', h1, h2, h4⟩
  | cons x r =>
    obtain ⟨g, o, rfl, hg, _⟩ := h 0 (by simp)
    refine (Tryz.slices_Clone_string g o (x :: r).length c (x :: r) w (Nat.le_refl _) (by omega) (fun j hj => ?_)).mono fun e w' ⟨v', h1, h2, _, h4⟩ => ⟨v', h1, ?_, h4⟩
    · obtain ⟨g2, o2, e2, _, hc⟩ := h j hj
      cases e2
      rw [hc, List.getD_eq_getElem?_getD, List.getElem?_eq_getElem hj]; rfl
    · rw [List.take_length] at h2; exact h2

theorem clone_out (v : Value) (ls : List ByteArray) (hl : ls.length ≤ 1048576) (w : World) (h : TextArg w v ls) : Calls Tryz.prog 20 #[v] w (Cloned ls w) :=
  (clone_any v ls hl w h).mono fun e w' ⟨v', h1, h2, h3⟩ => by
    obtain ⟨q, r, rfl⟩ := own_shape h2
    exact ⟨q, r, h1, h2, h3⟩

end Sc
end Go.Proofs.YtocoonkachbjaaaGreatDoor

/- lineagekit.Num, Place and At of a Fault of package api. -/
namespace Go.Proofs.YtocoonkachbjaaaGreatDoor
open Go.RowKit Go.Extern.Stop Go.Stop Go.Extern
set_option linter.unusedVariables false
namespace Fl

/-- A Fault of package api: its number n, its place a. -/
def fv (a : Int) (n : Int) : Value := .agg #[.int .i64 n, .int .i64 a]

theorem f_noIs (v : Value) (xT : TypeId) (w : World) : (Instr.typeAssert (.iface 62 v) xT 190 true).run Tryz.prog w = .ok (.tuple #[.nilIface, .bool false]) w := run_typeAssert_lacksB Tryz.underlying190 (by kernel_rfl) (by kernel_rfl) v xT w
theorem f_unwrap (v : Value) (xT : TypeId) (w : World) : (Instr.typeAssert (.iface 62 v) xT 168 true).run Tryz.prog w = .ok (.tuple #[.iface 62 v, .bool true]) w := run_typeAssert_hasB Tryz.underlying168 (by kernel_rfl) v xT w
theorem f_noAs (v : Value) (xT : TypeId) (w : World) : (Instr.typeAssert (.iface 62 v) xT 165 true).run Tryz.prog w = .ok (.tuple #[.nilIface, .bool false]) w := run_typeAssert_lacksB Tryz.underlying165 (by kernel_rfl) (by kernel_rfl) v xT w
theorem f_method (v : Value) (w : World) : (Go.method 334 62 v "Unwrap").run Tryz.prog w = .ok (165, v) w := by kernel_rfl
theorem f_typeOf (v : Value) (w : World) : (Extern.ReflectliteType.typeOf #[.iface 62 v]).run Tryz.prog w = .ok (.iface 161 (.agg #[.pointer (some ⟨8, 62, none⟩)])) w := by kernel_rfl
theorem f_eql (u v : Value) (w : World) : (binOp .eql 33 (.iface 62 u) (.iface 55 v)).run Tryz.prog w = .ok (.bool false) w := run_eql_iface_types _ _ _ _ Tryz.underlying33 (by decide) w

theorem unwrap_any (a : Int) (n : Int) (w : World) : Calls Tryz.prog 165 #[fv a n] w fun e w' => e = .returned (.iface 55 (.int .i64 n)) ∧ Below w.heap.size w w' := by
  unfold fv
  go_enter Tryz.func165, Tryz.ntmps165
  go_wp2
  go_ret
  exact ⟨rfl, (Below.refl _ _).alloc (Nat.le_refl _) _⟩

set_option maxHeartbeats 4000000 in
theorem is_fault (a : Int) (n b : Int) (w : World) :
    Calls Tryz.prog 76 #[.iface 62 (fv a n), .iface 55 (.int .i64 b)] w fun e w' => e = .returned (.bool (n == b)) ∧ Below w.heap.size w w' := by
  obtain ⟨i, hi, hcmp⟩ := Option.map_eq_some_iff.1 er_comp
  have h8 := @run_callFunc_extern Tryz.prog 106 _ Extern.ReflectliteType.typeOf Tryz.func106 (by kernel_rfl) (by kernel_rfl) (by kernel_rfl) (by kernel_rfl)
  have h32 := @run_callFunc_extern Tryz.prog 172 _ cmpFn Tryz.func172 (by kernel_rfl) (by kernel_rfl) (by kernel_rfl) (by kernel_rfl)
  have tT := er_typeOf
  have cT := er_comparable
  have mR := er_methodComparable
  have nF := f_noIs
  have uF := f_unwrap
  have mF := f_method
  have qF := f_eql
  have nE := er_noIs
  have uE := er_noUnwrap
  have vE := er_noUnwraps
  have heq := fun w => eql_iface_int (P := Tryz.prog) w n b Tryz.underlying33 Tryz.underlying55 hi hcmp
  obtain ⟨v, hv⟩ : ∃ v, v = fv a n := ⟨_, rfl⟩
  have hU := Lib.hid (fun w' => unwrap_any a n w')
  rw [← hv] at hU ⊢
  clear hv
  by_cases hab : (n == b) = true
  · rw [hab] at heq ⊢
    go_enter Tryz.func76, Tryz.ntmps76
    go_wp2
    refine wp_loop_rounds 2 ?_
    rw [rounds_succ]
    go_wp2_with (go_at_call 165; refine (hU.out _).mono ?_; rintro e w1 ⟨rfl, hb1⟩)
    rw [rounds_succ]
    go_wp2
    go_ret
    exact ⟨rfl, hb1⟩
  · simp only [Bool.not_eq_true] at hab
    rw [hab] at heq ⊢
    go_enter Tryz.func76, Tryz.ntmps76
    go_wp2
    refine wp_loop_rounds 2 ?_
    rw [rounds_succ]
    go_wp2_with (go_at_call 165; refine (hU.out _).mono ?_; rintro e w1 ⟨rfl, hb1⟩)
    rw [rounds_succ]
    go_wp2
    go_ret
    exact ⟨rfl, hb1⟩

set_option maxHeartbeats 1000000 in
theorem num_fault (a : Int) (k : Int) (h1 : 1 ≤ k) (h2 : k ≤ 24) (w : World) :
    Calls Tryz.prog 37 #[.iface 62 (fv a k)] w fun e w' => e = .returned (.int .i64 k) ∧ Below w.heap.size w w' := by
  have hk0 : (k == 0) = false := by rw [beq_eq_false_iff_ne]; omega
  obtain ⟨v, hv⟩ : ∃ v, v = fv a k := ⟨_, rfl⟩
  have hI := Lib.hid (fun m w' => is_fault a k m w')
  rw [← hv] at hI ⊢
  clear hv
  go_enter Tryz.func37, Tryz.ntmps37
  go_wp2
  go_loopw [3, 4] (fun f n wr => (∃ m : Int, 1 ≤ m ∧ m ≤ 25 ∧ n = .int .i64 m ∧ ((m ≤ k ∧ f = .int .i64 0) ∨ (k < m ∧ f = .int .i64 k))) ∧ Below w.heap.size w wr) (fun _ n _ => (25 - intOf n).toNat)
  case atStart => exact ⟨⟨1, by omega, by omega, rfl, .inl ⟨h1, rfl⟩⟩, Below.refl _ _⟩
  case round =>
    obtain ⟨⟨m, hm1, hm2, rfl, hf⟩, hbl⟩ := hrel
    have HB := Lib.hid hbl
    clear hbl
    by_cases hm : m ≤ 24
    · rcases hf with ⟨hle, rfl⟩ | ⟨hlt, rfl⟩
      · by_cases he : k = m
        · subst he
          have hq : (k == k) = true := by simp
          go_wp2_with fail
          refine (hI.out k _).mono ?_
          rintro e w' ⟨rfl, hb⟩
          go_wp2
          go_roundw
          case rel => exact ⟨⟨k + 1, by omega, by omega, rfl, .inr ⟨by omega, rfl⟩⟩, HB.out.trans (hb.mono HB.out.size)⟩
          case measure => simp [intOf]; omega
        · have hq : (k == m) = false := by rw [beq_eq_false_iff_ne]; exact he
          go_wp2_with fail
          refine (hI.out m _).mono ?_
          rintro e w' ⟨rfl, hb⟩
          go_wp2
          go_roundw
          case rel => exact ⟨⟨m + 1, by omega, by omega, rfl, .inl ⟨by omega, rfl⟩⟩, HB.out.trans (hb.mono HB.out.size)⟩
          case measure => simp [intOf]; omega
      · have hq : (k == m) = false := by rw [beq_eq_false_iff_ne]; omega
        go_wp2_with fail
        refine (hI.out m _).mono ?_
        rintro e w' ⟨rfl, hb⟩
        go_wp2
        go_roundw
        case rel => exact ⟨⟨m + 1, by omega, by omega, rfl, .inr ⟨by omega, rfl⟩⟩, HB.out.trans (hb.mono HB.out.size)⟩
        case measure => simp [intOf]; omega
    · rcases hf with ⟨hle, rfl⟩ | ⟨hlt, rfl⟩
      · omega
      · go_wp2_with fail
        refine (hI.out 0 _).mono ?_
        rintro e w' ⟨rfl, hb⟩
        go_wp2
        go_ret
        exact ⟨rfl, HB.out.trans (hb.mono HB.out.size)⟩

theorem fl_assign (w : World) : (ReflectliteType.relation "AssignableTo" ReflectliteType.assignableTo #[.agg #[.pointer (some ⟨8, 62, none⟩)], .iface 161 (.agg #[.pointer (some ⟨8, 62, none⟩)])]).run Tryz.prog w = .ok (.bool true) w := by kernel_rfl
theorem fl_valueOf (n a : Int) (w : World) : (ReflectliteValue.unpack (.iface 62 (.agg #[.int .i64 n, .int .i64 a]))).run Tryz.prog w
    = .ok (.agg #[.pointer (some ⟨8, 62, none⟩), .pointer (some ⟨w.heap.size, 0, none⟩), .int .u64 153]) (w.alloc (.cells #[.int .i64 n, .int .i64 a] 62)) := by kernel_rfl
theorem fl_elemOf (w : World) : (Rtype.elem? 73).run Tryz.prog w = .ok (some 62) w := by kernel_rfl
theorem fl_mk (p : Addr) (w : World) : (ReflectliteValue.mk 62 p ReflectliteValue.flagAddr).run Tryz.prog w = .ok (.agg #[.pointer (some ⟨8, 62, none⟩), .pointer (some p), .int .u64 409]) w := by kernel_rfl
theorem fl_elemV (a p : Addr) (W : World) (ha : W.cell? a = some (.pointer (some p))) :
    (ReflectliteValue.method (ReflectliteValue.valueError "reflectlite.Value.Elem" 0) ReflectliteValue.elem #[.agg #[.pointer (some ⟨8, 73, none⟩), .pointer (some a), .int .u64 150]]).run Tryz.prog W
      = .ok (.agg #[.pointer (some ⟨8, 62, none⟩), .pointer (some p), .int .u64 409]) W := by
  rw [er_rlm]
  simp only [Sem.run_bind, er_partsPF, Result.andThen]
  simp [ReflectliteValue.elem, loadVar, isAgg, underlying, Tryz.underlying73, ha, Result.andThen, fl_elemOf, fl_mk]
theorem fl_rls (v x : Value) : ReflectliteValue.set #[v, x] = (do
    let (some (dst, a, fl), some (src, b, _)) := (← ReflectliteValue.parts v, ← ReflectliteValue.parts x)
      | unsupported (.noEntry "extern/(internal/reflectlite.Value).Set.zeroValue")
    if fl / ReflectliteValue.flagAddr % 2 == 0 then unsupported (.noEntry "extern/(internal/reflectlite.Value).Set.unaddressable")
    let val ← loadVar src b
    if ← Rtype.directlyAssignable dst src then storeVar dst a val
    else if ← Rtype.implements dst src then
      if (← Rtype.kind src) == 20 then
        match val with
        | .nilIface => unsupported (.noEntry "extern/reflectlite: a nil value of one interface type handed on as a value of another")
        | _ => storeVar dst a val
      else storeVar dst a (.iface src val)
    else panicString ("reflectlite.Set: value of type " ++ (← Rtype.spelt src) ++ " is not assignable to type " ++ (← Rtype.spelt dst))
    pure (.tuple #[])) := rfl
theorem fl_partsA (a : Addr) (w : World) : (ReflectliteValue.parts (.agg #[.pointer (some ⟨8, 62, none⟩), .pointer (some a), .int .u64 409])).run Tryz.prog w = .ok (some (62, a, 409)) w := by kernel_rfl
theorem fl_parts (a : Addr) (w : World) : (ReflectliteValue.parts (.agg #[.pointer (some ⟨8, 62, none⟩), .pointer (some a), .int .u64 153])).run Tryz.prog w = .ok (some (62, a, 153)) w := by kernel_rfl
theorem fl_direct (w : World) : (Rtype.directlyAssignable 62 62).run Tryz.prog w = .ok true w := by kernel_rfl
theorem fl_size (w : World) : (sizeOf 62).run Tryz.prog w = .ok 2 w := by kernel_rfl
theorem fl_isAgg (w : World) : (isAgg 62).run Tryz.prog w = .ok true w := by kernel_rfl

end Fl
end Go.Proofs.YtocoonkachbjaaaGreatDoor

/- errors.As of a Fault of package api: its number and its place are handed out; lineagekit.Place, At, Plain of it. -/
namespace Go.Proofs.YtocoonkachbjaaaGreatDoor
open Go.RowKit Go.Extern.Stop Go.Stop Go.Extern
set_option linter.unusedVariables false
namespace Fl

theorem fl_load (b : Nat) (n a : Int) (W : World) (hb : W.heap[b]? = some (.cells #[.int .i64 n, .int .i64 a] 62 (0, 0))) :
    (loadCellsFrom ⟨b, 0, none⟩ 0 2 #[]).run Tryz.prog W = .ok #[.int .i64 n, .int .i64 a] W := by
  have := run_loadCells_list (P := Tryz.prog) W ⟨b, 0, none⟩ [.int .i64 n, .int .i64 a] (fun j v hj => by
    have hp : (⟨b, 0, none⟩ : Addr).add j = ⟨b, j, none⟩ := by unfold Addr.add; split <;> simp_all
    rw [hp, cell_of_row W b j _ _ _ hb]
    simpa using hj)
  exact this

theorem fl_set (N b : Nat) (x y n a : Int) (W : World) (hb : W.heap[b]? = some (.cells #[.int .i64 n, .int .i64 a] 62 (0, 0))) (ht : W.heap[N]? = some (.cells #[.int .i64 x, .int .i64 y] 62 (0, 0))) :
    (ReflectliteValue.set #[.agg #[.pointer (some ⟨8, 62, none⟩), .pointer (some ⟨N, 0, none⟩), .int .u64 409], .agg #[.pointer (some ⟨8, 62, none⟩), .pointer (some ⟨b, 0, none⟩), .int .u64 153]]).run Tryz.prog W
      = .ok (.tuple #[]) ((W.setCell ⟨N, 0, none⟩ (.int .i64 n)).setCell ⟨N, 1, none⟩ (.int .i64 a)) := by
  rw [fl_rls]
  simp only [Sem.run_bind, fl_partsA, fl_parts, Result.andThen]
  simp [ReflectliteValue.flagAddr, loadVar, Result.andThen, fl_direct, storeVar, Value.cells, storeCells, loadCells, Addr.add]
  rw [fl_load b n a W hb]
  have c0 : W.cell? ⟨N, 0, none⟩ = some (.int .i64 x) := by rw [cell_of_row W N 0 _ _ _ ht]; rfl
  have f0 : ∀ j, W.frozen? ⟨N, j, none⟩ = false := fun j => by simp [World.frozen?, ht]
  have ht2 : (W.setCell ⟨N, 0, none⟩ (.int .i64 n)).heap[N]? = some (.cells #[.int .i64 n, .int .i64 y] 62 (0, 0)) := by
    simp [World.setCell, Array.getElem?_modify, ht]
  have c1 : (W.setCell ⟨N, 0, none⟩ (.int .i64 n)).cell? ⟨N, 1, none⟩ = some (.int .i64 y) := by rw [cell_of_row _ N 1 _ _ _ ht2]; rfl
  have f1 : (W.setCell ⟨N, 0, none⟩ (.int .i64 n)).frozen? ⟨N, 1, none⟩ = false := by simp [World.frozen?, ht2]
  have s0 : (store ⟨N, 0, none⟩ (.int .i64 n)).run Tryz.prog W = .ok () (W.setCell ⟨N, 0, none⟩ (.int .i64 n)) := by simp [go_sem, stored, c0, f0 0]
  have s1 : (store ⟨N, 1, none⟩ (.int .i64 a)).run Tryz.prog (W.setCell ⟨N, 0, none⟩ (.int .i64 n)) = .ok () ((W.setCell ⟨N, 0, none⟩ (.int .i64 n)).setCell ⟨N, 1, none⟩ (.int .i64 a)) := by simp [go_sem, stored, c1, f1]
  simp [storeCells, Addr.add, s0, s1, Result.andThen]

/-- Where a Fault was laid: its place, and nothing else that was there has turned. -/
def Hit (w : World) (N : Nat) (n a : Int) (w' : World) : Prop := w'.heap[N]? = some (.cells #[.int .i64 n, .int .i64 a] 62 (0, 0)) ∧ w.grownBy w' (some N)

set_option maxHeartbeats 8000000 in
/-- errors.As(a Fault, &f): true; f is that Fault. -/
theorem as_hit (a n x y : Int) (N : Nat) (w : World) (hg : erHandle w) (ht : w.heap[N]? = some (.cells #[.int .i64 x, .int .i64 y] 62 (0, 0))) :
    Calls Tryz.prog 38 #[.iface 62 (fv a n), .iface 73 (.pointer (some ⟨N, 0, none⟩))] w fun e w' => e = .returned (.bool true) ∧ Hit w N n a w' := by
  have h6 := @run_callFunc_extern Tryz.prog 77 _ (fun args => ReflectliteValue.unpack (args.getD 0 (.tuple #[]))) Tryz.func77 (by kernel_rfl) (by kernel_rfl) (by kernel_rfl) (by kernel_rfl)
  have h7 := @run_callFunc_extern Tryz.prog 78 _ (ReflectliteValue.methodAny (ReflectliteValue.valueError "reflectlite.Value.Type" 0) (fun t _ _ _ => ReflectliteType.toType t)) Tryz.func78 (by kernel_rfl) (by kernel_rfl) (by kernel_rfl) (by kernel_rfl)
  have h8 := @run_callFunc_extern Tryz.prog 79 _ (ReflectliteValue.method (ReflectliteValue.valueError "reflectlite.Value.IsNil" 0) ReflectliteValue.isNil) Tryz.func79 (by kernel_rfl) (by kernel_rfl) (by kernel_rfl) (by kernel_rfl)
  have h27 := @run_callFunc_extern Tryz.prog 160 _ (ReflectliteType.abiMethod fun t => do pure (.int .u8 (← Rtype.kind t))) Tryz.func160 (by kernel_rfl) (by kernel_rfl) (by kernel_rfl) (by kernel_rfl)
  have h37 := @run_callFunc_extern Tryz.prog 173 _ (ReflectliteType.method ReflectliteType.elem) Tryz.func173 (by kernel_rfl) (by kernel_rfl) (by kernel_rfl) (by kernel_rfl)
  have h38 := @run_callFunc_extern Tryz.prog 174 _ (ReflectliteType.relation "Implements" ReflectliteType.implements_) Tryz.func174 (by kernel_rfl) (by kernel_rfl) (by kernel_rfl) (by kernel_rfl)
  have h10 := @run_callFunc_extern Tryz.prog 106 _ ReflectliteType.typeOf Tryz.func106 (by kernel_rfl) (by kernel_rfl) (by kernel_rfl) (by kernel_rfl)
  have h35 := @run_callFunc_extern Tryz.prog 171 _ (ReflectliteType.relation "AssignableTo" ReflectliteType.assignableTo) Tryz.func171 (by kernel_rfl) (by kernel_rfl) (by kernel_rfl) (by kernel_rfl)
  have h11 := @run_callFunc_extern Tryz.prog 108 _ (ReflectliteValue.method (ReflectliteValue.valueError "reflectlite.Value.Elem" 0) ReflectliteValue.elem) Tryz.func108 (by kernel_rfl) (by kernel_rfl) (by kernel_rfl) (by kernel_rfl)
  have h12 := @run_callFunc_extern Tryz.prog 109 _ ReflectliteValue.set Tryz.func109 (by kernel_rfl) (by kernel_rfl) (by kernel_rfl) (by kernel_rfl)
  have tF := f_typeOf
  have mA := er_methodAssignableTo
  have aF := fl_assign
  have vF := fl_valueOf n a
  have f6 := er_valueOfPF
  have f7 := er_typePF
  have mK := er_methodKind
  have mE := er_methodElem
  have mI := er_methodImplements
  have k27 := er_kindPF
  have k25 := er_kindF
  have e27 := er_elemPF
  have i25 := er_implementsF
  have hlt := hg.lt
  unfold erHandle at hg
  have hNl : N < w.heap.size := (Array.getElem?_eq_some_iff.1 ht).1
  have n8 := er_isNilPF ⟨w.heap.size, 0, none⟩ ⟨N, 0, none⟩ ((w.alloc (.cells #[.pointer (some ⟨N, 0, none⟩)] 73)).alloc (.cells #[.pointer (some ⟨8, 73, none⟩), .pointer (some ⟨w.heap.size, 0, none⟩), .int .u64 150] 126)) (by simp)
  have hg2 : ((w.alloc (.cells #[.pointer (some ⟨N, 0, none⟩)] 73)).alloc (.cells #[.pointer (some ⟨8, 73, none⟩), .pointer (some ⟨w.heap.size, 0, none⟩), .int .u64 150] 126)).cell? ⟨1, 0, none⟩ = some (.iface 161 (.agg #[.pointer (some ⟨8, 33, none⟩)])) := by
    rw [World.cell?_alloc_lt _ _ ⟨1, 0, none⟩ (by first | (simp; done) | (simp; omega)), World.cell?_alloc_lt _ _ ⟨1, 0, none⟩ hlt]; exact hg
  have el := fl_elemV ⟨w.heap.size, 0, none⟩ ⟨N, 0, none⟩ (((w.alloc (.cells #[.pointer (some ⟨N, 0, none⟩)] 73)).alloc (.cells #[.pointer (some ⟨8, 73, none⟩), .pointer (some ⟨w.heap.size, 0, none⟩), .int .u64 150] 126)).alloc (.cells #[.pointer (some ⟨8, 73, none⟩), .pointer (some ⟨w.heap.size, 0, none⟩), .int .u64 150] 126)) (by rw [World.cell?_alloc_lt _ _ ⟨w.heap.size, 0, none⟩ (by simp; omega)]; simp)
  obtain ⟨W3, hW3⟩ : ∃ W3, W3 = (((w.alloc (.cells #[.pointer (some ⟨N, 0, none⟩)] 73)).alloc (.cells #[.pointer (some ⟨8, 73, none⟩), .pointer (some ⟨w.heap.size, 0, none⟩), .int .u64 150] 126)).alloc (.cells #[.pointer (some ⟨8, 73, none⟩), .pointer (some ⟨w.heap.size, 0, none⟩), .int .u64 150] 126)) := ⟨_, rfl⟩
  have hb3 : Below w.heap.size w W3 := by rw [hW3]; exact (((Below.refl _ _).alloc (Nat.le_refl _) _).alloc (by simp) _).alloc (by simp; omega) _
  have hz3 : W3.heap.size = w.heap.size + 1 + 1 + 1 := by rw [hW3]; simp
  have st := fl_set N W3.heap.size x y n a (W3.alloc (.cells #[.int .i64 n, .int .i64 a] 62)) (Ut.alloc_at _ _) (by rw [Below.heap_alloc _ _ _ (by rw [hz3]; omega), hb3.block N hNl]; exact ht)
  have hfin : Hit w N n a (((W3.alloc (.cells #[.int .i64 n, .int .i64 a] 62)).setCell ⟨N, 0, none⟩ (.int .i64 n)).setCell ⟨N, 1, none⟩ (.int .i64 a)) := by
    have hb4 : Below w.heap.size w (W3.alloc (.cells #[.int .i64 n, .int .i64 a] 62)) := hb3.alloc hb3.size _
    have h4 : (W3.alloc (.cells #[.int .i64 n, .int .i64 a] 62)).heap[N]? = some (.cells #[.int .i64 x, .int .i64 y] 62 (0, 0)) := (hb4.block N hNl).trans ht
    refine ⟨by simp [World.setCell, Array.getElem?_modify, h4], ⟨hb4.os, hb4.tape, hb4.output, by simpa [World.setCell] using hb4.size, fun k hk hne => ?_⟩⟩
    rw [Below.heap_setCell _ _ _ _ (by simpa using fun e => hne (by rw [e])), Below.heap_setCell _ _ _ _ (by simpa using fun e => hne (by rw [e]))]
    exact hb4.block k hk
  rw [hz3] at st
  rw [hW3] at st hfin
  have HF := Lib.hid hfin
  clear hfin hb3 hz3 hW3
  obtain ⟨v, hv⟩ : ∃ v, v = fv a n := ⟨_, rfl⟩
  unfold fv at hv
  go_enter Tryz.func38, Tryz.ntmps38
  unfold fv
  clear hv
  go_wp2
  refine wp_loop_rounds 1 ?_
  rw [rounds_succ]
  go_wp2
  go_ret
  exact ⟨rfl, HF.out⟩

end Fl
end Go.Proofs.YtocoonkachbjaaaGreatDoor

/- lineagekit.Place and At of a Fault of package api. -/
namespace Go.Proofs.YtocoonkachbjaaaGreatDoor
open Go.RowKit Go.Extern.Stop Go.Stop Go.Extern
set_option linter.unusedVariables false
namespace Fl

theorem Hit.below {w w' : World} {N B : Nat} {n a : Int} (h : Hit w N n a w') (hN : B ≤ N) (hB : B ≤ w.heap.size) : Below B w w' :=
  (Below.refl B w).grown h.2 hB (fun j hj => by cases hj; exact hN)

set_option maxHeartbeats 2000000 in
theorem place_flt (a n : Int) (h1 : 1 ≤ n) (h2 : n ≤ 24) (w : World) (hg : erHandle w) :
    Calls Tryz.prog 46 #[.iface 62 (fv a n)] w fun e w' => e = .returned (.tuple #[.int .i64 a, .bool true]) ∧ Below w.heap.size w w' := by
  have hA := as_hit a n 0 0 w.heap.size (w.alloc (.cells #[.int .i64 0, .int .i64 0] 62)) (hg.below hg.lt ((Below.refl _ w).alloc (Nat.le_refl _) _)) (Ut.alloc_at _ _)
  have hN := Lib.hid (fun w' => num_fault a n h1 h2 w')
  obtain ⟨v, hv⟩ : ∃ v, v = fv a n := ⟨_, rfl⟩
  rw [← hv] at hA hN ⊢
  have HA := Lib.hid hA
  have hq : (n == n) = true := by simp
  clear hv hA hg
  go_enter Tryz.func46, Tryz.ntmps46
  go_wp2_with fail
  refine HA.out.mono ?_
  rintro e w1 ⟨rfl, hh⟩
  have hbl : Below w.heap.size w w1 := ((Below.refl _ w).alloc (Nat.le_refl _) _).trans (hh.below (Nat.le_refl _) (by simp))
  have c0 : w1.cell? ⟨w.heap.size, 0, none⟩ = some (.int .i64 n) := by rw [cell_of_row w1 _ 0 _ _ _ hh.1]; rfl
  have c1 : w1.cell? ⟨w.heap.size, 1, none⟩ = some (.int .i64 a) := by rw [cell_of_row w1 _ 1 _ _ _ hh.1]; rfl
  have hz : w.heap.size < w1.heap.size := (Array.getElem?_eq_some_iff.1 hh.1).1
  have HB := Lib.hid hbl
  clear hh hbl
  go_wp2_with fail
  go_region_with (go_at_call 37; refine (hN.out _).mono ?_; rintro e w2 ⟨rfl, hb2⟩; have k0 := (hb2.cell (p := ⟨w.heap.size, 0, none⟩) hz).trans c0; have k1 := (hb2.cell (p := ⟨w.heap.size, 1, none⟩) hz).trans c1)
  all_goals
    go_wp2
    go_ret2
    exact ⟨rfl, HB.out.trans ((Ut.below_drewN (Below.refl _ _) 1).trans (hb2.mono HB.out.size))⟩

set_option maxHeartbeats 2000000 in
theorem at_flt (a n : Int) (h1 : 1 ≤ n) (h2 : n ≤ 24) (w : World) (hg : erHandle w) :
    Calls Tryz.prog 14 #[.iface 62 (fv a n), .int .i64 n, .int .i64 a] w fun e w' => e = .returned (.bool true) ∧ Below w.heap.size w w' := by
  have hP := place_flt a n h1 h2 w hg
  have hN := Lib.hid (fun w' => num_fault a n h1 h2 w')
  obtain ⟨v, hv⟩ : ∃ v, v = fv a n := ⟨_, rfl⟩
  rw [← hv] at hP hN ⊢
  have HP := Lib.hid hP
  have hq : (n == n) = true := by simp
  have hq2 : (a == a) = true := by simp
  have hq3 : (n == 0) = false := by rw [beq_eq_false_iff_ne]; omega
  clear hv hP hg
  go_enter Tryz.func14, Tryz.ntmps14
  go_wp2_with fail
  refine HP.out.mono ?_
  rintro e w1 ⟨rfl, hb1⟩
  go_wp2_with fail
  refine (hN.out _).mono ?_
  rintro e w2 ⟨rfl, hb2⟩
  go_wp2
  go_ret
  exact ⟨rfl, hb1.trans (hb2.mono hb1.size)⟩

end Fl
end Go.Proofs.YtocoonkachbjaaaGreatDoor
