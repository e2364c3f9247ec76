/- errors.As of a Fault of package api: its number and its place are handed out; lineagekit.Place, At, Plain of it. -/
import Derived.Test.YtocoonkachbjaaaGreatDoorErrA
import Derived.OneCell
import Derived.Laws.Cells
namespace Go.Proofs.YtocoonkachbjaaaGreatDoor
open Go.RowKit Go.Extern.Stop Go.Stop Go.Extern
set_option linter.unusedVariables false
namespace Fl

theorem fl_load (b : Nat) (n a : Int) (W : World) (hb : W.heap[b]? = some (.cells #[.int .i64 n, .int .i64 a] 62 (0, 0))) :
    (loadCellsFrom ⟨b, 0, none⟩ 0 2 #[]).run Tryz.prog W = .ok #[.int .i64 n, .int .i64 a] W := by
  have := run_loadCells_list (P := Tryz.prog) W ⟨b, 0, none⟩ [.int .i64 n, .int .i64 a] (fun j v hj => by
    have hp : (⟨b, 0, none⟩ : Addr).add j = ⟨b, j, none⟩ := by unfold Addr.add; split <;> simp_all
    rw [hp, cell_of_row W b j _ _ _ hb]
    simpa using hj)
  exact this

theorem fl_set (N b : Nat) (x y n a : Int) (W : World) (hb : W.heap[b]? = some (.cells #[.int .i64 n, .int .i64 a] 62 (0, 0))) (ht : W.heap[N]? = some (.cells #[.int .i64 x, .int .i64 y] 62 (0, 0))) :
    (ReflectliteValue.set #[.agg #[.pointer (some ⟨8, 62, none⟩), .pointer (some ⟨N, 0, none⟩), .int .u64 409], .agg #[.pointer (some ⟨8, 62, none⟩), .pointer (some ⟨b, 0, none⟩), .int .u64 153]]).run Tryz.prog W
      = .ok (.tuple #[]) ((W.setCell ⟨N, 0, none⟩ (.int .i64 n)).setCell ⟨N, 1, none⟩ (.int .i64 a)) := by
  rw [fl_rls]
  simp only [Sem.run_bind, fl_partsA, fl_parts, Result.andThen]
  simp [ReflectliteValue.flagAddr, loadVar, Result.andThen, fl_direct, storeVar, Value.cells, storeCells, loadCells, Addr.add]
  rw [fl_load b n a W hb]
  have c0 : W.cell? ⟨N, 0, none⟩ = some (.int .i64 x) := by rw [cell_of_row W N 0 _ _ _ ht]; rfl
  have f0 : ∀ j, W.frozen? ⟨N, j, none⟩ = false := fun j => by simp [World.frozen?, ht]
  have ht2 : (W.setCell ⟨N, 0, none⟩ (.int .i64 n)).heap[N]? = some (.cells #[.int .i64 n, .int .i64 y] 62 (0, 0)) := by
    simp [World.setCell, Array.getElem?_modify, ht]
  have c1 : (W.setCell ⟨N, 0, none⟩ (.int .i64 n)).cell? ⟨N, 1, none⟩ = some (.int .i64 y) := by rw [cell_of_row _ N 1 _ _ _ ht2]; rfl
  have f1 : (W.setCell ⟨N, 0, none⟩ (.int .i64 n)).frozen? ⟨N, 1, none⟩ = false := by simp [World.frozen?, ht2]
  have s0 : (store ⟨N, 0, none⟩ (.int .i64 n)).run Tryz.prog W = .ok () (W.setCell ⟨N, 0, none⟩ (.int .i64 n)) := by simp [go_sem, stored, c0, f0 0]
  have s1 : (store ⟨N, 1, none⟩ (.int .i64 a)).run Tryz.prog (W.setCell ⟨N, 0, none⟩ (.int .i64 n)) = .ok () ((W.setCell ⟨N, 0, none⟩ (.int .i64 n)).setCell ⟨N, 1, none⟩ (.int .i64 a)) := by simp [go_sem, stored, c1, f1]
  simp [storeCells, Addr.add, s0, s1, Result.andThen]

/-- Where a Fault was laid: its place, and nothing else that was there has turned. -/
def Hit (w : World) (N : Nat) (n a : Int) (w' : World) : Prop := w'.heap[N]? = some (.cells #[.int .i64 n, .int .i64 a] 62 (0, 0)) ∧ w.grownBy w' (some N)

set_option maxHeartbeats 8000000 in
/-- errors.As(a Fault, &f): true; f is that Fault. -/
theorem as_hit (a n x y : Int) (N : Nat) (w : World) (hg : erHandle w) (ht : w.heap[N]? = some (.cells #[.int .i64 x, .int .i64 y] 62 (0, 0))) :
    Calls Tryz.prog 38 #[.iface 62 (fv a n), .iface 73 (.pointer (some ⟨N, 0, none⟩))] w fun e w' => e = .returned (.bool true) ∧ Hit w N n a w' := by
  have h6 := @run_callFunc_extern Tryz.prog 77 _ (fun args => ReflectliteValue.unpack (args.getD 0 (.tuple #[]))) Tryz.func77 (by kernel_rfl) (by kernel_rfl) (by kernel_rfl) (by kernel_rfl)
  have h7 := @run_callFunc_extern Tryz.prog 78 _ (ReflectliteValue.methodAny (ReflectliteValue.valueError "reflectlite.Value.Type" 0) (fun t _ _ _ => ReflectliteType.toType t)) Tryz.func78 (by kernel_rfl) (by kernel_rfl) (by kernel_rfl) (by kernel_rfl)
  have h8 := @run_callFunc_extern Tryz.prog 79 _ (ReflectliteValue.method (ReflectliteValue.valueError "reflectlite.Value.IsNil" 0) ReflectliteValue.isNil) Tryz.func79 (by kernel_rfl) (by kernel_rfl) (by kernel_rfl) (by kernel_rfl)
  have h27 := @run_callFunc_extern Tryz.prog 160 _ (ReflectliteType.abiMethod fun t => do pure (.int .u8 (← Rtype.kind t))) Tryz.func160 (by kernel_rfl) (by kernel_rfl) (by kernel_rfl) (by kernel_rfl)
  have h37 := @run_callFunc_extern Tryz.prog 173 _ (ReflectliteType.method ReflectliteType.elem) Tryz.func173 (by kernel_rfl) (by kernel_rfl) (by kernel_rfl) (by kernel_rfl)
  have h38 := @run_callFunc_extern Tryz.prog 174 _ (ReflectliteType.relation "Implements" ReflectliteType.implements_) Tryz.func174 (by kernel_rfl) (by kernel_rfl) (by kernel_rfl) (by kernel_rfl)
  have h10 := @run_callFunc_extern Tryz.prog 106 _ ReflectliteType.typeOf Tryz.func106 (by kernel_rfl) (by kernel_rfl) (by kernel_rfl) (by kernel_rfl)
  have h35 := @run_callFunc_extern Tryz.prog 171 _ (ReflectliteType.relation "AssignableTo" ReflectliteType.assignableTo) Tryz.func171 (by kernel_rfl) (by kernel_rfl) (by kernel_rfl) (by kernel_rfl)
  have h11 := @run_callFunc_extern Tryz.prog 108 _ (ReflectliteValue.method (ReflectliteValue.valueError "reflectlite.Value.Elem" 0) ReflectliteValue.elem) Tryz.func108 (by kernel_rfl) (by kernel_rfl) (by kernel_rfl) (by kernel_rfl)
  have h12 := @run_callFunc_extern Tryz.prog 109 _ ReflectliteValue.set Tryz.func109 (by kernel_rfl) (by kernel_rfl) (by kernel_rfl) (by kernel_rfl)
  have tF := f_typeOf
  have mA := er_methodAssignableTo
  have aF := fl_assign
  have vF := fl_valueOf n a
  have f6 := er_valueOfPF
  have f7 := er_typePF
  have mK := er_methodKind
  have mE := er_methodElem
  have mI := er_methodImplements
  have k27 := er_kindPF
  have k25 := er_kindF
  have e27 := er_elemPF
  have i25 := er_implementsF
  have hlt := hg.lt
  unfold erHandle at hg
  have hNl : N < w.heap.size := (Array.getElem?_eq_some_iff.1 ht).1
  have n8 := er_isNilPF ⟨w.heap.size, 0, none⟩ ⟨N, 0, none⟩ ((w.alloc (.cells #[.pointer (some ⟨N, 0, none⟩)] 73)).alloc (.cells #[.pointer (some ⟨8, 73, none⟩), .pointer (some ⟨w.heap.size, 0, none⟩), .int .u64 150] 126)) (by simp)
  have hg2 : ((w.alloc (.cells #[.pointer (some ⟨N, 0, none⟩)] 73)).alloc (.cells #[.pointer (some ⟨8, 73, none⟩), .pointer (some ⟨w.heap.size, 0, none⟩), .int .u64 150] 126)).cell? ⟨1, 0, none⟩ = some (.iface 161 (.agg #[.pointer (some ⟨8, 33, none⟩)])) := by
    rw [World.cell?_alloc_lt _ _ ⟨1, 0, none⟩ (by first | (simp; done) | (simp; omega)), World.cell?_alloc_lt _ _ ⟨1, 0, none⟩ hlt]; exact hg
  have el := fl_elemV ⟨w.heap.size, 0, none⟩ ⟨N, 0, none⟩ (((w.alloc (.cells #[.pointer (some ⟨N, 0, none⟩)] 73)).alloc (.cells #[.pointer (some ⟨8, 73, none⟩), .pointer (some ⟨w.heap.size, 0, none⟩), .int .u64 150] 126)).alloc (.cells #[.pointer (some ⟨8, 73, none⟩), .pointer (some ⟨w.heap.size, 0, none⟩), .int .u64 150] 126)) (by rw [World.cell?_alloc_lt _ _ ⟨w.heap.size, 0, none⟩ (by simp; omega)]; simp)
  obtain ⟨W3, hW3⟩ : ∃ W3, W3 = (((w.alloc (.cells #[.pointer (some ⟨N, 0, none⟩)] 73)).alloc (.cells #[.pointer (some ⟨8, 73, none⟩), .pointer (some ⟨w.heap.size, 0, none⟩), .int .u64 150] 126)).alloc (.cells #[.pointer (some ⟨8, 73, none⟩), .pointer (some ⟨w.heap.size, 0, none⟩), .int .u64 150] 126)) := ⟨_, rfl⟩
  have hb3 : Below w.heap.size w W3 := by rw [hW3]; exact (((Below.refl _ _).alloc (Nat.le_refl _) _).alloc (by simp) _).alloc (by simp; omega) _
  have hz3 : W3.heap.size = w.heap.size + 1 + 1 + 1 := by rw [hW3]; simp
  have st := fl_set N W3.heap.size x y n a (W3.alloc (.cells #[.int .i64 n, .int .i64 a] 62)) (Ut.alloc_at _ _) (by rw [Below.heap_alloc _ _ _ (by rw [hz3]; omega), hb3.block N hNl]; exact ht)
  have hfin : Hit w N n a (((W3.alloc (.cells #[.int .i64 n, .int .i64 a] 62)).setCell ⟨N, 0, none⟩ (.int .i64 n)).setCell ⟨N, 1, none⟩ (.int .i64 a)) := by
    have hb4 : Below w.heap.size w (W3.alloc (.cells #[.int .i64 n, .int .i64 a] 62)) := hb3.alloc hb3.size _
    have h4 : (W3.alloc (.cells #[.int .i64 n, .int .i64 a] 62)).heap[N]? = some (.cells #[.int .i64 x, .int .i64 y] 62 (0, 0)) := (hb4.block N hNl).trans ht
    refine ⟨by simp [World.setCell, Array.getElem?_modify, h4], ⟨hb4.os, hb4.tape, hb4.output, by simpa [World.setCell] using hb4.size, fun k hk hne => ?_⟩⟩
    rw [Below.heap_setCell _ _ _ _ (by simpa using fun e => hne (by rw [e])), Below.heap_setCell _ _ _ _ (by simpa using fun e => hne (by rw [e]))]
    exact hb4.block k hk
  rw [hz3] at st
  rw [hW3] at st hfin
  have HF := Lib.hid hfin
  clear hfin hb3 hz3 hW3
  obtain ⟨v, hv⟩ : ∃ v, v = fv a n := ⟨_, rfl⟩
  unfold fv at hv
  go_enter Tryz.func38, Tryz.ntmps38
  unfold fv
  clear hv
  go_wp2
  refine wp_loop_rounds 1 ?_
  rw [rounds_succ]
  go_wp2
  go_ret
  exact ⟨rfl, HF.out⟩

end Fl
end Go.Proofs.YtocoonkachbjaaaGreatDoor
