/- Several texts in one: what each proves its own first comment says. -/
import Derived.Test.YtocoonkachbjaaaDoorM19
import Derived.Test.YtocoonkachbjaaaDoorM20
import Derived.Test.YtocoonkachbjaaaDoorM17
import Derived.Test.YtocoonkachbjaaaDoorM11
import Derived.Test.YtocoonkachbjaaaDoorProg
import Derived.Test.YtocoonkachbjaaaDoorM1
import Derived.WalkLawsBesides
import Derived.Outline
import Derived.Test.YtocoonkachbjaaaDoorM4
import Derived.Test.YtocoonkachbjaaaDoorM14

/- ViewKids' plain law: of those below one, the ones a step below are its children. No program in sight. -/
namespace Go.Proofs.YtocoonkachbjaaaDoor
open Go.RowKit
set_option linter.unusedVariables false
namespace Vw
theorem pre_level (kids : Nat → List Nat) (f far : Nat) : ∀ l : List Nat, ((Vt.pre kids (f + 1) far l).filter fun x => decide (x.1 = far)).map Prod.snd = l
  | [] => rfl
  | i :: r => by
    have h1 : (Vt.pre kids f (far + 1) (kids i)).filter (fun x => decide (x.1 = far)) = [] := by
      rw [List.filter_eq_nil_iff]
      intro x hx
      have := Vt.pre_far kids f (far + 1) (kids i) x hx
      simp; omega
    rw [Vt.pre_cons, List.filter_cons_of_pos (by simp), List.filter_append, h1, List.nil_append, List.map_cons, pre_level kids f far r]
theorem pre_one (kids : Nat → List Nat) (f p : Nat) : ((Vt.pre kids (f + 2) 0 [p]).filter fun x => decide (x.1 = 1)).map Prod.snd = kids p := by
  rw [Vt.pre_cons, Vt.pre_nil, List.append_nil, List.filter_cons_of_neg (by simp)]
  exact pre_level kids f 1 (kids p)
theorem preL_one {ss : List Sess} {b : Int} (hb : b ≠ 0) : ((preL ss b).filter fun x => decide (x.1 = 1)).map Prod.snd = kidsOf ss b := by
  rw [preL_pre]
  unfold kidsOf
  rw [if_neg hb]
  cases hf : firstL ss b with
  | none => rfl
  | some p =>
    have hp := firstL_lt hf
    obtain ⟨f, hf2⟩ : ∃ f, ss.length + 1 = f + 2 := ⟨ss.length - 1, by omega⟩
    show ((Vt.pre (kidsF ss) (ss.length + 1) 0 [p]).filter _).map _ = _
    rw [hf2, pre_one]
    rfl
theorem firstL_birth {ss : List Sess} {b : Int} {p : Nat} (h : firstL ss b = some p) : (ss[p]'(firstL_lt h)).birth = b := by
  unfold firstL at h
  obtain ⟨hlt, h1, -⟩ := List.findIdx?_eq_some_iff_getElem.1 h
  simpa using h1
theorem preL_zero {ss : List Sess} {b : Int} (x : Nat × Nat) (hx : x ∈ preL ss b) (h0 : x.1 = 0) : firstL ss b = some x.2 := by
  rw [preL_pre] at hx
  cases hf : firstL ss b with
  | none => rw [hf] at hx; cases hx
  | some p =>
    rw [hf] at hx
    have hx2 : x ∈ Vt.pre (kidsF ss) (ss.length + 1) 0 [p] := hx
    rw [Vt.pre_cons, Vt.pre_nil, List.append_nil] at hx2
    rcases List.mem_cons.1 hx2 with rfl | h
    · rfl
    · have := Vt.pre_far _ _ _ _ x h
      omega
end Vw
end Go.Proofs.YtocoonkachbjaaaDoor

/- ViewSame's plain law: the tree is what stands below each login, one behind the other; and the list of lines in its box. -/
namespace Go.Proofs.YtocoonkachbjaaaDoor
open Go.RowKit Go.Proofs.NmPlain Go.Proofs.YtocoonkachbjaaaDoor.Sc
set_option linter.unusedVariables false
namespace Vw
theorem own_first {ss : List Sess} (h : Own ss ss.length) {r : Nat} (hr : r < ss.length) : firstL ss ss[r].birth = some r := by
  unfold firstL
  rw [List.findIdx?_eq_some_iff_getElem]
  refine ⟨hr, by simp, fun j hj => ?_⟩
  have h1 := h r j hr (Nat.lt_trans hj hr) hr hj
  intro e
  exact h1 (by simpa using (of_decide_eq_true e).symm)
/-- The birth at a place. -/
def birthAt (ss : List Sess) (r : Nat) : Int := match ss[r]? with
  | some s => s.birth
  | none => 0
theorem birthAt_at {ss : List Sess} {r : Nat} (h : r < ss.length) : birthAt ss r = ss[r].birth := by unfold birthAt; rw [List.getElem?_eq_getElem h]
/-- What stands below these, one behind the other. -/
def wantL (ss : List Sess) (rs : List Nat) : List (Nat × Nat) := rs.flatMap fun r => preL ss (birthAt ss r)
theorem wantL_snoc (ss : List Sess) (rs : List Nat) (r : Nat) : wantL ss (rs ++ [r]) = wantL ss rs ++ preL ss (birthAt ss r) := by simp [wantL, List.flatMap_append]
theorem pre_each (kids : Nat → List Nat) (f far : Nat) : ∀ l : List Nat, Vt.pre kids f far l = l.flatMap fun r => Vt.pre kids f far [r]
  | [] => by rw [Vt.pre_nil]; rfl
  | r :: l => by
    have e : r :: l = [r] ++ l := rfl
    rw [e, Vt.pre_append, pre_each kids f far l]
    simp
theorem flatMap_same {α β : Type} {f g : α → List β} : ∀ {l : List α}, (∀ a ∈ l, f a = g a) → l.flatMap f = l.flatMap g
  | [], _ => rfl
  | a :: l, h => by rw [List.flatMap_cons, List.flatMap_cons, h a List.mem_cons_self, flatMap_same (fun b hb => h b (List.mem_cons_of_mem _ hb))]
theorem wantL_all {ss : List Sess} (h : Own ss ss.length) : wantL ss (kidsOf ss 0) = ordV ss := by
  have e : kidsOf ss 0 = Vt.roots (bu ss) ss.length := by unfold kidsOf; rw [if_pos rfl]
  rw [e]
  unfold wantL ordV
  rw [pre_each]
  refine flatMap_same (fun r hr => ?_)
  have hlt := Vt.roots_lt _ _ r hr
  rw [birthAt_at hlt, preL_pre, own_first h hlt]
theorem wantL_len {ss : List Sess} (h : Own ss ss.length) {rs : List Nat} (hp : rs <+: kidsOf ss 0) : (wantL ss rs).length ≤ ss.length := by
  obtain ⟨t, ht⟩ := hp
  have h1 := congrArg List.length (wantL_all h)
  rw [← ht, ordV_len] at h1
  unfold wantL at h1 ⊢
  rw [List.flatMap_append, List.length_append] at h1
  omega
/-- The lines, as far as they have come, in their box. -/
structure SU (W8 : World) (b8 : Nat) (d : Value) (xs : List ByteArray) (Fp : Nat → Prop) (A : World) : Prop where
  box : Boxed A b8 43 d
  row : A.ownsRow (b8 + 1) 9 1 d xs.length (xs.map Value.string)
  fp : ∀ b, Fp b ↔ b = b8 ∨ d.ownBlock = some b
  bel : Below b8 W8 A
theorem SU.far {W8 A : World} {b8 : Nat} {d : Value} {xs : List ByteArray} {Fp : Nat → Prop} (h : SU W8 b8 d xs Fp A) {b : Nat} (hb : Fp b) : b8 ≤ b := by
  rcases (h.fp b).1 hb with h1 | h1
  · omega
  · have := (h.row.lt b h1).1; omega
theorem SU.turn {W8 A A' : World} {b8 : Nat} {d : Value} {xs : List ByteArray} {Fp : Nat → Prop} {row : Option Nat} (h : SU W8 b8 d xs Fp A) (hg : A.grownBy A' row) (hrow : ∀ r, row = some r → b8 + 1 ≤ r ∧ ¬ Fp r) : SU W8 b8 d xs Fp A' := by
  have hlt := h.box.lt
  exact ⟨h.box.kept hg (fun e => by have := (hrow _ e.symm).1; omega), own_keep h.row (fun b e => hg.block b (h.row.lt b e).2 (fun e2 => (hrow b e2.symm).2 ((h.fp b).2 (.inr e)))), h.fp, h.bel.grown hg (by omega) (fun k e => by have := (hrow k e).1; omega)⟩
theorem SU.below {W8 A A' : World} {b8 : Nat} {d : Value} {xs : List ByteArray} {Fp : Nat → Prop} (h : SU W8 b8 d xs Fp A) (hb : Below A.heap.size A A') : SU W8 b8 d xs Fp A' :=
  h.turn (row := none) ⟨hb.os, hb.tape, hb.output, hb.size, fun k hk _ => hb.block k hk⟩ (fun r e => by cases e)
theorem SU.push {W8 A w1 : World} {b8 : Nat} {d v' : Value} {xs : List ByteArray} {x : ByteArray} {Fp : Nat → Prop} {o1 : Obj} (h : SU W8 b8 d xs Fp A)
    (hown' : w1.ownsRow (b8 + 1) 9 1 v' (xs.length + 1) (xs.map Value.string ++ [.string x])) (hgrow : (A.alloc o1).grownBy w1 d.ownBlock) (hat : v'.ownBlock = d.ownBlock ∨ v'.ownBlock = some (A.alloc o1).heap.size) :
    Boxed w1 b8 43 d ∧ ∃ Fp', SU W8 b8 v' (xs ++ [x]) Fp' (w1.setCell ⟨b8, 0, none⟩ v') ∧ Only Fp A (w1.setCell ⟨b8, 0, none⟩ v') ∧ ∀ b, Fp' b → Fp b ∨ A.heap.size ≤ b := by
  obtain ⟨p1, p2, p3, p4, p5⟩ := push_box h.box (Nat.lt_succ_self _) h.row hown' hgrow hat
  have hlt := h.box.lt
  refine ⟨p1, fun b => b = b8 ∨ v'.ownBlock = some b, ⟨p2, ?_, fun b => Iff.rfl, h.bel.trans (p4.below (by omega) (fun i hi hf => by have := h.far ((h.fp i).2 hf); omega))⟩, p4.mono (fun i _ hi => (h.fp i).2 hi), ?_⟩
  · rw [List.length_append, List.map_append]; exact p3
  · rintro b (rfl | h1)
    · exact .inl ((h.fp _).2 (.inl rfl))
    · exact (p5 b h1).imp (fun h2 => (h.fp b).2 (.inr h2)) id
theorem padS_step (m : Nat) (L : ByteArray) : (⟨#[32, 32]⟩ : ByteArray) ++ (padS m ++ L) = padS (m + 1) ++ L := by
  have h1 : ((⟨#[32, 32]⟩ : ByteArray) ++ (padS m ++ L)).data.toList = (padS (m + 1) ++ L).data.toList := by
    rw [ByteArray.data_append, Array.toList_append, ByteArray.data_append, Array.toList_append, ByteArray.data_append, Array.toList_append]
    show [32, 32] ++ (Lib.repeatL [32, 32] m ++ _) = ([32, 32] ++ Lib.repeatL [32, 32] m) ++ _
    rw [List.append_assoc]
  exact ByteArray.ext (Array.toList_inj.1 h1)
theorem padS_zero (L : ByteArray) : padS 0 ++ L = L := by
  have h1 : (padS 0 ++ L).data.toList = L.data.toList := by
    rw [ByteArray.data_append, Array.toList_append]; rfl
  exact ByteArray.ext (Array.toList_inj.1 h1)
end Vw
end Go.Proofs.YtocoonkachbjaaaDoor

/- What the iterators hand out and what the document tells are the same lists. No program in sight. -/
namespace Go.Proofs.YtocoonkachbjaaaDoor
open Go.RowKit
set_option linter.unusedVariables false
namespace Vw
theorem roots_filter (l : List (Int × Int)) : ∀ n, Vt.roots l n = (List.range n).filter fun j => (Vt.par l j).isNone
  | 0 => rfl
  | n + 1 => by
    rw [List.range_succ, List.filter_append, ← roots_filter l n]
    rw [show Vt.roots l (n + 1) = (match Vt.par l n with | none => Vt.roots l n ++ [n] | some _ => Vt.roots l n) from rfl]
    cases h : Vt.par l n with
    | none => simp [h]
    | some p => simp [h]
theorem kidsN_filter (l : List (Int × Int)) (p : Nat) : ∀ n, Vt.kidsN l n p = (List.range n).filter fun j => decide (Vt.par l j = some p)
  | 0 => rfl
  | n + 1 => by
    rw [List.range_succ, List.filter_append, ← kidsN_filter l p n]
    cases h : Vt.par l n with
    | none => rw [Vt.kidsN_none h]; simp [h]
    | some q =>
      rw [Vt.kidsN_some h]
      unfold Vt.more
      by_cases e : p = q
      · subst e; simp [h]
      · have e2 : ¬ q = p := fun x => e x.symm
        simp [h, e, e2]
theorem parI_neg {l : List (Int × Int)} {j : Nat} : decide (parI l j < 0) = (Vt.par l j).isNone := by
  unfold parI
  cases h : Vt.par l j with
  | none => simp
  | some p => simp
theorem parI_eq {l : List (Int × Int)} {j p : Nat} : decide (parI l j = (p : Int)) = decide (Vt.par l j = some p) := by
  unfold parI
  cases h : Vt.par l j with
  | none => simp
  | some q =>
    by_cases e : q = p
    · subst e; simp
    · have e2 : ¬ (q : Int) = (p : Int) := fun h => e (by omega)
      simp [e, e2]
theorem kids_same (ss : List Sess) (b : Int) : kidsTo ss b ss.length = kidsOf ss b := by
  unfold kidsTo kidsOf
  by_cases hb : b = 0
  · rw [if_pos hb, roots_filter]
    refine List.filter_congr fun j _ => ?_
    unfold ksel
    rw [← parI_neg]
    simp [hb]
  · rw [if_neg hb]
    cases hf : firstL ss b with
    | none =>
      have e1 : firstI ss b = -1 := by unfold firstI; rw [hf]
      have e2 : ∀ j, ksel ss b j = false := fun j => by unfold ksel; rw [e1]; simp [hb]
      rw [List.filter_eq_nil_iff]
      intro j _
      rw [e2]; simp
    | some p =>
      have e1 : firstI ss b = (p : Int) := by unfold firstI; rw [hf]
      show _ = Vt.kidsN (bu ss) ss.length p
      rw [kidsN_filter]
      refine List.filter_congr fun j _ => ?_
      unfold ksel
      rw [← parI_eq, e1]
      simp [hb]

/-- The sessions at these places. -/
def pickS (ss : List Sess) (l : List Nat) : List Sess := l.filterMap fun i => ss[i]?
theorem pick_cells {ss : List Sess} : ∀ {l : List Nat}, (∀ i ∈ l, i < ss.length) → allV (pickS ss l) = csL ss l ∧ (pickS ss l).length = l.length
  | [], _ => ⟨rfl, rfl⟩
  | i :: r, h => by
    have h1 := h i List.mem_cons_self
    obtain ⟨e1, e2⟩ := pick_cells (l := r) (fun j hj => h j (List.mem_cons_of_mem _ hj))
    have e3 : pickS ss (i :: r) = ss[i] :: pickS ss r := by unfold pickS; rw [List.filterMap_cons, List.getElem?_eq_getElem h1]
    rw [e3]
    refine ⟨?_, by rw [List.length_cons, List.length_cons, e2]⟩
    unfold allV csL at *
    rw [List.flatMap_cons, List.flatMap_cons, e1, csAt_at h1]
theorem own_pick {w : World} {base cap : Nat} {q : Option Addr} {n : Nat} {ss : List Sess} {l : List Nat} (hl : ∀ i ∈ l, i < ss.length) (hn : n = l.length) (h : w.ownsRow base 30 12 (.slice q n cap) n (csL ss l)) : SessArg w (.slice q n cap) (pickS ss l) := by
  obtain ⟨e1, e2⟩ := pick_cells hl
  subst hn
  rw [← e2, ← e1] at h
  rw [← e2]
  exact sess_of_own h
theorem pick_take {ss : List Sess} {l : List Nat} (hl : ∀ i ∈ l, i < ss.length) (m : Nat) : (pickS ss l).take m = pickS ss (l.take m) := by
  induction l generalizing m with
  | nil => simp [pickS]
  | cons i r ih =>
    have h1 := hl i List.mem_cons_self
    have e3 : ∀ r, pickS ss (i :: r) = ss[i] :: pickS ss r := fun r => by unfold pickS; rw [List.filterMap_cons, List.getElem?_eq_getElem h1]
    cases m with
    | zero => simp [pickS]
    | succ m => rw [e3, List.take_succ_cons, List.take_succ_cons, e3, ih (fun j hj => hl j (List.mem_cons_of_mem _ hj))]
theorem SessArg.take {w : World} {q : Option Addr} {n c c' m : Nat} {ss : List Sess} (h : SessArg w (.slice q n c) ss) (hm : m ≤ ss.length) : SessArg w (.slice q m c') (ss.take m) := by
  have e : ss = ss.take m ++ ss.drop m := (List.take_append_drop m ss).symm
  rw [e] at h
  exact h.pre (by rw [List.length_take]; omega)
theorem outV_sesL (ss : List Sess) (l : List (Nat × Nat)) : outV ss l = csL ss (l.map Prod.snd) := by
  unfold outV csL; rw [List.flatMap_map]
theorem farV_ints {w : World} {base n : Nat} {v : Value} {l : List (Nat × Nat)} (hn : n = l.length) (h : w.ownsRow base 3 1 v n (farV l)) : In.IntArg w v (ints (l.map Prod.fst)) := by
  subst hn
  have e : farV l = (ints (l.map Prod.fst)).map (fun x => Value.int .i64 x) := by simp [farV, ints, nv]
  rw [e] at h
  exact In.own_ints (fun _ => rfl) (by simp [ints]) h
theorem farsL_farV (l : List (Nat × Nat)) : farsL l = farV l := rfl
theorem blk_len (p : Nat) : ∀ (o : List (Nat × Nat)), (Vt.blk p o).length ≤ o.length
  | [] => Nat.le_refl _
  | x :: r => by
    unfold Vt.blk
    split
    · have h := (List.takeWhile_sublist (p := fun y : Nat × Nat => decide (x.1 < y.1)) (l := r)).length_le
      simp only [List.length_cons, List.length_map]
      omega
    · have := blk_len p r
      simp only [List.length_cons]; omega
theorem preL_len (ss : List Sess) (b : Int) : (preL ss b).length ≤ ss.length := by
  unfold preL
  split
  · exact Nat.zero_le _
  · have h := blk_len ‹Nat› (Vt.ordL (bu ss) ss.length)
    rwa [Vt.ord_len] at h
theorem preL_lt (ss : List Sess) (b : Int) : ∀ x ∈ preL ss b, x.2 < ss.length := by
  intro x hx
  rw [preL_pre] at hx
  cases hf : firstL ss b with
  | none => rw [hf] at hx; cases hx
  | some p =>
    rw [hf] at hx
    exact pre_mem_lt (ss.length + 1) 0 [p] (fun i hi => by rw [List.mem_singleton.1 hi]; exact firstL_lt hf) x hx
end Vw
end Go.Proofs.YtocoonkachbjaaaDoor

/- lineagekit.KeptFullSessions, KeptSessions: a lent list that lies as it was lent. -/
namespace Go.Proofs.YtocoonkachbjaaaDoor
open Go.RowKit
set_option linter.unusedVariables false
namespace Vw
theorem fullS_at {ss : List Sess} {k : Nat} (h : k < (ss ++ mks 16).length) : (ss ++ mks 16)[k] = if h2 : k < ss.length then ss[k] else mkS (k - ss.length) := by
  rw [List.getElem_append]
  split
  · rfl
  · simp [mks]

end Vw
end Go.Proofs.YtocoonkachbjaaaDoor

/- lineagekit.Pick, of any two numbers. -/
namespace Go.Proofs.YtocoonkachbjaaaDoor
open Go.RowKit
set_option linter.unusedVariables false
namespace Pk

theorem tmod_emod (k n : Int) (hn : 0 < n) : (k.tmod n < 0 → k.tmod n + n = k % n) ∧ (0 ≤ k.tmod n → k.tmod n = k % n) ∧ -n < k.tmod n ∧ k.tmod n < n := by
  have h1 := Int.tmod_add_tdiv_mul k n
  have h2 : -n < k.tmod n := Int.lt_tmod_of_pos k hn
  have h3 := Int.tmod_lt_of_pos k hn
  have e : (k.tmod n + k.tdiv n * n) % n = k.tmod n % n := by rw [Int.add_mul_emod_self_right]
  rw [h1] at e
  refine ⟨fun h => ?_, fun h => ?_, h2, h3⟩
  · rw [e, ← Int.add_emod_right]
    exact (Int.emod_eq_of_lt (by omega) (by omega)).symm
  · rw [e]; exact (Int.emod_eq_of_lt h h3).symm

theorem pick_any (k n : Int) (hn : 0 < n) (hb : n ≤ 4611686018427387904) (w : World) : Calls Tryd.prog 8 #[.int .i64 k, .int .i64 n] w fun e w' => e = .returned (.int .i64 (k % n)) ∧ w = w' := by
  obtain ⟨h1, h2, h3, h4⟩ := tmod_emod k n hn
  have n0 : (n == 0) = false := by rw [beq_eq_false_iff_ne]; omega
  have n1 : (n == -1) = false := by rw [beq_eq_false_iff_ne]; omega
  have n2 : 1 ≤ n := by omega
  have H1 := Lib.hid h1; have H2 := Lib.hid h2
  clear h1 h2
  by_cases h : k.tmod n < 0
  · go_enter Tryd.func8, Tryd.ntmps8
    go_wp2
    go_ret
    exact ⟨Ut.ret_int (H1.out h), rfl⟩
  · have h' : 0 ≤ k.tmod n := by omega
    go_enter Tryd.func8, Tryd.ntmps8
    go_wp2
    go_ret
    exact ⟨Ut.ret_int (H2.out h'), rfl⟩

/-- Of no room nothing is picked. -/
theorem pick_none (k n : Int) (hn : n < 1) (w : World) : Calls Tryd.prog 8 #[.int .i64 k, .int .i64 n] w fun e w' => e = .returned (.int .i64 0) ∧ w = w' := by
  go_enter Tryd.func8, Tryd.ntmps8
  go_wp2
  go_ret
  exact ⟨rfl, rfl⟩

end Pk
end Go.Proofs.YtocoonkachbjaaaDoor

/- Arguments that are lists of structs whose cells are numbers, texts and bools, structs within structs among them. Of any program. -/
namespace Go.Proofs.Ar
open Go.RowKit Go.ChangeShapes Go.WideShapes Go.Deep
set_option linter.unusedVariables false

/-- The cells' types, one behind the other. -/
def leavesFs (P : Program) (g : TypeId → Option (List TypeId)) : List Field → Nat → Option (List TypeId)
  | [], _ => some []
  | fd :: r, o => if fd.offset = o then (g fd.type).bind fun m => if P.cellsOf fd.type = m.length then (leavesFs P g r (o + m.length)).map fun z => m ++ z else none else none
def leaves (P : Program) : Nat → TypeId → Option (List TypeId)
  | 0, _ => none
  | f + 1, t => match P.underlying t with
    | some (.struct fs) => (leavesFs P (leaves P f) fs.toList 0).bind fun l => if P.cellsOf t = l.length then some l else none
    | some .string => some [t]
    | some .bool => some [t]
    | some (.int _) => some [t]
    | _ => none

section
variable {H : Type} {enc : TypeId × Value → H} {P : Program} {w : World} {base : Nat} {spare : Nat → Bool} {held : Bool}

/-- A cell that reads as a value of a type. -/
def LeafIs (enc : TypeId × Value → H) (P : Program) (w : World) (base : Nat) (spare : Nat → Bool) (held : Bool) (t : TypeId) (v : Value) : Prop := ∃ n y, DataW.trod enc P w base spare held n t [v] = some y
theorem LeafIs.int {t : TypeId} {v : Value} {k : IntKind} (ht : P.underlying t = some (.int k)) (h : LeafIs enc P w base spare held t v) : ∃ n, v = .int k n ∧ (Lit.int k n).wf = true := by
  obtain ⟨n, y, h⟩ := h
  obtain ⟨q, e, _, hw⟩ := DataW.trod_int ht h
  exact ⟨q, by simpa using e, hw⟩
theorem LeafIs.string {t : TypeId} {v : Value} (ht : P.underlying t = some .string) (h : LeafIs enc P w base spare held t v) : ∃ s : ByteArray, v = .string s ∧ s.size ≤ maxLen := by
  obtain ⟨n, y, h⟩ := h
  obtain ⟨q, e, _, hw⟩ := DataW.trod_string ht h
  exact ⟨q, by simpa using e, hw⟩
theorem LeafIs.bool {t : TypeId} {v : Value} (ht : P.underlying t = some .bool) (h : LeafIs enc P w base spare held t v) : ∃ b : Bool, v = .bool b := by
  obtain ⟨n, y, h⟩ := h
  obtain ⟨q, e, _⟩ := DataW.trod_bool ht h
  exact ⟨q, by simpa using e⟩

theorem single_at {cs : List Value} {v : Value} {n : Nat} {t : TypeId} {x : DataW H × List MemPlace} (h : DataW.trod enc P w base spare held n t cs = some x) (e : cs = [v]) : cs.length = [t].length ∧ ∀ (i : Nat) (tl : TypeId) (u : Value), [t][i]? = some tl → cs[i]? = some u → LeafIs enc P w base spare held tl u := by
  subst e
  refine ⟨rfl, fun i tl u h1 h2 => ?_⟩
  cases i with
  | zero => simp at h1 h2; subst h1 h2; exact ⟨n, x, h⟩
  | succ i => simp at h1

theorem leaves_fs (f : Nat) (ih : ∀ (t : TypeId) (ls : List TypeId) (n : Nat) (cs : List Value) (x : DataW H × List MemPlace), leaves P f t = some ls → DataW.trod enc P w base spare held n t cs = some x → cs.length = ls.length ∧ ∀ (i : Nat) (tl : TypeId) (u : Value), ls[i]? = some tl → cs[i]? = some u → LeafIs enc P w base spare held tl u)
    (n : Nat) (cs : List Value) : ∀ (fs : List Field) (o : Nat) (m : List TypeId), leavesFs P (leaves P f) fs o = some m → (∀ fd ∈ fs, ∃ x, DataW.trod enc P w base spare held n fd.type ((cs.drop fd.offset).take (P.cellsOf fd.type)) = some x) →
      ∀ (i : Nat) (tl : TypeId) (u : Value), m[i]? = some tl → cs[o + i]? = some u → LeafIs enc P w base spare held tl u
  | [], o, m, h, hf, i, tl, u, h1, h2 => by
    simp [leavesFs] at h; subst h; simp at h1
  | fd :: r, o, m, h, hf, i, tl, u, h1, h2 => by
    unfold leavesFs at h
    by_cases ho : fd.offset = o
    · rw [if_pos ho] at h
      obtain ⟨m1, hm1, h⟩ := Option.bind_eq_some_iff.1 h
      by_cases hc : P.cellsOf fd.type = m1.length
      · rw [if_pos hc] at h
        obtain ⟨z, hz, rfl⟩ := Option.map_eq_some_iff.1 h
        obtain ⟨x, hx⟩ := hf fd List.mem_cons_self
        obtain ⟨hl, hat⟩ := ih _ _ _ _ _ hm1 hx
        by_cases hi : i < m1.length
        · rw [List.getElem?_append_left hi] at h1
          refine hat i tl u h1 ?_
          rw [List.getElem?_take, if_pos (by omega), List.getElem?_drop, ho]
          exact h2
        · rw [List.getElem?_append_right (by omega)] at h1
          refine leaves_fs f ih n cs r (o + m1.length) z hz (fun g hg => hf g (List.mem_cons_of_mem _ hg)) (i - m1.length) tl u h1 ?_
          rw [show o + m1.length + (i - m1.length) = o + i by omega]; exact h2
      · rw [if_neg hc] at h; cases h
    · rw [if_neg ho] at h; cases h

theorem leaves_at : ∀ (f : Nat) (t : TypeId) (ls : List TypeId) (n : Nat) (cs : List Value) (x : DataW H × List MemPlace), leaves P f t = some ls → DataW.trod enc P w base spare held n t cs = some x → cs.length = ls.length ∧ ∀ (i : Nat) (tl : TypeId) (u : Value), ls[i]? = some tl → cs[i]? = some u → LeafIs enc P w base spare held tl u
  | 0, t, ls, n, cs, x, h, hx => by simp [leaves] at h
  | f + 1, t, ls, n, cs, x, h, hx => by
    unfold leaves at h
    split at h
    · rename_i fs hu
      obtain ⟨l, hl, h⟩ := Option.bind_eq_some_iff.1 h
      by_cases hc : P.cellsOf t = l.length
      · rw [if_pos hc] at h
        cases h
        obtain ⟨xs, k, _, _, hlen, hxs, hat⟩ := DataW.trod_struct hu hx
        refine ⟨hlen.trans hc, fun i tl u h1 h2 => leaves_fs f (leaves_at f) k cs fs.toList 0 _ hl (fun fd hfd => ?_) i tl u h1 (by simpa using h2)⟩
        obtain ⟨j, hj, e⟩ := List.getElem_of_mem hfd
        have hj' : j < fs.size := by simpa using hj
        have hget : fs[j]? = some fd := by rw [← e]; simp [hj']
        have hx2 : j < xs.length := by rw [hxs]; exact hj'
        exact ⟨xs[j], (hat j fd hget).trans (List.getElem?_eq_getElem hx2)⟩
      · rw [if_neg hc] at h; cases h
    · rename_i hu
      cases h
      obtain ⟨s, e, _⟩ := DataW.trod_string hu hx
      exact single_at hx e
    · rename_i hu
      cases h
      obtain ⟨s, e, _⟩ := DataW.trod_bool hu hx
      exact single_at hx e
    · rename_i k hu
      cases h
      obtain ⟨s, e, _⟩ := DataW.trod_int hu hx
      exact single_at hx e
    · cases h

/-- A value is a list of rows of c cells each, wherever it lies. -/
def RowArg (w : World) (v : Value) (c : Nat) (rs : List (List Value)) : Prop :=
  ∃ p cap, v = .slice p rs.length cap ∧ ∀ j (hj : j < rs.length), rs[j].length = c ∧ ∃ g o, p = some ⟨g, o, none⟩ ∧ g < w.heap.size ∧ ∀ (i : Nat) (u : Value), rs[j][i]? = some u → w.cell? ⟨g, o + (j * c + i), none⟩ = some u

theorem RowArg.below {w w' : World} {v : Value} {c : Nat} {rs : List (List Value)} (h : RowArg w v c rs) (hb : Below w.heap.size w w') : RowArg w' v c rs := by
  obtain ⟨p, cap, rfl, h⟩ := h
  refine ⟨p, cap, rfl, fun j hj => ?_⟩
  obtain ⟨hc, g, o, h1, h2, h3⟩ := h j hj
  exact ⟨hc, g, o, h1, Nat.lt_of_lt_of_le h2 hb.size, fun i u hi => (hb.cell (p := ⟨g, o + (j * c + i), none⟩) h2).trans (h3 i u hi)⟩

theorem arg_rows {t e : TypeId} {r : Reach} {b0 : Nat} {v : Value} {d : DataW H} {p : List MemPlace} (f : Nat) (ls : List TypeId) (hls : leaves P f e = some ls) (h0 : 0 < ls.length) (ht : P.underlying t = some (.slice e)) (ce : P.cellsOf e = ls.length)
    (hv : Value.okWide P w r b0 t v) (h : DataW.Trod enc P w 0 (fun _ => true) true t v d p) :
    ∃ rs : List (List Value), RowArg w v ls.length rs ∧ (∀ s ∈ rs, s.length = ls.length ∧ ∀ (i : Nat) (tl : TypeId) (u : Value), ls[i]? = some tl → s[i]? = some u → LeafIs enc P w 0 (fun _ => true) true tl u) ∧ rs.length ≤ maxLen := by
  obtain ⟨a0, len, cap, rfl⟩ := okWide_slice ht hv
  obtain ⟨fuel, hf⟩ := h
  rcases open_slice ht hf with ⟨hcs, hx⟩ | ⟨a, len', cap', m, n, D, Pl, hcs, _, hl, hm, hmm, hx, hcell⟩
  · simp [Value.cells] at hcs
    obtain ⟨rfl, rfl, rfl⟩ := hcs
    exact ⟨[], ⟨none, 0, rfl, fun j hj => absurd hj (Nat.not_lt_zero _)⟩, by simp, by simp⟩
  · simp [Value.cells] at hcs
    obtain ⟨rfl, rfl, rfl⟩ := hcs
    simp only [if_true] at hmm
    subst hmm
    have each : ∀ i, i < m → ∃ q : List Value, q.length = ls.length ∧ (∀ k, k < ls.length → w.cell? (a.add (i * ls.length + k)) = q[k]?) ∧ ∀ (k : Nat) (tl : TypeId) (u : Value), ls[k]? = some tl → q[k]? = some u → LeafIs enc P w 0 (fun _ => true) true tl u := fun i hi => by
      obtain ⟨cs', h1, h2⟩ := hcell i hi
      rw [ce] at h1
      obtain ⟨_, hlen, hc⟩ := World.cells?_some h1
      obtain ⟨hl2, hat⟩ := leaves_at f e ls _ _ _ hls h2
      exact ⟨cs', hl2, fun k hk => by rw [← add_add]; exact hc k hk, hat⟩
    obtain ⟨S, hS⟩ := choose_lt each
    refine ⟨(List.range len).map S, ⟨some a, m, by simp, fun j hj => ?_⟩, fun s hs => ?_, by simp; omega⟩
    · have hj' : j < len := by simpa using hj
      obtain ⟨g1, g2, g3⟩ := hS j (by omega)
      obtain ⟨k1, k2, k3⟩ := hS 0 (by omega)
      have h0' := k2 0 h0
      have hsome : (S 0)[0]? = some ((S 0)[0]'(by omega)) := List.getElem?_eq_getElem (by omega)
      rw [hsome] at h0'
      have hcell0 : w.cell? a = some ((S 0)[0]'(by omega)) := by simpa [Addr.add] using h0'
      have hp := plain_of_cell hcell0
      have e : ((List.range len).map S)[j] = S j := by simp
      refine ⟨by rw [e]; exact g1, a.block, a.off, by rw [← hp], lt_of_cell hcell0, fun i u hi => ?_⟩
      rw [e] at hi
      have hil : i < ls.length := by rw [← g1]; exact (List.getElem?_eq_some_iff.1 hi).1
      have := g2 i hil
      rw [hp, add_plain_, hi] at this
      exact this
    · obtain ⟨i, hi, rfl⟩ := List.mem_map.1 hs
      obtain ⟨g1, g2, g3⟩ := hS i (by have := List.mem_range.1 hi; omega)
      exact ⟨g1, g3⟩
end

end Go.Proofs.Ar

/- ViewBelow (printed by wip/mkbelow.py). -/
namespace Go.Proofs.YtocoonkachbjaaaDoor
open Go.RowKit Go.Proofs.Ar
set_option linter.unusedVariables false
namespace Vw
/-- The law's kids, as a list that reads. -/
theorem lkids_sess (ss : List Sess) (hl : ss.length ≤ 65536) (b : Int) (bk bf : Nat) (C : Nat → Prop) (m : Nat) (hm : m ≤ 65536) (w0 w : World) (hC : ∀ b, C b → b < w.heap.size ∧ w.heap[b]? = w0.heap[b]?)
    (hseq : ∀ n, Fo.SeqF Fence.wide n Tryd.prog 23 #[.pointer (some ⟨bk, 0, none⟩), .pointer (some ⟨bf, 0, none⟩)] (encS ss) (fun ys => ys = kidsOf ss b) (fun p => p <+: kidsOf ss b) C w0) :
    Calls Tryd.prog 11 #[.func (.func 23) #[] #[.pointer (some ⟨bk, 0, none⟩), .pointer (some ⟨bf, 0, none⟩)], .int .i64 m] w fun e w' => (∃ q c, e = .returned (.slice q (min m (kidsOf ss b).length) c) ∧ SessArg w' (.slice q (min m (kidsOf ss b).length) c) (pickS ss ((kidsOf ss b).take m))) ∧ Below w.heap.size w w' :=
  (lkids_any ss hl (kidsOf ss b) (fun i hi => kidsOf_lt i hi) bk bf C m hm w0 w hC hseq).mono fun e w' ⟨⟨d, he, hown⟩, hb⟩ => by
    obtain ⟨q, c, rfl, -⟩ := own_any_shape hown
    have e1 : ((kidsOf ss b).take m).length = min m (kidsOf ss b).length := List.length_take
    have h2 := own_pick (fun i hi => kidsOf_lt i (List.mem_of_mem_take hi)) rfl hown
    rw [e1] at he h2
    exact ⟨⟨q, c, he, h2⟩, hb⟩
theorem pick_big {ss : List Sess} {l : List Nat} (hl : ∀ i ∈ l, i < ss.length) (h : l.length ≤ 65536) : ((pickS ss l).length : Int) ≤ 9223372036854775807 := by
  rw [(pick_cells hl).2]; omega
theorem preS_lt {ss : List Sess} {b : Int} : ∀ i ∈ (preL ss b).map Prod.snd, i < ss.length := fun i hi => by
  obtain ⟨x, hx, rfl⟩ := List.mem_map.1 hi
  exact preL_lt ss b x hx
theorem int_take {w : World} {q : Option Addr} {n c c' m : Nat} {ps : List Int} (h : In.IntArg w (.slice q n c) ps) (hm : m ≤ ps.length) : In.IntArg w (.slice q m c') (ps.take m) := by
  obtain ⟨p, cap, e, h⟩ := h
  cases e
  refine ⟨q, c', by rw [List.length_take, Nat.min_eq_left hm], fun j hj => ?_⟩
  have hj2 : j < ps.length := by rw [List.length_take] at hj; omega
  obtain ⟨g, o, h1, h2, h3⟩ := h j hj2
  exact ⟨g, o, h1, h2, by rw [h3, List.getElem_take]⟩
theorem only_setCells {G : Nat → Prop} {a : World} {b : Nat} (hb : G b) : ∀ (vs : List Value) (o : Nat) (w : World), Only G a w → Only G a (w.setCells b o vs)
  | [], _, _, h => h
  | v :: r, o, w, h => by
    rw [World.setCells]
    exact only_setCells hb r _ _ (h.setCell (p := ⟨b, o, none⟩) (fun _ => hb) v)
theorem LentS.there {base g c : Nat} {ss : List Sess} {w : World} (h : LentS base g c ss w) : w.there g 0 ((ss.length + 16) * 12) := fun j hj => by
  have hlen : (allV (ss ++ mks 16)).length = (ss.length + 16) * 12 := by rw [allV_len, List.length_append, mks_len]
  refine ⟨?_, World.ownsRow.frozenAt h _⟩
  rw [Nat.zero_add, World.ownsRow.cellAt (w := w) h j (by rw [← hlen] at hj; first | exact hj | omega)]
  rw [← hlen] at hj
  simp [hj]
theorem there_part {w : World} {g N k : Nat} (h : w.there g 0 N) (n : Nat) (hk : k + n ≤ N) : w.there g k n := fun j hj => by
  have := h (k + j) (by omega)
  rwa [Nat.zero_add] at this
/-- What the law writes over the list that it lent. -/
def overS : Sess := ⟨0, 1, 0, 1, 0, .empty, .empty, 0, 0, 0, 0, 0⟩

end Vw
end Go.Proofs.YtocoonkachbjaaaDoor
