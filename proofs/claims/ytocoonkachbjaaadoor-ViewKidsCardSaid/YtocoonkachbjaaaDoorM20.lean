/- Several texts in one: what each proves its own first comment says. -/
import Derived.Test.YtocoonkachbjaaaDoorM19
import Derived.Test.YtocoonkachbjaaaDoorM18
import Derived.BigQuiet
import Derived.Deep.QuietTactic
import Derived.Test.YtocoonkachbjaaaDoorM11
import Derived.Test.YtocoonkachbjaaaDoorM12
import Derived.Test.YtocoonkachbjaaaDoorProg
import Derived.Test.YtocoonkachbjaaaDoorM1
import Derived.WalkLawsBesides
import Derived.Outline
import Derived.Test.YtocoonkachbjaaaDoorM4
import Derived.Test.YtocoonkachbjaaaDoorM15

/- The law's own pre: what an iterator of numbers and sessions hands out, at most so many (printed by wip/mklpre.py). -/
namespace Go.Proofs.YtocoonkachbjaaaDoor
open Go.RowKit
set_option linter.unusedVariables false
namespace Vw
attribute [local go_sem] Oper.semAt_some

theorem own_block_type {W : World} {base e size n b : Nat} {v : Value} {xs : List Value} (h : W.ownsRow base e size v n xs) (hb : v.ownBlock = some b) : ∃ cur, W.heap[b]? = some (.cells cur e (0, 0)) := by
  rcases h.2 with ⟨rfl, _⟩ | ⟨g, c, cur, rfl, _, h2, _⟩
  · cases hb
  · cases hb; exact ⟨cur, h2⟩
/-- One list in its box has grown. -/
theorem push_box {A w1 : World} {o1 : Obj} {t e : TypeId} {size n m base b1 : Nat} {d v' : Value} {xs ys : List Value} (h1 : Boxed A b1 t d) (hb : b1 < base) (h2 : A.ownsRow base e size d n xs)
    (hown' : w1.ownsRow base e size v' m ys) (hgrow : (A.alloc o1).grownBy w1 d.ownBlock) (hat : v'.ownBlock = d.ownBlock ∨ v'.ownBlock = some (A.alloc o1).heap.size) :
    Boxed w1 b1 t d ∧ Boxed (w1.setCell ⟨b1, 0, none⟩ v') b1 t v' ∧ (w1.setCell ⟨b1, 0, none⟩ v').ownsRow base e size v' m ys ∧ Only (fun b => b = b1 ∨ d.ownBlock = some b) A (w1.setCell ⟨b1, 0, none⟩ v') ∧ ∀ b, v'.ownBlock = some b → d.ownBlock = some b ∨ A.heap.size ≤ b := by
  have hlt := h1.lt
  have hnb : ∀ b, d.ownBlock = some b → base ≤ b := fun b e => (h2.lt b e).1
  have ho : Only (fun b => b = b1 ∨ d.ownBlock = some b) A w1 := ((Only.refl _ A).alloc o1).grown hgrow (fun k hk e => .inr e)
  have hb1 : Boxed w1 b1 t d := (h1.alloc o1).kept hgrow (fun e => by have := hnb _ e.symm; omega)
  refine ⟨hb1, hb1.set v', own_keep hown' (fun b e => Below.heap_setCell _ _ _ _ ?_), ho.setCell (fun _ => .inl rfl) _, fun b e => ?_⟩
  · have := (hown'.lt b e).1
    show b ≠ b1
    omega
  · rcases hat with h | h
    · exact .inl (h.symm.trans e)
    · have e2 : b = (A.alloc o1).heap.size := Option.some.inj (e.symm.trans h)
      exact .inr (by rw [e2]; simp)

def farsL (l : List (Nat × Nat)) : List Value := l.map fun x => .int .i64 (x.1 : Int)
def sesL (ss : List Sess) (l : List (Nat × Nat)) : List Value := csL ss (l.map Prod.snd)
theorem farsL_snoc (l : List (Nat × Nat)) (x : Nat × Nat) : farsL (l ++ [x]) = farsL l ++ [.int .i64 (x.1 : Int)] := by simp [farsL]
theorem sesL_snoc (ss : List Sess) (l : List (Nat × Nat)) (x : Nat × Nat) : sesL ss (l ++ [x]) = sesL ss l ++ csAt ss x.2 := by simp [sesL, csL, List.flatMap_append]
/-- Both lists, as far as they have come, in their boxes. -/
structure PU (ss : List Sess) (m B : Nat) (w : World) (d1 d2 : Value) (pre : List (Nat × Nat)) (Fp : Nat → Prop) (A : World) : Prop where
  b1 : Boxed A (B + 1) 58 d1
  b2 : Boxed A (B + 2) 22 d2
  r1 : A.ownsRow (B + 3) 3 1 d1 pre.length (farsL pre)
  r2 : A.ownsRow (B + 3) 30 12 d2 pre.length (sesL ss pre)
  le : pre.length ≤ m
  fp : ∀ b, Fp b ↔ (b = B + 1 ∨ d1.ownBlock = some b) ∨ (b = B + 2 ∨ d2.ownBlock = some b)
  mst : A.cell? ⟨B, 0, none⟩ = some (.int .i64 m)
  bel : Below B w A
theorem PU.far {ss : List Sess} {m B : Nat} {w A : World} {d1 d2 : Value} {pre : List (Nat × Nat)} {Fp : Nat → Prop} (h : PU ss m B w d1 d2 pre Fp A) {b : Nat} (hb : Fp b) : B + 1 ≤ b := by
  rcases (h.fp b).1 hb with (h1 | h1) | (h1 | h1)
  · omega
  · have := (h.r1.lt b h1).1; omega
  · omega
  · have := (h.r2.lt b h1).1; omega
theorem PU.turn {ss : List Sess} {m B : Nat} {w A A' : World} {d1 d2 : Value} {pre : List (Nat × Nat)} {Fp : Nat → Prop} {row : Option Nat} (h : PU ss m B w d1 d2 pre Fp A) (hg : A.grownBy A' row) (hrow : ∀ r, row = some r → B + 3 ≤ r ∧ ¬ Fp r) : PU ss m B w d1 d2 pre Fp A' := by
  have hne : ∀ b, b < B + 3 → some b ≠ row := fun b hb e => by have := (hrow b e.symm).1; omega
  have hlt := h.b1.lt
  exact ⟨h.b1.kept hg (hne _ (by omega)), h.b2.kept hg (hne _ (by omega)), own_keep h.r1 (fun b e => hg.block b (h.r1.lt b e).2 (fun e2 => (hrow b e2.symm).2 ((h.fp b).2 (.inl (.inr e))))), own_keep h.r2 (fun b e => hg.block b (h.r2.lt b e).2 (fun e2 => (hrow b e2.symm).2 ((h.fp b).2 (.inr (.inr e))))), h.le, h.fp,
    (World.cell?_of_block (w := A) (a := ⟨B, 0, none⟩) (hg.block B (by omega) (hne _ (by omega)))).trans h.mst, h.bel.grown hg (by omega) (fun k e => by have := (hrow k e).1; omega)⟩
theorem PU.fin {ss : List Sess} {m B : Nat} {w A A' : World} {d1 d2 : Value} {pre : List (Nat × Nat)} {Fp : Nat → Prop} {row : Option Nat} (h : PU ss m B w d1 d2 pre Fp A) (hg : A.grownBy A' row) (hrow : ∀ r, row = some r → B + 3 ≤ r ∧ ¬ Fp r) :
    A'.ownsRow B 3 1 d1 pre.length (farsL pre) ∧ A'.ownsRow B 30 12 d2 pre.length (sesL ss pre) ∧ Below B w A' := by
  have h2 := h.turn hg hrow
  exact ⟨Ut.own_base h2.r1 (Nat.le_add_right _ 3), Ut.own_base h2.r2 (Nat.le_add_right _ 3), h2.bel⟩
/-- Behind the first append. -/
theorem PU.first {ss : List Sess} {m B : Nat} {w A w1 : World} {d1 d2 v1 : Value} {pre : List (Nat × Nat)} {Fp : Nat → Prop} {o1 : Obj} {ys : List Value} {k b : Nat} {cs : List Value} (h : PU ss m B w d1 d2 pre Fp A)
    (hbb : A.heap[b]? = some (.cells cs.toArray 30 (0, 0))) (hbB : B + 3 ≤ b)
    (hown' : w1.ownsRow (B + 3) 3 1 v1 k ys) (hgrow : (A.alloc o1).grownBy w1 d1.ownBlock) (hat : v1.ownBlock = d1.ownBlock ∨ v1.ownBlock = some (A.alloc o1).heap.size) :
    Boxed w1 (B + 1) 58 d1 ∧ ∀ w2, w2 = w1.setCell ⟨B + 1, 0, none⟩ v1 → Boxed w2 (B + 1) 58 v1 ∧ w2.ownsRow (B + 3) 3 1 v1 k ys ∧ Only (fun b => b = B + 1 ∨ d1.ownBlock = some b) A w2 ∧ (∀ b, v1.ownBlock = some b → d1.ownBlock = some b ∨ A.heap.size ≤ b) ∧ Boxed w2 (B + 2) 22 d2 ∧ w2.ownsRow (B + 3) 30 12 d2 pre.length (sesL ss pre) ∧ w2.heap[b]? = some (.cells cs.toArray 30 (0, 0)) ∧ B + 3 ≤ w2.heap.size := by
  obtain ⟨h1, h2, h3, h4, h5⟩ := push_box h.b1 (by omega) h.r1 hown' hgrow hat
  refine ⟨h1, ?_⟩
  rintro w2 rfl
  have hlt2 := h.b2.lt
  have hty : ∀ c, d1.ownBlock = some c → ∀ (cur : Array Value), A.heap[c]? ≠ some (.cells cur 30 (0, 0)) := fun c hc cur e => by
    obtain ⟨cur2, e2⟩ := own_block_type h.r1 hc
    rw [e] at e2
    simp at e2
  refine ⟨h2, h3, h4, h5, (h4.block _ hlt2 ?_).trans h.b2, h4.row h.r2 ?_, (h4.block b (Array.getElem?_eq_some_iff.1 hbb).1 ?_).trans hbb, by have := h4.size; omega⟩
  · rintro (h6 | h6)
    · omega
    · have := (h.r1.lt _ h6).1; omega
  · rintro c hc (h6 | h6)
    · have := (h.r2.lt c hc).1; omega
    · obtain ⟨cur, e⟩ := own_block_type h.r2 hc
      exact hty c h6 cur e
  · rintro (h6 | h6)
    · omega
    · exact hty b h6 _ hbb
/-- Behind both. -/
theorem PU.push {ss : List Sess} {m B : Nat} {w A w2 w3 : World} {d1 d2 v1 v2 : Value} {pre : List (Nat × Nat)} {x : Nat × Nat} {Fp : Nat → Prop} {o2 : Obj} (h : PU ss m B w d1 d2 pre Fp A) (hm : pre.length < m)
    (g1 : Boxed w2 (B + 1) 58 v1) (g2 : w2.ownsRow (B + 3) 3 1 v1 (pre.length + 1) (farsL pre ++ [.int .i64 (x.1 : Int)])) (g3 : Only (fun b => b = B + 1 ∨ d1.ownBlock = some b) A w2) (g4 : ∀ b, v1.ownBlock = some b → d1.ownBlock = some b ∨ A.heap.size ≤ b) (g5 : Boxed w2 (B + 2) 22 d2) (g6 : w2.ownsRow (B + 3) 30 12 d2 pre.length (sesL ss pre))
    (hown' : w3.ownsRow (B + 3) 30 12 v2 (pre.length + 1) (sesL ss pre ++ csAt ss x.2)) (hgrow : (w2.alloc o2).grownBy w3 d2.ownBlock) (hat : v2.ownBlock = d2.ownBlock ∨ v2.ownBlock = some (w2.alloc o2).heap.size) :
    Boxed w3 (B + 2) 22 d2 ∧ ∃ Fp', PU ss m B w v1 v2 (pre ++ [x]) Fp' (w3.setCell ⟨B + 2, 0, none⟩ v2) ∧ Only Fp A (w3.setCell ⟨B + 2, 0, none⟩ v2) ∧ ∀ b, Fp' b → Fp b ∨ A.heap.size ≤ b := by
  obtain ⟨h1, h2, h3, h4, h5⟩ := push_box g5 (by omega) g6 hown' hgrow hat
  have hlt := h.b2.lt
  have hd2 : ∀ b, d2.ownBlock = some b → B + 3 ≤ b := fun b e => (g6.lt b e).1
  have ho : Only Fp A (w3.setCell ⟨B + 2, 0, none⟩ v2) := (g3.mono (fun i _ hi => (h.fp i).2 (.inl hi))).trans h4 (fun i _ hi => (h.fp i).2 (.inr hi))
  have hl : (pre ++ [x]).length = pre.length + 1 := by simp
  refine ⟨h1, fun b => (b = B + 1 ∨ v1.ownBlock = some b) ∨ (b = B + 2 ∨ v2.ownBlock = some b), ⟨(h4.block _ g1.lt ?_).trans g1, h2, ?_, ?_, by rw [hl]; omega, fun b => Iff.rfl, ?_, ?_⟩, ho, ?_⟩
  · rintro (h6 | h6)
    · omega
    · have := hd2 _ h6; omega
  · rw [hl, farsL_snoc]
    refine h4.row g2 ?_
    rintro c hc (h6 | h6)
    · have := (g2.lt c hc).1; omega
    · obtain ⟨cur, e⟩ := own_block_type g2 hc
      obtain ⟨cur2, e2⟩ := own_block_type g6 h6
      rw [e] at e2
      simp at e2
  · rw [hl, sesL_snoc]; exact h3
  · exact (World.cell?_of_block (w := A) (a := ⟨B, 0, none⟩) (ho.block B (by omega) (fun hf => by have := h.far hf; omega))).trans h.mst
  · exact h.bel.trans (ho.below (by omega) (fun i hi hf => by have := h.far hf; omega))
  · rintro b ((h6 | h6) | (h6 | h6))
    · exact .inl ((h.fp b).2 (.inl (.inl h6)))
    · exact (g4 b h6).imp (fun h7 => (h.fp b).2 (.inl (.inr h7))) id
    · exact .inl ((h.fp b).2 (.inr (.inl h6)))
    · exact (h5 b h6).imp (fun h7 => (h.fp b).2 (.inr (.inr h7))) (fun h7 => Nat.le_trans g3.size h7)
theorem first_box {w1 : World} {B : Nat} {v1 d2 : Value} {t : TypeId} (h : Boxed (w1.setCell ⟨B + 1, 0, none⟩ v1) (B + 2) t d2) : w1.cell? ⟨B + 2, 0, none⟩ = some d2 := by
  have h1 : w1.heap[B + 2]? = some (.cells #[d2] t (0, 0)) := (Below.heap_setCell _ _ _ _ (by show B + 2 ≠ B + 1; omega)).symm.trans h
  rw [block_cell h1]; rfl
theorem box_range {W : World} {b : Nat} {cs : List Value} {t : TypeId} (h : W.heap[b]? = some (.cells cs.toArray t (0, 0))) : W.rangeAt b 0 cs := fun j u hu => by rw [Nat.zero_add, block_cell h]; simpa using hu

end Vw
end Go.Proofs.YtocoonkachbjaaaDoor

/- What the iterators hand out and what the document tells are the same lists. No program in sight. -/
namespace Go.Proofs.YtocoonkachbjaaaDoor
open Go.RowKit
set_option linter.unusedVariables false
namespace Vw
theorem roots_filter (l : List (Int × Int)) : ∀ n, Vt.roots l n = (List.range n).filter fun j => (Vt.par l j).isNone
  | 0 => rfl
  | n + 1 => by
    rw [List.range_succ, List.filter_append, ← roots_filter l n]
    rw [show Vt.roots l (n + 1) = (match Vt.par l n with | none => Vt.roots l n ++ [n] | some _ => Vt.roots l n) from rfl]
    cases h : Vt.par l n with
    | none => simp [h]
    | some p => simp [h]
theorem kidsN_filter (l : List (Int × Int)) (p : Nat) : ∀ n, Vt.kidsN l n p = (List.range n).filter fun j => decide (Vt.par l j = some p)
  | 0 => rfl
  | n + 1 => by
    rw [List.range_succ, List.filter_append, ← kidsN_filter l p n]
    cases h : Vt.par l n with
    | none => rw [Vt.kidsN_none h]; simp [h]
    | some q =>
      rw [Vt.kidsN_some h]
      unfold Vt.more
      by_cases e : p = q
      · subst e; simp [h]
      · have e2 : ¬ q = p := fun x => e x.symm
        simp [h, e, e2]
theorem parI_neg {l : List (Int × Int)} {j : Nat} : decide (parI l j < 0) = (Vt.par l j).isNone := by
  unfold parI
  cases h : Vt.par l j with
  | none => simp
  | some p => simp
theorem parI_eq {l : List (Int × Int)} {j p : Nat} : decide (parI l j = (p : Int)) = decide (Vt.par l j = some p) := by
  unfold parI
  cases h : Vt.par l j with
  | none => simp
  | some q =>
    by_cases e : q = p
    · subst e; simp
    · have e2 : ¬ (q : Int) = (p : Int) := fun h => e (by omega)
      simp [e, e2]
theorem kids_same (ss : List Sess) (b : Int) : kidsTo ss b ss.length = kidsOf ss b := by
  unfold kidsTo kidsOf
  by_cases hb : b = 0
  · rw [if_pos hb, roots_filter]
    refine List.filter_congr fun j _ => ?_
    unfold ksel
    rw [← parI_neg]
    simp [hb]
  · rw [if_neg hb]
    cases hf : firstL ss b with
    | none =>
      have e1 : firstI ss b = -1 := by unfold firstI; rw [hf]
      have e2 : ∀ j, ksel ss b j = false := fun j => by unfold ksel; rw [e1]; simp [hb]
      rw [List.filter_eq_nil_iff]
      intro j _
      rw [e2]; simp
    | some p =>
      have e1 : firstI ss b = (p : Int) := by unfold firstI; rw [hf]
      show _ = Vt.kidsN (bu ss) ss.length p
      rw [kidsN_filter]
      refine List.filter_congr fun j _ => ?_
      unfold ksel
      rw [← parI_eq, e1]
      simp [hb]

/-- The sessions at these places. -/
def pickS (ss : List Sess) (l : List Nat) : List Sess := l.filterMap fun i => ss[i]?
theorem pick_cells {ss : List Sess} : ∀ {l : List Nat}, (∀ i ∈ l, i < ss.length) → allV (pickS ss l) = csL ss l ∧ (pickS ss l).length = l.length
  | [], _ => ⟨rfl, rfl⟩
  | i :: r, h => by
    have h1 := h i List.mem_cons_self
    obtain ⟨e1, e2⟩ := pick_cells (l := r) (fun j hj => h j (List.mem_cons_of_mem _ hj))
    have e3 : pickS ss (i :: r) = ss[i] :: pickS ss r := by unfold pickS; rw [List.filterMap_cons, List.getElem?_eq_getElem h1]
    rw [e3]
    refine ⟨?_, by rw [List.length_cons, List.length_cons, e2]⟩
    unfold allV csL at *
    rw [List.flatMap_cons, List.flatMap_cons, e1, csAt_at h1]
theorem own_pick {w : World} {base cap : Nat} {q : Option Addr} {n : Nat} {ss : List Sess} {l : List Nat} (hl : ∀ i ∈ l, i < ss.length) (hn : n = l.length) (h : w.ownsRow base 30 12 (.slice q n cap) n (csL ss l)) : SessArg w (.slice q n cap) (pickS ss l) := by
  obtain ⟨e1, e2⟩ := pick_cells hl
  subst hn
  rw [← e2, ← e1] at h
  rw [← e2]
  exact sess_of_own h
theorem pick_take {ss : List Sess} {l : List Nat} (hl : ∀ i ∈ l, i < ss.length) (m : Nat) : (pickS ss l).take m = pickS ss (l.take m) := by
  induction l generalizing m with
  | nil => simp [pickS]
  | cons i r ih =>
    have h1 := hl i List.mem_cons_self
    have e3 : ∀ r, pickS ss (i :: r) = ss[i] :: pickS ss r := fun r => by unfold pickS; rw [List.filterMap_cons, List.getElem?_eq_getElem h1]
    cases m with
    | zero => simp [pickS]
    | succ m => rw [e3, List.take_succ_cons, List.take_succ_cons, e3, ih (fun j hj => hl j (List.mem_cons_of_mem _ hj))]
theorem SessArg.take {w : World} {q : Option Addr} {n c c' m : Nat} {ss : List Sess} (h : SessArg w (.slice q n c) ss) (hm : m ≤ ss.length) : SessArg w (.slice q m c') (ss.take m) := by
  have e : ss = ss.take m ++ ss.drop m := (List.take_append_drop m ss).symm
  rw [e] at h
  exact h.pre (by rw [List.length_take]; omega)
theorem outV_sesL (ss : List Sess) (l : List (Nat × Nat)) : outV ss l = csL ss (l.map Prod.snd) := by
  unfold outV csL; rw [List.flatMap_map]
theorem farV_ints {w : World} {base n : Nat} {v : Value} {l : List (Nat × Nat)} (hn : n = l.length) (h : w.ownsRow base 3 1 v n (farV l)) : In.IntArg w v (ints (l.map Prod.fst)) := by
  subst hn
  have e : farV l = (ints (l.map Prod.fst)).map (fun x => Value.int .i64 x) := by simp [farV, ints, nv]
  rw [e] at h
  exact In.own_ints (fun _ => rfl) (by simp [ints]) h
theorem farsL_farV (l : List (Nat × Nat)) : farsL l = farV l := rfl
theorem blk_len (p : Nat) : ∀ (o : List (Nat × Nat)), (Vt.blk p o).length ≤ o.length
  | [] => Nat.le_refl _
  | x :: r => by
    unfold Vt.blk
    split
    · have h := (List.takeWhile_sublist (p := fun y : Nat × Nat => decide (x.1 < y.1)) (l := r)).length_le
      simp only [List.length_cons, List.length_map]
      omega
    · have := blk_len p r
      simp only [List.length_cons]; omega
theorem preL_len (ss : List Sess) (b : Int) : (preL ss b).length ≤ ss.length := by
  unfold preL
  split
  · exact Nat.zero_le _
  · have h := blk_len ‹Nat› (Vt.ordL (bu ss) ss.length)
    rwa [Vt.ord_len] at h
theorem preL_lt (ss : List Sess) (b : Int) : ∀ x ∈ preL ss b, x.2 < ss.length := by
  intro x hx
  rw [preL_pre] at hx
  cases hf : firstL ss b with
  | none => rw [hf] at hx; cases hx
  | some p =>
    rw [hf] at hx
    exact pre_mem_lt (ss.length + 1) 0 [p] (fun i hi => by rw [List.mem_singleton.1 hi]; exact firstL_lt hf) x hx
end Vw
end Go.Proofs.YtocoonkachbjaaaDoor

/- lineagekit.KeptFullSessions, KeptSessions: a lent list that lies as it was lent. -/
namespace Go.Proofs.YtocoonkachbjaaaDoor
open Go.RowKit
set_option linter.unusedVariables false
namespace Vw
theorem fullS_at {ss : List Sess} {k : Nat} (h : k < (ss ++ mks 16).length) : (ss ++ mks 16)[k] = if h2 : k < ss.length then ss[k] else mkS (k - ss.length) := by
  rw [List.getElem_append]
  split
  · rfl
  · simp [mks]

end Vw
end Go.Proofs.YtocoonkachbjaaaDoor

/- lineagekit.Pick, of any two numbers. -/
namespace Go.Proofs.YtocoonkachbjaaaDoor
open Go.RowKit
set_option linter.unusedVariables false
namespace Pk

theorem tmod_emod (k n : Int) (hn : 0 < n) : (k.tmod n < 0 → k.tmod n + n = k % n) ∧ (0 ≤ k.tmod n → k.tmod n = k % n) ∧ -n < k.tmod n ∧ k.tmod n < n := by
  have h1 := Int.tmod_add_tdiv_mul k n
  have h2 : -n < k.tmod n := Int.lt_tmod_of_pos k hn
  have h3 := Int.tmod_lt_of_pos k hn
  have e : (k.tmod n + k.tdiv n * n) % n = k.tmod n % n := by rw [Int.add_mul_emod_self_right]
  rw [h1] at e
  refine ⟨fun h => ?_, fun h => ?_, h2, h3⟩
  · rw [e, ← Int.add_emod_right]
    exact (Int.emod_eq_of_lt (by omega) (by omega)).symm
  · rw [e]; exact (Int.emod_eq_of_lt h h3).symm

theorem pick_any (k n : Int) (hn : 0 < n) (hb : n ≤ 4611686018427387904) (w : World) : Calls Tryd.prog 8 #[.int .i64 k, .int .i64 n] w fun e w' => e = .returned (.int .i64 (k % n)) ∧ w = w' := by
  obtain ⟨h1, h2, h3, h4⟩ := tmod_emod k n hn
  have n0 : (n == 0) = false := by rw [beq_eq_false_iff_ne]; omega
  have n1 : (n == -1) = false := by rw [beq_eq_false_iff_ne]; omega
  have n2 : 1 ≤ n := by omega
  have H1 := Lib.hid h1; have H2 := Lib.hid h2
  clear h1 h2
  by_cases h : k.tmod n < 0
  · go_enter Tryd.func8, Tryd.ntmps8
    go_wp2
    go_ret
    exact ⟨Ut.ret_int (H1.out h), rfl⟩
  · have h' : 0 ≤ k.tmod n := by omega
    go_enter Tryd.func8, Tryd.ntmps8
    go_wp2
    go_ret
    exact ⟨Ut.ret_int (H2.out h'), rfl⟩

/-- Of no room nothing is picked. -/
theorem pick_none (k n : Int) (hn : n < 1) (w : World) : Calls Tryd.prog 8 #[.int .i64 k, .int .i64 n] w fun e w' => e = .returned (.int .i64 0) ∧ w = w' := by
  go_enter Tryd.func8, Tryd.ntmps8
  go_wp2
  go_ret
  exact ⟨rfl, rfl⟩

end Pk
end Go.Proofs.YtocoonkachbjaaaDoor

/- Arguments that are lists of structs whose cells are numbers, texts and bools, structs within structs among them. Of any program. -/
namespace Go.Proofs.Ar
open Go.RowKit Go.ChangeShapes Go.WideShapes Go.Deep
set_option linter.unusedVariables false

/-- The cells' types, one behind the other. -/
def leavesFs (P : Program) (g : TypeId → Option (List TypeId)) : List Field → Nat → Option (List TypeId)
  | [], _ => some []
  | fd :: r, o => if fd.offset = o then (g fd.type).bind fun m => if P.cellsOf fd.type = m.length then (leavesFs P g r (o + m.length)).map fun z => m ++ z else none else none
def leaves (P : Program) : Nat → TypeId → Option (List TypeId)
  | 0, _ => none
  | f + 1, t => match P.underlying t with
    | some (.struct fs) => (leavesFs P (leaves P f) fs.toList 0).bind fun l => if P.cellsOf t = l.length then some l else none
    | some .string => some [t]
    | some .bool => some [t]
    | some (.int _) => some [t]
    | _ => none

section
variable {H : Type} {enc : TypeId × Value → H} {P : Program} {w : World} {base : Nat} {spare : Nat → Bool} {held : Bool}

/-- A cell that reads as a value of a type. -/
def LeafIs (enc : TypeId × Value → H) (P : Program) (w : World) (base : Nat) (spare : Nat → Bool) (held : Bool) (t : TypeId) (v : Value) : Prop := ∃ n y, DataW.trod enc P w base spare held n t [v] = some y
theorem LeafIs.int {t : TypeId} {v : Value} {k : IntKind} (ht : P.underlying t = some (.int k)) (h : LeafIs enc P w base spare held t v) : ∃ n, v = .int k n ∧ (Lit.int k n).wf = true := by
  obtain ⟨n, y, h⟩ := h
  obtain ⟨q, e, _, hw⟩ := DataW.trod_int ht h
  exact ⟨q, by simpa using e, hw⟩
theorem LeafIs.string {t : TypeId} {v : Value} (ht : P.underlying t = some .string) (h : LeafIs enc P w base spare held t v) : ∃ s : ByteArray, v = .string s ∧ s.size ≤ maxLen := by
  obtain ⟨n, y, h⟩ := h
  obtain ⟨q, e, _, hw⟩ := DataW.trod_string ht h
  exact ⟨q, by simpa using e, hw⟩
theorem LeafIs.bool {t : TypeId} {v : Value} (ht : P.underlying t = some .bool) (h : LeafIs enc P w base spare held t v) : ∃ b : Bool, v = .bool b := by
  obtain ⟨n, y, h⟩ := h
  obtain ⟨q, e, _⟩ := DataW.trod_bool ht h
  exact ⟨q, by simpa using e⟩

theorem single_at {cs : List Value} {v : Value} {n : Nat} {t : TypeId} {x : DataW H × List MemPlace} (h : DataW.trod enc P w base spare held n t cs = some x) (e : cs = [v]) : cs.length = [t].length ∧ ∀ (i : Nat) (tl : TypeId) (u : Value), [t][i]? = some tl → cs[i]? = some u → LeafIs enc P w base spare held tl u := by
  subst e
  refine ⟨rfl, fun i tl u h1 h2 => ?_⟩
  cases i with
  | zero => simp at h1 h2; subst h1 h2; exact ⟨n, x, h⟩
  | succ i => simp at h1

theorem leaves_fs (f : Nat) (ih : ∀ (t : TypeId) (ls : List TypeId) (n : Nat) (cs : List Value) (x : DataW H × List MemPlace), leaves P f t = some ls → DataW.trod enc P w base spare held n t cs = some x → cs.length = ls.length ∧ ∀ (i : Nat) (tl : TypeId) (u : Value), ls[i]? = some tl → cs[i]? = some u → LeafIs enc P w base spare held tl u)
    (n : Nat) (cs : List Value) : ∀ (fs : List Field) (o : Nat) (m : List TypeId), leavesFs P (leaves P f) fs o = some m → (∀ fd ∈ fs, ∃ x, DataW.trod enc P w base spare held n fd.type ((cs.drop fd.offset).take (P.cellsOf fd.type)) = some x) →
      ∀ (i : Nat) (tl : TypeId) (u : Value), m[i]? = some tl → cs[o + i]? = some u → LeafIs enc P w base spare held tl u
  | [], o, m, h, hf, i, tl, u, h1, h2 => by
    simp [leavesFs] at h; subst h; simp at h1
  | fd :: r, o, m, h, hf, i, tl, u, h1, h2 => by
    unfold leavesFs at h
    by_cases ho : fd.offset = o
    · rw [if_pos ho] at h
      obtain ⟨m1, hm1, h⟩ := Option.bind_eq_some_iff.1 h
      by_cases hc : P.cellsOf fd.type = m1.length
      · rw [if_pos hc] at h
        obtain ⟨z, hz, rfl⟩ := Option.map_eq_some_iff.1 h
        obtain ⟨x, hx⟩ := hf fd List.mem_cons_self
        obtain ⟨hl, hat⟩ := ih _ _ _ _ _ hm1 hx
        by_cases hi : i < m1.length
        · rw [List.getElem?_append_left hi] at h1
          refine hat i tl u h1 ?_
          rw [List.getElem?_take, if_pos (by omega), List.getElem?_drop, ho]
          exact h2
        · rw [List.getElem?_append_right (by omega)] at h1
          refine leaves_fs f ih n cs r (o + m1.length) z hz (fun g hg => hf g (List.mem_cons_of_mem _ hg)) (i - m1.length) tl u h1 ?_
          rw [show o + m1.length + (i - m1.length) = o + i by omega]; exact h2
      · rw [if_neg hc] at h; cases h
    · rw [if_neg ho] at h; cases h

theorem leaves_at : ∀ (f : Nat) (t : TypeId) (ls : List TypeId) (n : Nat) (cs : List Value) (x : DataW H × List MemPlace), leaves P f t = some ls → DataW.trod enc P w base spare held n t cs = some x → cs.length = ls.length ∧ ∀ (i : Nat) (tl : TypeId) (u : Value), ls[i]? = some tl → cs[i]? = some u → LeafIs enc P w base spare held tl u
  | 0, t, ls, n, cs, x, h, hx => by simp [leaves] at h
  | f + 1, t, ls, n, cs, x, h, hx => by
    unfold leaves at h
    split at h
    · rename_i fs hu
      obtain ⟨l, hl, h⟩ := Option.bind_eq_some_iff.1 h
      by_cases hc : P.cellsOf t = l.length
      · rw [if_pos hc] at h
        cases h
        obtain ⟨xs, k, _, _, hlen, hxs, hat⟩ := DataW.trod_struct hu hx
        refine ⟨hlen.trans hc, fun i tl u h1 h2 => leaves_fs f (leaves_at f) k cs fs.toList 0 _ hl (fun fd hfd => ?_) i tl u h1 (by simpa using h2)⟩
        obtain ⟨j, hj, e⟩ := List.getElem_of_mem hfd
        have hj' : j < fs.size := by simpa using hj
        have hget : fs[j]? = some fd := by rw [← e]; simp [hj']
        have hx2 : j < xs.length := by rw [hxs]; exact hj'
        exact ⟨xs[j], (hat j fd hget).trans (List.getElem?_eq_getElem hx2)⟩
      · rw [if_neg hc] at h; cases h
    · rename_i hu
      cases h
      obtain ⟨s, e, _⟩ := DataW.trod_string hu hx
      exact single_at hx e
    · rename_i hu
      cases h
      obtain ⟨s, e, _⟩ := DataW.trod_bool hu hx
      exact single_at hx e
    · rename_i k hu
      cases h
      obtain ⟨s, e, _⟩ := DataW.trod_int hu hx
      exact single_at hx e
    · cases h

/-- A value is a list of rows of c cells each, wherever it lies. -/
def RowArg (w : World) (v : Value) (c : Nat) (rs : List (List Value)) : Prop :=
  ∃ p cap, v = .slice p rs.length cap ∧ ∀ j (hj : j < rs.length), rs[j].length = c ∧ ∃ g o, p = some ⟨g, o, none⟩ ∧ g < w.heap.size ∧ ∀ (i : Nat) (u : Value), rs[j][i]? = some u → w.cell? ⟨g, o + (j * c + i), none⟩ = some u

theorem RowArg.below {w w' : World} {v : Value} {c : Nat} {rs : List (List Value)} (h : RowArg w v c rs) (hb : Below w.heap.size w w') : RowArg w' v c rs := by
  obtain ⟨p, cap, rfl, h⟩ := h
  refine ⟨p, cap, rfl, fun j hj => ?_⟩
  obtain ⟨hc, g, o, h1, h2, h3⟩ := h j hj
  exact ⟨hc, g, o, h1, Nat.lt_of_lt_of_le h2 hb.size, fun i u hi => (hb.cell (p := ⟨g, o + (j * c + i), none⟩) h2).trans (h3 i u hi)⟩

theorem arg_rows {t e : TypeId} {r : Reach} {b0 : Nat} {v : Value} {d : DataW H} {p : List MemPlace} (f : Nat) (ls : List TypeId) (hls : leaves P f e = some ls) (h0 : 0 < ls.length) (ht : P.underlying t = some (.slice e)) (ce : P.cellsOf e = ls.length)
    (hv : Value.okWide P w r b0 t v) (h : DataW.Trod enc P w 0 (fun _ => true) true t v d p) :
    ∃ rs : List (List Value), RowArg w v ls.length rs ∧ (∀ s ∈ rs, s.length = ls.length ∧ ∀ (i : Nat) (tl : TypeId) (u : Value), ls[i]? = some tl → s[i]? = some u → LeafIs enc P w 0 (fun _ => true) true tl u) ∧ rs.length ≤ maxLen := by
  obtain ⟨a0, len, cap, rfl⟩ := okWide_slice ht hv
  obtain ⟨fuel, hf⟩ := h
  rcases open_slice ht hf with ⟨hcs, hx⟩ | ⟨a, len', cap', m, n, D, Pl, hcs, _, hl, hm, hmm, hx, hcell⟩
  · simp [Value.cells] at hcs
    obtain ⟨rfl, rfl, rfl⟩ := hcs
    exact ⟨[], ⟨none, 0, rfl, fun j hj => absurd hj (Nat.not_lt_zero _)⟩, by simp, by simp⟩
  · simp [Value.cells] at hcs
    obtain ⟨rfl, rfl, rfl⟩ := hcs
    simp only [if_true] at hmm
    subst hmm
    have each : ∀ i, i < m → ∃ q : List Value, q.length = ls.length ∧ (∀ k, k < ls.length → w.cell? (a.add (i * ls.length + k)) = q[k]?) ∧ ∀ (k : Nat) (tl : TypeId) (u : Value), ls[k]? = some tl → q[k]? = some u → LeafIs enc P w 0 (fun _ => true) true tl u := fun i hi => by
      obtain ⟨cs', h1, h2⟩ := hcell i hi
      rw [ce] at h1
      obtain ⟨_, hlen, hc⟩ := World.cells?_some h1
      obtain ⟨hl2, hat⟩ := leaves_at f e ls _ _ _ hls h2
      exact ⟨cs', hl2, fun k hk => by rw [← add_add]; exact hc k hk, hat⟩
    obtain ⟨S, hS⟩ := choose_lt each
    refine ⟨(List.range len).map S, ⟨some a, m, by simp, fun j hj => ?_⟩, fun s hs => ?_, by simp; omega⟩
    · have hj' : j < len := by simpa using hj
      obtain ⟨g1, g2, g3⟩ := hS j (by omega)
      obtain ⟨k1, k2, k3⟩ := hS 0 (by omega)
      have h0' := k2 0 h0
      have hsome : (S 0)[0]? = some ((S 0)[0]'(by omega)) := List.getElem?_eq_getElem (by omega)
      rw [hsome] at h0'
      have hcell0 : w.cell? a = some ((S 0)[0]'(by omega)) := by simpa [Addr.add] using h0'
      have hp := plain_of_cell hcell0
      have e : ((List.range len).map S)[j] = S j := by simp
      refine ⟨by rw [e]; exact g1, a.block, a.off, by rw [← hp], lt_of_cell hcell0, fun i u hi => ?_⟩
      rw [e] at hi
      have hil : i < ls.length := by rw [← g1]; exact (List.getElem?_eq_some_iff.1 hi).1
      have := g2 i hil
      rw [hp, add_plain_, hi] at this
      exact this
    · obtain ⟨i, hi, rfl⟩ := List.mem_map.1 hs
      obtain ⟨g1, g2, g3⟩ := hS i (by have := List.mem_range.1 hi; omega)
      exact ⟨g1, g3⟩
end

end Go.Proofs.Ar

/- ViewBelow (printed by wip/mkbelow.py). -/
namespace Go.Proofs.YtocoonkachbjaaaDoor
open Go.RowKit Go.Proofs.Ar
set_option linter.unusedVariables false
namespace Vw
/-- The law's kids, as a list that reads. -/
theorem lkids_sess (ss : List Sess) (hl : ss.length ≤ 65536) (b : Int) (bk bf : Nat) (C : Nat → Prop) (m : Nat) (hm : m ≤ 65536) (w0 w : World) (hC : ∀ b, C b → b < w.heap.size ∧ w.heap[b]? = w0.heap[b]?)
    (hseq : ∀ n, Fo.SeqF Fence.wide n Tryd.prog 23 #[.pointer (some ⟨bk, 0, none⟩), .pointer (some ⟨bf, 0, none⟩)] (encS ss) (fun ys => ys = kidsOf ss b) (fun p => p <+: kidsOf ss b) C w0) :
    Calls Tryd.prog 11 #[.func (.func 23) #[] #[.pointer (some ⟨bk, 0, none⟩), .pointer (some ⟨bf, 0, none⟩)], .int .i64 m] w fun e w' => (∃ q c, e = .returned (.slice q (min m (kidsOf ss b).length) c) ∧ SessArg w' (.slice q (min m (kidsOf ss b).length) c) (pickS ss ((kidsOf ss b).take m))) ∧ Below w.heap.size w w' :=
  (lkids_any ss hl (kidsOf ss b) (fun i hi => kidsOf_lt i hi) bk bf C m hm w0 w hC hseq).mono fun e w' ⟨⟨d, he, hown⟩, hb⟩ => by
    obtain ⟨q, c, rfl, -⟩ := own_any_shape hown
    have e1 : ((kidsOf ss b).take m).length = min m (kidsOf ss b).length := List.length_take
    have h2 := own_pick (fun i hi => kidsOf_lt i (List.mem_of_mem_take hi)) rfl hown
    rw [e1] at he h2
    exact ⟨⟨q, c, he, h2⟩, hb⟩
theorem pick_big {ss : List Sess} {l : List Nat} (hl : ∀ i ∈ l, i < ss.length) (h : l.length ≤ 65536) : ((pickS ss l).length : Int) ≤ 9223372036854775807 := by
  rw [(pick_cells hl).2]; omega
theorem preS_lt {ss : List Sess} {b : Int} : ∀ i ∈ (preL ss b).map Prod.snd, i < ss.length := fun i hi => by
  obtain ⟨x, hx, rfl⟩ := List.mem_map.1 hi
  exact preL_lt ss b x hx
theorem int_take {w : World} {q : Option Addr} {n c c' m : Nat} {ps : List Int} (h : In.IntArg w (.slice q n c) ps) (hm : m ≤ ps.length) : In.IntArg w (.slice q m c') (ps.take m) := by
  obtain ⟨p, cap, e, h⟩ := h
  cases e
  refine ⟨q, c', by rw [List.length_take, Nat.min_eq_left hm], fun j hj => ?_⟩
  have hj2 : j < ps.length := by rw [List.length_take] at hj; omega
  obtain ⟨g, o, h1, h2, h3⟩ := h j hj2
  exact ⟨g, o, h1, h2, by rw [h3, List.getElem_take]⟩
theorem only_setCells {G : Nat → Prop} {a : World} {b : Nat} (hb : G b) : ∀ (vs : List Value) (o : Nat) (w : World), Only G a w → Only G a (w.setCells b o vs)
  | [], _, _, h => h
  | v :: r, o, w, h => by
    rw [World.setCells]
    exact only_setCells hb r _ _ (h.setCell (p := ⟨b, o, none⟩) (fun _ => hb) v)
theorem LentS.there {base g c : Nat} {ss : List Sess} {w : World} (h : LentS base g c ss w) : w.there g 0 ((ss.length + 16) * 12) := fun j hj => by
  have hlen : (allV (ss ++ mks 16)).length = (ss.length + 16) * 12 := by rw [allV_len, List.length_append, mks_len]
  refine ⟨?_, World.ownsRow.frozenAt h _⟩
  rw [Nat.zero_add, World.ownsRow.cellAt (w := w) h j (by rw [← hlen] at hj; first | exact hj | omega)]
  rw [← hlen] at hj
  simp [hj]
theorem there_part {w : World} {g N k : Nat} (h : w.there g 0 N) (n : Nat) (hk : k + n ≤ N) : w.there g k n := fun j hj => by
  have := h (k + j) (by omega)
  rwa [Nat.zero_add] at this
/-- What the law writes over the list that it lent. -/
def overS : Sess := ⟨0, 1, 0, 1, 0, .empty, .empty, 0, 0, 0, 0, 0⟩

end Vw
end Go.Proofs.YtocoonkachbjaaaDoor
