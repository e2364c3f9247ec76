/- Several texts in one: what each proves its own first comment says. -/
import Derived.Test.YtocoonkachbjaaaGreatDoorM23
import Derived.Test.YtocoonkachbjaaaGreatDoorM24
import Derived.BigQuiet
import Derived.Deep.QuietTactic
import Derived.Test.YtocoonkachbjaaaGreatDoorM19
import Derived.Laws.Rows
import Derived.Maps.AppendAt

/- The law's own pre: what an iterator of numbers and sessions hands out, at most so many (printed by wip/mklpre.py). -/
namespace Go.Proofs.YtocoonkachbjaaaGreatDoor
open Go.RowKit
set_option linter.unusedVariables false
namespace Vw
attribute [local go_sem] Oper.semAt_some

theorem own_block_type {W : World} {base e size n b : Nat} {v : Value} {xs : List Value} (h : W.ownsRow base e size v n xs) (hb : v.ownBlock = some b) : ∃ cur, W.heap[b]? = some (.cells cur e (0, 0)) := by
  rcases h.2 with ⟨rfl, _⟩ | ⟨g, c, cur, rfl, _, h2, _⟩
  · cases hb
  · cases hb; exact ⟨cur, h2⟩
/-- One list in its box has grown. -/
theorem push_box {A w1 : World} {o1 : Obj} {t e : TypeId} {size n m base b1 : Nat} {d v' : Value} {xs ys : List Value} (h1 : Boxed A b1 t d) (hb : b1 < base) (h2 : A.ownsRow base e size d n xs)
    (hown' : w1.ownsRow base e size v' m ys) (hgrow : (A.alloc o1).grownBy w1 d.ownBlock) (hat : v'.ownBlock = d.ownBlock ∨ v'.ownBlock = some (A.alloc o1).heap.size) :
    Boxed w1 b1 t d ∧ Boxed (w1.setCell ⟨b1, 0, none⟩ v') b1 t v' ∧ (w1.setCell ⟨b1, 0, none⟩ v').ownsRow base e size v' m ys ∧ Only (fun b => b = b1 ∨ d.ownBlock = some b) A (w1.setCell ⟨b1, 0, none⟩ v') ∧ ∀ b, v'.ownBlock = some b → d.ownBlock = some b ∨ A.heap.size ≤ b := by
  have hlt := h1.lt
  have hnb : ∀ b, d.ownBlock = some b → base ≤ b := fun b e => (h2.lt b e).1
  have ho : Only (fun b => b = b1 ∨ d.ownBlock = some b) A w1 := ((Only.refl _ A).alloc o1).grown hgrow (fun k hk e => .inr e)
  have hb1 : Boxed w1 b1 t d := (h1.alloc o1).kept hgrow (fun e => by have := hnb _ e.symm; omega)
  refine ⟨hb1, hb1.set v', own_keep hown' (fun b e => Below.heap_setCell _ _ _ _ ?_), ho.setCell (fun _ => .inl rfl) _, fun b e => ?_⟩
  · have := (hown'.lt b e).1
    show b ≠ b1
    omega
  · rcases hat with h | h
    · exact .inl (h.symm.trans e)
    · have e2 : b = (A.alloc o1).heap.size := Option.some.inj (e.symm.trans h)
      exact .inr (by rw [e2]; simp)

def farsL (l : List (Nat × Nat)) : List Value := l.map fun x => .int .i64 (x.1 : Int)
def sesL (ss : List Sess) (l : List (Nat × Nat)) : List Value := csL ss (l.map Prod.snd)
theorem farsL_snoc (l : List (Nat × Nat)) (x : Nat × Nat) : farsL (l ++ [x]) = farsL l ++ [.int .i64 (x.1 : Int)] := by simp [farsL]
theorem sesL_snoc (ss : List Sess) (l : List (Nat × Nat)) (x : Nat × Nat) : sesL ss (l ++ [x]) = sesL ss l ++ csAt ss x.2 := by simp [sesL, csL, List.flatMap_append]
/-- Both lists, as far as they have come, in their boxes. -/
structure PU (ss : List Sess) (m B : Nat) (w : World) (d1 d2 : Value) (pre : List (Nat × Nat)) (Fp : Nat → Prop) (A : World) : Prop where
  b1 : Boxed A (B + 1) 82 d1
  b2 : Boxed A (B + 2) 42 d2
  r1 : A.ownsRow (B + 3) 3 1 d1 pre.length (farsL pre)
  r2 : A.ownsRow (B + 3) 30 12 d2 pre.length (sesL ss pre)
  le : pre.length ≤ m
  fp : ∀ b, Fp b ↔ (b = B + 1 ∨ d1.ownBlock = some b) ∨ (b = B + 2 ∨ d2.ownBlock = some b)
  mst : A.cell? ⟨B, 0, none⟩ = some (.int .i64 m)
  bel : Below B w A
theorem PU.far {ss : List Sess} {m B : Nat} {w A : World} {d1 d2 : Value} {pre : List (Nat × Nat)} {Fp : Nat → Prop} (h : PU ss m B w d1 d2 pre Fp A) {b : Nat} (hb : Fp b) : B + 1 ≤ b := by
  rcases (h.fp b).1 hb with (h1 | h1) | (h1 | h1)
  · omega
  · have := (h.r1.lt b h1).1; omega
  · omega
  · have := (h.r2.lt b h1).1; omega
theorem PU.turn {ss : List Sess} {m B : Nat} {w A A' : World} {d1 d2 : Value} {pre : List (Nat × Nat)} {Fp : Nat → Prop} {row : Option Nat} (h : PU ss m B w d1 d2 pre Fp A) (hg : A.grownBy A' row) (hrow : ∀ r, row = some r → B + 3 ≤ r ∧ ¬ Fp r) : PU ss m B w d1 d2 pre Fp A' := by
  have hne : ∀ b, b < B + 3 → some b ≠ row := fun b hb e => by have := (hrow b e.symm).1; omega
  have hlt := h.b1.lt
  exact ⟨h.b1.kept hg (hne _ (by omega)), h.b2.kept hg (hne _ (by omega)), own_keep h.r1 (fun b e => hg.block b (h.r1.lt b e).2 (fun e2 => (hrow b e2.symm).2 ((h.fp b).2 (.inl (.inr e))))), own_keep h.r2 (fun b e => hg.block b (h.r2.lt b e).2 (fun e2 => (hrow b e2.symm).2 ((h.fp b).2 (.inr (.inr e))))), h.le, h.fp,
    (World.cell?_of_block (w := A) (a := ⟨B, 0, none⟩) (hg.block B (by omega) (hne _ (by omega)))).trans h.mst, h.bel.grown hg (by omega) (fun k e => by have := (hrow k e).1; omega)⟩
theorem PU.fin {ss : List Sess} {m B : Nat} {w A A' : World} {d1 d2 : Value} {pre : List (Nat × Nat)} {Fp : Nat → Prop} {row : Option Nat} (h : PU ss m B w d1 d2 pre Fp A) (hg : A.grownBy A' row) (hrow : ∀ r, row = some r → B + 3 ≤ r ∧ ¬ Fp r) :
    A'.ownsRow B 3 1 d1 pre.length (farsL pre) ∧ A'.ownsRow B 30 12 d2 pre.length (sesL ss pre) ∧ Below B w A' := by
  have h2 := h.turn hg hrow
  exact ⟨Ut.own_base h2.r1 (Nat.le_add_right _ 3), Ut.own_base h2.r2 (Nat.le_add_right _ 3), h2.bel⟩
/-- Behind the first append. -/
theorem PU.first {ss : List Sess} {m B : Nat} {w A w1 : World} {d1 d2 v1 : Value} {pre : List (Nat × Nat)} {Fp : Nat → Prop} {o1 : Obj} {ys : List Value} {k b : Nat} {cs : List Value} (h : PU ss m B w d1 d2 pre Fp A)
    (hbb : A.heap[b]? = some (.cells cs.toArray 30 (0, 0))) (hbB : B + 3 ≤ b)
    (hown' : w1.ownsRow (B + 3) 3 1 v1 k ys) (hgrow : (A.alloc o1).grownBy w1 d1.ownBlock) (hat : v1.ownBlock = d1.ownBlock ∨ v1.ownBlock = some (A.alloc o1).heap.size) :
    Boxed w1 (B + 1) 82 d1 ∧ ∀ w2, w2 = w1.setCell ⟨B + 1, 0, none⟩ v1 → Boxed w2 (B + 1) 82 v1 ∧ w2.ownsRow (B + 3) 3 1 v1 k ys ∧ Only (fun b => b = B + 1 ∨ d1.ownBlock = some b) A w2 ∧ (∀ b, v1.ownBlock = some b → d1.ownBlock = some b ∨ A.heap.size ≤ b) ∧ Boxed w2 (B + 2) 42 d2 ∧ w2.ownsRow (B + 3) 30 12 d2 pre.length (sesL ss pre) ∧ w2.heap[b]? = some (.cells cs.toArray 30 (0, 0)) ∧ B + 3 ≤ w2.heap.size := by
  obtain ⟨h1, h2, h3, h4, h5⟩ := push_box h.b1 (by omega) h.r1 hown' hgrow hat
  refine ⟨h1, ?_⟩
  rintro w2 rfl
  have hlt2 := h.b2.lt
  have hty : ∀ c, d1.ownBlock = some c → ∀ (cur : Array Value), A.heap[c]? ≠ some (.cells cur 30 (0, 0)) := fun c hc cur e => by
    obtain ⟨cur2, e2⟩ := own_block_type h.r1 hc
    rw [e] at e2
    simp at e2
  refine ⟨h2, h3, h4, h5, (h4.block _ hlt2 ?_).trans h.b2, h4.row h.r2 ?_, (h4.block b (Array.getElem?_eq_some_iff.1 hbb).1 ?_).trans hbb, by have := h4.size; omega⟩
  · rintro (h6 | h6)
    · omega
    · have := (h.r1.lt _ h6).1; omega
  · rintro c hc (h6 | h6)
    · have := (h.r2.lt c hc).1; omega
    · obtain ⟨cur, e⟩ := own_block_type h.r2 hc
      exact hty c h6 cur e
  · rintro (h6 | h6)
    · omega
    · exact hty b h6 _ hbb
/-- Behind both. -/
theorem PU.push {ss : List Sess} {m B : Nat} {w A w2 w3 : World} {d1 d2 v1 v2 : Value} {pre : List (Nat × Nat)} {x : Nat × Nat} {Fp : Nat → Prop} {o2 : Obj} (h : PU ss m B w d1 d2 pre Fp A) (hm : pre.length < m)
    (g1 : Boxed w2 (B + 1) 82 v1) (g2 : w2.ownsRow (B + 3) 3 1 v1 (pre.length + 1) (farsL pre ++ [.int .i64 (x.1 : Int)])) (g3 : Only (fun b => b = B + 1 ∨ d1.ownBlock = some b) A w2) (g4 : ∀ b, v1.ownBlock = some b → d1.ownBlock = some b ∨ A.heap.size ≤ b) (g5 : Boxed w2 (B + 2) 42 d2) (g6 : w2.ownsRow (B + 3) 30 12 d2 pre.length (sesL ss pre))
    (hown' : w3.ownsRow (B + 3) 30 12 v2 (pre.length + 1) (sesL ss pre ++ csAt ss x.2)) (hgrow : (w2.alloc o2).grownBy w3 d2.ownBlock) (hat : v2.ownBlock = d2.ownBlock ∨ v2.ownBlock = some (w2.alloc o2).heap.size) :
    Boxed w3 (B + 2) 42 d2 ∧ ∃ Fp', PU ss m B w v1 v2 (pre ++ [x]) Fp' (w3.setCell ⟨B + 2, 0, none⟩ v2) ∧ Only Fp A (w3.setCell ⟨B + 2, 0, none⟩ v2) ∧ ∀ b, Fp' b → Fp b ∨ A.heap.size ≤ b := by
  obtain ⟨h1, h2, h3, h4, h5⟩ := push_box g5 (by omega) g6 hown' hgrow hat
  have hlt := h.b2.lt
  have hd2 : ∀ b, d2.ownBlock = some b → B + 3 ≤ b := fun b e => (g6.lt b e).1
  have ho : Only Fp A (w3.setCell ⟨B + 2, 0, none⟩ v2) := (g3.mono (fun i _ hi => (h.fp i).2 (.inl hi))).trans h4 (fun i _ hi => (h.fp i).2 (.inr hi))
  have hl : (pre ++ [x]).length = pre.length + 1 := by simp
  refine ⟨h1, fun b => (b = B + 1 ∨ v1.ownBlock = some b) ∨ (b = B + 2 ∨ v2.ownBlock = some b), ⟨(h4.block _ g1.lt ?_).trans g1, h2, ?_, ?_, by rw [hl]; omega, fun b => Iff.rfl, ?_, ?_⟩, ho, ?_⟩
  · rintro (h6 | h6)
    · omega
    · have := hd2 _ h6; omega
  · rw [hl, farsL_snoc]
    refine h4.row g2 ?_
    rintro c hc (h6 | h6)
    · have := (g2.lt c hc).1; omega
    · obtain ⟨cur, e⟩ := own_block_type g2 hc
      obtain ⟨cur2, e2⟩ := own_block_type g6 h6
      rw [e] at e2
      simp at e2
  · rw [hl, sesL_snoc]; exact h3
  · exact (World.cell?_of_block (w := A) (a := ⟨B, 0, none⟩) (ho.block B (by omega) (fun hf => by have := h.far hf; omega))).trans h.mst
  · exact h.bel.trans (ho.below (by omega) (fun i hi hf => by have := h.far hf; omega))
  · rintro b ((h6 | h6) | (h6 | h6))
    · exact .inl ((h.fp b).2 (.inl (.inl h6)))
    · exact (g4 b h6).imp (fun h7 => (h.fp b).2 (.inl (.inr h7))) id
    · exact .inl ((h.fp b).2 (.inr (.inl h6)))
    · exact (h5 b h6).imp (fun h7 => (h.fp b).2 (.inr (.inr h7))) (fun h7 => Nat.le_trans g3.size h7)
theorem first_box {w1 : World} {B : Nat} {v1 d2 : Value} {t : TypeId} (h : Boxed (w1.setCell ⟨B + 1, 0, none⟩ v1) (B + 2) t d2) : w1.cell? ⟨B + 2, 0, none⟩ = some d2 := by
  have h1 : w1.heap[B + 2]? = some (.cells #[d2] t (0, 0)) := (Below.heap_setCell _ _ _ _ (by show B + 2 ≠ B + 1; omega)).symm.trans h
  rw [block_cell h1]; rfl
theorem box_range {W : World} {b : Nat} {cs : List Value} {t : TypeId} (h : W.heap[b]? = some (.cells cs.toArray t (0, 0))) : W.rangeAt b 0 cs := fun j u hu => by rw [Nat.zero_add, block_cell h]; simpa using hu

set_option maxRecDepth 100000 in
set_option maxHeartbeats 4000000 in
theorem lpre_any (ss : List Sess) (hl : ss.length ≤ 65536) (L : List (Nat × Nat)) (hL : ∀ x ∈ L, x.2 < ss.length) (bf bq : Nat) (C : Nat → Prop) (m : Nat) (hm : m ≤ 65536) (w0 w : World) (hC : ∀ b, C b → b < w.heap.size ∧ w.heap[b]? = w0.heap[b]?)
    (hseq : ∀ n, Fo.SeqF Fence.wide n Tryz.prog 92 #[.pointer (some ⟨bf, 0, none⟩), .pointer (some ⟨bq, 0, none⟩)] (encP ss) (fun ys => ys = L) (fun p => p <+: L) C w0) :
    Calls Tryz.prog 52 #[.func (.func 92) #[] #[.pointer (some ⟨bf, 0, none⟩), .pointer (some ⟨bq, 0, none⟩)], .int .i64 m] w fun e w' => (∃ d1 d2, e = .returned (.tuple #[d1, d2]) ∧ w'.ownsRow w.heap.size 3 1 d1 (L.take m).length (farsL (L.take m)) ∧ w'.ownsRow w.heap.size 30 12 d2 (L.take m).length (sesL ss (L.take m))) ∧ Below w.heap.size w w' := by
  obtain ⟨i0, hi, hz0, hz1, hz2⟩ := info_parts vinfo_sess
  obtain ⟨j0, hj, hy0, hy1, hy2⟩ := info_parts vinfo_int
  have HSEQ := Lib.hid (hseq 8); have HC := Lib.hid hC; have HL := Lib.hid hL
  clear hseq hC hL
  have mI : (m : Int) ≤ 65536 := by omega
  refine (callsIn_wide (n := 9)).1 ?_
  refine callsIn_of_wp_marks Tryz.func52 rfl trivial ?_ rfl
  simp only [Tryz.ntmps52, List.size_toArray, List.length_cons, List.length_nil, Nat.reduceAdd, Nat.reduceSub, Array.replicate_succ, Array.replicate_zero, List.push_toArray, List.append_toArray, List.nil_append, List.cons_append]
  refine wpIn_wide.2 ?_
  go_wp2_with fail
  obtain ⟨W2, hW2⟩ : ∃ W2, W2 = ((w.alloc (.cells #[.int .i64 m] 3)).alloc (.cells #[.slice none 0 0] 82)).alloc (.cells #[.slice none 0 0] 42) := ⟨_, rfl⟩
  have hs2 : W2.heap.size = w.heap.size + 3 := by rw [hW2, World.size_alloc, World.size_alloc, World.size_alloc]
  have hb2 : Below w.heap.size w W2 := by rw [hW2]; exact (((Below.refl _ _).alloc (Nat.le_refl _) _).alloc (by simp) _).alloc (by simp; omega) _
  have hU0 : PU ss m w.heap.size w (.slice none 0 0) (.slice none 0 0) [] (fun b => b = w.heap.size + 1 ∨ b = w.heap.size + 2) W2 := by
    refine ⟨?_, ?_, World.ownsRow_nil _ _ _ _, World.ownsRow_nil _ _ _ _, Nat.zero_le _, fun b => ⟨fun h => h.imp .inl .inl, fun h => h.imp (fun h => h.elim id (fun h => by cases h)) (fun h => h.elim id (fun h => by cases h))⟩, ?_, hb2⟩
    · rw [hW2]
      have := (Boxed.new (w.alloc (.cells #[.int .i64 m] 3)) 82 (.slice none 0 0)).alloc (.cells #[.slice none 0 0] 42)
      rwa [World.size_alloc] at this
    · rw [hW2]
      have := Boxed.new ((w.alloc (.cells #[.int .i64 m] 3)).alloc (.cells #[.slice none 0 0] 82)) 42 (.slice none 0 0)
      rwa [World.size_alloc, World.size_alloc] at this
    · rw [hW2]
      exact (((Boxed.new w 3 (.int .i64 m)).alloc _).alloc _).cell
  rw [← hW2]
  have HS2 := Lib.hid hs2; have HU0 := Lib.hid hU0; have HB2 := Lib.hid hb2
  clear hs2 hU0 hb2 hW2
  refine (wpIn_wide (n := 9)).1 ?_
  refine Fo.range_foot_new (F := Fence.wide) (n := 9) rfl (by omega) (gf := 92) (lb := #[.pointer (some ⟨bf, 0, none⟩), .pointer (some ⟨bq, 0, none⟩)]) rfl trivial (enters_of Tryz.func92 (by kernel_rfl) rfl)
    HSEQ.out (fun _ => rfl) (fun b hb => ⟨by have := (HC.out b hb).1; have := HS2.out; omega, (HB2.out.block b (HC.out b hb).1).trans (HC.out b hb).2⟩)
    (fun pre Fp A => ∃ d1 d2, PU ss m w.heap.size w d1 d2 pre Fp A) (fun c pre Fp A => c = .exit 0 ∧ ∃ ini x, pre = ini ++ [x] ∧ ini.length = m ∧ ∃ d1 d2, PU ss m w.heap.size w d1 d2 ini Fp A) (fun b => b = w.heap.size + 1 ∨ b = w.heap.size + 2) (fun b hb => ⟨by have := HS2.out; omega, fun h => by have := (HC.out b h).1; omega⟩)
    ?hU ?hUx ⟨_, _, HU0.out⟩
    (fun x b => { tmps := #[.func (.func 92) #[] #[.pointer (some ⟨bf, 0, none⟩), .pointer (some ⟨bq, 0, none⟩)], .int .i64 m, undef, .pointer (some ⟨w.heap.size, 0, none⟩), .slice none 0 0, .slice none 0 0, .pointer (some ⟨w.heap.size + 1, 0, none⟩), .pointer (some ⟨w.heap.size + 2, 0, none⟩), .int .i64 (x.1 : Int), .pointer (some ⟨b, 0, none⟩), .func (.func 92) #[] #[.pointer (some ⟨bf, 0, none⟩), .pointer (some ⟨bq, 0, none⟩)], .int .i64 (x.1 : Int), .agg (csAt ss x.2).toArray, undef, undef, undef, undef, undef, undef, undef, undef, undef, undef, undef, undef, undef, undef], defers := [] })
    (fun x => .cells (csAt ss x.2).toArray 30)
    ?assign ?body ?done ?stop
  case hU =>
    rintro pre Fp A A' row ⟨d1, d2, h1⟩ hsz hg hrow
    exact ⟨d1, d2, h1.turn hg (fun r e => ⟨by have := (hrow r e).1; have := HS2.out; omega, (hrow r e).2⟩)⟩
  case hUx =>
    rintro c pre Fp A A' row ⟨rfl, ini, x, h0, h1, d1, d2, h2⟩ hsz hg hrow
    exact ⟨rfl, ini, x, h0, h1, d1, d2, h2.turn hg (fun r e => ⟨by have := (hrow r e).1; have := HS2.out; omega, (hrow r e).2⟩)⟩
  case assign =>
    rintro l2 x A K ⟨pre, hpre⟩ hK
    have hin : x.2 < ss.length := HL.out x (hpre.subset (by simp))
    unfold encP
    obtain ⟨cs, hcs⟩ : ∃ cs, cs = csAt ss x.2 := ⟨_, rfl⟩
    have HCL : Hid (cs.length = 12) := by show _ = _; rw [hcs]; exact cs_len hin
    have HC1 : Hid (∀ u ∈ cs, u.oneCell' = true) := by show ∀ _, _; rw [hcs, csAt_at hin]; exact ss[x.2].one
    rw [← hcs] at hK ⊢
    clear hcs hin hpre
    gi_wp2_with (refine Ag.wpListIn_store_new (by rfl) 30 (.tmp 9) (.tmp 12) (by rfl) cs (by rfl) (by rfl) (by rw [HCL.out]; kernel_rfl) (by rw [HCL.out]; rfl) HC1.out ?_)
    exact hK
  case body =>
    intro l2 pre x Fp b A hu hszA hpre hold hbA hbb
    have hin : x.2 < ss.length := HL.out x (hpre.subset (by simp))
    obtain ⟨d1, d2, hu⟩ := hu
    obtain ⟨q1, r1, rfl, -⟩ := own_any_shape hu.r1
    obtain ⟨q2, r2, rfl, -⟩ := own_any_shape hu.r2
    have hc1 := hu.b1.cell
    have hc2 := hu.b2.cell
    have hmst := hu.mst
    have h3 := hu.le
    have hbB : w.heap.size + 3 ≤ b := by
      obtain ⟨A0, -, h7, h8⟩ := hold
      have := HS2.out; omega
    obtain ⟨cs, hcs⟩ : ∃ cs, cs = csAt ss x.2 := ⟨_, rfl⟩
    have HCL : Hid (cs.length = 12) := by show _ = _; rw [hcs]; exact cs_len hin
    have HC1 : Hid (∀ u ∈ cs, u.oneCell' = true) := by show ∀ _, _; rw [hcs, csAt_at hin]; exact ss[x.2].one
    rw [← hcs] at hbb ⊢
    have HU := Lib.hid hu
    have HP1 := Lib.hid (fun (v1 : Value) (w1 : World) (o1 : Obj) (ys : List Value) (k : Nat) => PU.first (v1 := v1) (w1 := w1) (o1 := o1) (ys := ys) (k := k) hu hbb hbB)
    have HP2 := Lib.hid (fun (hm : pre.length < m) (v1 v2 : Value) (w2 w3 : World) (o2 : Obj) => PU.push (x := x) (v1 := v1) (v2 := v2) (w2 := w2) (w3 := w3) (o2 := o2) hu hm)
    rw [← hcs] at HP2
    have HSZ := Lib.hid hszA
    obtain ⟨K, hK⟩ : ∃ K, K = pre.length := ⟨_, rfl⟩
    have HK := Lib.hid hK
    have hr1 := hu.r1
    rw [← hK] at hc1 hc2 h3 HP1 HP2 hr1
    have H1K := Lib.hid hr1
    clear hu hbb hcs hin hszA hold hbB hr1
    by_cases hm2 : K < m
    · have b1 : (K : Int) < (m : Int) := by omega
      have am1 : K + 1 ≤ maxLen := by unfold maxLen; omega
      have am2 : (K + 1) * 112 ≤ 140737488355328 := by omega
      have am3 : (K + 1) * 8 ≤ 140737488355328 := by omega
      have k3 : w.heap.size + 3 ≤ (A.alloc (.cells #[.int .i64 (x.1 : Int)] 3)).heap.size := by have := HSZ.out; have := HS2.out; simp; omega
      have HP3 := Lib.hid (HP2.out hm2)
      have hd : decide (m ≤ K) = false := decide_eq_false (by omega)
      clear hm2 hK h3 HP2
      gi_wp2_with (first
        | (refine Ag.wpListIn_load (by rfl) 30 _ (by rfl) _ _ (by rfl) cs _ HRG.out Tryz.underlying30 rfl (by rw [HCL.out]; kernel_rfl) ?_)
        | (refine Ag.wpListIn_one (by rfl) 42 30 _ (by rfl) cs (by rfl) i0 _ Tryz.underlying42 hi hz0 (by rw [hz1]; exact HCL.out) (by rw [hz1]; decide) (by rw [hz1]; decide) ?_)
        | (gi_at_builtin; (refine wpListIn_append_own_at _ rfl _ _ 82 rfl (w.heap.size + 3) 3 j0 (.int .i64 0) 1 8 Tryz.underlying82 hj hy0 hy1 hy2 rfl (by decide) _ _ _ rfl (H1K.out.alloc _) ⟨A.heap.size, 0, none⟩ 1 1 [.int .i64 (x.1 : Int)] rfl rfl (World.news_of_block (Ut.alloc_at _ _)) (by intro u hu; rw [List.mem_singleton.1 hu]; rfl) am1 am3 k3 ?_); (intro v1 w1 hown' hgrow hnil hat; obtain ⟨q', r', rfl, -⟩ := own_any_shape hown'; obtain ⟨hb1, hn1⟩ := HP1.out _ _ _ _ _ hown' hgrow hat; (have hc1' := hb1.cell); (have hf1 := hb1.frozen); obtain ⟨g1, g2, g3, g4, g5, g6, g7, g8⟩ := hn1 _ rfl; (have hc2' := first_box g5); (have HRG := Lib.hid (box_range g7)); (have H2K := Lib.hid g6); (have HP4 := Lib.hid (fun (v2 : Value) (w3 : World) (o2 : Obj) => HP3.out _ v2 _ w3 o2 g1 g2 g3 g4 g5 g6)); (have k4 := Lib.hid g8); clear hown' hgrow hat hn1 hb1 hnil g1 g2 g3 g4 g5 g6 g7 g8))
        | (gi_at_builtin; (refine wpListIn_append_own_at _ rfl _ _ 42 rfl (w.heap.size + 3) 30 i0 (.agg #[.int .i64 0, .int .i64 0, .int .i64 0, .int .i64 0, .int .i64 0, .string ByteArray.empty, .string ByteArray.empty, .int .u64 0, .int .i64 0, .int .i64 0, .int .i64 0, .int .i64 0]) 12 112 Tryz.underlying42 hi hz0 hz1 hz2 rfl (by decide) _ _ _ rfl (H2K.out.alloc _) ⟨_, 0, none⟩ 1 1 cs rfl HCL.out (World.news_of_block (Ut.alloc_at _ _)) HC1.out am1 am2 (by rw [World.size_alloc]; exact Nat.le_succ_of_le k4.out) ?_); (intro v2 w3 hown' hgrow hnil hat; obtain ⟨q'', r'', rfl, -⟩ := own_any_shape hown'; obtain ⟨hb1, Fp', hn1⟩ := HP4.out _ _ _ hown' hgrow hat; (have hc3' := hb1.cell); (have hf3 := hb1.frozen); (have HN := Lib.hid hn1); clear hown' hgrow hat hn1 hb1 hnil)))
      exact ⟨Fp', ⟨_, _, HN.out.1⟩, HN.out.2.1, HN.out.2.2⟩
    · have b1 : (m : Int) ≤ (K : Int) := by omega
      have HM : Hid (K = m) := by show _ = _; omega
      have hd : decide (m ≤ K) = true := decide_eq_true (by omega)
      clear hm2 hK h3 HP1 HP2
      gi_wp2
      exact ⟨Fp, ⟨rfl, pre, x, rfl, HK.out.symm.trans HM.out, _, _, HU.out⟩, Only.refl _ _, fun b h => .inl h⟩
  case done =>
    rintro D ys Fp A rfl hD ⟨d1, d2, hu⟩ hnf hK
    have hc1 := hu.b1.cell
    have hc2 := hu.b2.cell
    go_wp2_with fail
    go_quiet (fail)
    go_wp2
    refine ⟨by simp, .inl ⟨_, _, rfl, run_takeDeferred (show (A.drewN nq).heap[D]? = _ from hK), ?_⟩⟩
    obtain ⟨k1, k2, k3⟩ := (hu.turn (row := none) (A' := A.drewN nq) ⟨rfl, rfl, rfl, Nat.le_refl _, fun _ _ _ => rfl⟩ (fun r e => by cases e)).fin (grownBy_putObj' (A.drewN nq) D (.deferred none)) (fun r e => by cases e; exact ⟨by have := HS2.out; omega, hnf⟩)
    have e : ys.take m = ys := List.take_of_length_le hu.le
    rw [e]
    exact ⟨_, results_tmp2 rfl _ _ _, ⟨d1, d2, rfl, k1, k2⟩, k3⟩
  case stop =>
    rintro D c pre Fp A hSp hD ⟨rfl, ini, x, rfl, hlen, d1, d2, hu⟩ hnf hK
    have hc1 := hu.b1.cell
    have hc2 := hu.b2.cell
    gi_wp2
    go_wp2_with fail
    go_quiet (fail)
    go_wp2
    refine ⟨by simp, .inl ⟨_, _, rfl, run_takeDeferred (show (A.drewN nq).heap[D]? = _ from hK), ?_⟩⟩
    obtain ⟨k1, k2, k3⟩ := (hu.turn (row := none) (A' := A.drewN nq) ⟨rfl, rfl, rfl, Nat.le_refl _, fun _ _ _ => rfl⟩ (fun r e => by cases e)).fin (grownBy_putObj' (A.drewN nq) D (.deferred none)) (fun r e => by cases e; exact ⟨by have := HS2.out; omega, hnf⟩)
    have e : L.take m = ini := by
      have h7 := pre_take ((List.prefix_append ini [x]).trans hSp)
      rw [hlen] at h7; exact h7.symm
    rw [e]
    exact ⟨_, results_tmp2 rfl _ _ _, ⟨d1, d2, rfl, k1, k2⟩, k3⟩
end Vw
end Go.Proofs.YtocoonkachbjaaaGreatDoor

/- More of XHeldIn: no panic is met; a store; an append; a load of a whole struct. No program's code. -/
namespace Go.Proofs.YtocoonkachbjaaaGreatDoor
open Go.RowKit
set_option linter.unusedVariables false
namespace Hi
variable {F : Fence} {n : Nat} {P : Program} {ops : Array Oper} {Q : Exit → Act → World → Prop} {md : Region.Mode} {S : World → Prop} {Z : Nat → Bool}
/-- No panic is met. -/
def NoP (Q : Exit → Act → World → Prop) : Exit → Act → World → Prop
  | .panic _, _, _ => False
  | e, a, w => Q e a w
theorem nop {c : Code} {a : Act} {w : World} (h : c.wpIn F n P (NoP Q) a w) : c.wpIn F n P Q a w := wpIn_mono h (fun e a w h => by cases e <;> first | exact h | exact h.elim)
theorem nop_normal {a : Act} {w : World} (h : Q .normal a w) : NoP Q .normal a w := h
/-- The one operation that may come up has no slot. -/
theorem eff_ {i : Nat} {oi : Oper} {fuel : Nat} {listed : Array Bool} {t : List Value} {d : List Deferred} {w w' : World} (hF : ∀ f, F.fn f) (hnd : ∀ c, oi.op ≠ .defer c) (hi : ops[i]? = some oi) (hk : oi.dst = none)
    (hr : Region.ready md ops listed = [i]) (hw : Region.wanted oi (yielded ops t.toArray) = true) (hrun : (execOp (Act.eval { tmps := t.toArray, defers := d }) oi).run P w = .ok .skip w') (hS : Z i = false → S w')
    (h : AnyH F n P md ops Q S Z fuel (listed.setIfInBounds i true) { tmps := t.toArray, defers := d } w') : AnyH F n P md ops Q S Z (fuel + 1) listed { tmps := t.toArray, defers := d } w := by
  refine room (k := 0) hi hr hw ⟨fun f _ => hF f, ?_⟩
  rw [Oper.semAt_eq _ _ _ hnd, hrun]
  refine ⟨hS, ?_⟩
  rw [hk]
  exact h
theorem exec_append {w : World} {a : Act} {o : Oper} (s x : Operand) (t : TypeId) (ho : o.op = .call { callee := .builtin .append, args := #[s, x], argTypes := #[t, t] }) (v u : Value) (hs : a.eval s = v) (hx : a.eval x = u) (v' : Value) (w' : World)
    (hr : (Builtin.append_ #[t, t] o.type #[v, u]).run P w = .ok v' w') : (execOp a.eval o).run P w = .ok (.value v') w' := by
  unfold execOp
  simp only [ho, resolve, invoke, builtin, Sem.run_bind, Sem.run_pure, Result.andThen_ok, List.map_toArray, List.map_cons, List.map_nil, hs, hx, hr]
theorem exec_load_row {w : World} {a : Act} {o : Oper} (ty : TypeId) (x : Operand) (ho : o.op = .load ty x) (g : Nat) (hx : a.eval x = .pointer (some ⟨g, 0, none⟩)) (t : TypeId) (cs : Array Value) (fr : Nat × Nat) (d : TypeDesc) (hg : w.heap[g]? = some (.cells cs t fr))
    (hu : P.underlying ty = some d) (hd : (match d with | .struct _ | .array _ _ => true | _ => false) = true) (hi : (P.info? ty).map (·.size) = some cs.size) : (execOp a.eval o).run P w = .ok (.value (.agg cs)) w := by
  unfold execOp
  simp only [ho, hx, Instr.loadAt, Instr.sureAddr, Sem.run_bind, Sem.run_pure, Result.andThen_ok, run_loadVar_row w g t ty cs fr d hg hu hd hi]
end Hi
end Go.Proofs.YtocoonkachbjaaaGreatDoor
