/- forest.walk and its iterator. -/
import Derived.Test.YtocoonkachbjaaaVwDown
import Derived.Test.YtocoonkachbjaaaFoot
import Derived.Laws.EntriesVeiled
namespace Go.Proofs.Ytocoonkachbjaaa
open Go.RowKit Go.Maps
set_option linter.unusedVariables false
namespace Vw
attribute [local go_sem] Oper.semAt_some

set_option maxHeartbeats 4000000 in
theorem walk1_seq (n : Nat) (ss : List Sess) (hl : ss.length ≤ 65536) (d : Value) (g : Nat) (vs : Nat → Value) (bf bq : Nat) (v : Value) (ls : List Nat) (hll : ls.length ≤ 65536) (hls : ∀ i ∈ ls, i < ss.length) (C : Nat → Prop) (w : World)
    (hC : ∀ W, (∀ b, C b → b < W.heap.size ∧ W.heap[b]? = w.heap[b]?) → FW ss d g vs W ∧ W.cell? ⟨bf, 1, none⟩ = some (.slice (some ⟨g, 0, none⟩) (ss.length + 1) (ss.length + 1)) ∧ W.cell? ⟨bq, 0, none⟩ = some v ∧ In.IntArg W v (ints ls)) :
    Fo.SeqF Fence.wide n Try.prog 30 #[.pointer (some ⟨bf, 0, none⟩), .pointer (some ⟨bq, 0, none⟩)] encF (fun ys => ys = Vt.pre (kidsF ss) (ss.length + 1) 0 ls) (fun p => p <+: Vt.pre (kidsF ss) (ss.length + 1) 0 ls) C w := by
  intro l J Jx W Fp0 hCW hFp hJ hJx hY h0
  obtain ⟨W1, hW1⟩ : ∃ W1, W1 = (W.alloc (.cells #[.func (.yield l) #[] #[]] 62)).alloc (.cells #[.func (.func 31) #[] #[.pointer (some ⟨W.heap.size, 0, none⟩), .pointer (some ⟨W.heap.size + 1, 0, none⟩), .pointer (some ⟨bf, 0, none⟩)]] 63) := ⟨_, rfl⟩
  have hs1 : W1.heap.size = W.heap.size + 2 := by rw [hW1, World.size_alloc, World.size_alloc]
  have hb1 : Below W.heap.size W W1 := by rw [hW1]; exact ((Below.refl _ _).alloc (Nat.le_refl _) _).alloc (by simp) _
  have cy : W1.heap[W.heap.size]? = some (.cells #[.func (.yield l) #[] #[]] 62 (0, 0)) := by rw [hW1, al_old (by simp)]; exact Ut.alloc_at _ _
  have cd : W1.heap[W.heap.size + 1]? = some (.cells #[.func (.func 31) #[] #[.pointer (some ⟨W.heap.size, 0, none⟩), .pointer (some ⟨W.heap.size + 1, 0, none⟩), .pointer (some ⟨bf, 0, none⟩)]] 63 (0, 0)) := by
    rw [hW1]
    have := Ut.alloc_at (W.alloc (.cells #[.func (.yield l) #[] #[]] 62)) (.cells #[.func (.func 31) #[] #[.pointer (some ⟨W.heap.size, 0, none⟩), .pointer (some ⟨W.heap.size + 1, 0, none⟩), .pointer (some ⟨bf, 0, none⟩)]] 63)
    rwa [World.size_alloc] at this
  obtain ⟨I, hI⟩ : ∃ I : Nat → Prop, I = fun b => C b ∨ b = W.heap.size ∨ b = W.heap.size + 1 := ⟨_, rfl⟩
  have hIl : ∀ b, I b → b < W1.heap.size := fun b hb => by
    rw [hI] at hb
    rcases hb with hb | hb | hb
    · have := (hCW b hb).1; omega
    · omega
    · omega
  have hG : ∀ A : World, (∀ b, I b → b < A.heap.size ∧ A.heap[b]? = W1.heap[b]?) → (FW ss d g vs A ∧ A.cell? ⟨W.heap.size, 0, none⟩ = some (.func (.yield l) #[] #[]) ∧ A.cell? ⟨W.heap.size + 1, 0, none⟩ = some (.func (.func 31) #[] #[.pointer (some ⟨W.heap.size, 0, none⟩), .pointer (some ⟨W.heap.size + 1, 0, none⟩), .pointer (some ⟨bf, 0, none⟩)]) ∧
      A.cell? ⟨bf, 1, none⟩ = some (.slice (some ⟨g, 0, none⟩) (ss.length + 1) (ss.length + 1))) ∧ A.cell? ⟨bq, 0, none⟩ = some v ∧ In.IntArg A v (ints ls) := fun A hA => by
    have h1 := hC A (fun b hb => by
      have h2 := hA b (by rw [hI]; exact .inl hb)
      exact ⟨h2.1, h2.2.trans ((hb1.block b (hCW b hb).1).trans (hCW b hb).2)⟩)
    have h3 := hA W.heap.size (by rw [hI]; exact .inr (.inl rfl))
    have h4 := hA (W.heap.size + 1) (by rw [hI]; exact .inr (.inr rfl))
    exact ⟨⟨h1.1, by rw [block_cell (h3.2.trans cy)]; rfl, by rw [block_cell (h4.2.trans cd)]; rfl, h1.2.1⟩, h1.2.2⟩
  have hJ1 : J [] Fp0 W1 := hJ _ _ _ _ none h0 (Nat.le_refl _) ⟨hb1.os, hb1.tape, hb1.output, hb1.size, fun k hk _ => hb1.block k hk⟩ (fun r e => by cases e)
  have hself : ∀ b, I b → b < W1.heap.size ∧ W1.heap[b]? = W1.heap[b]? := fun b hb => ⟨hIl b hb, rfl⟩
  have hD := down_in ss hl d g vs l W.heap.size (W.heap.size + 1) bf (fun A => ∀ b, I b → b < A.heap.size ∧ A.heap[b]? = W1.heap[b]?) (fun A h => h) (fun A h => (hG A h).1)
    (fun pre A => ∃ Fp, J pre Fp A ∧ W1.heap.size ≤ A.heap.size ∧ ∀ b, I b → ¬ Fp b) (fun pre A => ∃ Fp, Jx pre Fp A)
    (fun pre A ⟨Fp, h1, h2, h3⟩ => ⟨Fp, hJ _ _ _ _ none h1 (by omega) ⟨rfl, rfl, rfl, Nat.le_refl _, fun _ _ _ => rfl⟩ (fun r e => by cases e), h2, h3⟩) (Vt.pre (kidsF ss) (ss.length + 1) 0 ls)
    (fun pre x A ⟨Fp, h1, h2, h3⟩ hGA hlen => by
      obtain ⟨fn, tmps, assign, body, hy, hR⟩ := hY pre x Fp A h1 (by omega) hlen
      refine ⟨fn, tmps, assign, body, hy, (Hi.round_any hR).mono ?_⟩
      rintro e W' (⟨rfl, Fp', k1, k2, k3⟩ | ⟨rfl, Fp', k1, -, -⟩)
      · refine .inl ⟨rfl, ⟨Fp', k1, by have := k2.size; omega, fun b hb hf => ?_⟩, fun b hb => ?_⟩
        · rcases k3 b hf with h | h
          · exact h3 b hb h
          · have := hIl b hb; omega
        · have h4 := hGA b hb
          exact ⟨by have := k2.size; omega, (k2.block b h4.1 (h3 b hb)).trans h4.2⟩
      · exact .inr ⟨rfl, Fp', k1⟩)
    (ss.length + 1) 0 v ls [] W1 hll (by omega) (fun A h => (hG A h).2.2) (fun i hi => ⟨hls i hi, by omega⟩) ⟨Fp0, hJ1, Nat.le_refl _, fun b hb hf => by
      have h5 := hFp b hf
      rw [hI] at hb
      rcases hb with hb | hb | hb
      · exact h5.2 hb
      · omega
      · omega⟩ hself (by simp)
  unfold DownP at hD
  have HD := Lib.hid hD
  have cq := (hG W1 hself).2.1
  have cd0 : W1.cell? ⟨W.heap.size + 1, 0, none⟩ = _ := (hG W1 hself).1.2.2.1
  have HW1 := Lib.hid hW1
  rw [hW1] at cq cd0
  clear hD hG hself hJ1 hIl hI cy cd hb1 hs1 hY hJ hJx hFp hCW h0 hC hls
  refine callsIn_of_wp Try.func30 rfl trivial ?_ rfl
  simp only [Try.ntmps30, List.size_toArray, List.length_cons, List.length_nil, Nat.reduceAdd, Nat.reduceSub, Array.replicate_succ, Array.replicate_zero, List.push_toArray, List.append_toArray, List.nil_append, List.cons_append]
  clear hW1
  gi_wp2_with fail
  rw [← HW1.out]
  refine ⟨trivial, fun h => by simp [Fence.wide] at h, (Hi.calls_any HD.out).mono ?_⟩
  rintro e W2 (⟨rfl, ⟨Fp, hj, -, -⟩, -⟩ | ⟨rfl, p, hp, Fp, hj⟩)
  · gi_wp2
    go_end0
    exact ⟨⟨_, rfl⟩, .inl ⟨_, Fp, rfl, by simpa using hj⟩⟩
  · gi_wp2
    go_end0
    exact ⟨⟨_, rfl⟩, .inr ⟨p, Fp, hp, by simpa using hj⟩⟩

/-- forest.walk. -/
theorem walk_any (qd qk qv : Option Addr) (nd cd nk ck n c : Nat) (w : World) :
    Calls Try.prog 20 #[.agg #[.slice qd nd cd, .slice qk nk ck], .slice qv n c] w fun e w' => e = .returned (.func (.func 30) #[] #[.pointer (some ⟨w.heap.size, 0, none⟩), .pointer (some ⟨w.heap.size + 1, 0, none⟩)]) ∧
      w' = (w.alloc (.cells #[.slice qd nd cd, .slice qk nk ck] 48)).alloc (.cells #[.slice qv n c] 31) := by
  go_enter Try.func20, Try.ntmps20
  go_wp2
  go_ret
  exact ⟨rfl, rfl⟩
end Vw
end Go.Proofs.Ytocoonkachbjaaa
