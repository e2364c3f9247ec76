/- An expiry's examples: calls of an expiry, one behind the other; what lies where while what is due is collected. -/
import Derived.Test.YtkmgpajodbadmaaEoMem
import Derived.Test.YtkmgpajodbadmaaExpNext
import Derived.Test.YtkmgpajodbadmaaLinks
namespace Go.Proofs.Ytkmgpajodbadmaa
open Go.RowKit Go.Shelf
set_option linter.unusedVariables false
namespace Ex
open Hp (It)

structure KE (lo E : Nat) (w0 : World) (Ds : List Nat) (S : List Ent) (N : Nat) (F : Nat → Prop) (w : World) : Prop where
  exp : ExpAt lo E N S F w
  bel : Below w0.heap.size w0 w
  low : w0.heap.size ≤ lo ∧ lo ≤ w.heap.size
  dk : ∀ d ∈ Ds, E ≤ d ∧ w.heap[d]? = some (.deferred (some []))

theorem KE.below {lo E : Nat} {w0 : World} {Ds : List Nat} {S : List Ent} {N : Nat} {F : Nat → Prop} {w w' : World} (h : KE lo E w0 Ds S N F w) (hb : Below w.heap.size w w') : KE lo E w0 Ds S N F w' :=
  ⟨h.exp.below hb, h.bel.trans (hb.mono h.bel.size), ⟨h.low.1, Nat.le_trans h.low.2 hb.size⟩, fun d hd => ⟨(h.dk d hd).1, (hb.block d (Array.getElem?_eq_some_iff.1 (h.dk d hd).2).1).trans (h.dk d hd).2⟩⟩
theorem KE.turn {lo E : Nat} {w0 : World} {Ds : List Nat} {S S' : List Ent} {N N' : Nat} {F F' : Nat → Prop} {w w' : World} (h : KE lo E w0 Ds S N F w) (hx : ExpAt lo E N' S' F' w') (ho : Only F w w') : KE lo E w0 Ds S' N' F' w' :=
  ⟨hx, h.bel.trans (ho.below h.bel.size (fun i hi hf => by have := (h.exp.lt i hf).1; have := h.low; omega)), ⟨h.low.1, Nat.le_trans h.low.2 ho.size⟩, fun d hd => ⟨(h.dk d hd).1, (ho.block d (Array.getElem?_eq_some_iff.1 (h.dk d hd).2).1 (fun hf => by
    obtain ⟨o', h3, h4⟩ := h.exp.isCells hf (h.dk d hd).1
    rw [(h.dk d hd).2] at h3; cases h3; cases h4)).trans (h.dk d hd).2⟩⟩
theorem ke_set {lo E : Nat} {w0 : World} {Ds : List Nat} {S : List Ent} {N : Nat} {F : Nat → Prop} {w : World} (h : KE lo E w0 Ds S N F w) (hN : N ≤ 1000) (s b a : Int) (hok : okE s b a) (S' : List Ent) (hS : put (wo S s) (s, b, a) = S') :
    Calls Try.prog 21 #[.pointer (some ⟨E, 0, none⟩), .agg #[.int .i64 s, .int .i64 b], .int .i64 a] w fun e w' => e = .returned .nilIface ∧ ∃ F', KE lo E w0 Ds S' (N + 1) F' w' :=
  (eset_ok lo E N S F w h.exp h.low.2 (by omega) s b a hok).mono fun e w' ⟨he, F', hx, ho, _⟩ => ⟨he, F', h.turn (by rw [← hS]; exact hx) ho⟩
theorem ke_no {lo E : Nat} {w0 : World} {Ds : List Nat} {S : List Ent} {N : Nat} {F : Nat → Prop} {w : World} (h : KE lo E w0 Ds S N F w) (s b a : Int) (hok : ¬ okE s b a) :
    Calls Try.prog 21 #[.pointer (some ⟨E, 0, none⟩), .agg #[.int .i64 s, .int .i64 b], .int .i64 a] w fun e w' => e = .returned (.iface 78 (.int .i64 1)) ∧ KE lo E w0 Ds S N F w' :=
  (eset_no E s b a hok w).mono fun e w' ⟨he, hb⟩ => ⟨he, h.below hb⟩
theorem ke_next {lo E : Nat} {w0 : World} {Ds : List Nat} {S : List Ent} {N : Nat} {F : Nat → Prop} {w : World} (h : KE lo E w0 Ds S N F w) (d : Int) (q : Bool) (hd : nextV S = d) (hq : (!S.isEmpty) = q) :
    Calls Try.prog 23 #[.pointer (some ⟨E, 0, none⟩)] w fun e w' => e = .returned (.tuple #[.int .i64 d, .bool q]) ∧ KE lo E w0 Ds S N F w' :=
  (enext_any lo E N S F w h.exp).mono fun e w' ⟨he, hb⟩ => ⟨by rw [he, hd, hq], h.below hb⟩
theorem ke_forget {lo E : Nat} {w0 : World} {Ds : List Nat} {S : List Ent} {N : Nat} {F : Nat → Prop} {w : World} (h : KE lo E w0 Ds S N F w) (s : Int) (hs : (Lit.int .i64 s).wf = true) (q : Bool) (S' : List Ent) (hq : (birthOf S s).isSome = q) (hS : wo S s = S') :
    Calls Try.prog 24 #[.pointer (some ⟨E, 0, none⟩), .int .i64 s] w fun e w' => e = .returned (.bool q) ∧ ∃ F', KE lo E w0 Ds S' N F' w' :=
  (eforget_any lo E N S F w h.exp h.low.2 s hs).mono fun e w' ⟨he, F', hx, ho, _⟩ => ⟨by rw [he, hq], F', h.turn (by rw [← hS]; exact hx) ho⟩

/-! while what is due is collected -/
def links (l : List It) : List Value := l.flatMap fun x => [.int .i64 x.1, .int .i64 x.2]
theorem links_snoc (l : List It) (x : It) : links (l ++ [x]) = links l ++ [.int .i64 x.1, .int .i64 x.2] := by simp [links]
theorem link_info : (Try.prog.info? 52).map (fun i => (i.zero, i.size, i.bytes)) = some (some (.agg #[.int .i64 0, .int .i64 0]), 2, 16) := by kernel_rfl
theorem own_any_sh {w : World} {base e size n : Nat} {v : Value} {xs : List Value} (h : w.ownsRow base e size v n xs) : ∃ q r, v = .slice q n r := by
  rcases h.2 with ⟨rfl, rfl⟩ | ⟨g, cap, cur, rfl, _⟩
  · exact ⟨_, _, rfl⟩
  · exact ⟨_, _, rfl⟩

structure EkAt (lo E : Nat) (w w1 : World) (tb c : Nat) (now : Int) (S : List Ent) (q N : Nat) (F : Nat → Prop) (v : Value) (pre : List It) (W : World) : Prop where
  exp : ExpAt lo E N (S.drop q) F W
  box : Lies [(tb, .cells #[v] 59 (0, 0)), (c, .cells #[.pointer (some ⟨E, 0, none⟩)] 47 (0, 0)), (c + 1, .cells #[.int .i64 now] 3 (0, 0))] W
  row : W.ownsRow w1.heap.size 52 2 v pre.length (links pre)
  far : ∀ j, (j = tb ∨ j = c ∨ j = c + 1) → ¬ F j
  farv : ∀ b, v.ownBlock = some b → ¬ F b
  bel : Below w.heap.size w W
  size : w1.heap.size ≤ W.heap.size
  place : (∀ j, (j = tb ∨ j = c ∨ j = c + 1) → w.heap.size ≤ j ∧ j < w1.heap.size) ∧ tb ≠ c ∧ tb ≠ c + 1 ∧ E < w1.heap.size ∧ lo ≤ w1.heap.size ∧ w.heap.size ≤ lo
  early : ∀ e ∈ S.take pre.length, e.2.2 ≤ now
  pfx : pre = (S.take pre.length).map pr

section
variable {lo E : Nat} {w w1 : World} {tb c : Nat} {now : Int} {S : List Ent} {q N : Nat} {F : Nat → Prop} {v : Value} {pre : List It} {W W' : World}
theorem EkAt.below (h : EkAt lo E w w1 tb c now S q N F v pre W) (hb : Below W.heap.size W W') : EkAt lo E w w1 tb c now S q N F v pre W' :=
  ⟨h.exp.below hb, h.box.below hb, Ut.own_below h.row hb, h.far, h.farv, h.bel.trans (hb.mono h.bel.size), Nat.le_trans h.size hb.size, h.place, h.early, h.pfx⟩
theorem EkAt.turned {row : Option Nat} (h : EkAt lo E w w1 tb c now S q N F v pre W) (hg : W.grownBy W' row) (hr : ∀ j, row = some j → w1.heap.size ≤ j ∧ ∃ o : Obj, W.heap[j]? = some o ∧ o.isCells = false) : EkAt lo E w w1 tb c now S q N F v pre W' := by
  obtain ⟨p1, p2, p3, p4, p5, p6⟩ := h.place
  have ho : Only (fun k => row = some k) W W' := (Only.refl (fun k => row = some k) W).grown hg (fun k _ e => e)
  refine ⟨h.exp.turned hg (fun j e => ⟨by have := (hr j e).1; omega, (hr j e).2⟩), h.box.turned (fun p hp => by simp only [List.mem_cons, List.not_mem_nil, or_false] at hp; rcases hp with rfl | rfl | rfl <;> rfl) hg (fun j e => (hr j e).2), ho.row h.row (fun k hk e => ?_), h.far, h.farv, h.bel.grown hg h.bel.size (fun j e => by have := (hr j e).1; have := p1 tb (.inl rfl); omega), Nat.le_trans h.size hg.size, h.place, h.early, h.pfx⟩
  obtain ⟨_, o, h1, h2⟩ := hr k e
  obtain ⟨o', h3, h4⟩ := own_isCells h.row hk
  rw [h1] at h3; cases h3; rw [h2] at h4; cases h4
theorem EkAt.exps {q' N' : Nat} {F' : Nat → Prop} (h : EkAt lo E w w1 tb c now S q N F v pre W) (hx : ExpAt lo E N' (S.drop q') F' W') (ho : Only F W W') (hn : ∀ j, F' j → F j ∨ W.heap.size ≤ j) : EkAt lo E w w1 tb c now S q' N' F' v pre W' := by
  obtain ⟨p1, p2, p3, p4, p5, p6⟩ := h.place
  refine ⟨hx, h.box.only ho (fun p hp => h.far _ (by simp only [List.mem_cons, List.not_mem_nil, or_false] at hp; rcases hp with rfl | rfl | rfl <;> simp)), ho.row h.row h.farv, fun j hj hf => ?_, fun b hb hf => ?_, h.bel.trans (ho.below h.bel.size (fun i hi hf => ?_)), Nat.le_trans h.size ho.size, h.place, h.early, h.pfx⟩
  · rcases hn j hf with e | e
    · exact h.far j hj e
    · have h1 := (p1 j hj).2
      have h2 := h.size
      omega
  · rcases hn b hf with e | e
    · exact h.farv b hb e
    · have := (h.row.lt b hb).2; omega
  · have := (h.exp.lt i hf).1; omega
theorem ek_lie {v v' : Value} {W : World} {o : Obj} (h : v'.ownBlock = v.ownBlock ∨ v'.ownBlock = some (W.alloc o).heap.size) : ∀ b, v'.ownBlock = some b → v.ownBlock = some b ∨ W.heap.size ≤ b := fun b hb => by
  rcases h with e | e
  · rw [e] at hb; exact .inl hb
  · rw [e] at hb; cases hb; right; simp
/-- Behind the append and the store of a round. -/
theorem EkAt.next (h : EkAt lo E w w1 tb c now S q N F v pre W) {y : It} (hk : pre.length < S.length) (hy : y = pr S[pre.length]) (hle : S[pre.length].2.2 ≤ now) {o : Obj} {v' : Value} {w5 : World} (hg : (W.alloc o).grownBy w5 v.ownBlock) (hown : w5.ownsRow w1.heap.size 52 2 v' (pre.length + 1) (links pre ++ [.int .i64 y.1, .int .i64 y.2]))
    (hv' : ∀ b, v'.ownBlock = some b → v.ownBlock = some b ∨ W.heap.size ≤ b) :
    EkAt lo E w w1 tb c now S q N F v' (pre ++ [y]) (w5.setCell ⟨tb, 0, none⟩ v') ∧ KeepsFrom w1.heap.size W (w5.setCell ⟨tb, 0, none⟩ v') := by
  obtain ⟨p1, p2, p3, p4, p5, p6⟩ := h.place
  have hvb : ∀ b, v.ownBlock = some b → w1.heap.size ≤ b ∧ b < W.heap.size := fun b hb => h.row.lt b hb
  have ho1 : Only (fun k => v.ownBlock = some k) W w5 := ((Only.refl (fun k => v.ownBlock = some k) W).alloc o).grown hg (fun k _ e => e)
  have ho2 : Only (fun k => k = tb) w5 (w5.setCell ⟨tb, 0, none⟩ v') := (Only.refl (fun k => k = tb) w5).setCell (p := ⟨tb, 0, none⟩) (fun _ => rfl) _
  have ho : Only (fun k => v.ownBlock = some k ∨ k = tb) W (w5.setCell ⟨tb, 0, none⟩ v') := (ho1.mono (G := fun k => v.ownBlock = some k ∨ k = tb) (fun _ _ e => .inl e)).trans ho2 (fun _ _ e => .inr e)
  have e1 : (pre ++ [y]).length = pre.length + 1 := by simp
  have htb := p1 tb (.inl rfl)
  have hb5 : Lies [(tb, .cells #[v] 59 (0, 0)), (c, .cells #[.pointer (some ⟨E, 0, none⟩)] 47 (0, 0)), (c + 1, .cells #[.int .i64 now] 3 (0, 0))] w5 := h.box.only ho1 (fun p hp e => by
    have h1 := (hvb _ e).1
    simp only [List.mem_cons, List.not_mem_nil, or_false] at hp
    rcases hp with rfl | rfl | rfl
    · omega
    · have := (p1 c (.inr (.inl rfl))).2; simp only at h1; omega
    · have := (p1 (c + 1) (.inr (.inr rfl))).2; simp only at h1; omega)
  have hset := hb5.set (fun p hp => by simp only [List.mem_cons, List.not_mem_nil, or_false] at hp; rcases hp with rfl | rfl <;> simp <;> omega) 0 v'
  have hvt : ∀ b, v'.ownBlock = some b → b ≠ tb := fun b hb => by
    rcases hv' b hb with e | e
    · have := (hvb b e).1; omega
    · have := h.size; omega
  refine ⟨⟨h.exp.only ho (fun k hk2 e => ?_), hset, by rw [e1, links_snoc]; exact ho2.row hown (fun b hb e => hvt b hb e), h.far, fun b hb hf => ?_, h.bel.trans (ho.below h.bel.size (fun i hi hf => ?_)), Nat.le_trans h.size ho.size, h.place, by rw [e1]; exact take_le hk h.early hle, ?_⟩, ?_⟩
  · rcases e with e | rfl
    · exact h.farv k e hk2
    · exact h.far k (.inl rfl) hk2
  · rcases hv' b hb with e | e
    · exact h.farv b e hf
    · have := (h.exp.lt b hf).2; omega
  · rcases hf with e | rfl
    · have := (hvb i e).1; omega
    · omega
  · rw [e1, List.take_succ_eq_append_getElem hk, List.map_append, ← h.pfx, hy]; rfl
  · refine keeps_cells ho (fun k hk2 ob hob => ?_)
    rcases hk2 with e | rfl
    · obtain ⟨o', h3, h4⟩ := own_isCells h.row e
      rw [hob] at h3; cases h3; exact h4
    · rw [h.box.head] at hob; cases hob; rfl
end

def KU (lo E : Nat) (w w1 : World) (tb c : Nat) (now : Int) (S : List Ent) (pre : List It) (W : World) : Prop :=
  ∃ F N v, N ≤ 900 ∧ pre.length ≤ S.length ∧ EkAt lo E w w1 tb c now S pre.length N F v pre W
def KM (lo E : Nat) (w w1 : World) (tb c : Nat) (now : Int) (S : List Ent) (p : List It × It) (W : World) : Prop :=
  ∃ F N v, ∃ hk : p.1.length < S.length, N ≤ 900 ∧ p.2 = pr S[p.1.length] ∧ S[p.1.length].2.2 ≤ now ∧ EkAt lo E w w1 tb c now S (p.1.length + 1) N F v p.1 W
def KM2 (lo E : Nat) (w w1 : World) (tb c : Nat) (now : Int) (S : List Ent) (p : List It × It × Nat) (W : World) : Prop :=
  (∃ F N v, ∃ hk : p.1.length < S.length, N ≤ 900 ∧ p.2.1 = pr S[p.1.length] ∧ S[p.1.length].2.2 ≤ now ∧ EkAt lo E w w1 tb c now S (p.1.length + 1) N F v p.1 W) ∧
    W.heap[p.2.2]? = some (.cells #[.int .i64 p.2.1.1, .int .i64 p.2.1.2] 52 (0, 0)) ∧ w1.heap.size ≤ p.2.2
def KD (lo E : Nat) (w w1 : World) (tb c : Nat) (now : Int) (S : List Ent) (pre : List It) (W : World) : Prop :=
  ∃ F N v, N ≤ 900 ∧ pre.length ≤ S.length ∧ EkAt lo E w w1 tb c now S pre.length N F v pre W ∧ (S.drop pre.length = [] ∨ ∃ e t, S.drop pre.length = e :: t ∧ now < e.2.2)

section
variable {lo E : Nat} {w w1 : World} {tb c : Nat} {now : Int} {S : List Ent}
theorem kU_own : OwnFrom w1.heap.size (KU lo E w w1 tb c now S) := fun p W W' row hs hg hr => by
  obtain ⟨F, N, v, h1, h2, h3⟩ := hs
  exact ⟨F, N, v, h1, h2, h3.turned hg hr⟩
theorem kD_own : OwnFrom w1.heap.size (KD lo E w w1 tb c now S) := fun p W W' row hs hg hr => by
  obtain ⟨F, N, v, h1, h2, h3, h4⟩ := hs
  exact ⟨F, N, v, h1, h2, h3.turned hg hr, h4⟩
theorem kM2_own : OwnFrom w1.heap.size (KM2 lo E w w1 tb c now S) := fun p W W' row hs hg hr => by
  obtain ⟨⟨F, N, v, hk, h0, h1, h2, h3⟩, h8, h9⟩ := hs
  refine ⟨⟨F, N, v, hk, h0, h1, h2, h3.turned hg hr⟩, (hg.block _ (Array.getElem?_eq_some_iff.1 h8).1 (fun e => ?_)).trans h8, h9⟩
  obtain ⟨_, ob, h10, h11⟩ := hr _ e.symm
  rw [h8] at h10; cases h10; cases h11
theorem kM_lay (pre : List It) (y : It) (W : World) (h : KM lo E w w1 tb c now S (pre, y) W) :
    KM2 lo E w w1 tb c now S (pre, y, W.heap.size) (W.alloc (.cells #[.int .i64 y.1, .int .i64 y.2] 52)) ∧ KeepsFrom w1.heap.size W (W.alloc (.cells #[.int .i64 y.1, .int .i64 y.2] 52)) := by
  obtain ⟨F, N, v, hk, h0, h1, h2, h3⟩ := h
  have hb : Below W.heap.size W (W.alloc (.cells #[.int .i64 y.1, .int .i64 y.2] 52)) := (Below.refl _ _).alloc (Nat.le_refl _) _
  exact ⟨⟨⟨F, N, v, hk, h0, h1, h2, h3.below hb⟩, Ut.alloc_at _ _, h3.size⟩, ⟨hb.size, fun k ob hB hk hc => (hb.block k (Array.getElem?_eq_some_iff.1 hk).1).trans hk⟩⟩
theorem k_step (hi : Inv S) (pre : List It) (A : World) (h : KU lo E w w1 tb c now S pre A) (hsz : w1.heap.size ≤ A.heap.size) :
    ∃ t, DueI lo E c (c + 1) now t A ∧ pre.length ≤ 40 ∧ (∀ y B, DueStep lo E now t y A B → KM lo E w w1 tb c now S (pre, y) B ∧ KeepsFrom w1.heap.size A B) ∧ (∀ B, DueFin now t A B → KD lo E w w1 tb c now S pre B ∧ KeepsFrom w1.heap.size A B) := by
  obtain ⟨F, N, v, hN, hl, h⟩ := h
  obtain ⟨p1, p2, p3, p4, p5, p6⟩ := h.place
  have hle := hi.len
  have c1 := block_cell (h.box (c, .cells #[.pointer (some ⟨E, 0, none⟩)] 47 (0, 0)) (by simp)) 0
  have c2 := block_cell (h.box (c + 1, .cells #[.int .i64 now] 3 (0, 0)) (by simp)) 0
  refine ⟨(S.drop pre.length, F, N), ⟨h.exp, c1, c2, h.far _ (by simp), h.far _ (by simp), Nat.le_trans p5 h.size⟩, by omega, fun y B hs => ?_, fun B hf => ?_⟩
  · obtain ⟨at_, t, e, ha, F', hx, ho, hn⟩ := hs
    simp only at e hx ho hn
    obtain ⟨hk, e1, e2⟩ := drop_head e
    have hd : wo (S.drop pre.length) y.1 = S.drop (pre.length + 1) := by
      rw [e2]
      have hi2 : Inv (S.drop pre.length) := h.exp.inv
      rw [e] at hi2 ⊢
      have h1 := List.nodup_cons.1 (show (y.1 :: (items t).map Prod.fst).Nodup from hi2.good.nodup)
      unfold wo
      rw [List.filter_cons, if_neg (by simp), List.filter_eq_self]
      intro z hz
      have : z.1 ≠ y.1 := fun e2 => h1.1 (List.mem_map.2 ⟨itm z, List.mem_map.2 ⟨z, hz, rfl⟩, e2⟩)
      simpa using this
    rw [hd] at hx
    exact ⟨⟨F', N, v, hk, hN, by rw [e1]; rfl, by rw [e1]; exact ha, h.exps hx ho hn⟩, h.exp.keeps' ho (by omega)⟩
  · exact ⟨⟨F, N, v, hN, hl, h.below hf.2, hf.1⟩, ⟨hf.2.size, fun k ob hB hk hc => (hf.2.block k (Array.getElem?_eq_some_iff.1 hk).1).trans hk⟩⟩
end

end Ex
end Go.Proofs.Ytkmgpajodbadmaa
