/- Several texts in one: what each proves its own first comment says. -/
import Derived.Test.YtocoonkachbjaaaGreatDoorM18
import Derived.Test.YtocoonkachbjaaaGreatDoorM19
import Derived.RangeFuncKeeps
import Derived.Sort.LoopGhostIn
import Derived.Maps.OwnIn
import Derived.RangeFuncWrites
import Derived.RangeFuncBound
import Derived.WalkKit

/- The walk's recursive closure: it hands out each one ahead of those below it (printed by wip/mkdown.py). -/
namespace Go.Proofs.YtocoonkachbjaaaGreatDoor
open Go.RowKit Go.Maps
set_option linter.unusedVariables false
namespace Vw
attribute [local go_sem] Oper.semAt_some
def ints (l : List Nat) : List Int := l.map fun (x : Nat) => (x : Int)
/-- The forest as its readers want it. -/
structure FW (ss : List Sess) (d : Value) (g : Nat) (vs : Nat → Value) (w : World) : Prop where
  sess : SessArg w d ss
  top : w.heap[g]? = some (.cells (arr (ss.length + 1) vs) 82 (0, 0))
  row : ∀ j, j < ss.length + 1 → In.IntArg w (vs j) (ints (Vt.krow (bu ss) ss.length j))
theorem FW.below {ss : List Sess} {d : Value} {g : Nat} {vs : Nat → Value} {w w' : World} (h : FW ss d g vs w) (hb : Below w.heap.size w w') : FW ss d g vs w' :=
  ⟨h.sess.below hb, (hb.block g (Array.getElem?_eq_some_iff.1 h.top).1).trans h.top, fun j hj => (h.row j hj).below hb⟩
theorem nv_ints {base n : Nat} {w : World} {v : Value} {l : List Nat} (h : w.ownsRow base 3 1 v n (l.map nv)) : In.IntArg w v (ints l) := by
  have hl : l.length = n := by have := h.1; simpa using this
  refine In.own_ints (f := Value.int .i64) (fun _ => rfl) (n := n) (by unfold ints; rw [List.length_map, hl]) (base := base) ?_
  unfold ints
  rw [List.map_map]
  exact h
theorem GrAt.fw {ss : List Sess} {lo L F bm g : Nat} {q : Option Addr} {c : Nat} {w : World} (h : GrAt ss lo L F bm g (.slice q ss.length c) ss.length w) : ∃ vs, FW ss (.slice q ss.length c) g vs w := by
  obtain ⟨vs, hv⟩ := h.rows
  exact ⟨vs, sess_of_own h.clone, hv.top, fun j hj => nv_ints (hv.row j hj)⟩
def kidsF (ss : List Sess) : Nat → List Nat := Vt.kidsN (bu ss) ss.length
def encF (x : Nat × Nat) : Array Value := #[.int .i64 (x.1 : Int), .int .i64 (x.2 : Int)]
theorem pre_take_succ {kids : Nat → List Nat} {f far k i : Nat} {l : List Nat} (h : l[k]? = some i) : Vt.pre kids (f + 1) far (l.take (k + 1)) = Vt.pre kids (f + 1) far (l.take k) ++ (far, i) :: Vt.pre kids f (far + 1) (kids i) := by
  have hlt := (List.getElem?_eq_some_iff.1 h).1
  have e : l[k] = i := (List.getElem?_eq_some_iff.1 h).2
  rw [List.take_succ_eq_append_getElem hlt, Vt.pre_append, e, Vt.pre_cons, Vt.pre_nil, List.append_nil]
theorem pre_prefix {kids : Nat → List Nat} {f far k : Nat} {l : List Nat} : Vt.pre kids f far (l.take k) <+: Vt.pre kids f far l := by
  have e : Vt.pre kids f far l = Vt.pre kids f far (l.take k) ++ Vt.pre kids f far (l.drop k) := by rw [← Vt.pre_append, List.take_append_drop]
  rw [e]; exact List.prefix_append _ _

section
variable (ss : List Sess) (hl : ss.length ≤ 65536) (d : Value) (g : Nat) (vs : Nat → Value) (l bY bd bf : Nat) (G : World → Prop) (hGd : ∀ W, G W → G W.drew) (hFW : ∀ W, G W → FW ss d g vs W ∧ W.cell? ⟨bY, 0, none⟩ = some (.func (.yield l) #[] #[]) ∧
    W.cell? ⟨bd, 0, none⟩ = some (.func (.func 84) #[] #[.pointer (some ⟨bY, 0, none⟩), .pointer (some ⟨bd, 0, none⟩), .pointer (some ⟨bf, 0, none⟩)]) ∧ W.cell? ⟨bf, 1, none⟩ = some (.slice (some ⟨g, 0, none⟩) (ss.length + 1) (ss.length + 1)))
  (J Jx : List (Nat × Nat) → World → Prop) (hJ : ∀ pre W, J pre W → J pre W.drew) (L : List (Nat × Nat))
  (hY : ∀ pre x W, J pre W → G W → (pre ++ [x]) <+: L → YieldAt Fence.wide 8 Tryz.prog l (encF x) W fun e W' => (e = .returned (.bool true) ∧ J (pre ++ [x]) W' ∧ G W') ∨ (e = .returned (.bool false) ∧ Jx (pre ++ [x]) W'))
include hl hGd hFW hJ hY

/-- What the closure does. -/
def DownP (f far : Nat) (v : Value) (ls : List Nat) (pre : List (Nat × Nat)) (W : World) : Prop :=
  CallsIn Fence.wide 9 Tryz.prog 84 #[v, .int .i64 (far : Int), .pointer (some ⟨bY, 0, none⟩), .pointer (some ⟨bd, 0, none⟩), .pointer (some ⟨bf, 0, none⟩)] W fun e W' =>
    (e = .returned (.bool true) ∧ J (pre ++ Vt.pre (kidsF ss) f far ls) W' ∧ G W') ∨ (e = .returned (.bool false) ∧ ∃ p, p <+: Vt.pre (kidsF ss) f far ls ∧ Jx (pre ++ p) W')

set_option maxRecDepth 100000 in
set_option maxHeartbeats 8000000 in
theorem down_in : ∀ (f far : Nat) (v : Value) (ls : List Nat) (pre : List (Nat × Nat)) (W : World), ls.length ≤ 65536 → far + f ≤ 200000 → (∀ W, G W → In.IntArg W v (ints ls)) → (∀ i ∈ ls, i < ss.length ∧ ss.length ≤ f + i) → J pre W → G W → (pre ++ Vt.pre (kidsF ss) f far ls) <+: L →
    DownP ss bY bd bf G J Jx f far v ls pre W := by
  intro f
  induction f with
  | zero =>
    intro far v ls pre W hlen hff hv hls hj hb hN
    have e : ls = [] := by
      cases ls with
      | nil => rfl
      | cons i r => have := hls i List.mem_cons_self; omega
    subst e
    obtain ⟨p, c, rfl, -⟩ := hv W hb
    unfold DownP
    rw [Vt.pre_nil, List.append_nil]
    clear hls hN hFW hY
    refine callsIn_of_wp Tryz.func84 rfl trivial ?_ rfl
    simp only [Tryz.ntmps84, List.size_toArray, List.length_cons, List.length_nil, Nat.reduceAdd, Nat.reduceSub, Array.replicate_succ, Array.replicate_zero, List.push_toArray, List.append_toArray, List.nil_append, List.cons_append, ints, List.map_nil]
    gi_wp2
    gi_loopw [12] (fun i wr => i = .int .i64 0 ∧ wr = W) (fun _ _ => 0)
    case atStart => exact ⟨rfl, rfl⟩
    case round =>
      obtain ⟨rfl, rfl⟩ := hrel
      gi_wp2
      go_ret
      exact .inl ⟨rfl, hj, hb⟩
  | succ f ih =>
    intro far v ls pre W hlen hff hv hls hj hb hN
    have HVV := Lib.hid hv
    obtain ⟨p, c, rfl, -⟩ := hv W hb
    clear hv
    have hil : (ints ls).length = ls.length := by unfold ints; rw [List.length_map]
    rw [hil]
    have HV : Hid (∀ (j i : Nat) (W : World), ls[j]? = some i → G W → ∃ ga oa, p = some ⟨ga, oa, none⟩ ∧ W.cell? ⟨ga, oa + j, none⟩ = some (.int .i64 (i : Int))) := fun j i W hji hG => by
      have hlt := (List.getElem?_eq_some_iff.1 hji).1
      obtain ⟨p2, c2, e2, hc⟩ := HVV.out W hG
      obtain ⟨ga, oa, h1, h2, h3⟩ := hc j (by rw [hil]; exact hlt)
      injection e2 with e3 e4 e5
      refine ⟨ga, oa, e3.trans h1, ?_⟩
      rw [h3]
      have e : ls[j] = i := (List.getElem?_eq_some_iff.1 hji).2
      simp [ints, e]
    have HLS := Lib.hid hls; have HB := Lib.hid hb; have HN := Lib.hid hN; have HIH := Lib.hid ih; have HFWH := Lib.hid hFW; have HJ := Lib.hid hJ; have HY := Lib.hid hY; have HJ0 := Lib.hid hj
    have HGD := Lib.hid hGd; have HFF := Lib.hid hff
    have hsub : ∀ k i, ls[k]? = some i → (pre ++ Vt.pre (kidsF ss) (f + 1) far (ls.take k) ++ ((far, i) :: Vt.pre (kidsF ss) f (far + 1) (kidsF ss i))) <+: L := fun k i hi => by
      have h1 := pre_take_succ (kids := kidsF ss) (f := f) (far := far) hi
      have h2 := pre_prefix (kids := kidsF ss) (f := f + 1) (far := far) (k := k + 1) (l := ls)
      rw [h1] at h2
      rw [List.append_assoc]
      exact ((List.prefix_append_right_inj _).2 h2).trans hN
    have HSUB := Lib.hid hsub
    have hll : (ls.length : Int) ≤ 9223372036854775807 := by omega
    unfold DownP
    clear hil hls hb hN ih hFW hJ hY hj hGd hff hsub HVV
    refine callsIn_of_wp Tryz.func84 rfl trivial ?_ rfl
    simp only [Tryz.ntmps84, List.size_toArray, List.length_cons, List.length_nil, Nat.reduceAdd, Nat.reduceSub, Array.replicate_succ, Array.replicate_zero, List.push_toArray, List.append_toArray, List.nil_append, List.cons_append]
    gi_wp2
    gi_loopw [12] (fun i wr => ∃ k : Nat, k ≤ ls.length ∧ i = .int .i64 k ∧ J (pre ++ Vt.pre (kidsF ss) (f + 1) far (ls.take k)) wr ∧ G wr) (fun i _ => ls.length - (intOf i).toNat)
    case atStart => exact ⟨0, Nat.zero_le _, rfl, by rw [List.take_zero, Vt.pre_nil, List.append_nil]; exact HJ0.out, HB.out⟩
    case round =>
      obtain ⟨k, hk, rfl, hjr, hbr⟩ := hrel
      have b0 : (0 : Int) ≤ (k : Int) := by omega
      by_cases hlt : k < ls.length
      · have b1 : (k : Int) < (ls.length : Int) := by omega
        have w1' : IntKind.i64.wrap ((k : Int) + 1) = ((k + 1 : Nat) : Int) := by rw [IntWalk.i64_in _ (by omega)]; rfl
        obtain ⟨i, hi⟩ : ∃ i, ls[k]? = some i := ⟨_, List.getElem?_eq_getElem hlt⟩
        obtain ⟨ga, oa, rfl, c1⟩ := HV.out k i wr hi hbr
        have hin := HLS.out i (List.mem_of_getElem? hi)
        have hsz := HFF.out
        have w2' : IntKind.i64.wrap ((i : Int) + 1) = ((i + 1 : Nat) : Int) := by rw [IntWalk.i64_in _ (by omega)]; rfl
        have w3' : IntKind.i64.wrap ((far : Int) + 1) = ((far + 1 : Nat) : Int) := by rw [IntWalk.i64_in _ (by omega)]; rfl
        have hjd := HJ.out _ _ hjr
        have hB0 := HGD.out _ hbr
        obtain ⟨fn, tmps, assign, body, hy, hR⟩ := HY.out _ (far, i) wr.drew hjd hB0 ((List.prefix_append_right_inj _).2 (by simp) |>.trans (HSUB.out k i hi))
        unfold encF at hy
        have HR := Lib.hid hR; have HI := Lib.hid hi; have HLT := Lib.hid hlt; have HIN := Lib.hid hin; have HBR := Lib.hid hbr
        obtain ⟨vi, hvi⟩ : ∃ vi, vi = vs (i + 1) := ⟨_, rfl⟩
        have HC : Hid (∀ W', G W' → W'.cell? ⟨bY, 0, none⟩ = some (.func (.yield l) #[] #[]) ∧ W'.cell? ⟨bd, 0, none⟩ = some (.func (.func 84) #[] #[.pointer (some ⟨bY, 0, none⟩), .pointer (some ⟨bd, 0, none⟩), .pointer (some ⟨bf, 0, none⟩)]) ∧
            W'.cell? ⟨bf, 1, none⟩ = some (.slice (some ⟨g, 0, none⟩) (ss.length + 1) (ss.length + 1)) ∧ W'.cell? ⟨g, i + 1, none⟩ = some vi) := fun W' hW => by
          obtain ⟨h1, h2, h3, h4⟩ := HFWH.out W' hW
          exact ⟨h2, h3, h4, by rw [block_cell h1.top, arr_at (by have := HIN.out; omega), hvi]⟩
        have HVI : Hid (∀ W', G W' → In.IntArg W' vi (ints (kidsF ss i))) := fun W' hW => by
          have := (HFWH.out W' hW).1.row (i + 1) (by have := HIN.out; omega)
          rw [← hvi] at this; exact this
        have i0 : (0 : Int) ≤ ((i + 1 : Nat) : Int) := by omega
        have i1 : ((i + 1 : Nat) : Int) < (ss.length : Int) + 1 := by omega
        have i2 : ((i + 1 : Nat) : Int) < ((ss.length + 1 : Nat) : Int) := by omega
        have i3 : i < ss.length := HIN.out.1
        have i4 : (0 : Int) ≤ (i : Int) + 1 := by omega
        clear hR hi hlt hin hjr hjd hvi hsz
        gi_wp2
        refine Hi.begin_ (S := fun _ => True) (Z := fun z => Nat.ble 15 z) (by kernel_rfl) trivial (fun hT => ?_)
        refine Hi.take (i := 1) (k := 17) (v := ?_) (fun _ => trivial) (by kernel_rfl) rfl rfl (by kernel_rfl) (by kernel_rfl) (by kernel_rfl) (fun _ _ _ h => h) (by kernel_rfl) (by kernel_rfl) (Or.inl ⟨by rfl, ?_⟩) (by assumption) ?_
        rotate_left
        · intro wq hSw; (try dsimp only at hSw); go_split_ands; go_simp; (try with_reducible rfl)
        simp only [List.set_cons_succ, List.set_cons_zero]
        refine Hi.take (i := 2) (k := 18) (v := ?_) (fun _ => trivial) (by kernel_rfl) rfl rfl (by kernel_rfl) (by kernel_rfl) (by kernel_rfl) (fun _ _ _ h => h) (by kernel_rfl) (by kernel_rfl) (Or.inl ⟨by rfl, ?_⟩) (by assumption) ?_
        rotate_left
        · intro wq hSw; (try dsimp only at hSw); go_split_ands; go_simp; (try with_reducible rfl)
        simp only [List.set_cons_succ, List.set_cons_zero]
        obtain ⟨cy, -, -, -⟩ := HC.out _ hB0
        refine Hi.val_ (i := 0) (k := 16) (v := .func (.yield l) #[] #[]) (w' := wr.drew) (fun _ => trivial) (by intro c h; cases h) rfl rfl (by kernel_rfl) (by rfl) ?_ (fun _ => trivial) ?_
        · go_simp
        simp only [List.set_cons_succ, List.set_cons_zero]
        refine Hi.yield_ (i := 3) (k := 19) (l := l) (fn := fn) (tmps := tmps) (assign := assign) (body := body) (fun _ => trivial) (fun _ => by omega) (by intro c h; cases h) rfl rfl (by kernel_rfl) (by rfl) ?_ ((Hi.round_any HR.out).mono ?_)
        · go_simp
        rintro e W3 (⟨rfl, hJ3, hb3⟩ | ⟨rfl, hJx3⟩)
        · have hB3 := hb3
          refine ⟨_, rfl, fun _ => trivial, fun _ => ?_⟩
          simp only [List.set_cons_succ, List.set_cons_zero]
          refine Hi.more (S' := fun w' => w'.cell? ⟨bd, 0, none⟩ = some (.func (.func 84) #[] #[.pointer (some ⟨bY, 0, none⟩), .pointer (some ⟨bd, 0, none⟩), .pointer (some ⟨bf, 0, none⟩)]) ∧
            w'.cell? ⟨bf, 1, none⟩ = some (.slice (some ⟨g, 0, none⟩) (ss.length + 1) (ss.length + 1)) ∧ w'.cell? ⟨g, i + 1, none⟩ = some vi) (fun _ _ => trivial) _ _ _ _ ?_
          obtain ⟨-, x1, x2, x3⟩ := HC.out _ hB3
          have hHeld : W3.cell? ⟨bd, 0, none⟩ = some (.func (.func 84) #[] #[.pointer (some ⟨bY, 0, none⟩), .pointer (some ⟨bd, 0, none⟩), .pointer (some ⟨bf, 0, none⟩)]) ∧
            W3.cell? ⟨bf, 1, none⟩ = some (.slice (some ⟨g, 0, none⟩) (ss.length + 1) (ss.length + 1)) ∧ W3.cell? ⟨g, i + 1, none⟩ = some vi := ⟨x1, x2, x3⟩
          refine Hi.take (i := 4) (k := 20) (v := ?_) (fun _ => trivial) (by kernel_rfl) rfl rfl (by kernel_rfl) (by kernel_rfl) (by kernel_rfl) (fun _ _ _ h => h) (by kernel_rfl) (by kernel_rfl) (Or.inl ⟨by rfl, ?_⟩) (by assumption) ?_
          rotate_left
          · intro wq hSw; (try dsimp only at hSw); go_split_ands; go_simp; (try with_reducible rfl)
          simp only [List.set_cons_succ, List.set_cons_zero]
          refine Hi.take (i := 5) (k := 21) (v := ?_) (fun _ => trivial) (by kernel_rfl) rfl rfl (by kernel_rfl) (by kernel_rfl) (by kernel_rfl) (fun _ _ _ h => h) (by kernel_rfl) (by kernel_rfl) (Or.inl ⟨by rfl, ?_⟩) (by assumption) ?_
          rotate_left
          · intro wq hSw; (try dsimp only at hSw); go_split_ands; go_simp; (try with_reducible rfl)
          simp only [List.set_cons_succ, List.set_cons_zero]
          refine Hi.take (i := 6) (k := 22) (v := ?_) (fun _ => trivial) (by kernel_rfl) rfl rfl (by kernel_rfl) (by kernel_rfl) (by kernel_rfl) (fun _ _ _ h => h) (by kernel_rfl) (by kernel_rfl) (Or.inl ⟨by rfl, ?_⟩) (by assumption) ?_
          rotate_left
          · intro wq hSw; (try dsimp only at hSw); go_split_ands; go_simp; (try with_reducible rfl)
          simp only [List.set_cons_succ, List.set_cons_zero]
          refine Hi.take (i := 7) (k := 23) (v := ?_) (fun _ => trivial) (by kernel_rfl) rfl rfl (by kernel_rfl) (by kernel_rfl) (by kernel_rfl) (fun _ _ _ h => h) (by kernel_rfl) (by kernel_rfl) (Or.inl ⟨by rfl, ?_⟩) (by assumption) ?_
          rotate_left
          · intro wq hSw; (try dsimp only at hSw); go_split_ands; go_simp; (try with_reducible rfl)
          simp only [List.set_cons_succ, List.set_cons_zero]
          refine Hi.take (i := 8) (k := 24) (v := ?_) (fun _ => trivial) (by kernel_rfl) rfl rfl (by kernel_rfl) (by kernel_rfl) (by kernel_rfl) (fun _ _ _ h => h) (by kernel_rfl) (by kernel_rfl) (Or.inl ⟨by rfl, ?_⟩) (by assumption) ?_
          rotate_left
          · intro wq hSw; (try dsimp only at hSw); go_split_ands; go_simp; (try with_reducible rfl)
          simp only [List.set_cons_succ, List.set_cons_zero]
          refine Hi.take (i := 9) (k := 25) (v := ?_) (fun _ => trivial) (by kernel_rfl) rfl rfl (by kernel_rfl) (by kernel_rfl) (by kernel_rfl) (fun _ _ _ h => h) (by kernel_rfl) (by kernel_rfl) (Or.inl ⟨by rfl, ?_⟩) (by assumption) ?_
          rotate_left
          · intro wq hSw; (try dsimp only at hSw); go_split_ands; go_simp; (try with_reducible rfl)
          simp only [List.set_cons_succ, List.set_cons_zero]
          refine Hi.take (i := 10) (k := 26) (v := ?_) (fun _ => trivial) (by kernel_rfl) rfl rfl (by kernel_rfl) (by kernel_rfl) (by kernel_rfl) (fun _ _ _ h => h) (by kernel_rfl) (by kernel_rfl) (Or.inl ⟨by rfl, ?_⟩) (by assumption) ?_
          rotate_left
          · intro wq hSw; (try dsimp only at hSw); go_split_ands; go_simp; (try with_reducible rfl)
          simp only [List.set_cons_succ, List.set_cons_zero]
          refine Hi.take (i := 11) (k := 27) (v := ?_) (fun _ => trivial) (by kernel_rfl) rfl rfl (by kernel_rfl) (by kernel_rfl) (by kernel_rfl) (fun _ _ _ h => h) (by kernel_rfl) (by kernel_rfl) (Or.inl ⟨by rfl, ?_⟩) (by assumption) ?_
          rotate_left
          · intro wq hSw; (try dsimp only at hSw); go_split_ands; go_simp; (try with_reducible rfl)
          simp only [List.set_cons_succ, List.set_cons_zero]
          refine Hi.take (i := 12) (k := 28) (v := ?_) (fun _ => trivial) (by kernel_rfl) rfl rfl (by kernel_rfl) (by kernel_rfl) (by kernel_rfl) (fun _ _ _ h => h) (by kernel_rfl) (by kernel_rfl) (Or.inl ⟨by rfl, ?_⟩) (by assumption) ?_
          rotate_left
          · intro wq hSw; (try dsimp only at hSw); go_split_ands; go_simp; (try with_reducible rfl)
          simp only [List.set_cons_succ, List.set_cons_zero]
          refine Hi.take (i := 13) (k := 29) (v := ?_) (fun _ => trivial) (by kernel_rfl) rfl rfl (by kernel_rfl) (by kernel_rfl) (by kernel_rfl) (fun _ _ _ h => h) (by kernel_rfl) (by kernel_rfl) (Or.inl ⟨by rfl, ?_⟩) (by assumption) ?_
          rotate_left
          · intro wq hSw; (try dsimp only at hSw); go_split_ands; go_simp; (try with_reducible rfl)
          simp only [List.set_cons_succ, List.set_cons_zero]
          refine Hi.take (i := 14) (k := 30) (v := ?_) (fun _ => trivial) (by kernel_rfl) rfl rfl (by kernel_rfl) (by kernel_rfl) (by kernel_rfl) (fun _ _ _ h => h) (by kernel_rfl) (by kernel_rfl) (Or.inl ⟨by rfl, ?_⟩) (by assumption) ?_
          rotate_left
          · intro wq hSw; (try dsimp only at hSw); go_split_ands; go_simp; (try with_reducible rfl)
          simp only [List.set_cons_succ, List.set_cons_zero]
          have HB3 := Lib.hid hB3
          have hkl : (kidsF ss i).length ≤ 65536 := Nat.le_trans (by have := Vt.krow_len (bu ss) ss.length (i + 1); exact this) hl
          have hIH := HIH.out (far + 1) vi (kidsF ss i) (pre ++ Vt.pre (kidsF ss) (f + 1) far (ls.take k) ++ [(far, i)]) W3 hkl (by have := HFF.out; omega) HVI.out (fun j hj => by
            have h1 := Vt.kids_up (bu ss) ss.length i j hj
            have h2 := HIN.out
            omega) hJ3 hB3 (by have h1 := HSUB.out k i HI.out; simpa using h1)
          unfold DownP at hIH
          refine Hi.call_ (i := 15) (k := 31) (fun _ => trivial) (fun _ => by omega) (by intro c h; cases h) rfl rfl (by kernel_rfl) (by rfl) (by go_simp) ((Hi.calls_any hIH).mono ?_)
          rintro e W4 (⟨rfl, hJ4, hb4⟩ | ⟨rfl, q, hq, hJx4⟩)
          · refine ⟨_, rfl, fun h => absurd h (by decide), fun _ => ?_⟩
            simp only [List.set_cons_succ, List.set_cons_zero]
            refine Hi.val_ (i := 16) (k := 32) (v := .bool false) (w' := W4) (fun _ => trivial) (by intro c h; cases h) rfl rfl (by kernel_rfl) (by rfl) (by go_simp) (fun h => absurd h (by decide)) ?_
            simp only [List.set_cons_succ, List.set_cons_zero]
            refine Hi.val_ (i := 17) (k := 33) (v := .bool false) (w' := W4) (fun _ => trivial) (by intro c h; cases h) rfl rfl (by kernel_rfl) (by rfl) (by go_simp) (fun h => absurd h (by decide)) ?_
            simp only [List.set_cons_succ, List.set_cons_zero]
            refine Hi.done_ (by kernel_rfl) ?_ _
            have HU : Hid (J (pre ++ Vt.pre (kidsF ss) (f + 1) far (ls.take (k + 1))) W4) := by
              have h1 := pre_take_succ (kids := kidsF ss) (f := f) (far := far) HI.out
              show J _ _
              rw [h1]
              simpa using hJ4
            gi_wp2
            go_roundw
            case rel => have := HLT.out; exact ⟨k + 1, by omega, rfl, HU.out, hb4⟩
            case measure => have := HLT.out; simp [intOf]; omega
          · refine ⟨_, rfl, fun h => absurd h (by decide), fun _ => ?_⟩
            simp only [List.set_cons_succ, List.set_cons_zero]
            refine Hi.val_ (i := 16) (k := 32) (v := .bool true) (w' := W4) (fun _ => trivial) (by intro c h; cases h) rfl rfl (by kernel_rfl) (by rfl) (by go_simp) (fun h => absurd h (by decide)) ?_
            simp only [List.set_cons_succ, List.set_cons_zero]
            refine Hi.val_ (i := 17) (k := 33) (v := .bool true) (w' := W4) (fun _ => trivial) (by intro c h; cases h) rfl rfl (by kernel_rfl) (by rfl) (by go_simp) (fun h => absurd h (by decide)) ?_
            simp only [List.set_cons_succ, List.set_cons_zero]
            refine Hi.done_ (by kernel_rfl) ?_ _
            have HU : Hid (Jx (pre ++ (Vt.pre (kidsF ss) (f + 1) far (ls.take k) ++ (far, i) :: q)) W4) := by
              show Jx _ _
              simpa using hJx4
            gi_wp2
            go_ret
            exact .inr ⟨rfl, _, by
              have h1 := pre_take_succ (kids := kidsF ss) (f := f) (far := far) HI.out
              have h2 := pre_prefix (kids := kidsF ss) (f := f + 1) (far := far) (k := k + 1) (l := ls)
              rw [h1] at h2
              exact ((List.prefix_append_right_inj _).2 ((List.cons_prefix_cons).2 ⟨rfl, hq⟩)).trans h2, HU.out⟩
        · refine ⟨_, rfl, fun _ => trivial, fun _ => ?_⟩
          simp only [List.set_cons_succ, List.set_cons_zero]
          refine Hi.take (i := 4) (k := 20) (v := ?_) (fun _ => trivial) (by kernel_rfl) rfl rfl (by kernel_rfl) (by kernel_rfl) (by kernel_rfl) (fun _ _ _ h => h) (by kernel_rfl) (by kernel_rfl) (Or.inl ⟨by rfl, ?_⟩) (by assumption) ?_
          rotate_left
          · intro wq hSw; (try dsimp only at hSw); go_split_ands; go_simp; (try with_reducible rfl)
          simp only [List.set_cons_succ, List.set_cons_zero]
          refine Hi.take (i := 5) (k := 21) (v := ?_) (fun _ => trivial) (by kernel_rfl) rfl rfl (by kernel_rfl) (by kernel_rfl) (by kernel_rfl) (fun _ _ _ h => h) (by kernel_rfl) (by kernel_rfl) (Or.inl ⟨by rfl, ?_⟩) (by assumption) ?_
          rotate_left
          · intro wq hSw; (try dsimp only at hSw); go_split_ands; go_simp; (try with_reducible rfl)
          simp only [List.set_cons_succ, List.set_cons_zero]
          refine Hi.take (i := 6) (k := 22) (v := undef) (fun _ => trivial) (by kernel_rfl) rfl rfl (by kernel_rfl) (by kernel_rfl) (by kernel_rfl) (fun _ _ _ h => h) (by kernel_rfl) (by kernel_rfl) (Or.inr ⟨by rfl, rfl⟩) (by assumption) ?_
          simp only [List.set_cons_succ, List.set_cons_zero]
          refine Hi.take (i := 7) (k := 23) (v := undef) (fun _ => trivial) (by kernel_rfl) rfl rfl (by kernel_rfl) (by kernel_rfl) (by kernel_rfl) (fun _ _ _ h => h) (by kernel_rfl) (by kernel_rfl) (Or.inr ⟨by rfl, rfl⟩) (by assumption) ?_
          simp only [List.set_cons_succ, List.set_cons_zero]
          refine Hi.take (i := 8) (k := 24) (v := undef) (fun _ => trivial) (by kernel_rfl) rfl rfl (by kernel_rfl) (by kernel_rfl) (by kernel_rfl) (fun _ _ _ h => h) (by kernel_rfl) (by kernel_rfl) (Or.inr ⟨by rfl, rfl⟩) (by assumption) ?_
          simp only [List.set_cons_succ, List.set_cons_zero]
          refine Hi.take (i := 9) (k := 25) (v := undef) (fun _ => trivial) (by kernel_rfl) rfl rfl (by kernel_rfl) (by kernel_rfl) (by kernel_rfl) (fun _ _ _ h => h) (by kernel_rfl) (by kernel_rfl) (Or.inr ⟨by rfl, rfl⟩) (by assumption) ?_
          simp only [List.set_cons_succ, List.set_cons_zero]
          refine Hi.take (i := 10) (k := 26) (v := undef) (fun _ => trivial) (by kernel_rfl) rfl rfl (by kernel_rfl) (by kernel_rfl) (by kernel_rfl) (fun _ _ _ h => h) (by kernel_rfl) (by kernel_rfl) (Or.inr ⟨by rfl, rfl⟩) (by assumption) ?_
          simp only [List.set_cons_succ, List.set_cons_zero]
          refine Hi.take (i := 11) (k := 27) (v := undef) (fun _ => trivial) (by kernel_rfl) rfl rfl (by kernel_rfl) (by kernel_rfl) (by kernel_rfl) (fun _ _ _ h => h) (by kernel_rfl) (by kernel_rfl) (Or.inr ⟨by rfl, rfl⟩) (by assumption) ?_
          simp only [List.set_cons_succ, List.set_cons_zero]
          refine Hi.take (i := 12) (k := 28) (v := undef) (fun _ => trivial) (by kernel_rfl) rfl rfl (by kernel_rfl) (by kernel_rfl) (by kernel_rfl) (fun _ _ _ h => h) (by kernel_rfl) (by kernel_rfl) (Or.inr ⟨by rfl, rfl⟩) (by assumption) ?_
          simp only [List.set_cons_succ, List.set_cons_zero]
          refine Hi.take (i := 13) (k := 29) (v := undef) (fun _ => trivial) (by kernel_rfl) rfl rfl (by kernel_rfl) (by kernel_rfl) (by kernel_rfl) (fun _ _ _ h => h) (by kernel_rfl) (by kernel_rfl) (Or.inr ⟨by rfl, rfl⟩) (by assumption) ?_
          simp only [List.set_cons_succ, List.set_cons_zero]
          refine Hi.take (i := 14) (k := 30) (v := undef) (fun _ => trivial) (by kernel_rfl) rfl rfl (by kernel_rfl) (by kernel_rfl) (by kernel_rfl) (fun _ _ _ h => h) (by kernel_rfl) (by kernel_rfl) (Or.inr ⟨by rfl, rfl⟩) (by assumption) ?_
          simp only [List.set_cons_succ, List.set_cons_zero]
          refine Hi.take (i := 15) (k := 31) (v := undef) (fun _ => trivial) (by kernel_rfl) rfl rfl (by kernel_rfl) (by kernel_rfl) (by kernel_rfl) (fun _ _ _ h => h) (by kernel_rfl) (by kernel_rfl) (Or.inr ⟨by rfl, rfl⟩) (by assumption) ?_
          simp only [List.set_cons_succ, List.set_cons_zero]
          refine Hi.take (i := 16) (k := 32) (v := undef) (fun _ => trivial) (by kernel_rfl) rfl rfl (by kernel_rfl) (by kernel_rfl) (by kernel_rfl) (fun _ _ _ h => h) (by kernel_rfl) (by kernel_rfl) (Or.inr ⟨by rfl, rfl⟩) (by assumption) ?_
          simp only [List.set_cons_succ, List.set_cons_zero]
          refine Hi.take (i := 17) (k := 33) (v := ?_) (fun _ => trivial) (by kernel_rfl) rfl rfl (by kernel_rfl) (by kernel_rfl) (by kernel_rfl) (fun _ _ _ h => h) (by kernel_rfl) (by kernel_rfl) (Or.inl ⟨by rfl, ?_⟩) (by assumption) ?_
          rotate_left
          · intro wq hSw; (try dsimp only at hSw); go_split_ands; go_simp; (try with_reducible rfl)
          simp only [List.set_cons_succ, List.set_cons_zero]
          refine Hi.done_ (by kernel_rfl) ?_ _
          gi_wp2
          go_ret
          exact .inr ⟨rfl, Vt.pre (kidsF ss) (f + 1) far (ls.take k) ++ [(far, i)], by
            have h1 := pre_take_succ (kids := kidsF ss) (f := f) (far := far) HI.out
            have h2 := pre_prefix (kids := kidsF ss) (f := f + 1) (far := far) (k := k + 1) (l := ls)
            rw [h1] at h2
            exact (List.prefix_append_right_inj _).2 (by simp) |>.trans h2, by rw [← List.append_assoc]; exact hJx3⟩
      · have b1 : (ls.length : Int) ≤ (k : Int) := by omega
        have e : ls.take k = ls := List.take_of_length_le (by omega)
        rw [e] at hjr
        clear hlt
        gi_wp2
        go_ret
        exact .inl ⟨rfl, hjr, hbr⟩
end
end Vw
end Go.Proofs.YtocoonkachbjaaaGreatDoor

/- A range over an iterator that turns memory of its own between two rounds. No program's code. -/
namespace Go.Proofs.YtocoonkachbjaaaGreatDoor
open Go.RowKit
set_option linter.unusedVariables false
namespace Mu
variable {F : Fence} {n : Nat} {P : Program}

/-- What such an iterator promises: from a state s it goes by a step to the call of yield, or comes to its end; a round leads back to some state. -/
def Seq {α σ : Type} (F : Fence) (n : Nat) (P : Program) (g : Nat) (lb : Array Value) (encs : α → Array Value) (I : σ → World → Prop) (Step : σ → α → World → World → Prop) (Fin : σ → World → World → Prop) (M : Nat) : Prop :=
  ∀ (l : Nat) (J Jx Done : List α → World → Prop) (W : World),
    (∀ pre A, J pre A → ∃ s, I s A ∧ pre.length ≤ M ∧ (∀ x B, Step s x A B → YieldAt F (n - 1) P l (encs x) B fun e W' => (e = .returned (.bool true) ∧ J (pre ++ [x]) W') ∨ (e = .returned (.bool false) ∧ Jx (pre ++ [x]) W')) ∧ (∀ B, Fin s A B → Done pre B)) →
    J [] W → CallsIn F n P g (#[.func (.yield l) #[] #[]] ++ lb) W fun e W' => (∃ v, e = .returned v) ∧ ((∃ pre, Done pre W') ∨ ∃ pre, Jx pre W')

/-- How a round may be left. -/
def Left {α : Type} (B : Nat) (U : List α → World → Prop) (Ux : Code → List α → World → Prop) (xs : List α) (W : World) : Exit → Act → World → Prop
  | .normal, _, W' => KeepsFrom B W W' ∧ U xs W'
  | .ret, _, W' => KeepsFrom B W W' ∧ Ux .ret xs W'
  | .exit id, _, W' => KeepsFrom B W W' ∧ Ux (.exit id) xs W'
  | .goto t, _, W' => KeepsFrom B W W' ∧ Ux (.goto t) xs W'
  | .panic _, _, _ => False
  | .outgrown, _, _ => False

theorem KeepsFrom.lie {B k : Nat} {o : Obj} {W W' : World} (h : KeepsFrom B W W') (hB : B ≤ k) (hk : W.heap[k]? = some o) (ho : o.isCells = false) : W'.heap[k]? = some o := h.same k o hB hk ho

/-- **The statement.** -/
theorem range_mut {α σ : Type} {g : Operand} {ps : Array Tmp} {assign body : Code} {Q : Exit → Act → World → Prop} {a : Act} {w : World}
    (hro : F.round = none) (h1 : 1 ≤ n) {gf : Nat} {lb : Array Value} (hg : a.eval g = .func (.func gf) #[] lb) (hFg : F.fn gf) (eg : ∀ args w, (callFunc gf args).run P w = .ok (.enter gf args) w)
    {encs : α → Array Value} {I : σ → World → Prop} {Step : σ → α → World → World → Prop} {Fin : σ → World → World → Prop} {mx : Nat} (hseq : Seq F (n - 1) P gf lb encs I Step Fin mx) (hps : ∀ x, (encs x).size = ps.size)
    (U : List α → World → Prop) (M : List α × α → World → Prop) (M' : List α × α × Nat → World → Prop) (D : List α → World → Prop) (Ux : Code → List α → World → Prop)
    (hU : OwnFrom w.heap.size U) (hM : OwnFrom w.heap.size M') (hD : OwnFrom w.heap.size D) (hUx : ∀ c, OwnFrom w.heap.size (Ux c))
    (hstep : ∀ pre A, U pre A → w.heap.size ≤ A.heap.size → ∃ s, I s A ∧ pre.length ≤ mx ∧ (∀ x B, Step s x A B → M (pre, x) B ∧ KeepsFrom w.heap.size A B) ∧ (∀ B, Fin s A B → D pre B ∧ KeepsFrom w.heap.size A B))
    (h0 : U [] w) (a₁ : α → Nat → Act) (w₁ : α → World → World) (hM1 : ∀ pre x W, M (pre, x) W → M' (pre, x, W.heap.size) (w₁ x W) ∧ KeepsFrom w.heap.size W (w₁ x W))
    (hassign : ∀ (l : Nat) (x : α) (W : World) (K : Act → World → Prop), K (a₁ x W.heap.size) (w₁ x W) →
      assign.wpIn (F.inRound l) (n - 1 - 1) P (Exit.then K (fun _ _ _ => False)) { tmps := (ps.zip (encs x)).foldl (fun t (p, v) => t.setIfInBounds p v) a.tmps, defers := [] } W)
    (hbody : ∀ (l : Nat) (pre : List α) (x : α) (b : Nat) (W : World), M' (pre, x, b) W → body.wpIn (F.inRound l) (n - 1 - 1) P (Left w.heap.size U Ux (pre ++ [x]) W) (a₁ x b) W)
    (hdone : ∀ (d : Nat) (xs : List α) (W : World), w.heap.size ≤ d → D xs W → W.heap[d]? = some (.deferred (some [])) → Q .normal { a with defers := { target := .collected d, args := #[] } :: a.defers } W)
    (hstop : ∀ (d : Nat) (c : Code) (pre : List α) (W : World), w.heap.size ≤ d → Ux c pre W → W.heap[d]? = some (.deferred (some [])) → c.wpIn F n P Q { a with defers := { target := .collected d, args := #[] } :: a.defers } W) :
    (Code.rangeFunc g ps assign body).wpIn F n P Q a w := by
  refine wpIn_rangeFunc fun fn hfn => ?_
  rw [hro]
  -- the loop's record, by its state and the pending jump
  let rec_ : LoopState → Option Code → Loop := fun st pe => { state := st, pending := pe, fn, tmps := a.tmps, params := ps, assign, body, defers := w.heap.size }
  have hrs : ∀ st pe, (rec_ st pe).state = st := fun _ _ => rfl
  have hrp : ∀ st pe, (rec_ st pe).params = ps := fun _ _ => rfl
  have hrb : ∀ st pe st' pe', { rec_ st pe with state := st', pending := pe' } = rec_ st' pe' := fun _ _ _ _ => rfl
  have hrb2 : ∀ st pe st', { rec_ st pe with state := st' } = rec_ st' pe := fun _ _ _ => rfl
  have hrf : ∀ st pe, (rec_ st pe).fn = fn ∧ (rec_ st pe).assign = assign ∧ (rec_ st pe).body = body ∧ (rec_ st pe).tmps = a.tmps ∧ (rec_ st pe).pending = pe := fun _ _ => ⟨rfl, rfl, rfl, rfl, rfl⟩
  have hent : (Instr.enterLoop fn a.tmps ps assign body none).run P w = .ok (w.heap.size + 1, [{ target := .collected w.heap.size, args := #[] }]) ((w.alloc (.deferred (some []))).alloc (.loop (rec_ .ready none))) := run_enterLoop_outer fn a.tmps ps assign body
  -- two facts of book-keeping
  let Bk : Loop → World → Prop := fun r W => W.heap[w.heap.size + 1]? = some (.loop r) ∧ W.heap[w.heap.size]? = some (.deferred (some []))
  have hBk : ∀ r W, Bk r W ↔ (W.heap[w.heap.size + 1]? = some (.loop r) ∧ W.heap[w.heap.size]? = some (.deferred (some []))) := fun _ _ => Iff.rfl
  generalize hW1 : (w.alloc (.deferred (some []))).alloc (.loop (rec_ .ready none)) = W1 at hent
  have hB1 : Bk (rec_ .ready none) W1 := by
    subst hW1
    refine ⟨?_, (Below.heap_alloc _ _ _ (by simp)).trans (World.alloc_heap_new w _)⟩
    have := World.alloc_heap_new (w.alloc (.deferred (some []))) (.loop (rec_ .ready none))
    rwa [World.size_alloc] at this
  have hU1 : U [] W1 := by subst hW1; exact hU.alloc _ (hU.alloc _ h0)
  clear_value Bk rec_
  have keep : ∀ {r A B}, KeepsFrom w.heap.size A B → Bk r A → Bk r B := fun hk hb => by
    rw [hBk] at hb ⊢
    exact ⟨KeepsFrom.lie hk (Nat.le_succ _) hb.1 rfl, KeepsFrom.lie hk (Nat.le_refl _) hb.2 rfl⟩
  have big : ∀ {r A}, Bk r A → w.heap.size + 1 < A.heap.size := fun hb => by rw [hBk] at hb; exact (Array.getElem?_eq_some_iff.1 hb.1).1
  have turn : ∀ {r A} (r' : Loop), Bk r A → Bk r' (A.putObj (w.heap.size + 1) (.loop r')) := fun r' hb => by
    have h := big hb
    rw [hBk] at hb ⊢
    exact ⟨World.putObj_heap_same h, (World.putObj_heap_other (by omega)).trans hb.2⟩
  refine ⟨w.heap.size + 1, [{ target := .collected w.heap.size, args := #[] }], W1, { target := .fn (.func gf) lb, args := #[.func (.yield (w.heap.size + 1)) #[] #[]] }, W1, gf, #[.func (.yield (w.heap.size + 1)) #[] #[]] ++ lb, W1, hent, ?_, ?_, ?_, fun _ => h1, ?_⟩
  · simp only [resolve, hg]
    simp [go_sem]
  · intro f' hf'; simp [Target.leads] at hf'; subst hf'; exact hFg
  · simp [invoke, go_sem, eg]
  refine (hseq (w.heap.size + 1) (fun pre W => U pre W ∧ Bk (rec_ .ready none) W) (fun pre W => ∃ c, Ux c pre W ∧ Bk (rec_ .done (some c)) W) (fun pre W => D pre W ∧ Bk (rec_ .ready none) W) W1 ?_ ⟨hU1, hB1⟩).mono ?_
  · rintro pre A ⟨hu, hb⟩
    obtain ⟨s, hI, hmx, hst, hfi⟩ := hstep pre A hu (by have := big hb; omega)
    refine ⟨s, hI, hmx, fun x B hs => ?_, fun B hf => ⟨(hfi B hf).1, keep (hfi B hf).2 hb⟩⟩
    obtain ⟨hm0, hk⟩ := hst x B hs
    have hbB := keep hk hb
    have hl0 := ((hBk _ _).1 hbB).1
    obtain ⟨hm, hk2⟩ := hM1 pre x B hm0
    have hbB2 := keep hk2 hbB
    have hl := ((hBk _ _).1 hbB2).1
    have hy := run_yield (P := P) (args := encs x) hl0 (by rw [hrp]; exact hps x)
    obtain ⟨f1, f2, f3, f4, f5⟩ := hrf .ready none
    rw [f1, f2, f3, f4, hrp] at hy
    have hm2 : M' (pre, x, B.heap.size) ((w₁ x B).putObj (w.heap.size + 1) (.loop (rec_ .busy none))) := hM.putObj _ hm (Nat.le_succ _) hl rfl
    have hb2 : Bk (rec_ .busy none) ((w₁ x B).putObj (w.heap.size + 1) (.loop (rec_ .busy none))) := turn _ hbB2
    refine ⟨fn, _, assign, body, hy, roundIn_of_wpIn hfn (hassign _ x B _ ⟨_, by have := run_beginRound (P := P) hl (hrs _ _); rw [hrb2] at this; exact this, ?_⟩)⟩
    refine wpIn_mono (hbody _ pre x _ _ hm2) ?_
    have fin : ∀ (jump : Option Code) (W3 : World), KeepsFrom w.heap.size ((w₁ x B).putObj (w.heap.size + 1) (.loop (rec_ .busy none))) W3 →
        (Instr.endRound (w.heap.size + 1) jump).run P W3 = .ok (.bool jump.isNone) (W3.putObj (w.heap.size + 1) (.loop (rec_ (if jump.isNone then .ready else .done) jump))) ∧
        W3.heap[w.heap.size + 1]? = some (.loop (rec_ .busy none)) ∧ Bk (rec_ (if jump.isNone then .ready else .done) jump) (W3.putObj (w.heap.size + 1) (.loop (rec_ (if jump.isNone then .ready else .done) jump))) := fun jump W3 hk3 => by
      have hb3 := keep hk3 hb2
      have hl3 := ((hBk _ _).1 hb3).1
      have := run_endRound (P := P) jump hl3
      rw [hrb] at this
      exact ⟨this, hl3, turn _ hb3⟩
    rintro e a3 W3 hp
    cases e with
    | normal =>
      obtain ⟨hr, hl3, hb4⟩ := fin none W3 hp.1
      exact ⟨_, _, hr, .inl ⟨rfl, hU.putObj _ hp.2 (Nat.le_succ _) hl3 rfl, hb4⟩⟩
    | ret =>
      obtain ⟨hr, hl3, hb4⟩ := fin (some .ret) W3 hp.1
      exact ⟨_, _, hr, .inr ⟨rfl, .ret, (hUx _).putObj _ hp.2 (Nat.le_succ _) hl3 rfl, hb4⟩⟩
    | exit id =>
      obtain ⟨hr, hl3, hb4⟩ := fin (some (.exit id)) W3 hp.1
      exact ⟨_, _, hr, .inr ⟨rfl, .exit id, (hUx _).putObj _ hp.2 (Nat.le_succ _) hl3 rfl, hb4⟩⟩
    | goto t =>
      obtain ⟨hr, hl3, hb4⟩ := fin (some (.goto t)) W3 hp.1
      exact ⟨_, _, hr, .inr ⟨rfl, .goto t, (hUx _).putObj _ hp.2 (Nat.le_succ _) hl3 rfl, hb4⟩⟩
    | panic ch => exact hp.elim
    | outgrown => exact hp.elim
  · rintro e W2 ⟨⟨v, rfl⟩, (⟨pre, hd, hb⟩ | ⟨pre, c, hx, hb⟩)⟩
    · have hb2 := (hBk _ _).1 hb
      refine ⟨none, _, by have := run_endLoop (P := P) hb2.1 (by rw [hrs]; simp); rw [(hrf .ready none).2.2.2.2] at this; exact this, hdone _ pre _ (Nat.le_refl _) (hD.putObj _ hd (Nat.le_succ _) hb2.1 rfl) ((World.putObj_heap_other (by omega)).trans hb2.2)⟩
    · have hb2 := (hBk _ _).1 hb
      refine ⟨some c, _, by have := run_endLoop (P := P) hb2.1 (by rw [hrs]; simp); rw [(hrf .done (some c)).2.2.2.2] at this; exact this, hstop _ c pre _ (Nat.le_refl _) ((hUx c).putObj _ hx (Nat.le_succ _) hb2.1 rfl) ((World.putObj_heap_other (by omega)).trans hb2.2)⟩

/-- The same where a round's frame is told out of the loop's own. -/
theorem range_mut_sl {α σ : Type} {g : Operand} {ps : Array Tmp} {assign body : Code} {Q : Exit → Act → World → Prop} {a : Act} {w : World}
    (hro : F.round = none) (h1 : 1 ≤ n) {gf : Nat} {lb : Array Value} (hg : a.eval g = .func (.func gf) #[] lb) (hFg : F.fn gf) (eg : ∀ args w, (callFunc gf args).run P w = .ok (.enter gf args) w)
    {encs : α → Array Value} {I : σ → World → Prop} {Step : σ → α → World → World → Prop} {Fin : σ → World → World → Prop} {mx : Nat} (hseq : Seq F (n - 1) P gf lb encs I Step Fin mx) (hps : ∀ x, (encs x).size = ps.size)
    (U : List α → World → Prop) (M : List α × α → World → Prop) (M' : List α × α × Nat → World → Prop) (D : List α → World → Prop) (Ux : Code → List α → World → Prop)
    (hU : OwnFrom w.heap.size U) (hM : OwnFrom w.heap.size M') (hD : OwnFrom w.heap.size D) (hUx : ∀ c, OwnFrom w.heap.size (Ux c))
    (hstep : ∀ pre A, U pre A → w.heap.size ≤ A.heap.size → ∃ s, I s A ∧ pre.length ≤ mx ∧ (∀ x B, Step s x A B → M (pre, x) B ∧ KeepsFrom w.heap.size A B) ∧ (∀ B, Fin s A B → D pre B ∧ KeepsFrom w.heap.size A B))
    (h0 : U [] w) (sl : Array Value → α → Nat → Array Value) (w₁ : α → World → World) (hM1 : ∀ pre x W, M (pre, x) W → M' (pre, x, W.heap.size) (w₁ x W) ∧ KeepsFrom w.heap.size W (w₁ x W))
    (hassign : ∀ (l : Nat) (x : α) (W : World) (K : Act → World → Prop), K { tmps := sl a.tmps x W.heap.size, defers := [] } (w₁ x W) →
      assign.wpIn (F.inRound l) (n - 1 - 1) P (Exit.then K (fun _ _ _ => False)) { tmps := (ps.zip (encs x)).foldl (fun t (p, v) => t.setIfInBounds p v) a.tmps, defers := [] } W)
    (hbody : ∀ (l : Nat) (pre : List α) (x : α) (b : Nat) (W : World), M' (pre, x, b) W → body.wpIn (F.inRound l) (n - 1 - 1) P (Left w.heap.size U Ux (pre ++ [x]) W) { tmps := sl a.tmps x b, defers := [] } W)
    (hdone : ∀ (d : Nat) (xs : List α) (W : World), w.heap.size ≤ d → D xs W → W.heap[d]? = some (.deferred (some [])) → Q .normal { a with defers := { target := .collected d, args := #[] } :: a.defers } W)
    (hstop : ∀ (d : Nat) (c : Code) (pre : List α) (W : World), w.heap.size ≤ d → Ux c pre W → W.heap[d]? = some (.deferred (some [])) → c.wpIn F n P Q { a with defers := { target := .collected d, args := #[] } :: a.defers } W) :
    (Code.rangeFunc g ps assign body).wpIn F n P Q a w :=
  range_mut hro h1 hg hFg eg hseq hps U M M' D Ux hU hM hD hUx hstep h0 (fun x b => { tmps := sl a.tmps x b, defers := [] }) w₁ hM1 hassign hbody hdone hstop

end Mu
end Go.Proofs.YtocoonkachbjaaaGreatDoor
