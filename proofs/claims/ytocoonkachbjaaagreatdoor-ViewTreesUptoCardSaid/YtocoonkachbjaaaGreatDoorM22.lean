/- Several texts in one: what each proves its own first comment says. -/
import Derived.Test.YtocoonkachbjaaaGreatDoorM21
import Derived.Test.YtocoonkachbjaaaGreatDoorM13
import Derived.Laws.StructEq
import Derived.Deep.MidRow
import Derived.Test.YtocoonkachbjaaaGreatDoorProg
import Derived.Test.YtocoonkachbjaaaGreatDoorM1
import Derived.Laws.Concat
import Derived.Laws.BytesString
import Derived.Laws.BytesArg
import Derived.BigQuiet
import Derived.Deep.QuietTactic
import Derived.Deep.RegionWith
import Derived.WalkLawsBesides
import Derived.WalkSpells
import Derived.OwnWalk
import Derived.Outline
import Derived.Lib.Strings
import Derived.Test.YtocoonkachbjaaaGreatDoorM17

/- view.Kids and its iterator. -/
namespace Go.Proofs.YtocoonkachbjaaaGreatDoor
open Go.RowKit Go.Maps
set_option linter.unusedVariables false
namespace Vw
attribute [local go_sem] Oper.semAt_some

/-- The iterator's blocks stay while the body writes its own. -/
def Kept (C Fp : Nat → Prop) (w A : World) : Prop := ∀ b, C b → ¬ Fp b ∧ b < A.heap.size ∧ A.heap[b]? = w.heap[b]?
theorem Kept.agree {C Fp : Nat → Prop} {w A : World} (h : Kept C Fp w A) : ∀ b, C b → b < A.heap.size ∧ A.heap[b]? = w.heap[b]? := fun b hb => (h b hb).2
theorem Kept.yield {C Fp Fp' : Nat → Prop} {w A A' : World} (h : Kept C Fp w A) (ho : Only Fp A A') (hn : ∀ b, Fp' b → Fp b ∨ A.heap.size ≤ b) : Kept C Fp' w A' := fun b hb => by
  obtain ⟨h1, h2, h3⟩ := h b hb
  refine ⟨fun hf => ?_, Nat.lt_of_lt_of_le h2 ho.size, (ho.block b h2 h1).trans h3⟩
  rcases hn b hf with h4 | h4
  · exact h1 h4
  · omega
def encS (ss : List Sess) (i : Nat) : Array Value := #[.agg (csAt ss i).toArray]
theorem sess_range {W : World} {p : Option Addr} {c : Nat} {ss : List Sess} (h : SessArg W (.slice p ss.length c) ss) {i : Nat} (hi : i < ss.length) : ∃ ga oa, p = some ⟨ga, oa, none⟩ ∧ W.rangeAt ga (oa + i * 12) (csAt ss i) := by
  obtain ⟨p2, c2, e, hc⟩ := h
  injection e with e1 e2 e3
  obtain ⟨ga, oa, h1, h2, h3⟩ := hc i hi
  exact ⟨ga, oa, e1.trans h1, fun j u hu => h3 j u (by rw [csAt_at hi] at hu; exact hu)⟩
theorem cs_len {ss : List Sess} {i : Nat} (h : i < ss.length) : (csAt ss i).length = 12 := by rw [csAt_at h]; rfl

set_option maxRecDepth 100000 in
set_option maxHeartbeats 4000000 in
theorem kids1_seq (n : Nat) (ss : List Sess) (hl : ss.length ≤ 65536) (d : Value) (bk bf : Nat) (v : Value) (ls : List Nat) (hll : ls.length ≤ 65536) (hls : ∀ i ∈ ls, i < ss.length) (C : Nat → Prop) (w : World)
    (hC : ∀ W, (∀ b, C b → b < W.heap.size ∧ W.heap[b]? = w.heap[b]?) → SessArg W d ss ∧ W.cell? ⟨bf, 0, none⟩ = some d ∧ W.cell? ⟨bk, 0, none⟩ = some v ∧ In.IntArg W v (ints ls)) :
    Fo.SeqF Fence.wide n Tryz.prog 93 #[.pointer (some ⟨bk, 0, none⟩), .pointer (some ⟨bf, 0, none⟩)] (encS ss) (fun ys => ys = ls) (fun p => p <+: ls) C w := by
  intro l J Jx W Fp0 hCW hFp hJ hJx hY h0
  have hil : (ints ls).length = ls.length := by unfold ints; rw [List.length_map]
  obtain ⟨-, -, cv, p, c, rfl, -⟩ := hC W hCW
  rw [hil] at cv
  have HC := Lib.hid hC
  have HJ := Lib.hid hJ; have HY := Lib.hid hY; have HLS := Lib.hid hls
  have HK0 : Hid (Kept C Fp0 w W) := fun b hb => ⟨fun hf => (hFp b hf).2 hb, hCW b hb⟩
  have H0 := Lib.hid h0
  have HCV : Hid (∀ A : World, (∀ b, C b → b < A.heap.size ∧ A.heap[b]? = w.heap[b]?) → A.cell? ⟨bf, 0, none⟩ = some d ∧ ∀ (j i : Nat), ls[j]? = some i → ∃ ga oa, p = some ⟨ga, oa, none⟩ ∧ A.cell? ⟨ga, oa + j, none⟩ = some (.int .i64 (i : Int))) := fun A hA => by
    obtain ⟨h1, h2, h3, p2, c2, e, hc⟩ := HC.out A hA
    refine ⟨h2, fun j i hji => ?_⟩
    have hlt := (List.getElem?_eq_some_iff.1 hji).1
    obtain ⟨ga, oa, k1, k2, k3⟩ := hc j (by rw [hil]; exact hlt)
    injection e with e1 e2 e3
    refine ⟨ga, oa, e1.trans k1, ?_⟩
    have e4 : ls[j] = i := (List.getElem?_eq_some_iff.1 hji).2
    rw [k3]; simp [ints, e4]
  clear hC hJ hJx hY hls hCW hFp h0 hil
  refine callsIn_of_wp Tryz.func93 rfl trivial ?_ rfl
  simp only [Tryz.ntmps93, List.size_toArray, List.length_cons, List.length_nil, Nat.reduceAdd, Nat.reduceSub, Array.replicate_succ, Array.replicate_zero, List.push_toArray, List.append_toArray, List.nil_append, List.cons_append]
  gi_wp2
  gi_loopw [8] (fun i wr => ∃ (k : Nat) (Fp : Nat → Prop), k ≤ ls.length ∧ i = .int .i64 k ∧ J (ls.take k) Fp wr ∧ W.heap.size ≤ wr.heap.size ∧ Kept C Fp w wr) (fun i _ => ls.length - (intOf i).toNat)
  case atStart => exact ⟨0, Fp0, Nat.zero_le _, rfl, H0.out, Nat.le_refl _, HK0.out⟩
  case round =>
    obtain ⟨k, Fp, hk, rfl, hj, hsz, hkp⟩ := hrel
    have b0 : (0 : Int) ≤ (k : Int) := by omega
    by_cases hlt : k < ls.length
    · have b1 : (k : Int) < (ls.length : Int) := by omega
      have w1' : IntKind.i64.wrap ((k : Int) + 1) = ((k + 1 : Nat) : Int) := by rw [IntWalk.i64_in _ (by omega)]; rfl
      obtain ⟨i, hi⟩ : ∃ i, ls[k]? = some i := ⟨_, List.getElem?_eq_getElem hlt⟩
      obtain ⟨cf, hint⟩ := HCV.out wr hkp.agree
      obtain ⟨ga, oa, rfl, c1⟩ := hint k i hi
      have hin := HLS.out i (List.mem_of_getElem? hi)
      have hse := (HC.out wr hkp.agree).1
      obtain ⟨p3, c3, e3, -⟩ := id hse
      subst e3
      obtain ⟨gs, os, rfl, hrg⟩ := sess_range hse hin
      obtain ⟨fn, tmps, assign, body, hy, hR⟩ := HY.out (ls.take k) i Fp wr hj hsz (by
        have e : ls.take (k + 1) = ls.take k ++ [i] := by rw [List.take_add_one, hi]; rfl
        show _ <+: _
        rw [← e]; exact List.take_prefix _ _)
      unfold encS at hy
      obtain ⟨cs, hcs⟩ : ∃ cs, cs = csAt ss i := ⟨_, rfl⟩
      have HCL : Hid (cs.length = 12) := by show _ = _; rw [hcs]; exact cs_len hin
      rw [← hcs] at hrg hy
      have HRG := Lib.hid hrg; have HR := Lib.hid hR; have HI := Lib.hid hi; have HLT := Lib.hid hlt; have HKP := Lib.hid hkp
      have htk : ls.take (k + 1) = ls.take k ++ [i] := by rw [List.take_add_one, hi]; rfl
      have HTK := Lib.hid htk; have HSZ := Lib.hid hsz
      have i0 : (0 : Int) ≤ (i : Int) := by omega
      have i1 : (i : Int) < (ss.length : Int) := by omega
      clear hrg hR hi hlt hj hkp hint hcs hse htk hsz hin
      gi_wp2_with (refine Ag.wpListIn_load (by rfl) 30 _ (by rfl) _ _ (by rfl) cs _ HRG.out Tryz.underlying30 rfl (by rw [HCL.out]; kernel_rfl) ?_)
      refine ⟨fun h => by simp [Fence.wide] at h, HR.out.mono ?_⟩
      rintro e W3 (⟨rfl, Fp', hJ3, ho3, hn3⟩ | ⟨rfl, Fp', hJx3, -, -⟩)
      · have HU : Hid (J (ls.take (k + 1)) Fp' W3) := by show J _ _ _; rw [HTK.out]; exact hJ3
        have HS3 : Hid (W.heap.size ≤ W3.heap.size) := Nat.le_trans HSZ.out ho3.size
        have HK3 := Lib.hid (HKP.out.yield ho3 hn3)
        clear hJ3 ho3 hn3
        gi_wp2
        go_roundw
        case rel => have := HLT.out; exact ⟨k + 1, Fp', by omega, rfl, HU.out, HS3.out, HK3.out⟩
        case measure => have := HLT.out; simp [intOf]; omega
      · have HU : Hid (Jx (ls.take (k + 1)) Fp' W3) := by show Jx _ _ _; rw [HTK.out]; exact hJx3
        clear hJx3
        gi_wp2
        refine bodyPost_ret (results_none rfl _ _ _) rfl ?_
        exact ⟨⟨_, rfl⟩, .inr ⟨_, Fp', List.take_prefix _ _, HU.out⟩⟩
    · have b1 : (ls.length : Int) ≤ (k : Int) := by omega
      have e : ls.take k = ls := List.take_of_length_le (by omega)
      rw [e] at hj
      clear hlt
      gi_wp2
      go_end0
      exact ⟨⟨_, rfl⟩, .inl ⟨_, Fp, rfl, hj⟩⟩

/-- Those that hang below one. -/
def kidsOf (ss : List Sess) (b : Int) : List Nat := if b = 0 then Vt.roots (bu ss) ss.length else match firstL ss b with
  | none => []
  | some p => Vt.kidsN (bu ss) ss.length p
theorem kidsOf_lt {ss : List Sess} {b : Int} : ∀ i ∈ kidsOf ss b, i < ss.length := fun i hi => by
  unfold kidsOf at hi
  split at hi
  · exact Vt.roots_lt _ _ i hi
  · split at hi
    · cases hi
    · exact (Vt.kids_up _ _ _ i hi).2
theorem kidsOf_len {ss : List Sess} {b : Int} : (kidsOf ss b).length ≤ ss.length := by
  unfold kidsOf
  split
  · exact Vt.krow_len (bu ss) ss.length 0
  · split
    · exact Nat.zero_le _
    · rename_i p _
      exact Vt.krow_len (bu ss) ss.length (p + 1)
theorem ints_keep {w W : World} {base n : Nat} {v : Value} {l : List Nat} (h : w.ownsRow base 3 1 v n (l.map nv)) (hb : ∀ b, base ≤ b → b < w.heap.size → b < W.heap.size ∧ W.heap[b]? = w.heap[b]?) : In.IntArg W v (ints l) :=
  nv_ints (own_keep h (fun b e => (hb b (h.lt b e).1 (h.lt b e).2).2))
theorem GrAt.reads {ss : List Sess} {lo L F bm g : Nat} {q : Option Addr} {c : Nat} {w : World} (h : GrAt ss lo L F bm g (.slice q ss.length c) ss.length w) : ∃ vs : Nat → Value, (∀ j, j < ss.length + 1 → ∃ p m k, vs j = .slice p m k) ∧ ∀ W : World, (∀ b, lo ≤ b → b < w.heap.size → b < W.heap.size ∧ W.heap[b]? = w.heap[b]?) → FW ss (.slice q ss.length c) g vs W := by
  obtain ⟨vs, hv⟩ := h.rows
  refine ⟨vs, fun j hj => ?_, fun W hW => ⟨sess_of_own (own_keep h.clone (fun b e => (hW b (h.clone.lt b e).1 (h.clone.lt b e).2).2)), ((hW g h.lg.1 (Array.getElem?_eq_some_iff.1 hv.top).1).2).trans hv.top, fun j hj => ints_keep (Ut.own_base (hv.row j hj) h.lL.1) hW⟩⟩
  obtain ⟨p, k, e, _⟩ := own_any_shape (hv.row j hj)
  exact ⟨p, _, k, e⟩
theorem krow_zero_roots (ss : List Sess) : Vt.krow (bu ss) ss.length 0 = Vt.roots (bu ss) ss.length := rfl

theorem kids_close {ss : List Sess} (hl : ss.length ≤ 65536) {w w1 W' : World} {qd : Option Addr} {cd g : Nat} {vs : Nat → Value} {v : Value} {ls : List Nat} (hls : ∀ i ∈ ls, i < ss.length) (hll : ls.length ≤ ss.length)
    (hrd : ∀ W : World, (∀ x, w.heap.size ≤ x → x < w1.heap.size → x < W.heap.size ∧ W.heap[x]? = w1.heap[x]?) → FW ss (.slice qd ss.length cd) g vs W) (hw1 : w.heap.size ≤ w1.heap.size) (h13 : ∀ x, x < w1.heap.size → W'.heap[x]? = w1.heap[x]?) (hsz : w1.heap.size + 2 ≤ W'.heap.size)
    (hbf : W'.heap[w1.heap.size]? = some (.cells #[.slice qd ss.length cd, .slice (some ⟨g, 0, none⟩) (ss.length + 1) (ss.length + 1)] 77 (0, 0))) (hbk : W'.heap[w1.heap.size + 1]? = some (.cells #[v] 82 (0, 0)))
    (hv : ∀ W, FW ss (.slice qd ss.length cd) g vs W → In.IntArg W v (ints ls)) (n : Nat) : Fo.SeqF Fence.wide n Tryz.prog 93 #[.pointer (some ⟨w1.heap.size + 1, 0, none⟩), .pointer (some ⟨w1.heap.size, 0, none⟩)] (encS ss) (fun ys => ys = ls) (fun p => p <+: ls) (fun x => w.heap.size ≤ x ∧ x < W'.heap.size) W' := by
  refine kids1_seq n ss hl (.slice qd ss.length cd) (w1.heap.size + 1) w1.heap.size v ls (by omega) hls _ W' (fun W hW => ?_)
  have hfw := hrd W (fun x h2 h3 => by
    have h4 := hW x ⟨h2, by omega⟩
    exact ⟨h4.1, h4.2.trans (h13 x h3)⟩)
  have h5 := hW w1.heap.size ⟨hw1, by omega⟩
  have h6 := hW (w1.heap.size + 1) ⟨by omega, by omega⟩
  exact ⟨hfw.sess, by rw [block_cell (h5.2.trans hbf)]; rfl, by rw [block_cell (h6.2.trans hbk)]; rfl, hv W hfw⟩

set_option maxRecDepth 100000 in
set_option maxHeartbeats 4000000 in
theorem vkids_any (v : Value) (ss : List Sess) (hl : ss.length ≤ 65536) (hwf : ∀ s ∈ ss, (Lit.int .i64 s.birth).wf = true ∧ (Lit.int .i64 s.ub).wf = true) (b : Int) (w : World) (h1 : SessArg w v ss) :
    Calls Tryz.prog 56 #[v, .int .i64 b] w fun e w' => (∃ bk bf, e = .returned (.func (.func 93) #[] #[.pointer (some ⟨bk, 0, none⟩), .pointer (some ⟨bf, 0, none⟩)]) ∧
      ∀ n, Fo.SeqF Fence.wide n Tryz.prog 93 #[.pointer (some ⟨bk, 0, none⟩), .pointer (some ⟨bf, 0, none⟩)] (encS ss) (fun ys => ys = kidsOf ss b) (fun p => p <+: kidsOf ss b) (fun x => w.heap.size ≤ x ∧ x < w'.heap.size) w') ∧ Below w.heap.size w w' := by
  have HG := Lib.hid (grow_any v ss hl hwf w h1)
  have hlI : (ss.length : Int) ≤ 9223372036854775807 := by omega
  clear h1 hwf
  go_enter Tryz.func56, Tryz.ntmps56
  go_wp2_with fail
  refine HG.out.mono ?_
  rintro e w1 ⟨⟨L, F, bm, g, d, rfl, hgr⟩, hb1⟩
  obtain ⟨qd, cd, rfl, -⟩ := own_any_shape hgr.clone
  obtain ⟨vs, hsh, hrd⟩ := hgr.reads
  have HRD := Lib.hid hrd; have HSH := Lib.hid hsh; have HB1 := Lib.hid hb1
  obtain ⟨W2, hW2⟩ : ∃ W2, W2 = (w1.alloc (.cells #[.slice qd ss.length cd, .slice (some ⟨g, 0, none⟩) (ss.length + 1) (ss.length + 1)] 77)).alloc (.cells #[.slice none 0 0] 82) := ⟨_, rfl⟩
  have hb2 : Below w1.heap.size w1 W2 := by rw [hW2]; exact ((Below.refl _ _).alloc (Nat.le_refl _) _).alloc (by simp) _
  have HB2 := Lib.hid hb2
  have hs2 : W2.heap.size = w1.heap.size + 2 := by rw [hW2, World.size_alloc, World.size_alloc]
  have HS2 := Lib.hid hs2
  have HF : Hid (SessArg W2 (.slice qd ss.length cd) ss) := (hrd W2 (fun x h2 h3 => ⟨by omega, hb2.block x h3⟩)).sess
  have HFI := Lib.hid (vfirst_any (.slice qd ss.length cd) (.slice (some ⟨g, 0, none⟩) (ss.length + 1) (ss.length + 1)) ss hlI b W2 HF.out rfl rfl)
  have hbf : W2.heap[w1.heap.size]? = some (.cells #[.slice qd ss.length cd, .slice (some ⟨g, 0, none⟩) (ss.length + 1) (ss.length + 1)] 77 (0, 0)) := by rw [hW2, al_old (by simp)]; exact Ut.alloc_at _ _
  have hbk : W2.heap[w1.heap.size + 1]? = some (.cells #[.slice none 0 0] 82 (0, 0)) := by
    rw [hW2]
    have := Ut.alloc_at (w1.alloc (.cells #[.slice qd ss.length cd, .slice (some ⟨g, 0, none⟩) (ss.length + 1) (ss.length + 1)] 77)) (.cells #[.slice none 0 0] 82)
    rwa [World.size_alloc] at this
  have HBF := Lib.hid hbf; have HBK := Lib.hid hbk
  clear hgr hb1 hrd hsh hb2 hs2 hbf hbk
  go_wp2_with fail
  rw [← hW2]
  clear hW2
  refine HFI.out.mono ?_
  rintro e w3 ⟨rfl, hb3⟩
  have hs3 := hb3.size
  have hbf3 := (hb3.block w1.heap.size (by have := HS2.out; omega)).trans HBF.out
  have hbk3 := (hb3.block (w1.heap.size + 1) (by have := HS2.out; omega)).trans HBK.out
  have h13 : ∀ x, x < w1.heap.size → w3.heap[x]? = w1.heap[x]? := fun x hx => (hb3.block x (by have := HS2.out; omega)).trans (HB2.out.block x hx)
  have hfw3 := HRD.out w3 (fun x h2 h3 => ⟨by have := HS2.out; omega, h13 x h3⟩)
  have cf1 : w3.cell? ⟨w1.heap.size, 1, none⟩ = some (.slice (some ⟨g, 0, none⟩) (ss.length + 1) (ss.length + 1)) := by rw [block_cell hbf3]; rfl
  have ck0 : w3.cell? ⟨w1.heap.size + 1, 0, none⟩ = some (.slice none 0 0) := by rw [block_cell hbk3]; rfl
  have fk0 : w3.frozen? ⟨w1.heap.size + 1, 0, none⟩ = false := block_free hbk3 0
  have HBW : Hid (Below w.heap.size w w3) := HB1.out.trans ((HB2.out.trans (hb3.mono HB2.out.size)).mono HB1.out.size)
  have HS3 : Hid (w1.heap.size + 2 ≤ w3.heap.size) := by have := HS2.out; show _ ≤ _; omega
  have HW1 := Lib.hid HB1.out.size; have HBF3 := Lib.hid hbf3; have HBK3 := Lib.hid hbk3; have H13 := Lib.hid h13; have HFW3 := Lib.hid hfw3
  have HST : Hid (∀ u : Value, (w3.setCell ⟨w1.heap.size + 1, 0, none⟩ u).heap[w1.heap.size + 1]? = some (.cells #[u] 82 (0, 0)) ∧ (w3.setCell ⟨w1.heap.size + 1, 0, none⟩ u).heap[w1.heap.size]? = some (.cells #[.slice qd ss.length cd, .slice (some ⟨g, 0, none⟩) (ss.length + 1) (ss.length + 1)] 77 (0, 0)) ∧
      (∀ x, x < w1.heap.size → (w3.setCell ⟨w1.heap.size + 1, 0, none⟩ u).heap[x]? = w1.heap[x]?) ∧ w1.heap.size + 2 ≤ (w3.setCell ⟨w1.heap.size + 1, 0, none⟩ u).heap.size ∧ Below w.heap.size w (w3.setCell ⟨w1.heap.size + 1, 0, none⟩ u)) := fun u => by
    have s0 : (w3.setCell ⟨w1.heap.size + 1, 0, none⟩ u).heap.size = w3.heap.size := by simp [World.setCell]
    refine ⟨by rw [heap_setCell_same w3 (w1.heap.size + 1) 0 _ _ u HBK3.out]; rfl, by rw [Below.heap_setCell _ _ _ _ (by show w1.heap.size ≠ w1.heap.size + 1; omega)]; exact HBF3.out, fun x hx => by rw [Below.heap_setCell _ _ _ _ (by show x ≠ w1.heap.size + 1; omega)]; exact H13.out x hx, by rw [s0]; exact HS3.out, HBW.out.setCell (p := ⟨w1.heap.size + 1, 0, none⟩) (by have := HW1.out; show _ ≤ w1.heap.size + 1; omega) u⟩
  have htop := hfw3.top
  clear hb3 hs3 hbf3 hbk3 h13 hfw3
  by_cases hb : b = 0
  · have hbq : (b == 0) = true := by simp [hb]
    obtain ⟨p0, m0, k0, e0⟩ := HSH.out 0 (Nat.succ_pos _)
    have cg : w3.cell? ⟨g, 0, none⟩ = some (.slice p0 m0 k0) := by rw [block_cell htop, arr_at (Nat.succ_pos _), e0]
    have HLS : Hid (kidsOf ss b = Vt.roots (bu ss) ss.length) := by show _ = _; unfold kidsOf; rw [if_pos hb]
    have HV : Hid (∀ W, FW ss (.slice qd ss.length cd) g vs W → In.IntArg W (.slice p0 m0 k0) (ints (kidsOf ss b))) := fun W hW => by
      rw [HLS.out, ← e0]; exact hW.row 0 (Nat.succ_pos _)
    clear hb htop
    go_wp2
    go_ret
    obtain ⟨x1, x2, x3, x4, x5⟩ := HST.out (.slice p0 m0 k0)
    exact ⟨⟨_, _, rfl, fun n => kids_close hl (fun i hi => kidsOf_lt i hi) kidsOf_len HRD.out HW1.out x3 x4 x2 x1 HV.out n⟩, x5⟩
  · have hbq : (b == 0) = false := by rw [beq_eq_false_iff_ne]; exact hb
    cases hf : firstL ss b with
    | none =>
      have e1 : firstI ss b = -1 := by unfold firstI; rw [hf]
      have HLS : Hid (kidsOf ss b = []) := by show _ = _; unfold kidsOf; rw [if_neg hb, hf]
      rw [e1]
      clear hb htop e1 hf
      go_wp2
      go_ret
      exact ⟨⟨_, _, rfl, fun n => kids_close hl (fun i hi => kidsOf_lt i hi) kidsOf_len HRD.out HW1.out H13.out HS3.out HBF3.out HBK3.out (fun W _ => by rw [HLS.out]; exact ⟨none, 0, rfl, fun j hj => absurd hj (Nat.not_lt_zero _)⟩) n⟩, HBW.out⟩
    | some p =>
      have e1 : firstI ss b = (p : Int) := by unfold firstI; rw [hf]
      have hpn := firstL_lt hf
      have HLS : Hid (kidsOf ss b = Vt.kidsN (bu ss) ss.length p) := by show _ = _; unfold kidsOf; rw [if_neg hb, hf]
      obtain ⟨p0, m0, k0, e0⟩ := HSH.out (p + 1) (by omega)
      have cg : w3.cell? ⟨g, p + 1, none⟩ = some (.slice p0 m0 k0) := by rw [block_cell htop, arr_at (by omega), e0]
      have HV : Hid (∀ W, FW ss (.slice qd ss.length cd) g vs W → In.IntArg W (.slice p0 m0 k0) (ints (kidsOf ss b))) := fun W hW => by
        rw [HLS.out, ← e0]; exact hW.row (p + 1) (by omega)
      have i0 : (0 : Int) ≤ (p : Int) := by omega
      have w1' : IntKind.i64.wrap ((p : Int) + 1) = ((p + 1 : Nat) : Int) := by rw [IntWalk.i64_in _ (by omega)]; rfl
      have i1 : (0 : Int) ≤ ((p + 1 : Nat) : Int) := by omega
      have i2 : ((p + 1 : Nat) : Int) < (ss.length : Int) + 1 := by omega
      have i3 : ((p + 1 : Nat) : Int) < ((ss.length + 1 : Nat) : Int) := by omega
      have i4 : (0 : Int) ≤ (p : Int) + 1 := by omega
      rw [e1]
      clear hb htop e1 hf
      go_wp2
      go_ret
      obtain ⟨x1, x2, x3, x4, x5⟩ := HST.out (.slice p0 m0 k0)
      exact ⟨⟨_, _, rfl, fun n => kids_close hl (fun i hi => kidsOf_lt i hi) kidsOf_len HRD.out HW1.out x3 x4 x2 x1 HV.out n⟩, x5⟩
end Vw
end Go.Proofs.YtocoonkachbjaaaGreatDoor

/- lineageref0.SameSessions of two lists that are alike, wherever they lie. -/
namespace Go.Proofs.YtocoonkachbjaaaGreatDoor
open Go.RowKit
set_option linter.unusedVariables false
namespace Vw

set_option maxRecDepth 100000 in
set_option maxHeartbeats 2000000 in
theorem equal_sess (x : Sess) (W : World) : (Op.equalIn 10000 30 (.agg x.cells.toArray) (.agg x.cells.toArray)).run Tryz.prog W = .ok true W := by
  obtain ⟨a1, a2, a3, a4, a5, a6, a7, a8, a9, a10, a11, a12⟩ := x
  unfold Sess.cells
  go_simp
theorem neq_sess (x : Sess) (W : World) : (binOp .neq 30 (.agg x.cells.toArray) (.agg x.cells.toArray)).run Tryz.prog W = .ok (.bool false) W := by
  rw [run_neq_struct, equal_sess]; rfl

section
variable {ops : Array Oper} {C : World → Prop} {Q : Act → Prop} {a : Act} {o : Oper} {rest : List Oper}
theorem wpQuiet_value {P : Program} (v : Value) (hw : Region.wanted o (yielded ops a.tmps) = true) (hv : ∀ w, C w → (execOp a.eval o).run P w = .ok (.value v) w) (h : wpQuiet P ops C Q rest (a.put o.dst v)) : wpQuiet P ops C Q (o :: rest) a :=
  wpQuiet_step fun K hK => by
    rw [if_pos hw]
    exact ⟨v, fun w hC => by unfold Oper.quietAt; rw [hv w hC]; exact ⟨rfl, rfl⟩, hK _ h⟩
theorem wpQuiet_load_mid {P : Program} (hw : Region.wanted o (yielded ops a.tmps) = true) (ty : TypeId) (x : Operand) (ho : o.op = .load ty x)
    (b k : Nat) (hx : a.eval x = .pointer (some ⟨b, k, none⟩)) (cs : List Value) (d : TypeDesc) (hS : ∀ w, C w → w.rangeAt b k cs)
    (hu : P.underlying ty = some d) (hd : d.isRow = true) (hi : (P.info? ty).map (·.size) = some cs.length) (h : wpQuiet P ops C Q rest (a.put o.dst (.agg cs.toArray))) : wpQuiet P ops C Q (o :: rest) a :=
  wpQuiet_value (.agg cs.toArray) hw (fun w hw' => by
    unfold execOp
    simp only [ho, hx, Instr.loadAt, Instr.sureAddr, Sem.run_bind, Sem.run_pure, Result.andThen_ok, run_loadVar_mid w b k ty cs d (hS w hw') hu hd hi]) h
theorem exec_neq_sess (s : Sess) (tt : TypeId) (x y : Operand) (ho : o.op = .binOp .neq 30 x y tt) (hx : a.eval x = .agg s.cells.toArray) (hy : a.eval y = .agg s.cells.toArray) (w : World) :
    (execOp a.eval o).run Tryz.prog w = .ok (.value (.bool false)) w := by
  have e1 := run_eqGuard_agg (P := Tryz.prog) w .neq 30 x y s.cells.toArray s.cells.toArray (by kernel_rfl)
  unfold execOp
  simp only [ho, hx, hy, Sem.run_bind, e1, Result.andThen_ok, neq_sess, Sem.run_pure]
end

/-- A session of a list, where it lies. -/
theorem SessArg.at {w : World} {q : Option Addr} {n c : Nat} {ss : List Sess} (h : SessArg w (.slice q n c) ss) {k : Nat} (hk : k < ss.length) :
    ∃ g o, q = some ⟨g, o, none⟩ ∧ g < w.heap.size ∧ w.rangeAt g (o + k * 12) ss[k].cells := by
  obtain ⟨p, cap, e, h⟩ := h
  cases e
  obtain ⟨g, o, rfl, hg, hc⟩ := h k hk
  exact ⟨g, o, rfl, hg, fun j v hv => hc j v hv⟩

def SameRel (n : Nat) (w : World) (i : Value) (wr : World) : Prop :=
  ∃ k : Nat, k ≤ n ∧ i = .int .i64 k ∧ Below w.heap.size w wr

set_option maxRecDepth 100000 in
set_option maxHeartbeats 2000000 in
theorem sameS_any (v u : Value) (ss : List Sess) (hl : (ss.length : Int) ≤ 9223372036854775807) (w : World) (h1 : SessArg w v ss) (h2 : SessArg w u ss) :
    Calls Tryz.prog 96 #[v, u] w fun e w' => e = .returned (.bool true) ∧ Below w.heap.size w w' := by
  obtain ⟨p, cp, rfl, -⟩ := id h1
  obtain ⟨q, cq, rfl, -⟩ := id h2
  have H1 := Lib.hid h1; have H2 := Lib.hid h2
  clear h1 h2
  have e1 : ((ss.length : Int) != (ss.length : Int)) = false := by simp
  go_enter Tryz.func96, Tryz.ntmps96
  go_wp2
  go_loopw [5] (fun i wr => SameRel ss.length w i wr) (fun i _ => ss.length - (intOf i).toNat)
  case atStart => exact ⟨0, Nat.zero_le _, rfl, Below.refl _ _⟩
  case round =>
    obtain ⟨k, hk, rfl, hbr⟩ := hrel
    by_cases h : k < ss.length
    · obtain ⟨g1, o1, rfl, hg1, k1⟩ := H1.out.at h
      obtain ⟨g2, o2, rfl, hg2, k2⟩ := H2.out.at h
      have k1' : wr.rangeAt g1 (o1 + k * 12) ss[k].cells := fun j x hx => (hbr.cell (p := ⟨g1, o1 + k * 12 + j, none⟩) hg1).trans (k1 j x hx)
      have k2' : wr.rangeAt g2 (o2 + k * 12) ss[k].cells := fun j x hx => (hbr.cell (p := ⟨g2, o2 + k * 12 + j, none⟩) hg2).trans (k2 j x hx)
      have b1 : (0 : Int) ≤ (k : Int) := by omega
      have b2 : (k : Int) < (ss.length : Int) := by omega
      obtain ⟨sk, hsk⟩ : ∃ sk, sk = ss[k] := ⟨_, rfl⟩
      have r1 : ∀ w', (∃ n, w' = wr.drewN n) → w'.rangeAt g1 (o1 + k * 12) sk.cells := by rintro w' ⟨n, rfl⟩ j x hx; rw [World.cell?_drewN]; rw [hsk] at hx; exact k1' j x hx
      have r2 : ∀ w', (∃ n, w' = wr.drewN n) → w'.rangeAt g2 (o2 + k * 12) sk.cells := by rintro w' ⟨n, rfl⟩ j x hx; rw [World.cell?_drewN]; rw [hsk] at hx; exact k2' j x hx
      clear k1 k2 k1' k2' hsk
      have R1 := Lib.hid r1; have R2 := Lib.hid r2
      clear r1 r2
      go_wp2
      refine wp_region_quiet_lit (by kernel_rfl) (by kernel_rfl) ?_
      quiet_step (fail)
      quiet_step (fail)
      quiet_step (fail)
      refine wpQuiet_load_mid (by rfl) 30 (.tmp 19) rfl g1 (o1 + k * 12) rfl sk.cells _ R1.out Tryz.underlying30 rfl (by kernel_rfl) ?_
      quiet_step (fail)
      quiet_step (fail)
      quiet_step (fail)
      refine wpQuiet_load_mid (by rfl) 30 (.tmp 23) rfl g2 (o2 + k * 12) rfl sk.cells _ R2.out Tryz.underlying30 rfl (by kernel_rfl) ?_
      refine wpQuiet_value (.bool false) (by rfl) (fun w' _ => exec_neq_sess sk _ (.tmp 20) (.tmp 24) rfl rfl rfl w') ?_
      refine wpQuiet_nil ?_
      rintro _ ⟨nq, rfl⟩
      go_wp2
      go_roundw
      case rel => exact ⟨k + 1, by omega, by go_num, Ut.below_drewN hbr _⟩
      case measure => simp [intOf]; omega
    · have b2 : (ss.length : Int) ≤ (k : Int) := by omega
      go_wp2
      go_ret
      exact ⟨rfl, hbr⟩
end Vw
end Go.Proofs.YtocoonkachbjaaaGreatDoor

/- Marks of texts. -/
namespace Go.Proofs.YtocoonkachbjaaaGreatDoor
open Go.RowKit
set_option linter.unusedVariables false

theorem mk_info : (Tryz.prog.info? 9).map (fun i => (i.zero, i.size, i.bytes)) = some (some (.string ByteArray.empty), 1, 16) := by kernel_rfl
theorem mk_eq (p : ByteArray) : (p.toList == p.toList) = true := by simp

theorem conv_five (w : World) (x0 x1 x2 x3 x4 : Int) : (convert 108 9 (.slice (some ⟨w.heap.size, 0, none⟩) 5 5)).run Tryz.prog (w.alloc (.cells #[.int .u8 x0, .int .u8 x1, .int .u8 x2, .int .u8 x3, .int .u8 x4] 5)) = .ok (.string (strOfNums [x0, x1, x2, x3, x4])) (w.alloc (.cells #[.int .u8 x0, .int .u8 x1, .int .u8 x2, .int .u8 x3, .int .u8 x4] 5)) :=
  run_convert_bytes_arg (w.alloc (.cells #[.int .u8 x0, .int .u8 x1, .int .u8 x2, .int .u8 x3, .int .u8 x4] 5)) 108 5 Tryz.underlying108 Tryz.underlying5 w.heap.size 0 5 5 [x0, x1, x2, x3, x4] rfl (fun i hi => by
    match i, hi with
    | 0, _ => simp
    | 1, _ => simp
    | 2, _ => simp
    | 3, _ => simp
    | 4, _ => simp) 9 Tryz.underlying9

/-- A mark. -/
def markB (k i : Nat) : ByteArray := strOfNums [35, (k : Int) % 256, (k : Int) / 256 % 256, (i : Int) % 256, (i : Int) / 256 % 256]

set_option maxHeartbeats 1000000 in
theorem markText_any (k i : Nat) (hk : (k : Int) < 1099511627776) (hi : (i : Int) < 1099511627776) (w : World) :
    Calls Tryz.prog 90 #[.int .i64 k, .int .i64 i] w fun e w' => e = .returned (.string (markB k i)) ∧ Below w.heap.size w w' := by
  have hcv := conv_five w 35 ((k : Int) % 256) ((k : Int) / 256 % 256) ((i : Int) % 256) ((i : Int) / 256 % 256)
  have hbl : Below w.heap.size w (w.alloc (.cells #[.int .u8 35, .int .u8 ((k : Int) % 256), .int .u8 ((k : Int) / 256 % 256), .int .u8 ((i : Int) % 256), .int .u8 ((i : Int) / 256 % 256)] 5)) := (Below.refl _ _).alloc (Nat.le_refl _) _
  go_enter Tryz.func90, Tryz.ntmps90
  go_wp2
  go_ret
  exact ⟨rfl, hbl⟩

set_option maxHeartbeats 1000000 in
theorem markTexts_any (k i : Nat) (hk : (k : Int) < 1099511627776) (hi : (i : Int) < 1099511627776) (w : World) :
    Calls Tryz.prog 47 #[.int .i64 k, .int .i64 i] w fun e w' => e = .returned (.string (markB k i)) ∧ Below w.heap.size w w' := by
  have hm := Lib.hid (markText_any k i hk hi w)
  clear hk hi
  go_enter Tryz.func47, Tryz.ntmps47
  go_wp2_with fail
  refine hm.out.mono ?_
  rintro e w1 ⟨rfl, hb⟩
  go_wp2
  go_ret
  exact ⟨rfl, hb⟩

end Go.Proofs.YtocoonkachbjaaaGreatDoor

/- lineagekit.markSessions. -/
namespace Go.Proofs.YtocoonkachbjaaaGreatDoor
open Go.RowKit
set_option linter.unusedVariables false
namespace Vw
/-- A mark with this text. -/
def mkT (t : ByteArray) : Sess := ⟨0, -97, 0, 0, 0, .empty, t, 0, 0, 0, 0, 0⟩
def mkS (i : Nat) : Sess := mkT (markB 90 i)

set_option maxRecDepth 100000 in
set_option maxHeartbeats 1000000 in
theorem markText_neg (i : Int) (h0 : -140737488355328 ≤ i) (h1 : i < 1099511627776) (w : World) :
    Calls Tryz.prog 90 #[.int .i64 90, .int .i64 i] w fun e w' => ∃ s, e = .returned (.string s) ∧ Below w.heap.size w w' := by
  have hcv := conv_five w 35 90 0 (i % 256) (i / 256 % 256)
  have hbl : Below w.heap.size w (w.alloc (.cells #[.int .u8 35, .int .u8 90, .int .u8 0, .int .u8 (i % 256), .int .u8 (i / 256 % 256)] 5)) := (Below.refl _ _).alloc (Nat.le_refl _) _
  go_enter Tryz.func90, Tryz.ntmps90
  go_wp2
  go_ret
  exact ⟨_, rfl, hbl⟩

set_option maxRecDepth 100000 in
set_option maxHeartbeats 1000000 in
theorem markS_of (i : Int) (F : ByteArray → Prop) (w : World) (hm : ∀ w1, Calls Tryz.prog 90 #[.int .i64 90, .int .i64 i] w1 fun e w' => ∃ s, e = .returned (.string s) ∧ F s ∧ Below w1.heap.size w1 w') :
    Calls Tryz.prog 81 #[.int .i64 90, .int .i64 i] w fun e w' => ∃ s, e = .returned (.agg (mkT s).cells.toArray) ∧ F s ∧ Below w.heap.size w w' := by
  have HM := Lib.hid hm
  clear hm
  go_enter Tryz.func81, Tryz.ntmps81
  go_wp2_with fail
  refine (HM.out _).mono ?_
  rintro e w1 ⟨s, rfl, hF, hb⟩
  have hz := (hb.block w.heap.size (by simp)).trans (Ut.alloc_at w _)
  obtain ⟨cs, hcs⟩ : ∃ cs, cs = (mkT s).cells := ⟨_, rfl⟩
  have HCS := Lib.hid hcs
  have HCL : Hid (cs.length = 12) := by show _ = _; rw [hcs]; rfl
  have HC1 : Hid (∀ v ∈ cs, v.oneCell' = true) := by
    intro v hv
    rw [hcs] at hv
    simp [Sess.cells] at hv
    rcases hv with rfl | rfl | rfl | rfl | rfl | rfl | rfl | rfl | rfl | rfl | rfl | rfl <;> rfl
  have HT := Lib.hid (Ag.there_row hz cs.toArray.size (by simp; rw [HCL.out]; decide))
  have he := Ag.setCells_row _ _ cs 0 _ _ hz
  rw [Ag.put_all (by rw [HCL.out]; rfl)] at he
  have HE := Lib.hid he
  have HB : Hid (Below w.heap.size w (w1.setCells w.heap.size 0 cs)) := Ag.below_setCells (Nat.le_refl _) _ _ _ (((Below.refl _ _).alloc (Nat.le_refl _) _).trans (hb.mono (by simp)))
  clear hz hb he hcs
  go_wp2_with (refine wpList_store_mid (by rfl) 30 (.tmp 4) (.tmp 10) (by rfl) w.heap.size 0 cs.toArray rfl (by rw [HCS.out]; rfl) HT.out (by rw [List.size_toArray, HCL.out]; kernel_rfl) (all_oneCell_toArray HC1.out) ?_)
  refine bodyPost_ret (results_cell_row rfl _ _ w.heap.size _ cs.toArray (0, 0) _ rfl HE.out Tryz.underlying30 rfl (by rw [List.size_toArray, HCL.out]; kernel_rfl)) rfl ?_
  exact ⟨s, by rw [HCS.out], hF, HB.out⟩
theorem markS_neg (i : Int) (h0 : -140737488355328 ≤ i) (h1 : i < 1099511627776) (w : World) :
    Calls Tryz.prog 81 #[.int .i64 90, .int .i64 i] w fun e w' => ∃ s, e = .returned (.agg (mkT s).cells.toArray) ∧ Below w.heap.size w w' :=
  (markS_of i (fun _ => True) w fun w1 => (markText_neg i h0 h1 w1).mono fun e w' ⟨s, h, hb⟩ => ⟨s, h, trivial, hb⟩).mono fun e w' ⟨s, h, _, hb⟩ => ⟨s, h, hb⟩
theorem markS_any (i : Nat) (hi : (i : Int) < 1099511627776) (w : World) :
    Calls Tryz.prog 81 #[.int .i64 90, .int .i64 i] w fun e w' => e = .returned (.agg (mkS i).cells.toArray) ∧ Below w.heap.size w w' :=
  (markS_of i (fun s => s = markB 90 i) w fun w1 => (markText_any 90 i (by decide) hi w1).mono fun e w' ⟨h, hb⟩ => ⟨_, h, rfl, hb⟩).mono fun e w' ⟨s, h, hs, hb⟩ => ⟨by rw [h, hs]; rfl, hb⟩
end Vw
end Go.Proofs.YtocoonkachbjaaaGreatDoor

/- lineagekit.FullSessions, LentSessions, KeptFullSessions, KeptSessions: of any sessions (printed by wip/mkvwlent.py). -/
namespace Go.Proofs.YtocoonkachbjaaaGreatDoor
open Go.RowKit
set_option linter.unusedVariables false
namespace Vw
/-- The marks behind a lent list. -/
def mks (k : Nat) : List Sess := (List.range k).map mkS
theorem mks_len (k : Nat) : (mks k).length = k := by simp [mks]
theorem mks_succ (k : Nat) : mks (k + 1) = mks k ++ [mkS k] := by simp [mks, List.range_succ]
theorem allV_snoc (l : List Sess) (s : Sess) : allV (l ++ [s]) = allV l ++ s.cells := by simp [allV, List.flatMap_append]
theorem allV_take {ss : List Sess} {k : Nat} (h : k < ss.length) : allV (ss.take (k + 1)) = allV (ss.take k) ++ ss[k].cells := by rw [List.take_succ_eq_append_getElem h, allV_snoc]

def F1 (ss : List Sess) (w : World) (l i : Value) (wr : World) : Prop :=
  ∃ k : Nat, k ≤ ss.length ∧ i = .int .i64 k ∧ wr.ownsRow w.heap.size 30 12 l k (allV (ss.take k)) ∧ Below w.heap.size w wr
def F2 (ss : List Sess) (w : World) (l i : Value) (wr : World) : Prop :=
  ∃ k : Nat, k ≤ 16 ∧ i = .int .i64 k ∧ wr.ownsRow w.heap.size 30 12 l (ss.length + k) (allV (ss ++ mks k)) ∧ Below w.heap.size w wr
theorem F1.push {ss : List Sess} {k : Nat} {w wr w1 : World} {l v' : Value} {o : Obj} (hk : k < ss.length) (hbl : Below w.heap.size w wr)
    (hown : wr.ownsRow w.heap.size 30 12 l k (allV (ss.take k)))
    (hown' : w1.ownsRow w.heap.size 30 12 v' (k + 1) (allV (ss.take k) ++ ss[k].cells)) (hgrow : (wr.alloc o).grownBy w1 l.ownBlock) : F1 ss w v' (.int .i64 ((k : Int) + 1)) w1 := by
  refine ⟨k + 1, by omega, by go_num, ?_, Ut.below_app hbl hbl.size hown hgrow⟩
  rw [allV_take hk]
  exact hown'
theorem F2.push {ss : List Sess} {k : Nat} {w wr w1 : World} {l v' : Value} {o : Obj} (hk : k < 16) (hbl : Below w.heap.size w wr)
    (hown : wr.ownsRow w.heap.size 30 12 l (ss.length + k) (allV (ss ++ mks k)))
    (hown' : w1.ownsRow w.heap.size 30 12 v' (ss.length + k + 1) (allV (ss ++ mks k) ++ (mkS k).cells)) (hgrow : (wr.alloc o).grownBy w1 l.ownBlock) : F2 ss w v' (.int .i64 ((k : Int) + 1)) w1 := by
  refine ⟨k + 1, by omega, by go_num, ?_, Ut.below_app hbl hbl.size hown hgrow⟩
  rw [mks_succ, ← List.append_assoc, allV_snoc]
  simpa [Nat.add_assoc] using hown'

set_option maxRecDepth 100000 in
set_option maxHeartbeats 4000000 in
theorem fullS_any (v : Value) (ss : List Sess) (hl : ss.length ≤ 65536) (w : World) (h1 : SessArg w v ss) :
    Calls Tryz.prog 39 #[v] w fun e w' => ∃ v', e = .returned v' ∧ w'.ownsRow w.heap.size 30 12 v' (ss.length + 16) (allV (ss ++ mks 16)) ∧ Below w.heap.size w w' := by
  obtain ⟨q, c, rfl, -⟩ := id h1
  have H1 := Lib.hid h1
  obtain ⟨i0, hi, hz0, hz1, hz2⟩ := info_parts vinfo_sess
  clear h1
  have b0 : (ss.length : Int) ≤ 65536 := by omega
  go_enter Tryz.func39, Tryz.ntmps39
  go_wp2
  go_loopw [3, 4] (fun l i wr => F1 ss w l i wr) (fun _ i _ => ss.length - (intOf i).toNat)
  case atStart => exact ⟨0, Nat.zero_le _, rfl, World.ownsRow_nil _ _ _ _, Below.refl _ _⟩
  case round =>
    obtain ⟨k, hk, rfl, hown, hbl⟩ := hrel
    have HO := Lib.hid hown; have HBL := Lib.hid hbl
    have hzw : w.heap.size ≤ wr.heap.size := hbl.size
    clear hown hbl
    have b2 : (0 : Int) ≤ (k : Int) := by omega
    by_cases h : k < ss.length
    · have b3 : (k : Int) < (ss.length : Int) := by omega
      obtain ⟨g1, o1, rfl, hg1, k1⟩ := H1.out.at h
      have am1 : k + 1 ≤ maxLen := by unfold maxLen; omega
      have am2 : (k + 1) * 112 ≤ 140737488355328 := by omega
      obtain ⟨cs, hcs⟩ : ∃ cs, cs = ss[k].cells := ⟨_, rfl⟩
      have HRG : Hid (wr.rangeAt g1 (o1 + k * 12) cs) := fun j u hu => (HBL.out.cell (p := ⟨g1, o1 + k * 12 + j, none⟩) hg1).trans (k1 j u (by rw [← hcs]; exact hu))
      have HCL : Hid (cs.length = 12) := by show _ = _; rw [hcs]; rfl
      have HC1 : Hid (∀ u ∈ cs, u.oneCell' = true) := by show ∀ _, _; rw [hcs]; exact ss[k].one
      have HPU := Lib.hid (fun (l v' : Value) (w1 : World) (o : Obj) (a1 : Below w.heap.size w wr) (a2 : wr.ownsRow w.heap.size 30 12 l k (allV (ss.take k))) => F1.push (v' := v') (w1 := w1) (o := o) h a1 a2)
      rw [← hcs] at HPU
      clear k1 hcs
      go_wp2_with (first
        | (refine wpList_load_mid (by rfl) 30 _ (by rfl) _ _ (by rfl) cs _ HRG.out Tryz.underlying30 rfl (by rw [HCL.out]; kernel_rfl) ?_)
        | (refine Ag.wpList_one (by rfl) 42 30 _ (by rfl) cs (by rfl) i0 _ Tryz.underlying42 hi hz0 (by rw [hz1]; exact HCL.out) (by rw [hz1]; decide) (by rw [hz1]; decide) ?_)
        | (at_builtin; refine wpList_append_own _ rfl _ _ 42 rfl w.heap.size 30 i0 (.agg #[.int .i64 0, .int .i64 0, .int .i64 0, .int .i64 0, .int .i64 0, .string ByteArray.empty, .string ByteArray.empty, .int .u64 0, .int .i64 0, .int .i64 0, .int .i64 0, .int .i64 0]) 12 112 Tryz.underlying42 hi hz0 hz1 hz2 rfl (by decide) _ _ _ rfl (HO.out.alloc _) ⟨wr.heap.size, 0, none⟩ 1 1 cs rfl HCL.out (World.news_of_block (Ut.alloc_at _ _)) HC1.out am1 am2 (by simp; exact Nat.le_succ_of_le hzw) ?_; intro v' w1 hown' hgrow _))
      have HU := Lib.hid (HPU.out _ _ _ _ HBL.out HO.out hown' hgrow)
      clear hown' hgrow
      go_wp2
      go_roundw
      case rel => exact HU.out
      case measure => simp [intOf]; omega
    · have hkl : k = ss.length := by omega
      have b3 : (ss.length : Int) ≤ (k : Int) := by omega
      have HS : Hid (F2 ss w u3 (.int .i64 0) wr) := ⟨0, Nat.zero_le _, rfl, by have := HO.out; rw [hkl, List.take_length] at this; simpa [mks] using this, HBL.out⟩
      clear hkl
      go_wp2
      go_loopw [3, 5] (fun l i wr => F2 ss w l i wr) (fun _ i _ => 16 - (intOf i).toNat)
      case atStart => exact HS.out
      case round =>
        obtain ⟨m, hm, rfl, hown, hbl⟩ := hrel
        have HO2 := Lib.hid hown; have HBL2 := Lib.hid hbl
        have hzw2 : w.heap.size ≤ wr.heap.size := hbl.size
        clear hown hbl
        have b5 : (0 : Int) ≤ (m : Int) := by omega
        by_cases h2 : m < 16
        · have b6 : (m : Int) < 16 := by omega
          have hmt := Lib.hid (fun w' => markS_any m (by omega) w')
          have am1 : ss.length + m + 1 ≤ maxLen := by unfold maxLen; omega
          have am2 : (ss.length + m + 1) * 112 ≤ 140737488355328 := by omega
          have HPU := Lib.hid (fun (l v' : Value) (wr w1 : World) (o : Obj) (a1 : Below w.heap.size w wr) (a2 : wr.ownsRow w.heap.size 30 12 l (ss.length + m) (allV (ss ++ mks m))) => F2.push (v' := v') (w1 := w1) (o := o) h2 a1 a2)
          obtain ⟨cs, hcs⟩ : ∃ cs, cs = (mkS m).cells := ⟨_, rfl⟩
          have HCL : Hid (cs.length = 12) := by show _ = _; rw [hcs]; rfl
          have HC1 : Hid (∀ u ∈ cs, u.oneCell' = true) := by show ∀ _, _; rw [hcs]; exact (mkS m).one
          rw [← hcs] at HPU hmt
          clear hcs
          go_wp2_with fail
          refine (hmt.out _).mono ?_
          rintro e w2 ⟨rfl, hb2⟩
          have HBL3 := Lib.hid (HBL2.out.trans (hb2.mono hzw2))
          have HO3 := Lib.hid (Ut.own_below HO2.out hb2)
          have hzw : w.heap.size ≤ w2.heap.size := HBL3.out.size
          clear hb2
          go_wp2_with (first
        | (refine wpList_load_mid (by rfl) 30 _ (by rfl) _ _ (by rfl) cs _ HRG.out Tryz.underlying30 rfl (by rw [HCL.out]; kernel_rfl) ?_)
        | (refine Ag.wpList_one (by rfl) 42 30 _ (by rfl) cs (by rfl) i0 _ Tryz.underlying42 hi hz0 (by rw [hz1]; exact HCL.out) (by rw [hz1]; decide) (by rw [hz1]; decide) ?_)
        | (at_builtin; refine wpList_append_own _ rfl _ _ 42 rfl w.heap.size 30 i0 (.agg #[.int .i64 0, .int .i64 0, .int .i64 0, .int .i64 0, .int .i64 0, .string ByteArray.empty, .string ByteArray.empty, .int .u64 0, .int .i64 0, .int .i64 0, .int .i64 0, .int .i64 0]) 12 112 Tryz.underlying42 hi hz0 hz1 hz2 rfl (by decide) _ _ _ rfl (HO3.out.alloc _) ⟨w2.heap.size, 0, none⟩ 1 1 cs rfl HCL.out (World.news_of_block (Ut.alloc_at _ _)) HC1.out am1 am2 (by simp; exact Nat.le_succ_of_le hzw) ?_; intro v' w1 hown' hgrow _))
          have HU := Lib.hid (HPU.out _ _ _ _ _ HBL3.out HO3.out hown' hgrow)
          clear hown' hgrow
          go_wp2
          go_roundw
          case rel => exact HU.out
          case measure => simp [intOf]; omega
        · have b6 : (16 : Int) ≤ (m : Int) := by omega
          have hm16 : m = 16 := by omega
          have HR : Hid (wr.ownsRow w.heap.size 30 12 u3 (ss.length + 16) (allV (ss ++ mks 16))) := by rw [← hm16]; exact HO2
          clear hm16
          go_wp2
          go_ret
          exact ⟨_, rfl, HR.out, HBL2.out⟩

/-- A list that was lent lies in a block of its own, its marks behind it. -/
def LentS (base g c : Nat) (ss : List Sess) (w : World) : Prop :=
  w.ownsRow base 30 12 (.slice (some ⟨g, 0, none⟩) (ss.length + 16) c) (ss.length + 16) (allV (ss ++ mks 16))
theorem LentS.below {base g c : Nat} {ss : List Sess} {w w' : World} (h : LentS base g c ss w) (hb : Below w.heap.size w w') : LentS base g c ss w' := Ut.own_below h hb
theorem LentS.whole {base g c : Nat} {ss : List Sess} {w : World} (h : LentS base g c ss w) : SessArg w (.slice (some ⟨g, 0, none⟩) (ss.length + 16) c) (ss ++ mks 16) := by
  have e : (ss ++ mks 16).length = ss.length + 16 := by rw [List.length_append, mks_len]
  unfold LentS at h
  rw [← e] at h ⊢
  exact sess_of_own h
theorem SessArg.pre {w : World} {q : Option Addr} {n c c' m : Nat} {ss ts : List Sess} (h : SessArg w (.slice q n c) (ss ++ ts)) (hm : m = ss.length) : SessArg w (.slice q m c') ss := by
  subst hm
  refine ⟨q, c', rfl, fun j hj => ?_⟩
  have hj2 : j < (ss ++ ts).length := by rw [List.length_append]; omega
  obtain ⟨g, o, h1, h2, h3⟩ := h.at hj2
  refine ⟨g, o, h1, h2, fun i u hi => h3 i u ?_⟩
  rw [List.getElem_append_left hj]
  exact hi
theorem LentS.sess {base g c : Nat} {ss : List Sess} {w : World} (h : LentS base g c ss w) : SessArg w (.slice (some ⟨g, 0, none⟩) ss.length c) ss := h.whole.pre rfl

set_option maxRecDepth 100000 in
set_option maxHeartbeats 2000000 in
theorem lentS_any (v : Value) (ss : List Sess) (hl : ss.length ≤ 65536) (w : World) (h1 : SessArg w v ss) :
    Calls Tryz.prog 10 #[v] w fun e w' => ∃ g c, e = .returned (.slice (some ⟨g, 0, none⟩) ss.length c) ∧ LentS w.heap.size g c ss w' ∧ ss.length + 16 ≤ c ∧ c ≤ maxLen ∧ Below w.heap.size w w' := by
  have HF := Lib.hid (fullS_any v ss hl w h1)
  obtain ⟨q, cq, rfl, -⟩ := h1
  have b0 : (ss.length : Int) ≤ 65536 := by omega
  clear hl
  go_enter Tryz.func10, Tryz.ntmps10
  go_wp2_with fail
  refine HF.out.mono ?_
  rintro e w1 ⟨v', rfl, h1, hb⟩
  rcases id h1.2 with ⟨rfl, h2⟩ | ⟨g, c, cur, rfl, h2, h3, h4, h5, h6, h7⟩
  · omega
  have HL : Hid (LentS w.heap.size g c ss w1) := h1
  have HCAP : Hid (ss.length + 16 ≤ c ∧ c ≤ maxLen) := ⟨by omega, by omega⟩
  have c1 : (ss.length : Int) ≤ (c : Int) := by have := HCAP.out.1; omega
  have c2 : (0 : Int) ≤ (ss.length : Int) := by omega
  clear h1 h2 h3 h4 h5 h6 h7
  go_wp2
  go_ret
  exact ⟨g, c, rfl, HL.out, HCAP.out.1, HCAP.out.2, hb⟩
end Vw
end Go.Proofs.YtocoonkachbjaaaGreatDoor
