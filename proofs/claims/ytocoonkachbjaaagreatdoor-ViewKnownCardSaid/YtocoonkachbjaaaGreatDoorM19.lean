/- Several texts in one: what each proves its own first comment says. -/
import Derived.Test.YtocoonkachbjaaaGreatDoorM11
import Derived.Test.YtocoonkachbjaaaGreatDoorM16
import Derived.Test.YtocoonkachbjaaaGreatDoorM18
import Derived.Test.YtocoonkachbjaaaGreatDoorM14
import Derived.Test.YtocoonkachbjaaaGreatDoorM2
import Derived.Test.YtocoonkachbjaaaGreatDoorM12
import Derived.Test.YtocoonkachbjaaaGreatDoorM10

/- view.Tree. -/
namespace Go.Proofs.YtocoonkachbjaaaGreatDoor
open Go.RowKit Go.Maps Go.Proofs.NmPlain Go.Proofs.Ar Go.Proofs.YtocoonkachbjaaaGreatDoor.Sc
set_option linter.unusedVariables false
namespace Vw
attribute [local go_sem] Oper.semAt_some
def lineAt (ls : List ByteArray) (ss : List Sess) (now : Int) (i : Nat) : Bs × Int := match ss[i]? with
  | some s => lineL ls s now
  | none => ([], 0)
theorem lineAt_at {ls : List ByteArray} {ss : List Sess} {now : Int} {i : Nat} (h : i < ss.length) : lineAt ls ss now i = lineL ls ss[i] now := by unfold lineAt; rw [List.getElem?_eq_getElem h]
def lineS (ls : List ByteArray) (ss : List Sess) (now : Int) (i : Nat) : ByteArray := ⟨(lineAt ls ss now i).1.toArray⟩
def padS (far : Nat) : ByteArray := ⟨(Lib.repeatL [32, 32] far).toArray⟩
theorem padS_size (far : Nat) : (padS far).size = 2 * far := by
  have e : (padS far).size = (Lib.repeatL [32, 32] far).length := rfl
  rw [e, Lib.repeatL_length]
  show far * 2 = _
  omega
/-- A line as it stands in the tree. -/
def treeS (ls : List ByteArray) (ss : List Sess) (now : Int) (x : Nat × Nat) : ByteArray := padS x.1 ++ lineS ls ss now x.2
theorem lineL_len {ls : List ByteArray} (hb : IsBook ls) (s : Sess) (now : Int) : (lineL ls s now).1.length ≤ 20000 := by
  unfold lineL
  split
  · simp
  split
  · simp
  split
  · simp
  split
  · simp
  split
  · simp
  split
  · simp
  rename_i h1 h2 h3 h4 h5 h6
  have k1 : (Lib.itoa s.birth).length ≤ 21 := Lib.itoa_length_le _ (by omega) (by omega)
  have k2 : (whoL s).length ≤ 65 := by
    unfold whoL
    have hu : nameB s.user.data.toList = true := by
      cases h : nameB s.user.data.toList with
      | true => rfl
      | false => exact absurd (.inl h) h2
    have u1 := nameB_le hu
    by_cases he : s.label.data.toList = []
    · rw [if_pos he, List.append_nil]; omega
    · rw [if_neg he]
      have hl : nameB s.label.data.toList = true := by
        cases h : nameB s.label.data.toList with
        | true => rfl
        | false => exact absurd (.inr ⟨he, h⟩) h2
      have u2 := nameB_le hl
      rw [List.length_append, List.length_cons]; omega
  have k3 : (kindL s.kind).length ≤ 9 := by unfold kindL; (repeat' split) <;> simp
  have k4 : (levL s.level).length ≤ 4 := by unfold levL; (repeat' split) <;> simp
  have k5 : (printL ls s.scopes).1.length ≤ 8512 := by
    rw [scopes_ok h5]
    have := vjn_len hb s.scopes ls.length (Nat.le_refl _)
    have := hb.len
    show (jn ls s.scopes ls.length).length ≤ _
    omega
  have k6 : (prt (lft now s.dl)).length ≤ 88 := by
    obtain ⟨z0, z1⟩ := lft_bd (now := now) (d := s.dl) (by omega) (by omega)
    exact vprt_len _ z0 z1
  show (textL ls s now).length ≤ 20000
  unfold textL
  simp [Lib.join, List.intercalate]
  omega
theorem lineS_size {ls : List ByteArray} (hb : IsBook ls) (ss : List Sess) (now : Int) (i : Nat) : (lineS ls ss now i).size ≤ 20000 := by
  have e : (lineS ls ss now i).size = (lineAt ls ss now i).1.length := rfl
  rw [e]
  unfold lineAt
  split
  · exact lineL_len hb _ _
  · simp
/-- The tree's places, with how far below each is. -/
def ordV (ss : List Sess) : List (Nat × Nat) := Vt.pre (kidsF ss) (ss.length + 1) 0 (Vt.roots (bu ss) ss.length)
theorem ordV_ordL (ss : List Sess) : ordV ss = Vt.ordL (bu ss) ss.length := (Vt.ord_pre _ _ _ (Nat.lt_succ_self _) _ (Nat.le_refl _)).symm
theorem ordV_len (ss : List Sess) : (ordV ss).length = ss.length := by rw [ordV_ordL, Vt.ord_len]
theorem ordV_lt (ss : List Sess) (x : Nat × Nat) (hx : x ∈ ordV ss) : x.2 < ss.length := pre_mem_lt _ _ _ (fun j hj => Vt.roots_lt _ _ j hj) x hx
theorem ordV_far (ss : List Sess) (x : Nat × Nat) (hx : x ∈ ordV ss) : x.1 ≤ ss.length := by
  have h1 := ordV_lt ss x hx
  rw [ordV_ordL] at hx
  have h2 := Vt.ord_dep (bu ss) ss.length x hx
  have h3 := dep_le (bu ss) x.2
  omega
def treeV (ls : List ByteArray) (ss : List Sess) (now : Int) (l : List (Nat × Nat)) : List Value := l.map fun x => .string (treeS ls ss now x)
def TreePost (ls : List ByteArray) (ss : List Sess) (now : Int) (base : Nat) (e : Ending) (w' : World) : Prop :=
  (∃ i : Nat, i < ss.length ∧ (∀ j, j < i → (lineAt ls ss now j).2 = 0) ∧ (lineAt ls ss now i).2 ≠ 0 ∧ e = .returned (.tuple #[.slice none 0 0, .iface 62 (Fl.fv (i : Int) (lineAt ls ss now i).2)])) ∨
  ((∀ j, j < ss.length → (lineAt ls ss now j).2 = 0) ∧ ∃ d, e = .returned (.tuple #[d, .nilIface]) ∧ w'.ownsRow base 9 1 d (ordV ss).length (treeV ls ss now (ordV ss)))

set_option maxRecDepth 100000 in
set_option maxHeartbeats 2000000 in
theorem vat_any (no i : Int) (w : World) : Calls Tryz.prog 40 #[.iface 55 (.int .i64 no), .int .i64 i] w fun e w' => e = .returned (.iface 62 (Fl.fv i no)) ∧ w = w' := by
  have hta := fun (n : Int) (w : World) => (by kernel_rfl : (Instr.typeAssert (.iface 55 (.int .i64 n)) 33 55 true).run Tryz.prog w = .ok (.tuple #[.int .i64 n, .bool true]) w)
  go_enter Tryz.func40, Tryz.ntmps40
  go_wp2
  go_ret
  exact ⟨rfl, rfl⟩
theorem vinfo_str : (Tryz.prog.info? 9).map (fun i => (i.zero, i.size, i.bytes)) = some (some (.string ByteArray.empty), 1, 16) := by kernel_rfl
theorem make_strs (n : Nat) (hn : n ≤ 65536) (W : World) : (Instr.makeSlice 22 (.int .i64 (n : Int)) (.int .i64 (n : Int))).run Tryz.prog W = .ok (.slice (some ⟨W.heap.size, 0, none⟩) n n) (W.alloc (.cells (arr n (fun _ => .string ByteArray.empty)) 9)) := by
  obtain ⟨i, hi, hz0, hz1, hz2⟩ := info_parts vinfo_str
  have h := run_makeSlice (P := Tryz.prog) (w := W) 22 9 i _ Tryz.underlying22 hi hz0 .i64 .i64 (n : Int) (n : Int) (by omega) (by omega) (by rw [hz1]; omega) (by rw [hz2]; omega) (by omega)
  rw [h, hz1]
  have e : (n : Int).toNat = n := by omega
  rw [e, Nat.mul_one]
  have e2 := made_arr (.string ByteArray.empty) n
  rw [← e2]; rfl

/-- The lines, as far as they have come. -/
def lin (ls : List ByteArray) (ss : List Sess) (now : Int) (k : Nat) (j : Nat) : Value := if j < k then .string (lineS ls ss now j) else .string ByteArray.empty
structure TL (ls : List ByteArray) (ss : List Sess) (now : Int) (w : World) (k : Nat) (A : World) : Prop where
  le : k ≤ ss.length
  ok : ∀ j, j < k → (lineAt ls ss now j).2 = 0
  box : Boxed A (w.heap.size + 1) 22 (.slice (some ⟨w.heap.size, 0, none⟩) ss.length ss.length)
  row : A.heap[w.heap.size]? = some (.cells (arr ss.length (lin ls ss now k)) 9 (0, 0))
  bel : Below w.heap.size w A
theorem TL.below {ls : List ByteArray} {ss : List Sess} {now : Int} {w A A' : World} {k : Nat} (h : TL ls ss now w k A) (hb : Below A.heap.size A A') : TL ls ss now w k A' :=
  ⟨h.le, h.ok, (hb.block _ h.box.lt).trans h.box, (hb.block _ (Array.getElem?_eq_some_iff.1 h.row).1).trans h.row, h.bel.trans (hb.mono h.bel.size)⟩
theorem TL.next {ls : List ByteArray} {ss : List Sess} {now : Int} {w A : World} {k : Nat} (h : TL ls ss now w k A) (hk : k < ss.length) (h0 : (lineAt ls ss now k).2 = 0) : TL ls ss now w (k + 1) (A.setCell ⟨w.heap.size, k, none⟩ (.string (lineS ls ss now k))) := by
  refine ⟨hk, fun j hj => ?_, (Below.heap_setCell _ _ _ _ (by show w.heap.size + 1 ≠ w.heap.size; omega)).trans h.box, ?_, h.bel.setCell (p := ⟨w.heap.size, k, none⟩) (Nat.le_refl _) _⟩
  · rcases Nat.lt_succ_iff_lt_or_eq.1 hj with h1 | rfl
    · exact h.ok j h1
    · exact h0
  · rw [heap_setCell_same _ _ _ _ _ _ h.row, arr_set]
    have e : (fun i => if i = k then Value.string (lineS ls ss now k) else lin ls ss now k i) = lin ls ss now (k + 1) := by
      funext j
      unfold lin
      by_cases h1 : j = k
      · subst h1
        rw [if_pos rfl, if_pos (Nat.lt_succ_self _)]
      · rw [if_neg h1]
        by_cases h3 : j < k
        · rw [if_pos h3, if_pos (by omega)]
        · rw [if_neg h3, if_neg (by omega)]
    rw [e]

/-- The tree, as far as it has come, in its box. -/
structure TU (ls : List ByteArray) (ss : List Sess) (now : Int) (w : World) (base b6 : Nat) (d : Value) (pre : List (Nat × Nat)) (Fp : Nat → Prop) (A : World) : Prop where
  box : Boxed A b6 22 d
  row : A.ownsRow base 9 1 d pre.length (treeV ls ss now pre)
  fp : ∀ b, Fp b ↔ b = b6 ∨ d.ownBlock = some b
  lin : TL ls ss now w ss.length A
  ord : w.heap.size + 1 < b6 ∧ b6 < base
theorem TL.kept {ls : List ByteArray} {ss : List Sess} {now : Int} {w A A' : World} {k : Nat} {row : Option Nat} (h : TL ls ss now w k A) (hg : A.grownBy A' row) (hrow : ∀ r, row = some r → w.heap.size + 1 < r) : TL ls ss now w k A' := by
  have hlt := h.box.lt
  exact ⟨h.le, h.ok, h.box.kept hg (fun e => by have := hrow _ e.symm; omega), (hg.block _ (by omega) (fun e => by have := hrow _ e.symm; omega)).trans h.row, h.bel.grown hg (by omega) (fun k e => by have := hrow k e; omega)⟩
theorem TU.turn {ls : List ByteArray} {ss : List Sess} {now : Int} {w A A' : World} {base b6 : Nat} {d : Value} {pre : List (Nat × Nat)} {Fp : Nat → Prop} {row : Option Nat} (h : TU ls ss now w base b6 d pre Fp A) (hg : A.grownBy A' row) (hrow : ∀ r, row = some r → base ≤ r ∧ ¬ Fp r) : TU ls ss now w base b6 d pre Fp A' := by
  obtain ⟨o1, o2⟩ := h.ord
  exact ⟨h.box.kept hg (fun e => by have := (hrow _ e.symm).1; omega), own_keep h.row (fun b e => hg.block b (h.row.lt b e).2 (fun e2 => (hrow b e2.symm).2 ((h.fp b).2 (.inr e)))), h.fp, h.lin.kept hg (fun r e => by have := (hrow r e).1; omega), h.ord⟩
theorem TU.push {ls : List ByteArray} {ss : List Sess} {now : Int} {w A Ao w1 : World} {base b6 : Nat} {d v' : Value} {pre : List (Nat × Nat)} {x : Nat × Nat} {Fp : Nat → Prop} (h : TU ls ss now w base b6 d pre Fp A) (hb : Below A.heap.size A Ao)
    (hown' : w1.ownsRow base 9 1 v' (pre.length + 1) (treeV ls ss now pre ++ [.string (treeS ls ss now x)])) (hgrow : Ao.grownBy w1 d.ownBlock) (hat : v'.ownBlock = d.ownBlock ∨ v'.ownBlock = some Ao.heap.size) :
    Boxed w1 b6 22 d ∧ ∃ Fp', TU ls ss now w base b6 v' (pre ++ [x]) Fp' (w1.setCell ⟨b6, 0, none⟩ v') ∧ Only Fp A (w1.setCell ⟨b6, 0, none⟩ v') ∧ ∀ b, Fp' b → Fp b ∨ A.heap.size ≤ b := by
  obtain ⟨o1, o2⟩ := h.ord
  have hlt := h.box.lt
  have hnb : ∀ b, d.ownBlock = some b → base ≤ b := fun b e => (h.row.lt b e).1
  have hoA : Only Fp A Ao := ⟨hb.os, hb.tape, hb.output, hb.size, fun k hk _ => hb.block k hk⟩
  have ho : Only Fp A w1 := hoA.grown hgrow (fun k hk e => (h.fp k).2 (.inr e))
  have hbo : Boxed Ao b6 22 d := (hb.block _ hlt).trans h.box
  have hbx : Boxed w1 b6 22 d := hbo.kept hgrow (fun e => by have := hnb _ e.symm; omega)
  have ho2 : Only Fp A (w1.setCell ⟨b6, 0, none⟩ v') := ho.setCell (fun _ => (h.fp _).2 (.inl rfl)) v'
  have far : ∀ b, Fp b → b6 ≤ b := fun b hf => by
    rcases (h.fp b).1 hf with h1 | h1
    · omega
    · have := hnb b h1; omega
  refine ⟨hbx, fun b => b = b6 ∨ v'.ownBlock = some b, ⟨hbx.set v', ?_, fun b => Iff.rfl, ⟨h.lin.le, h.lin.ok, (ho2.block _ h.lin.box.lt (fun hf => by have := far _ hf; omega)).trans h.lin.box, (ho2.block _ (by have := h.lin.box.lt; omega) (fun hf => by have := far _ hf; omega)).trans h.lin.row, h.lin.bel.trans (ho2.below (by have := h.lin.bel.size; omega) (fun i hi hf => by have := far _ hf; omega))⟩, h.ord⟩, ho2, ?_⟩
  · rw [List.length_append]
    have e : treeV ls ss now (pre ++ [x]) = treeV ls ss now pre ++ [.string (treeS ls ss now x)] := by simp [treeV]
    rw [e]
    refine own_keep hown' (fun b e => Below.heap_setCell _ _ _ _ ?_)
    have := (hown'.lt b e).1
    show b ≠ b6
    omega
  · rintro b (rfl | h1)
    · exact .inl ((h.fp _).2 (.inl rfl))
    · rcases hat with h2 | h2
      · exact .inl ((h.fp b).2 (.inr (h2.symm.trans h1)))
      · have e2 : b = Ao.heap.size := Option.some.inj (h1.symm.trans h2)
        exact .inr (by rw [e2]; exact hb.size)

set_option maxRecDepth 100000 in
set_option maxHeartbeats 2000000 in
theorem tree_any {lo B : Nat} {ls : List ByteArray} (hbk : IsBook ls) (now : Int) (wn : (Lit.int .i64 now).wf = true) (v : Value) (ss : List Sess) (hl : ss.length ≤ 300) (hok : ∀ s ∈ ss, SessOK s) (w : World) (he : VEnv w) (hB : BookAt lo w B ls) (h1 : SessArg w v ss) :
    Calls Tryz.prog 11 #[.pointer (some ⟨B, 0, none⟩), v, .int .i64 now] w fun e w' => TreePost ls ss now w.heap.size e w' ∧ Below w.heap.size w w' := by
  obtain ⟨p0, c0, rfl, -⟩ := id h1
  have HA := Lib.hid h1
  have hmk := make_strs ss.length (by omega)
  have HLN : Hid (∀ (k : Nat) (hk : k < ss.length) (cs : List Value), cs = ss[k].cells → ∀ W, Below w.heap.size w W → Calls Tryz.prog 7 #[.pointer (some ⟨B, 0, none⟩), .agg cs.toArray, .int .i64 now] W fun e w' => (e = .returned (.tuple #[.string (lineS ls ss now k), errVal (lineAt ls ss now k).2])) ∧ Below W.heap.size W w') := by
    rintro k hk _ rfl W hb
    refine (vline_any hbk now wn ss[k] (hok _ (List.getElem_mem hk)) W (he.below hb) (hB.below hb)).mono fun e w' hp => ⟨?_, hp.2⟩
    have h2 := hp.1
    unfold LinePost at h2
    rw [h2]; unfold lineS; rw [lineAt_at hk]
  have HGR := Lib.hid (fun (W : World) (hb : Below w.heap.size w W) => grow_any _ ss (by omega) (fun s hs => ⟨(hok s hs).wb, (hok s hs).wu⟩) W (h1.below hb))
  have l0 : (ss.length : Int) ≤ 300 := by omega
  have HL := Lib.hid hl
  clear he hB h1 hok hl
  refine (callsIn_wide (n := 9)).1 ?_
  refine callsIn_of_wp_marks Tryz.func11 rfl trivial ?_ rfl
  simp only [Tryz.ntmps11, List.size_toArray, List.length_cons, List.length_nil, Nat.reduceAdd, Nat.reduceSub, Array.replicate_succ, Array.replicate_zero, List.push_toArray, List.append_toArray, List.nil_append, List.cons_append]
  refine wpIn_wide.2 ?_
  go_wp2_with fail
  obtain ⟨W2, hW2⟩ : ∃ W2, W2 = (w.alloc (.cells (arr ss.length (fun _ => .string ByteArray.empty)) 9)).alloc (.cells #[.slice (some ⟨w.heap.size, 0, none⟩) ss.length ss.length] 22) := ⟨_, rfl⟩
  have hT0 : TL ls ss now w 0 W2 := by
    refine ⟨Nat.zero_le _, fun j hj => absurd hj (Nat.not_lt_zero _), ?_, ?_, ?_⟩
    · rw [hW2]
      have := Boxed.new (w.alloc (.cells (arr ss.length (fun _ => .string ByteArray.empty)) 9)) 22 (.slice (some ⟨w.heap.size, 0, none⟩) ss.length ss.length)
      rwa [World.size_alloc] at this
    · rw [hW2, al_old (by simp)]
      have e : lin ls ss now 0 = fun _ => .string ByteArray.empty := by funext j; unfold lin; rw [if_neg (Nat.not_lt_zero _)]
      rw [e]; exact Ut.alloc_at _ _
    · rw [hW2]; exact ((Below.refl _ _).alloc (Nat.le_refl _) _).alloc (by simp) _
  rw [← hW2]
  have HT0 := Lib.hid hT0
  clear hT0 hW2 hmk
  go_loopw [22] (fun i wr => ∃ k : Nat, i = .int .i64 k ∧ TL ls ss now w k wr) (fun i _ => ss.length - (intOf i).toNat)
  case atStart => exact ⟨0, rfl, HT0.out⟩
  case round =>
    obtain ⟨k, rfl, htl⟩ := hrel
    have HTL := Lib.hid htl
    have hk := htl.le
    clear htl
    have z0 : (0 : Int) ≤ (k : Int) := by omega
    by_cases h : k < ss.length
    · have z1 : (k : Int) < (ss.length : Int) := by omega
      have HK := Lib.hid h
      obtain ⟨g1, o1, rfl, hg1, k1⟩ := HA.out.at HK.out
      obtain ⟨cs, hcs⟩ : ∃ cs, cs = ss[k].cells := ⟨_, rfl⟩
      have HRG : Hid (wr.rangeAt g1 (o1 + k * 12) cs) := fun j u hu => (HTL.out.bel.cell (p := ⟨g1, o1 + k * 12 + j, none⟩) hg1).trans (k1 j u (by rw [hcs] at hu; exact hu))
      have HCL : Hid (cs.length = 12) := by show _ = _; rw [hcs]; rfl
      have HC1 : Hid (∀ u ∈ cs, u.oneCell' = true) := by show ∀ _, _; rw [hcs]; exact ss[k].one
      have hlb : Below wr.heap.size wr (wr.alloc (.cells cs.toArray 30)) := (Below.refl _ _).alloc (Nat.le_refl _) _
      have HLB := Lib.hid hlb
      have HRG2 : Hid ((wr.alloc (.cells cs.toArray 30)).rangeAt wr.heap.size 0 cs) := fun j u hu => by
        rw [Nat.zero_add, block_cell (Ut.alloc_at _ _)]; simpa using hu
      have hln2 := HLN.out k HK.out cs hcs (wr.alloc (.cells cs.toArray 30)) (HTL.out.bel.trans (hlb.mono HTL.out.bel.size))
      obtain ⟨no, hno⟩ : ∃ no, no = (lineAt ls ss now k).2 := ⟨_, rfl⟩
      rw [← hno] at hln2
      have HLN2 := Lib.hid hln2
      have HNO := Lib.hid hno
      clear hln2 hcs h hk k1 hg1 hlb hno
      go_wp2_with (first
        | (refine wpList_load_mid (by rfl) 30 _ (by rfl) _ _ (by rfl) cs _ HRG.out Tryz.underlying30 rfl (by rw [HCL.out]; kernel_rfl) ?_)
        | (refine Ag.wpList_store_new (by rfl) 30 (.tmp 10) (.tmp 26) (by rfl) cs (by rfl) (by rfl) (by rw [HCL.out]; kernel_rfl) (by rw [HCL.out]; rfl) HC1.out ?_)
        | (refine wpList_load_mid (by rfl) 30 _ (by rfl) _ _ (by rfl) cs _ HRG2.out Tryz.underlying30 rfl (by rw [HCL.out]; kernel_rfl) ?_))
      refine HLN2.out.mono ?_
      rintro e w2 ⟨rfl, hb2⟩
      have HTL2 : Hid (TL ls ss now w k w2) := (HTL.out.below HLB.out).below hb2
      clear hb2
      by_cases h0 : no = 0
      · have HN0 : Hid ((lineAt ls ss now k).2 = 0) := HNO.out.symm.trans h0
        have ev : errVal no = .nilIface := by rw [h0]; rfl
        have x1 := HTL2.out.box.cell
        have x2 : w2.cell? ⟨w.heap.size, k, none⟩ = some (lin ls ss now k k) := by rw [block_cell HTL2.out.row, arr_at HK.out]
        have x3 : w2.frozen? ⟨w.heap.size, k, none⟩ = false := block_free HTL2.out.row _
        rw [ev]
        have HNX : Hid (TL ls ss now w (k + 1) (w2.setCell ⟨w.heap.size, k, none⟩ (.string (lineS ls ss now k)))) := HTL2.out.next HK.out HN0.out
        clear h0 ev
        go_wp2
        go_roundw
        case rel => exact ⟨k + 1, by go_num, HNX.out⟩
        case measure => have := HK.out; simp [intOf]; omega
      · have HN0 : Hid ((lineAt ls ss now k).2 ≠ 0) := by show _ ≠ _; rw [← HNO.out]; exact h0
        have ev : errVal no = .iface 55 (.int .i64 no) := by unfold errVal; rw [if_neg h0]
        rw [ev]
        clear h0 ev
        go_wp2_with fail
        refine (vat_any no k w2).mono ?_
        rintro e w3 ⟨rfl, rfl⟩
        go_wp2
        exact ⟨_, results_tmp2 rfl _ _ _, .inl ⟨k, HK.out, HTL2.out.ok, HN0.out, by rw [← HNO.out]; rfl⟩, HTL2.out.bel⟩
    · have z1 : (ss.length : Int) ≤ (k : Int) := by omega
      obtain rfl : k = ss.length := by omega
      have hd0 : decide (ss.length < ss.length) = false := decide_eq_false h
      clear h
      go_wp2_with fail
      refine (HGR.out wr HTL.out.bel).mono ?_
      rintro e w3 ⟨⟨L, F, bm, g, d, rfl, hgr⟩, hb3⟩
      obtain ⟨qd, cd, rfl, -⟩ := own_any_shape hgr.clone
      obtain ⟨vs, hsh, hrd⟩ := hgr.reads
      have HG := Lib.hid (show wr.heap.size ≤ g ∧ g < w3.heap.size from ⟨hgr.lg.1, Nat.lt_of_lt_of_le hgr.lg.2 hgr.lL.2⟩)
      have hfw3 := hrd w3 (fun b h1 h2 => ⟨h2, rfl⟩)
      obtain ⟨q0, k0, hv0, -⟩ := id (hfw3.row 0 (Nat.succ_pos _))
      rw [show (ints (Vt.krow (bu ss) ss.length 0)).length = (Vt.roots (bu ss) ss.length).length by rw [krow_zero_roots]; simp [ints]] at hv0
      have HRD := Lib.hid hrd; have HB3 := Lib.hid hb3; have HV0 := Lib.hid hv0
      have hTL3 := HTL.out.below hb3
      obtain ⟨W4, hW4⟩ : ∃ W4, W4 = (w3.alloc (.cells #[.slice qd ss.length cd, .slice (some ⟨g, 0, none⟩) (ss.length + 1) (ss.length + 1)] 77)).alloc (.cells #[.slice none 0 0] 22) := ⟨_, rfl⟩
      have hs4 : W4.heap.size = w3.heap.size + 2 := by rw [hW4, World.size_alloc, World.size_alloc]
      have hb34 : Below w3.heap.size w3 W4 := by rw [hW4]; exact ((Below.refl _ _).alloc (Nat.le_refl _) _).alloc (by simp) _
      have hx4 : Boxed W4 (w3.heap.size + 1) 22 (.slice none 0 0) := by
        rw [hW4]
        have := Boxed.new (w3.alloc (.cells #[.slice qd ss.length cd, .slice (some ⟨g, 0, none⟩) (ss.length + 1) (ss.length + 1)] 77)) 22 (.slice none 0 0)
        rwa [World.size_alloc] at this
      have hbf : W4.heap[w3.heap.size]? = some (.cells #[.slice qd ss.length cd, .slice (some ⟨g, 0, none⟩) (ss.length + 1) (ss.length + 1)] 77 (0, 0)) := by rw [hW4, al_old (by simp)]; exact Ut.alloc_at _ _
      have hgt : W4.heap[g]? = some (.cells (arr (ss.length + 1) vs) 82 (0, 0)) := (hb34.block g HG.out.2).trans hfw3.top
      have HS4 := Lib.hid hs4; have HB34 := Lib.hid hb34; have HX4 := Lib.hid hx4; have HBF := Lib.hid hbf; have HGT := Lib.hid hgt; have HT4 := Lib.hid (hTL3.below hb34)
      have c0' : W4.drew.cell? ⟨w3.heap.size, 1, none⟩ = some (.slice (some ⟨g, 0, none⟩) (ss.length + 1) (ss.length + 1)) := by
        rw [block_cell (show W4.drew.heap[w3.heap.size]? = _ from hbf)]; rfl
      have c1' : W4.drew.cell? ⟨g, 0, none⟩ = some (.slice q0 (Vt.roots (bu ss) ss.length).length k0) := by
        rw [block_cell (show W4.drew.heap[g]? = _ from hgt), arr_at (Nat.succ_pos _), hv0]
      have HC := Lib.hid (And.intro c0' c1')
      have n1 : (0 : Int) < (ss.length : Int) + 1 := by omega
      have HFW := Lib.hid hfw3
      have HWA := Lib.hid (walk_any qd (some ⟨g, 0, none⟩) q0 ss.length cd (ss.length + 1) (ss.length + 1) (Vt.roots (bu ss) ss.length).length k0 W4.drew)
      clear hgr hsh hb3 hv0 hrd hs4 hb34 hx4 hbf hgt hTL3 c0' c1' hfw3
      go_wp2_with fail
      rw [← hW4]
      clear hW4
      refine (wpIn_wide (n := 9)).1 ?_
      refine Hi.nop ?_
      refine Hi.begin_ (S := fun w' => w' = W4.drew) (Z := fun i => i == 5) (by kernel_rfl) rfl (fun hS0 => ?_)
      refine Hi.take (i := 0) (k := 46) (v := .agg #[.slice qd ss.length cd, .slice (some ⟨g, 0, none⟩) (ss.length + 1) (ss.length + 1)]) (fun _ => trivial) (by kernel_rfl) rfl rfl (by kernel_rfl) (by kernel_rfl) (by kernel_rfl) (fun _ _ _ h => h) (by kernel_rfl) (by kernel_rfl) (Or.inl ⟨by rfl, fun wq hSw => by subst hSw; exact Hi.exec_load_row 77 (.tmp 13) (by rfl) w3.heap.size (by rfl) _ _ _ _ (show W4.drew.heap[w3.heap.size]? = _ from HBF.out) Tryz.underlying77 rfl (by kernel_rfl)⟩) (by assumption) ?_
      simp only [List.set_cons_succ, List.set_cons_zero]
      refine Hi.take (i := 1) (k := 47) (v := ?_) (fun _ => trivial) (by kernel_rfl) rfl rfl (by kernel_rfl) (by kernel_rfl) (by kernel_rfl) (fun _ _ _ h => h) (by kernel_rfl) (by kernel_rfl) (Or.inl ⟨by rfl, ?_⟩) (by assumption) ?_
      rotate_left
      · intro wq hSw; subst hSw; obtain ⟨h5, h6⟩ := HC.out; go_simp; (try with_reducible rfl)
      simp only [List.set_cons_succ, List.set_cons_zero]
      refine Hi.take (i := 2) (k := 48) (v := ?_) (fun _ => trivial) (by kernel_rfl) rfl rfl (by kernel_rfl) (by kernel_rfl) (by kernel_rfl) (fun _ _ _ h => h) (by kernel_rfl) (by kernel_rfl) (Or.inl ⟨by rfl, ?_⟩) (by assumption) ?_
      rotate_left
      · intro wq hSw; subst hSw; obtain ⟨h5, h6⟩ := HC.out; go_simp; (try with_reducible rfl)
      simp only [List.set_cons_succ, List.set_cons_zero]
      refine Hi.take (i := 3) (k := 49) (v := ?_) (fun _ => trivial) (by kernel_rfl) rfl rfl (by kernel_rfl) (by kernel_rfl) (by kernel_rfl) (fun _ _ _ h => h) (by kernel_rfl) (by kernel_rfl) (Or.inl ⟨by rfl, ?_⟩) (by assumption) ?_
      rotate_left
      · intro wq hSw; subst hSw; obtain ⟨h5, h6⟩ := HC.out; go_simp; (try with_reducible rfl)
      simp only [List.set_cons_succ, List.set_cons_zero]
      refine Hi.take (i := 4) (k := 50) (v := ?_) (fun _ => trivial) (by kernel_rfl) rfl rfl (by kernel_rfl) (by kernel_rfl) (by kernel_rfl) (fun _ _ _ h => h) (by kernel_rfl) (by kernel_rfl) (Or.inl ⟨by rfl, ?_⟩) (by assumption) ?_
      rotate_left
      · intro wq hSw; subst hSw; obtain ⟨h5, h6⟩ := HC.out; go_simp; (try with_reducible rfl)
      simp only [List.set_cons_succ, List.set_cons_zero]
      refine Hi.call_ (i := 5) (k := 51) (fun _ => trivial) (fun h => by simp [Fence.wide] at h) (by intro c h; cases h) rfl rfl (by kernel_rfl) (by rfl) (by go_simp) ((callsIn_wide.2 HWA.out).mono ?_)
      rintro e w5 ⟨rfl, hw5⟩
      refine ⟨_, rfl, fun h => (by cases h), fun _ => ?_⟩
      simp only [List.set_cons_succ, List.set_cons_zero]
      clear HWA hS0
      refine Hi.done_ (by kernel_rfl) (Hi.nop_normal ?_) _
      have hs5 : w5.heap.size = w3.heap.size + 4 := by
        rw [hw5, World.size_alloc, World.size_alloc]
        show W4.heap.size + 1 + 1 = _
        rw [HS4.out]
      have hd4 : W4.drew.heap.size = w3.heap.size + 2 := HS4.out
      have hb45 : Below W4.heap.size W4 w5 := by
        rw [hw5]
        exact (((Below.refl _ _).drew).alloc (Nat.le_refl _) _).alloc (by rw [World.size_alloc]; exact Nat.le_succ _) _
      have y2 : w5.heap[w3.heap.size + 2]? = some (.cells #[.slice qd ss.length cd, .slice (some ⟨g, 0, none⟩) (ss.length + 1) (ss.length + 1)] 77 (0, 0)) := by
        rw [hw5, al_old (by rw [World.size_alloc, hd4]; omega), ← hd4]; exact Ut.alloc_at _ _
      have y3 : w5.heap[w3.heap.size + 3]? = some (.cells #[.slice q0 (Vt.roots (bu ss) ss.length).length k0] 82 (0, 0)) := by
        rw [hw5]
        have := Ut.alloc_at (W4.drew.alloc (.cells #[.slice qd ss.length cd, .slice (some ⟨g, 0, none⟩) (ss.length + 1) (ss.length + 1)] 77)) (.cells #[.slice q0 (Vt.roots (bu ss) ss.length).length k0] 82)
        rwa [World.size_alloc, hd4] at this
      rw [show W4.drew.heap.size = w3.heap.size + 2 from hd4]
      have HS5 := Lib.hid hs5; have HB45 := Lib.hid hb45
      have HW35 : Hid (∀ x, x < w3.heap.size → w5.heap[x]? = w3.heap[x]?) := fun x hx => (HB45.out.block x (by have := HS4.out; omega)).trans (HB34.out.block x hx)
      have HSEQ : Hid (Fo.SeqF Fence.wide 8 Tryz.prog 83 #[.pointer (some ⟨w3.heap.size + 2, 0, none⟩), .pointer (some ⟨w3.heap.size + 3, 0, none⟩)] encF (fun ys => ys = ordV ss) (fun p => p <+: ordV ss) (fun x => (wr.heap.size ≤ x ∧ x < w3.heap.size) ∨ x = w3.heap.size + 2 ∨ x = w3.heap.size + 3) w5) := by
        refine walk1_seq 8 ss (by have := HL.out; omega) (.slice qd ss.length cd) g vs (w3.heap.size + 2) (w3.heap.size + 3) (.slice q0 (Vt.roots (bu ss) ss.length).length k0) (Vt.roots (bu ss) ss.length) (by have := Vt.krow_len (bu ss) ss.length 0; rw [krow_zero_roots] at this; have := HL.out; omega) (fun i hi => Vt.roots_lt _ _ i hi) _ w5 (fun W hW => ?_)
        have h1 := HRD.out W (fun x h2 h3 => by
          have h4 := hW x (.inl ⟨h2, h3⟩)
          exact ⟨h4.1, h4.2.trans (HW35.out x h3)⟩)
        have h2 := hW (w3.heap.size + 2) (.inr (.inl rfl))
        have h3 := hW (w3.heap.size + 3) (.inr (.inr rfl))
        have h4 := h1.row 0 (Nat.succ_pos _)
        rw [HV0.out] at h4
        exact ⟨h1, by rw [block_cell (h2.2.trans y2)]; rfl, by rw [block_cell (h3.2.trans y3)]; rfl, h4⟩
      have HU0 : Hid (TU ls ss now w w5.heap.size (w3.heap.size + 1) (.slice none 0 0) [] (fun b => b = w3.heap.size + 1) w5) :=
        ⟨(HB45.out.block _ HX4.out.lt).trans HX4.out, World.ownsRow_nil _ _ _ _, fun b => ⟨.inl, fun h => h.elim id (fun h => by cases h)⟩, HT4.out.below HB45.out,
          ⟨by have h1 := HTL.out.box.lt; have h2 := HB3.out.size; omega, by have := HS5.out; omega⟩⟩
      obtain ⟨i0, hi0, hz0, hz1, hz2⟩ := info_parts vinfo_str
      clear hs5 hd4 hb45 y2 y3 hw5
      go_wp2_with fail
      refine (wpIn_wide (n := 9)).1 ?_
      refine Fo.range_foot (F := Fence.wide) (n := 9) rfl (by omega) (gf := 83) (lb := #[.pointer (some ⟨w3.heap.size + 2, 0, none⟩), .pointer (some ⟨w3.heap.size + 3, 0, none⟩)]) rfl trivial (enters_of Tryz.func83 (by kernel_rfl) rfl)
        HSEQ.out (fun _ => rfl) (fun b hb => ⟨by have := HS5.out; omega, rfl⟩)
        (fun pre Fp A => ∃ d, TU ls ss now w w5.heap.size (w3.heap.size + 1) d pre Fp A) (fun _ _ _ _ => False) (fun b => b = w3.heap.size + 1) (fun b hb => ⟨by have := HS5.out; omega, fun h => by omega⟩)
        ?hU (fun _ _ _ _ _ _ h _ _ _ => h) ⟨_, HU0.out⟩
        (fun x => { tmps := #[.pointer (some ⟨B, 0, none⟩), .slice p0 ss.length c0, .int .i64 now, undef, undef, undef, u6, u7, .pointer (some ⟨w.heap.size + 1, 0, none⟩), u9, u10, u11, u12, .pointer (some ⟨w3.heap.size, 0, none⟩), .pointer (some ⟨w3.heap.size + 1, 0, none⟩), .int .i64 (x.1 : Int), .int .i64 (x.2 : Int), .slice p0 ss.length c0, .int .i64 ss.length, .slice (some ⟨w.heap.size, 0, none⟩) ss.length ss.length, .slice p0 ss.length c0, .int .i64 ss.length, .int .i64 ss.length, .bool false, u24, u25, u26, u27, u28, u29, u30, u31, u32, u33, u34, u35, u36, u37, u38, u39, u40, u41, u42, u43, .slice p0 ss.length c0, .agg #[.slice qd ss.length cd, .slice (some ⟨g, 0, none⟩) (ss.length + 1) (ss.length + 1)], .agg #[.slice qd ss.length cd, .slice (some ⟨g, 0, none⟩) (ss.length + 1) (ss.length + 1)], .pointer (some ⟨w3.heap.size, 1, none⟩), .slice (some ⟨g, 0, none⟩) (ss.length + 1) (ss.length + 1), .pointer (some ⟨g, 0, none⟩), .slice q0 (Vt.roots (bu ss) ss.length).length k0, .func (.func 83) #[] #[.pointer (some ⟨w3.heap.size + 2, 0, none⟩), .pointer (some ⟨w3.heap.size + 3, 0, none⟩)], .int .i64 (x.1 : Int), .int .i64 (x.2 : Int), undef, undef, undef, undef, undef, undef, undef, undef, undef, undef, undef], defers := [] })
        ?assign ?body ?done (fun _ _ _ _ _ _ _ h => h.elim)
      case hU =>
        rintro pre Fp A A' row ⟨d, h1⟩ hsz hg hrow
        exact ⟨d, h1.turn hg hrow⟩
      case assign =>
        intro l2 x A K hK
        unfold encF
        gi_wp2
        exact hK
      case body =>
        rintro l2 pre ⟨far, i⟩ Fp A ⟨d, hu⟩ hszA hpre
        have hin : i < ss.length := pre_mem_lt _ _ _ (fun j hj => Vt.roots_lt _ _ j hj) (far, i) (hpre.subset (by simp))
        have hpl : pre.length + 1 ≤ 300 := by
          have h1 := hpre.length_le
          have h2 := ordV_len ss
          have h4 := HL.out
          rw [List.length_append] at h1; simp at h1; omega
        have hfl : far ≤ 300 := by
          have h1 := ordV_far ss (far, i) (hpre.subset (by simp))
          have h4 := HL.out
          omega
        obtain ⟨q1, r1, rfl, -⟩ := own_any_shape hu.row
        have HSA := Lib.hid (show ∀ wq, Below A.heap.size A wq → wq.cell? ⟨w3.heap.size + 1, 0, none⟩ = some (.slice q1 pre.length r1) ∧ wq.cell? ⟨w.heap.size + 1, 0, none⟩ = some (.slice (some ⟨w.heap.size, 0, none⟩) ss.length ss.length) ∧ wq.cell? ⟨w.heap.size, i, none⟩ = some (.string (lineS ls ss now i)) from fun wq hb => by
          have h1 : Boxed wq (w3.heap.size + 1) 22 (.slice q1 pre.length r1) := (hb.block _ hu.box.lt).trans hu.box
          have h2 := hu.lin.below hb
          refine ⟨h1.cell, h2.box.cell, ?_⟩
          rw [block_cell h2.row, arr_at hin]
          unfold lin; rw [if_pos hin])
        have f0 : (0 : Int) ≤ (far : Int) := by omega
        have k0' : (0 : Int) ≤ (i : Int) := by omega
        have k1' : (i : Int) < (ss.length : Int) := by omega
        have HRP : Hid (∀ W : World, Calls Tryz.prog 43 #[.string ⟨#[32, 32]⟩, .int .i64 far] W fun e w' => e = .returned (.string (padS far)) ∧ Below W.heap.size W w') := fun W => Tryz.strings_Repeat ⟨#[32, 32]⟩ far W (by omega) (by show 2 * far ≤ _; omega)
        have hcat : ¬ (9223372036854775807 < (padS far).size + (lineS ls ss now i).size) := by
          have h1 := lineS_size hbk ss now i
          rw [padS_size]; omega
        have HU := Lib.hid hu; have HIN := Lib.hid hin; have HPL := Lib.hid hpl; have HSZ := Lib.hid hszA
        show Code.wpIn _ _ _ _ _ { tmps := #[.pointer (some ⟨B, 0, none⟩), .slice p0 ss.length c0, .int .i64 now, undef, undef, undef, u6, u7, .pointer (some ⟨w.heap.size + 1, 0, none⟩), u9, u10, u11, u12, .pointer (some ⟨w3.heap.size, 0, none⟩), .pointer (some ⟨w3.heap.size + 1, 0, none⟩), .int .i64 (far : Int), .int .i64 (i : Int), .slice p0 ss.length c0, .int .i64 ss.length, .slice (some ⟨w.heap.size, 0, none⟩) ss.length ss.length, .slice p0 ss.length c0, .int .i64 ss.length, .int .i64 ss.length, .bool false, u24, u25, u26, u27, u28, u29, u30, u31, u32, u33, u34, u35, u36, u37, u38, u39, u40, u41, u42, u43, .slice p0 ss.length c0, .agg #[.slice qd ss.length cd, .slice (some ⟨g, 0, none⟩) (ss.length + 1) (ss.length + 1)], .agg #[.slice qd ss.length cd, .slice (some ⟨g, 0, none⟩) (ss.length + 1) (ss.length + 1)], .pointer (some ⟨w3.heap.size, 1, none⟩), .slice (some ⟨g, 0, none⟩) (ss.length + 1) (ss.length + 1), .pointer (some ⟨g, 0, none⟩), .slice q0 (Vt.roots (bu ss) ss.length).length k0, .func (.func 83) #[] #[.pointer (some ⟨w3.heap.size + 2, 0, none⟩), .pointer (some ⟨w3.heap.size + 3, 0, none⟩)], .int .i64 (far : Int), .int .i64 (i : Int), undef, undef, undef, undef, undef, undef, undef, undef, undef, undef, undef], defers := [] } A
        clear hu hin hpl hszA hpre hfl
        gi_wp2_with fail
        refine Hi.nop ?_
        refine Hi.begin_ (S := fun w' => Below A.heap.size A w') (Z := fun i => i == 9 || i == 10) (by kernel_rfl) (Below.refl _ _).drew (fun hS0 => ?_)
        refine Hi.take (i := 0) (k := 54) (v := ?_) (fun _ => trivial) (by kernel_rfl) rfl rfl (by kernel_rfl) (by kernel_rfl) (by kernel_rfl) (fun _ _ _ h => h) (by kernel_rfl) (by kernel_rfl) (Or.inl ⟨by rfl, ?_⟩) (by assumption) ?_
        rotate_left
        · intro wq hSw; obtain ⟨h5, h6, h7⟩ := HSA.out wq hSw; clear hSw; go_simp; (try with_reducible rfl)
        simp only [List.set_cons_succ, List.set_cons_zero]
        refine Hi.take (i := 1) (k := 55) (v := ?_) (fun _ => trivial) (by kernel_rfl) rfl rfl (by kernel_rfl) (by kernel_rfl) (by kernel_rfl) (fun _ _ _ h => h) (by kernel_rfl) (by kernel_rfl) (Or.inl ⟨by rfl, ?_⟩) (by assumption) ?_
        rotate_left
        · intro wq hSw; obtain ⟨h5, h6, h7⟩ := HSA.out wq hSw; clear hSw; go_simp; (try with_reducible rfl)
        simp only [List.set_cons_succ, List.set_cons_zero]
        refine Hi.take (i := 3) (k := 57) (v := ?_) (fun _ => trivial) (by kernel_rfl) rfl rfl (by kernel_rfl) (by kernel_rfl) (by kernel_rfl) (fun _ _ _ h => h) (by kernel_rfl) (by kernel_rfl) (Or.inl ⟨by rfl, ?_⟩) (by assumption) ?_
        rotate_left
        · intro wq hSw; obtain ⟨h5, h6, h7⟩ := HSA.out wq hSw; clear hSw; go_simp; (try with_reducible rfl)
        simp only [List.set_cons_succ, List.set_cons_zero]
        refine Hi.take (i := 4) (k := 58) (v := ?_) (fun _ => trivial) (by kernel_rfl) rfl rfl (by kernel_rfl) (by kernel_rfl) (by kernel_rfl) (fun _ _ _ h => h) (by kernel_rfl) (by kernel_rfl) (Or.inl ⟨by rfl, ?_⟩) (by assumption) ?_
        rotate_left
        · intro wq hSw; obtain ⟨h5, h6, h7⟩ := HSA.out wq hSw; clear hSw; go_simp; (try with_reducible rfl)
        simp only [List.set_cons_succ, List.set_cons_zero]
        refine Hi.take (i := 5) (k := 59) (v := ?_) (fun _ => trivial) (by kernel_rfl) rfl rfl (by kernel_rfl) (by kernel_rfl) (by kernel_rfl) (fun _ _ _ h => h) (by kernel_rfl) (by kernel_rfl) (Or.inl ⟨by rfl, ?_⟩) (by assumption) ?_
        rotate_left
        · intro wq hSw; obtain ⟨h5, h6, h7⟩ := HSA.out wq hSw; clear hSw; go_simp; (try with_reducible rfl)
        simp only [List.set_cons_succ, List.set_cons_zero]
        refine Hi.take (i := 6) (k := 60) (v := ?_) (fun _ => trivial) (by kernel_rfl) rfl rfl (by kernel_rfl) (by kernel_rfl) (by kernel_rfl) (fun _ _ _ h => h) (by kernel_rfl) (by kernel_rfl) (Or.inl ⟨by rfl, ?_⟩) (by assumption) ?_
        rotate_left
        · intro wq hSw; obtain ⟨h5, h6, h7⟩ := HSA.out wq hSw; clear hSw; go_simp; (try with_reducible rfl)
        simp only [List.set_cons_succ, List.set_cons_zero]
        refine Hi.call_ (i := 2) (k := 56) (fun _ => trivial) (fun _ => by omega) (by intro c h; cases h) rfl rfl (by kernel_rfl) (by rfl) (by go_simp) ((CallsIn.inRound _ (callsIn_wide.2 (HRP.out A.drew))).mono ?_)
        rintro e wa ⟨rfl, hba⟩
        have hbA : Below A.heap.size A wa := (Below.refl _ _).drew.trans hba
        refine ⟨_, rfl, fun _ => hbA, fun _ => ?_⟩
        simp only [List.set_cons_succ, List.set_cons_zero]
        clear hba
        refine Hi.take (i := 7) (k := 61) (v := ?_) (fun _ => trivial) (by kernel_rfl) rfl rfl (by kernel_rfl) (by kernel_rfl) (by kernel_rfl) (fun _ _ _ h => h) (by kernel_rfl) (by kernel_rfl) (Or.inl ⟨by rfl, ?_⟩) (by assumption) ?_
        rotate_left
        · intro wq hSw; clear hSw; go_simp; (try with_reducible rfl)
        simp only [List.set_cons_succ, List.set_cons_zero]
        clear hcat
        have hbo : Below A.heap.size A (wa.alloc (.cells #[.string (padS far ++ lineS ls ss now i)] 9)) := hbA.alloc hbA.size _
        refine Hi.val_ (i := 8) (k := 62) (v := .slice (some ⟨wa.heap.size, 0, none⟩) 1 1) (w' := wa.alloc (.cells #[.string (padS far ++ lineS ls ss now i)] 9)) (fun _ => trivial) (by intro c h; cases h) rfl rfl (by kernel_rfl) (by rfl) (by go_simp) (fun _ => hbo) ?_
        simp only [List.set_cons_succ, List.set_cons_zero]
        obtain ⟨v', w1, hrun, hown', hgrow, -, hat⟩ := run_append_own_at (P := Tryz.prog) (wa.alloc (.cells #[.string (padS far ++ lineS ls ss now i)] 9)) w5.heap.size 22 22 9 i0 (.string ByteArray.empty) 1 16 Tryz.underlying22 hi0 hz0 hz1 hz2 rfl (by decide) (.slice q1 pre.length r1) pre.length (treeV ls ss now pre) (own_keep HU.out.row (fun b e => hbo.block b (HU.out.row.lt b e).2)) ⟨wa.heap.size, 0, none⟩ 1 1 [.string (padS far ++ lineS ls ss now i)] rfl (World.news_of_block (Ut.alloc_at _ _)) (by intro u hu; rw [List.mem_singleton.1 hu]; rfl) (by have := HPL.out; unfold maxLen; omega) (by have := HPL.out; omega) (by have := HSZ.out; have := hbo.size; omega)
        refine Hi.val_ (i := 9) (k := 63) (v := v') (w' := w1) (fun _ => trivial) (by intro c h; cases h) rfl rfl (by kernel_rfl) (by rfl) (Hi.exec_append (.tmp 54) (.tmp 62) 22 (by rfl) _ _ (by rfl) (by rfl) _ _ hrun) (fun h => by cases h) ?_
        simp only [List.set_cons_succ, List.set_cons_zero]
        obtain ⟨hb1, Fp', hn1⟩ := HU.out.push (x := (far, i)) hbo hown' hgrow hat
        have hc1 := hb1.cell
        have hf1 := hb1.frozen
        obtain ⟨q', r', rfl, -⟩ := own_any_shape hown'
        have HN := Lib.hid hn1
        clear hrun hown' hgrow hat hn1 hb1
        refine Hi.eff_ (i := 10) (w' := w1.setCell ⟨w3.heap.size + 1, 0, none⟩ (.slice q' (pre.length + 1) r')) (fun _ => trivial) (by intro c h; cases h) rfl rfl (by kernel_rfl) (by rfl) (by go_simp) (fun h => by cases h) ?_
        refine Hi.done_ (by kernel_rfl) (Hi.nop_normal ?_) _
        exact ⟨Fp', ⟨_, HN.out.1⟩, HN.out.2.1, HN.out.2.2⟩
      case done =>
        rintro D ys Fp A rfl hD ⟨d, hu⟩ hnf hK
        obtain ⟨q1, r1, rfl, -⟩ := own_any_shape hu.row
        have hc := hu.box.cell
        have HU := Lib.hid hu; have HD := Lib.hid hD; have HKD := Lib.hid hK; have HNF := Lib.hid hnf
        clear hu hD hK hnf
        go_wp2
        refine ⟨by simp, .inl ⟨_, _, rfl, run_takeDeferred HKD.out, ?_⟩⟩
        have hu2 := HU.out.turn (grownBy_putObj' A D (.deferred none)) (fun r e => by cases e; exact ⟨HD.out, HNF.out⟩)
        exact ⟨_, results_tmp2 rfl _ _ _, .inr ⟨hu2.lin.ok, _, rfl, Ut.own_base hu2.row (by have := hu2.ord; omega)⟩, hu2.lin.bel⟩
end Vw
end Go.Proofs.YtocoonkachbjaaaGreatDoor

/- The document's Tree. -/
namespace Go.Proofs.YtocoonkachbjaaaGreatDoor
open Go.RowKit Go.Maps Go.Proofs.NmPlain Go.Proofs.Ar Go.Proofs.YtocoonkachbjaaaGreatDoor.Sc
set_option linter.unusedVariables false
namespace Vw
theorem vrline_any {bv : Value} {ls : List ByteArray} (hbk : IsBook ls) (now : Int) (wn : (Lit.int .i64 now).wf = true) (s : Sess) (hs : SessOK s) (hz : s.user.size ≤ 1048576 ∧ s.label.size ≤ 1048576) (w : World) (ha : TextArg w bv ls) :
    Calls Tryz.prog 8 #[bv, .agg s.cells.toArray, .int .i64 now] w fun e w' => RLinePost ls s now e ∧ Below w.heap.size w w' :=
  rline_any bv ls s now wn w ⟨hbk, hs.sc, hz.1, hz.2, ha, hs.wd⟩
theorem rline_post {ls : List ByteArray} {ss : List Sess} {now : Int} {i : Nat} (hi : i < ss.length) {e : Ending} (h : RLinePost ls ss[i] now e) : e = .returned (.tuple #[.string (lineS ls ss now i), .int .i64 (lineAt ls ss now i).2]) := by
  unfold RLinePost at h
  rw [h]; unfold lineS; rw [lineAt_at hi]
def RTreePost (ls : List ByteArray) (ss : List Sess) (now : Int) (base : Nat) (e : Ending) (w' : World) : Prop :=
  (∃ i : Nat, i < ss.length ∧ (∀ j, j < i → (lineAt ls ss now j).2 = 0) ∧ (lineAt ls ss now i).2 ≠ 0 ∧ e = .returned (.tuple #[.slice none 0 0, .int .i64 (lineAt ls ss now i).2, .int .i64 (i : Int)])) ∨
  ((∀ j, j < ss.length → (lineAt ls ss now j).2 = 0) ∧ ∃ d, e = .returned (.tuple #[d, .int .i64 0, .int .i64 0]) ∧ w'.ownsRow base 9 1 d (ordV ss).length (treeV ls ss now (ordV ss)))

theorem rpadS_step (m : Nat) (L : ByteArray) : (⟨#[32, 32]⟩ : ByteArray) ++ (padS m ++ L) = padS (m + 1) ++ L := by
  have h1 : ((⟨#[32, 32]⟩ : ByteArray) ++ (padS m ++ L)).data.toList = (padS (m + 1) ++ L).data.toList := by
    rw [ByteArray.data_append, Array.toList_append, ByteArray.data_append, Array.toList_append, ByteArray.data_append, Array.toList_append]
    show [32, 32] ++ (Lib.repeatL [32, 32] m ++ _) = ([32, 32] ++ Lib.repeatL [32, 32] m) ++ _
    rw [List.append_assoc]
  exact ByteArray.ext (Array.toList_inj.1 h1)
theorem rpadS_zero (L : ByteArray) : padS 0 ++ L = L := by
  have h1 : (padS 0 ++ L).data.toList = L.data.toList := by
    rw [ByteArray.data_append, Array.toList_append]; rfl
  exact ByteArray.ext (Array.toList_inj.1 h1)

set_option maxRecDepth 100000 in
set_option maxHeartbeats 2000000 in
theorem rtree_any {bv : Value} {ls : List ByteArray} (hbk : IsBook ls) (now : Int) (wn : (Lit.int .i64 now).wf = true) (v : Value) (ss : List Sess) (hl : ss.length ≤ 300) (hok : ∀ s ∈ ss, SessOK s) (hsz : ∀ s ∈ ss, s.user.size ≤ 1048576 ∧ s.label.size ≤ 1048576) (w : World) (ha : TextArg w bv ls) (h1 : SessArg w v ss) :
    Calls Tryz.prog 12 #[bv, v, .int .i64 now] w fun e w' => RTreePost ls ss now w.heap.size e w' ∧ Below w.heap.size w w' := by
  obtain ⟨p0, c0, rfl, -⟩ := id h1
  obtain ⟨qb, cb, rfl, -⟩ := id ha
  have HA := Lib.hid h1
  obtain ⟨bv, hbv⟩ : ∃ bv, bv = Value.slice qb ls.length cb := ⟨_, rfl⟩
  have hbs : ∃ q c, bv = .slice q ls.length c := ⟨qb, cb, hbv⟩
  rw [← hbv] at ha ⊢
  have HLN : Hid (∀ (k : Nat) (hk : k < ss.length) (cs : List Value), cs = ss[k].cells → ∀ W, Below w.heap.size w W → Calls Tryz.prog 8 #[bv, .agg cs.toArray, .int .i64 now] W fun e w' => (e = .returned (.tuple #[.string (lineS ls ss now k), .int .i64 (lineAt ls ss now k).2])) ∧ Below W.heap.size W w') := by
    rintro k hk _ rfl W hb
    exact (vrline_any hbk now wn ss[k] (hok _ (List.getElem_mem hk)) (hsz _ (List.getElem_mem hk)) W (ha.below hb)).mono fun e w' hp => ⟨rline_post hk hp.1, hp.2⟩
  have HDP := Lib.hid (fun (W : World) (hb : Below w.heap.size w W) => rdepths_any _ ss (by omega) W (h1.below hb))
  have HOR := Lib.hid (fun (W : World) (hb : Below w.heap.size w W) => rorder_any _ ss (by omega) W (h1.below hb))
  have l0 : (ss.length : Int) ≤ 300 := by omega
  have HL := Lib.hid hl
  obtain ⟨i0, hi0, hz0, hz1, hz2⟩ := info_parts vinfo_str
  clear ha h1 hok hsz hl hbv hbs
  go_enter Tryz.func12, Tryz.ntmps12
  go_wp2_with fail
  go_loopw [9] (fun i wr => ∃ k : Nat, k ≤ ss.length ∧ i = .int .i64 k ∧ (∀ j, j < k → (lineAt ls ss now j).2 = 0) ∧ Below w.heap.size w wr) (fun i _ => ss.length - (intOf i).toNat)
  case atStart => exact ⟨0, Nat.zero_le _, rfl, fun j hj => absurd hj (Nat.not_lt_zero _), Below.refl _ _⟩
  case round =>
    obtain ⟨k, hk, rfl, hall, hb⟩ := hrel
    have HALL := Lib.hid hall; have HB := Lib.hid hb
    clear hall hb
    have z0 : (0 : Int) ≤ (k : Int) := by omega
    by_cases h : k < ss.length
    · have z1 : (k : Int) < (ss.length : Int) := by omega
      have HK := Lib.hid h
      obtain ⟨g1, o1, rfl, hg1, k1⟩ := HA.out.at HK.out
      obtain ⟨cs, hcs⟩ : ∃ cs, cs = ss[k].cells := ⟨_, rfl⟩
      have HRG : Hid (wr.rangeAt g1 (o1 + k * 12) cs) := fun j u hu => (HB.out.cell (p := ⟨g1, o1 + k * 12 + j, none⟩) hg1).trans (k1 j u (by rw [hcs] at hu; exact hu))
      have HCL : Hid (cs.length = 12) := by show _ = _; rw [hcs]; rfl
      have hln := HLN.out k HK.out cs hcs wr HB.out
      obtain ⟨no, hno⟩ : ∃ no, no = (lineAt ls ss now k).2 := ⟨_, rfl⟩
      rw [← hno] at hln
      have HLN2 := Lib.hid hln; have HNO := Lib.hid hno
      clear hln hcs h hk k1 hg1 hno
      go_wp2_with (refine wpList_load_mid (by rfl) 30 _ (by rfl) _ _ (by rfl) cs _ HRG.out Tryz.underlying30 rfl (by rw [HCL.out]; kernel_rfl) ?_)
      refine HLN2.out.mono ?_
      rintro e w2 ⟨rfl, hb2⟩
      have HB2 : Hid (Below w.heap.size w w2) := HB.out.trans (hb2.mono HB.out.size)
      clear hb2
      by_cases h0 : no = 0
      · have hq : (no != 0) = false := by simp [h0]
        have HN : Hid (∀ j, j < k + 1 → (lineAt ls ss now j).2 = 0) := fun j hj => by
          rcases Nat.lt_succ_iff_lt_or_eq.1 hj with h9 | rfl
          · exact HALL.out j h9
          · rw [← HNO.out]; exact h0
        clear h0
        go_wp2
        go_roundw
        case rel => exact ⟨k + 1, HK.out, by go_num, HN.out, HB2.out⟩
        case measure => have := HK.out; simp [intOf]; omega
      · have hq : (no != 0) = true := by simp [h0]
        have HN0 : Hid ((lineAt ls ss now k).2 ≠ 0) := by show _ ≠ _; rw [← HNO.out]; exact h0
        clear h0
        go_wp2
        go_ret3
        exact ⟨.inl ⟨k, HK.out, HALL.out, HN0.out, by rw [← HNO.out]; rfl⟩, HB2.out⟩
    · have z1 : (ss.length : Int) ≤ (k : Int) := by omega
      obtain rfl : k = ss.length := by omega
      have hd0 : decide (ss.length < ss.length) = false := decide_eq_false h
      clear h hk
      go_wp2_with fail
      refine (HDP.out wr HB.out).mono ?_
      rintro e w3 ⟨⟨dd, rfl, hod⟩, hb3⟩
      obtain ⟨qd, cd, rfl, -⟩ := own_any_shape hod
      have HOD := Lib.hid hod; have HB13 := Lib.hid hb3
      have HB3 : Hid (Below w.heap.size w w3) := HB.out.trans (hb3.mono HB.out.size)
      clear hod hb3
      go_wp2_with fail
      refine (HOR.out w3 HB3.out).mono ?_
      rintro e w4 ⟨⟨dd, rfl, hoo⟩, hb4⟩
      obtain ⟨qo, co, rfl, -⟩ := own_any_shape hoo
      have HOO := Lib.hid hoo; have HB34 := Lib.hid hb4
      have HB4 : Hid (Below w.heap.size w w4) := HB3.out.trans (hb4.mono HB3.out.size)
      clear hoo hb4
      have HOD4 : Hid (∀ A, Below w4.heap.size w4 A → In.IntArg A (.slice qd ss.length cd) ((List.range ss.length).map fun j => (Vt.dep (bu ss) j : Int)) ∧ In.IntArg A (.slice qo ss.length co) (ints (Vt.ordI (bu ss) ss.length))) := fun A hb => by
        have h3 : Below w3.heap.size w3 A := HB34.out.trans (hb.mono HB34.out.size)
        refine ⟨?_, ?_⟩
        · refine In.own_ints (f := Value.int .i64) (n := ss.length) (fun _ => rfl) (by simp) (base := wr.heap.size) ?_
          have h4 := own_keep HOD.out (fun b e => h3.block b (HOD.out.lt b e).2)
          have e : ((List.range ss.length).map fun j => (Vt.dep (bu ss) j : Int)).map (Value.int .i64) = (List.range ss.length).map (dv (bu ss)) := by rw [List.map_map]; rfl
          rw [e]; exact h4
        · have h4 := own_keep HOO.out (fun b e => hb.block b (HOO.out.lt b e).2)
          exact nv_ints h4
      have HS4 : Hid (∀ A, Below w4.heap.size w4 A → Below w.heap.size w A) := fun A hb => HB4.out.trans (hb.mono HB4.out.size)
      go_wp2_with fail
      obtain ⟨wo, rfl⟩ : ∃ x, x = wr := ⟨_, rfl⟩
      go_loopw [14, 15] (fun d i wr => ∃ k : Nat, k ≤ ss.length ∧ i = .int .i64 k ∧ wr.ownsRow w4.heap.size 9 1 d k (treeV ls ss now ((ordV ss).take k)) ∧ Below w4.heap.size w4 wr) (fun _ i _ => ss.length - (intOf i).toNat)
      case atStart => exact ⟨0, Nat.zero_le _, rfl, World.ownsRow_nil _ _ _ _, Below.refl _ _⟩
      case round =>
        obtain ⟨k, hk, rfl, hown, hb⟩ := hrel
        obtain ⟨qz, cz, rfl, -⟩ := own_any_shape hown
        have HO := Lib.hid hown; have HB5 := Lib.hid hb
        clear hown hb
        have z0' : (0 : Int) ≤ (k : Int) := by omega
        by_cases h : k < ss.length
        · have z1' : (k : Int) < (ss.length : Int) := by omega
          have hko : k < (ordV ss).length := by rw [ordV_len]; exact h
          have hd1 : decide (k < ss.length) = true := decide_eq_true h
          obtain ⟨far, hfar⟩ : ∃ far, far = (ordV ss)[k].1 := ⟨_, rfl⟩
          obtain ⟨i, hi⟩ : ∃ i, i = (ordV ss)[k].2 := ⟨_, rfl⟩
          have hin : i < ss.length := by rw [hi]; exact ordV_lt ss _ (List.getElem_mem hko)
          have hfl : far ≤ 300 := by have := ordV_far ss _ (List.getElem_mem hko); have := HL.out; rw [hfar]; omega
          have hdp : Vt.dep (bu ss) i = far := by
            have h9 : (ordV ss)[k] ∈ Vt.ordL (bu ss) ss.length := by rw [← ordV_ordL]; exact List.getElem_mem hko
            rw [hfar, hi]; exact (Vt.ord_dep (bu ss) ss.length _ h9).symm
          have hoi : (ints (Vt.ordI (bu ss) ss.length))[k]? = some (i : Int) := by
            unfold ints Vt.ordI
            rw [List.map_map, List.getElem?_map, ← ordV_ordL, List.getElem?_eq_getElem hko, hi]; rfl
          have hcell : ∀ A, Below w4.heap.size w4 A → ∃ ga oa gb ob, qo = some ⟨ga, oa, none⟩ ∧ qd = some ⟨gb, ob, none⟩ ∧ A.cell? ⟨ga, oa + k, none⟩ = some (.int .i64 i) ∧ A.cell? ⟨gb, ob + i, none⟩ = some (.int .i64 far) := fun A hb => by
            obtain ⟨⟨p1, c1, e1, h1⟩, ⟨p2, c2, e2, h2⟩⟩ := HOD4.out A hb
            obtain ⟨rfl, -, -⟩ := Value.slice.inj e1
            obtain ⟨rfl, -, -⟩ := Value.slice.inj e2
            obtain ⟨gb, ob, k1, -, k2⟩ := h1 i (by simpa using hin)
            have hkl : k < (ints (Vt.ordI (bu ss) ss.length)).length := (List.getElem?_eq_some_iff.1 hoi).1
            obtain ⟨ga, oa, k3, -, k4⟩ := h2 k hkl
            refine ⟨ga, oa, gb, ob, k3, k1, ?_, ?_⟩
            · rw [k4, (List.getElem?_eq_some_iff.1 hoi).2]
            · rw [k2]; simp [hdp]
          obtain ⟨ga, oa, gb, ob, rfl, rfl, x1, -⟩ := hcell wr HB5.out
          have HCE : Hid (∀ A, Below w4.heap.size w4 A → A.cell? ⟨ga, oa + k, none⟩ = some (.int .i64 i) ∧ A.cell? ⟨gb, ob + i, none⟩ = some (.int .i64 far)) := fun A hb => by
            obtain ⟨ga', oa', gb', ob', e1, e2, h1, h2⟩ := hcell A hb
            cases e1; cases e2
            exact ⟨h1, h2⟩
          have HK := Lib.hid h; have HIN := Lib.hid hin
          obtain ⟨g1, o1, rfl, hg1, k1⟩ := HA.out.at HIN.out
          obtain ⟨cs, hcs⟩ : ∃ cs, cs = ss[i].cells := ⟨_, rfl⟩
          have hbw := HS4.out wr HB5.out
          have HRG : Hid (wr.rangeAt g1 (o1 + i * 12) cs) := fun j u hu => (hbw.cell (p := ⟨g1, o1 + i * 12 + j, none⟩) hg1).trans (k1 j u (by rw [hcs] at hu; exact hu))
          have HCL : Hid (cs.length = 12) := by show _ = _; rw [hcs]; rfl
          have hln := HLN.out i HIN.out cs hcs wr hbw
          rw [HALL.out i HIN.out] at hln
          obtain ⟨LS, hLS⟩ : ∃ LS, LS = lineS ls ss now i := ⟨_, rfl⟩
          rw [← hLS] at hln
          have HLN2 := Lib.hid hln
          have HLZ : Hid (LS.size ≤ 20000) := by show _ ≤ _; rw [hLS]; exact lineS_size hbk ss now i
          have HTS : Hid (padS far ++ LS = treeS ls ss now (ordV ss)[k]) := by show _ = _; unfold treeS; rw [hLS, hfar, hi]
          have HFL := Lib.hid hfl
          have i0' : (0 : Int) ≤ (i : Int) := by omega
          have i1' : (i : Int) < (ss.length : Int) := by omega
          clear hln hcs h hk k1 hg1 hLS hfar hi hin hfl hdp hoi hcell hbw
          go_wp2_with (refine wpList_load_mid (by rfl) 30 _ (by rfl) _ _ (by rfl) cs _ HRG.out Tryz.underlying30 rfl (by rw [HCL.out]; kernel_rfl) ?_)
          refine HLN2.out.mono ?_
          rintro e w5 ⟨rfl, hb5⟩
          have HB6 : Hid (Below w4.heap.size w4 w5) := HB5.out.trans (hb5.mono HB5.out.size)
          have HO5 : Hid (w5.ownsRow w4.heap.size 9 1 (.slice qz k cz) k (treeV ls ss now ((ordV ss).take k))) := own_keep HO.out (fun b e => hb5.block b (HO.out.lt b e).2)
          obtain ⟨y1, y2⟩ := HCE.out w5 HB6.out
          clear hb5 HLN2 x1
          go_wp2_with fail
          go_loopw [16, 18] (fun s j wr => ∃ m : Nat, m ≤ far ∧ j = .int .i64 m ∧ s = .string (padS m ++ LS) ∧ wr = w5) (fun _ j _ => far - (intOf j).toNat)
          case atStart => exact ⟨0, Nat.zero_le _, rfl, by rw [rpadS_zero], rfl⟩
          case round =>
            obtain ⟨m, hm, rfl, rfl, rfl⟩ := hrel
            have m0 : (0 : Int) ≤ (m : Int) := by omega
            by_cases h : m < far
            · have m1 : (m : Int) < (far : Int) := by omega
              have HM := Lib.hid h
              have hstep := rpadS_step m LS
              have hcat : ¬ (9223372036854775807 < (⟨#[32, 32]⟩ : ByteArray).size + (padS m ++ LS).size) := by
                rw [ByteArray.size_append, padS_size]
                have := HLZ.out; have := HFL.out
                have h2 : (⟨#[32, 32]⟩ : ByteArray).size = 2 := rfl
                omega
              obtain ⟨PL, hPL⟩ : ∃ PL, PL = padS m ++ LS := ⟨_, rfl⟩
              obtain ⟨PN, hPN⟩ : ∃ PN, PN = padS (m + 1) ++ LS := ⟨_, rfl⟩
              rw [← hPL, ← hPN] at hstep
              rw [← hPL] at hcat ⊢
              have HPN := Lib.hid hPN
              have hw1 : wrap64 ((m : Int) + 1) = ((m + 1 : Nat) : Int) := by have := HFL.out; rw [IntWalk.wrap64_in _ (by omega)]; rfl
              have HW1 := Lib.hid hw1
              clear h hPL hPN hm hw1
              go_wp2
              go_roundw
              case rel => rw [HW1.out]; exact ⟨m + 1, HM.out, rfl, by rw [HPN.out], trivial⟩
              case measure => rw [HW1.out]; have := HM.out; simp [intOf]; omega
            · have m1 : (far : Int) ≤ (m : Int) := by omega
              obtain rfl : m = far := by omega
              have hdm : decide (m < m) = false := decide_eq_false h
              rw [HTS.out]
              obtain ⟨TV, hTV⟩ : ∃ TV, TV = treeS ls ss now (ordV ss)[k] := ⟨_, rfl⟩
              rw [← hTV]
              have am1 : k + 1 ≤ maxLen := by have := HL.out; have := HK.out; unfold maxLen; omega
              have am2 : (k + 1) * 16 ≤ 140737488355328 := by have := HL.out; have := HK.out; omega
              have hbz := HB6.out.size
              have k3 : w4.heap.size ≤ (wr.alloc (.cells #[.string TV] 9)).heap.size := by rw [World.size_alloc]; omega
              have HTV := Lib.hid hTV
              clear h hm hTV hbz
              go_wp2_with (at_builtin; (refine wpList_append_own_at _ rfl _ _ 22 rfl w4.heap.size 9 i0 (.string ByteArray.empty) 1 16 Tryz.underlying22 hi0 hz0 hz1 hz2 rfl (by decide) _ _ _ rfl (HO5.out.alloc _) ⟨wr.heap.size, 0, none⟩ 1 1 [.string TV] rfl rfl (World.news_of_block (Ut.alloc_at _ _)) (by intro u hu; rw [List.mem_singleton.1 hu]; rfl) am1 am2 k3 ?_); (intro v' w1 hown' hgrow hnil hat; obtain ⟨q', r', rfl, -⟩ := own_any_shape hown'; have HBN := Lib.hid (below_app HB6.out HB6.out.size HO5.out hgrow); have HON := Lib.hid hown'; clear hown' hgrow hat hnil))
              go_roundw
              case rel =>
                refine ⟨k + 1, HK.out, by go_num, ?_, HBN.out⟩
                have e : treeV ls ss now ((ordV ss).take (k + 1)) = treeV ls ss now ((ordV ss).take k) ++ [.string TV] := by
                  unfold treeV
                  rw [← List.take_append_getElem hko, List.map_append, HTV.out]; rfl
                rw [e]; exact HON.out
              case measure => have := HK.out; simp [intOf]; omega
        · have z1' : (ss.length : Int) ≤ (k : Int) := by omega
          obtain rfl : k = ss.length := by omega
          have HT : Hid ((ordV ss).take ss.length = ordV ss) := List.take_of_length_le (by rw [ordV_len]; exact Nat.le_refl _)
          clear h hk
          go_wp2
          go_ret3
          refine ⟨.inr ⟨HALL.out, _, rfl, ?_⟩, HS4.out _ HB5.out⟩
          have h9 := HO.out
          rw [HT.out] at h9
          rw [ordV_len]
          exact Ut.own_base h9 HB4.out.size
end Vw
end Go.Proofs.YtocoonkachbjaaaGreatDoor
