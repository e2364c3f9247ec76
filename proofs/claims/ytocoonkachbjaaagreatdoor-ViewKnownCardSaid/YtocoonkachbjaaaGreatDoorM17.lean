/- Several texts in one: what each proves its own first comment says. -/
import Derived.Test.YtocoonkachbjaaaGreatDoorM16
import Derived.Test.YtocoonkachbjaaaGreatDoorM13
import Derived.RangeFuncBox
import Derived.Shelf.Abstract
import Derived.Maps.OwnIn

/- lineagekit.FullSessions, LentSessions, KeptFullSessions, KeptSessions: of any sessions (printed by wip/mkvwlent.py). -/
namespace Go.Proofs.YtocoonkachbjaaaGreatDoor
open Go.RowKit
set_option linter.unusedVariables false
namespace Vw
/-- The marks behind a lent list. -/
def mks (k : Nat) : List Sess := (List.range k).map mkS
theorem mks_len (k : Nat) : (mks k).length = k := by simp [mks]
theorem mks_succ (k : Nat) : mks (k + 1) = mks k ++ [mkS k] := by simp [mks, List.range_succ]
theorem allV_snoc (l : List Sess) (s : Sess) : allV (l ++ [s]) = allV l ++ s.cells := by simp [allV, List.flatMap_append]
theorem allV_take {ss : List Sess} {k : Nat} (h : k < ss.length) : allV (ss.take (k + 1)) = allV (ss.take k) ++ ss[k].cells := by rw [List.take_succ_eq_append_getElem h, allV_snoc]

def F1 (ss : List Sess) (w : World) (l i : Value) (wr : World) : Prop :=
  ∃ k : Nat, k ≤ ss.length ∧ i = .int .i64 k ∧ wr.ownsRow w.heap.size 30 12 l k (allV (ss.take k)) ∧ Below w.heap.size w wr
def F2 (ss : List Sess) (w : World) (l i : Value) (wr : World) : Prop :=
  ∃ k : Nat, k ≤ 16 ∧ i = .int .i64 k ∧ wr.ownsRow w.heap.size 30 12 l (ss.length + k) (allV (ss ++ mks k)) ∧ Below w.heap.size w wr
theorem F1.push {ss : List Sess} {k : Nat} {w wr w1 : World} {l v' : Value} {o : Obj} (hk : k < ss.length) (hbl : Below w.heap.size w wr)
    (hown : wr.ownsRow w.heap.size 30 12 l k (allV (ss.take k)))
    (hown' : w1.ownsRow w.heap.size 30 12 v' (k + 1) (allV (ss.take k) ++ ss[k].cells)) (hgrow : (wr.alloc o).grownBy w1 l.ownBlock) : F1 ss w v' (.int .i64 ((k : Int) + 1)) w1 := by
  refine ⟨k + 1, by omega, by go_num, ?_, Ut.below_app hbl hbl.size hown hgrow⟩
  rw [allV_take hk]
  exact hown'
theorem F2.push {ss : List Sess} {k : Nat} {w wr w1 : World} {l v' : Value} {o : Obj} (hk : k < 16) (hbl : Below w.heap.size w wr)
    (hown : wr.ownsRow w.heap.size 30 12 l (ss.length + k) (allV (ss ++ mks k)))
    (hown' : w1.ownsRow w.heap.size 30 12 v' (ss.length + k + 1) (allV (ss ++ mks k) ++ (mkS k).cells)) (hgrow : (wr.alloc o).grownBy w1 l.ownBlock) : F2 ss w v' (.int .i64 ((k : Int) + 1)) w1 := by
  refine ⟨k + 1, by omega, by go_num, ?_, Ut.below_app hbl hbl.size hown hgrow⟩
  rw [mks_succ, ← List.append_assoc, allV_snoc]
  simpa [Nat.add_assoc] using hown'

set_option maxRecDepth 100000 in
set_option maxHeartbeats 4000000 in
theorem fullS_any (v : Value) (ss : List Sess) (hl : ss.length ≤ 65536) (w : World) (h1 : SessArg w v ss) :
    Calls Tryz.prog 39 #[v] w fun e w' => ∃ v', e = .returned v' ∧ w'.ownsRow w.heap.size 30 12 v' (ss.length + 16) (allV (ss ++ mks 16)) ∧ Below w.heap.size w w' := by
  obtain ⟨q, c, rfl, -⟩ := id h1
  have H1 := Lib.hid h1
  obtain ⟨i0, hi, hz0, hz1, hz2⟩ := info_parts vinfo_sess
  clear h1
  have b0 : (ss.length : Int) ≤ 65536 := by omega
  go_enter Tryz.func39, Tryz.ntmps39
  go_wp2
  go_loopw [3, 4] (fun l i wr => F1 ss w l i wr) (fun _ i _ => ss.length - (intOf i).toNat)
  case atStart => exact ⟨0, Nat.zero_le _, rfl, World.ownsRow_nil _ _ _ _, Below.refl _ _⟩
  case round =>
    obtain ⟨k, hk, rfl, hown, hbl⟩ := hrel
    have HO := Lib.hid hown; have HBL := Lib.hid hbl
    have hzw : w.heap.size ≤ wr.heap.size := hbl.size
    clear hown hbl
    have b2 : (0 : Int) ≤ (k : Int) := by omega
    by_cases h : k < ss.length
    · have b3 : (k : Int) < (ss.length : Int) := by omega
      obtain ⟨g1, o1, rfl, hg1, k1⟩ := H1.out.at h
      have am1 : k + 1 ≤ maxLen := by unfold maxLen; omega
      have am2 : (k + 1) * 112 ≤ 140737488355328 := by omega
      obtain ⟨cs, hcs⟩ : ∃ cs, cs = ss[k].cells := ⟨_, rfl⟩
      have HRG : Hid (wr.rangeAt g1 (o1 + k * 12) cs) := fun j u hu => (HBL.out.cell (p := ⟨g1, o1 + k * 12 + j, none⟩) hg1).trans (k1 j u (by rw [← hcs]; exact hu))
      have HCL : Hid (cs.length = 12) := by show _ = _; rw [hcs]; rfl
      have HC1 : Hid (∀ u ∈ cs, u.oneCell' = true) := by show ∀ _, _; rw [hcs]; exact ss[k].one
      have HPU := Lib.hid (fun (l v' : Value) (w1 : World) (o : Obj) (a1 : Below w.heap.size w wr) (a2 : wr.ownsRow w.heap.size 30 12 l k (allV (ss.take k))) => F1.push (v' := v') (w1 := w1) (o := o) h a1 a2)
      rw [← hcs] at HPU
      clear k1 hcs
      go_wp2_with (first
        | (refine wpList_load_mid (by rfl) 30 _ (by rfl) _ _ (by rfl) cs _ HRG.out Tryz.underlying30 rfl (by rw [HCL.out]; kernel_rfl) ?_)
        | (refine Ag.wpList_one (by rfl) 42 30 _ (by rfl) cs (by rfl) i0 _ Tryz.underlying42 hi hz0 (by rw [hz1]; exact HCL.out) (by rw [hz1]; decide) (by rw [hz1]; decide) ?_)
        | (at_builtin; refine wpList_append_own _ rfl _ _ 42 rfl w.heap.size 30 i0 (.agg #[.int .i64 0, .int .i64 0, .int .i64 0, .int .i64 0, .int .i64 0, .string ByteArray.empty, .string ByteArray.empty, .int .u64 0, .int .i64 0, .int .i64 0, .int .i64 0, .int .i64 0]) 12 112 Tryz.underlying42 hi hz0 hz1 hz2 rfl (by decide) _ _ _ rfl (HO.out.alloc _) ⟨wr.heap.size, 0, none⟩ 1 1 cs rfl HCL.out (World.news_of_block (Ut.alloc_at _ _)) HC1.out am1 am2 (by simp; exact Nat.le_succ_of_le hzw) ?_; intro v' w1 hown' hgrow _))
      have HU := Lib.hid (HPU.out _ _ _ _ HBL.out HO.out hown' hgrow)
      clear hown' hgrow
      go_wp2
      go_roundw
      case rel => exact HU.out
      case measure => simp [intOf]; omega
    · have hkl : k = ss.length := by omega
      have b3 : (ss.length : Int) ≤ (k : Int) := by omega
      have HS : Hid (F2 ss w u3 (.int .i64 0) wr) := ⟨0, Nat.zero_le _, rfl, by have := HO.out; rw [hkl, List.take_length] at this; simpa [mks] using this, HBL.out⟩
      clear hkl
      go_wp2
      go_loopw [3, 5] (fun l i wr => F2 ss w l i wr) (fun _ i _ => 16 - (intOf i).toNat)
      case atStart => exact HS.out
      case round =>
        obtain ⟨m, hm, rfl, hown, hbl⟩ := hrel
        have HO2 := Lib.hid hown; have HBL2 := Lib.hid hbl
        have hzw2 : w.heap.size ≤ wr.heap.size := hbl.size
        clear hown hbl
        have b5 : (0 : Int) ≤ (m : Int) := by omega
        by_cases h2 : m < 16
        · have b6 : (m : Int) < 16 := by omega
          have hmt := Lib.hid (fun w' => markS_any m (by omega) w')
          have am1 : ss.length + m + 1 ≤ maxLen := by unfold maxLen; omega
          have am2 : (ss.length + m + 1) * 112 ≤ 140737488355328 := by omega
          have HPU := Lib.hid (fun (l v' : Value) (wr w1 : World) (o : Obj) (a1 : Below w.heap.size w wr) (a2 : wr.ownsRow w.heap.size 30 12 l (ss.length + m) (allV (ss ++ mks m))) => F2.push (v' := v') (w1 := w1) (o := o) h2 a1 a2)
          obtain ⟨cs, hcs⟩ : ∃ cs, cs = (mkS m).cells := ⟨_, rfl⟩
          have HCL : Hid (cs.length = 12) := by show _ = _; rw [hcs]; rfl
          have HC1 : Hid (∀ u ∈ cs, u.oneCell' = true) := by show ∀ _, _; rw [hcs]; exact (mkS m).one
          rw [← hcs] at HPU hmt
          clear hcs
          go_wp2_with fail
          refine (hmt.out _).mono ?_
          rintro e w2 ⟨rfl, hb2⟩
          have HBL3 := Lib.hid (HBL2.out.trans (hb2.mono hzw2))
          have HO3 := Lib.hid (Ut.own_below HO2.out hb2)
          have hzw : w.heap.size ≤ w2.heap.size := HBL3.out.size
          clear hb2
          go_wp2_with (first
        | (refine wpList_load_mid (by rfl) 30 _ (by rfl) _ _ (by rfl) cs _ HRG.out Tryz.underlying30 rfl (by rw [HCL.out]; kernel_rfl) ?_)
        | (refine Ag.wpList_one (by rfl) 42 30 _ (by rfl) cs (by rfl) i0 _ Tryz.underlying42 hi hz0 (by rw [hz1]; exact HCL.out) (by rw [hz1]; decide) (by rw [hz1]; decide) ?_)
        | (at_builtin; refine wpList_append_own _ rfl _ _ 42 rfl w.heap.size 30 i0 (.agg #[.int .i64 0, .int .i64 0, .int .i64 0, .int .i64 0, .int .i64 0, .string ByteArray.empty, .string ByteArray.empty, .int .u64 0, .int .i64 0, .int .i64 0, .int .i64 0, .int .i64 0]) 12 112 Tryz.underlying42 hi hz0 hz1 hz2 rfl (by decide) _ _ _ rfl (HO3.out.alloc _) ⟨w2.heap.size, 0, none⟩ 1 1 cs rfl HCL.out (World.news_of_block (Ut.alloc_at _ _)) HC1.out am1 am2 (by simp; exact Nat.le_succ_of_le hzw) ?_; intro v' w1 hown' hgrow _))
          have HU := Lib.hid (HPU.out _ _ _ _ _ HBL3.out HO3.out hown' hgrow)
          clear hown' hgrow
          go_wp2
          go_roundw
          case rel => exact HU.out
          case measure => simp [intOf]; omega
        · have b6 : (16 : Int) ≤ (m : Int) := by omega
          have hm16 : m = 16 := by omega
          have HR : Hid (wr.ownsRow w.heap.size 30 12 u3 (ss.length + 16) (allV (ss ++ mks 16))) := by rw [← hm16]; exact HO2
          clear hm16
          go_wp2
          go_ret
          exact ⟨_, rfl, HR.out, HBL2.out⟩

/-- A list that was lent lies in a block of its own, its marks behind it. -/
def LentS (base g c : Nat) (ss : List Sess) (w : World) : Prop :=
  w.ownsRow base 30 12 (.slice (some ⟨g, 0, none⟩) (ss.length + 16) c) (ss.length + 16) (allV (ss ++ mks 16))
theorem LentS.below {base g c : Nat} {ss : List Sess} {w w' : World} (h : LentS base g c ss w) (hb : Below w.heap.size w w') : LentS base g c ss w' := Ut.own_below h hb
theorem LentS.whole {base g c : Nat} {ss : List Sess} {w : World} (h : LentS base g c ss w) : SessArg w (.slice (some ⟨g, 0, none⟩) (ss.length + 16) c) (ss ++ mks 16) := by
  have e : (ss ++ mks 16).length = ss.length + 16 := by rw [List.length_append, mks_len]
  unfold LentS at h
  rw [← e] at h ⊢
  exact sess_of_own h
theorem SessArg.pre {w : World} {q : Option Addr} {n c c' m : Nat} {ss ts : List Sess} (h : SessArg w (.slice q n c) (ss ++ ts)) (hm : m = ss.length) : SessArg w (.slice q m c') ss := by
  subst hm
  refine ⟨q, c', rfl, fun j hj => ?_⟩
  have hj2 : j < (ss ++ ts).length := by rw [List.length_append]; omega
  obtain ⟨g, o, h1, h2, h3⟩ := h.at hj2
  refine ⟨g, o, h1, h2, fun i u hi => h3 i u ?_⟩
  rw [List.getElem_append_left hj]
  exact hi
theorem LentS.sess {base g c : Nat} {ss : List Sess} {w : World} (h : LentS base g c ss w) : SessArg w (.slice (some ⟨g, 0, none⟩) ss.length c) ss := h.whole.pre rfl

set_option maxRecDepth 100000 in
set_option maxHeartbeats 2000000 in
theorem lentS_any (v : Value) (ss : List Sess) (hl : ss.length ≤ 65536) (w : World) (h1 : SessArg w v ss) :
    Calls Tryz.prog 10 #[v] w fun e w' => ∃ g c, e = .returned (.slice (some ⟨g, 0, none⟩) ss.length c) ∧ LentS w.heap.size g c ss w' ∧ ss.length + 16 ≤ c ∧ c ≤ maxLen ∧ Below w.heap.size w w' := by
  have HF := Lib.hid (fullS_any v ss hl w h1)
  obtain ⟨q, cq, rfl, -⟩ := h1
  have b0 : (ss.length : Int) ≤ 65536 := by omega
  clear hl
  go_enter Tryz.func10, Tryz.ntmps10
  go_wp2_with fail
  refine HF.out.mono ?_
  rintro e w1 ⟨v', rfl, h1, hb⟩
  rcases id h1.2 with ⟨rfl, h2⟩ | ⟨g, c, cur, rfl, h2, h3, h4, h5, h6, h7⟩
  · omega
  have HL : Hid (LentS w.heap.size g c ss w1) := h1
  have HCAP : Hid (ss.length + 16 ≤ c ∧ c ≤ maxLen) := ⟨by omega, by omega⟩
  have c1 : (ss.length : Int) ≤ (c : Int) := by have := HCAP.out.1; omega
  have c2 : (0 : Int) ≤ (ss.length : Int) := by omega
  clear h1 h2 h3 h4 h5 h6 h7
  go_wp2
  go_ret
  exact ⟨g, c, rfl, HL.out, HCAP.out.1, HCAP.out.2, hb⟩
end Vw
end Go.Proofs.YtocoonkachbjaaaGreatDoor

/- (A variable of the loop in a block of its own.) Ranging over an iterator: the body's blocks are a footprint that grows by new blocks alone; the iterator's own blocks stay. No program's code. -/
namespace Go.Proofs.YtocoonkachbjaaaGreatDoor
open Go.RowKit
set_option linter.unusedVariables false
namespace Fo
variable {F : Fence} {n : Nat} {P : Program}

/-- **The statement**, where the loop's own variable lies in a block that each round makes. -/
theorem range_foot_new {α : Type} {g : Operand} {ps : Array Tmp} {assign body : Code} {Q : Exit → Act → World → Prop} {a : Act} {w w0 : World}
    (hro : F.round = none) (h1 : 1 ≤ n) {gf : Nat} {lb : Array Value} (hg : a.eval g = .func (.func gf) #[] lb) (hFg : F.fn gf) (eg : ∀ args w, (callFunc gf args).run P w = .ok (.enter gf args) w)
    {encs : α → Array Value} {S Sp : List α → Prop} {C : Nat → Prop} (hseq : SeqF F (n - 1) P gf lb encs S Sp C w0) (hps : ∀ x, (encs x).size = ps.size) (hC : ∀ b, C b → b < w.heap.size ∧ w.heap[b]? = w0.heap[b]?)
    (U : List α → (Nat → Prop) → World → Prop) (Ux : Code → List α → (Nat → Prop) → World → Prop) (Fp0 : Nat → Prop) (hFp0 : ∀ b, Fp0 b → b < w.heap.size ∧ ¬ C b)
    (hU : ∀ pre Fp A A' row, U pre Fp A → w.heap.size ≤ A.heap.size → A.grownBy A' row → (∀ r, row = some r → w.heap.size ≤ r ∧ ¬ Fp r) → U pre Fp A')
    (hUx : ∀ c pre Fp A A' row, Ux c pre Fp A → w.heap.size ≤ A.heap.size → A.grownBy A' row → (∀ r, row = some r → w.heap.size ≤ r ∧ ¬ Fp r) → Ux c pre Fp A')
    (h0 : U [] Fp0 w) (a₁ : α → Nat → Act) (ob : α → Obj)
    (hassign : ∀ (l : Nat) (x : α) (W : World) (K : Act → World → Prop), (∃ pre, Sp (pre ++ [x])) → K (a₁ x W.heap.size) (W.alloc (ob x)) → assign.wpIn (F.inRound l) (n - 1 - 1) P (Exit.then K (fun _ _ _ => False)) { tmps := (ps.zip (encs x)).foldl (fun t (p, v) => t.setIfInBounds p v) a.tmps, defers := [] } W)
    (hbody : ∀ (l : Nat) (pre : List α) (x : α) (Fp : Nat → Prop) (b : Nat) (W : World), U pre Fp W → w.heap.size ≤ W.heap.size → Sp (pre ++ [x]) → (∃ A, U pre Fp A ∧ w.heap.size ≤ A.heap.size ∧ A.heap.size = b) → b < W.heap.size → W.heap[b]? = some (ob x) → body.wpIn (F.inRound l) (n - 1 - 1) P (Left Fp U Ux (pre ++ [x]) W) (a₁ x b) W)
    (hdone : ∀ (d : Nat) (xs : List α) (Fp : Nat → Prop) (W : World), S xs → w.heap.size ≤ d → U xs Fp W → ¬ Fp d → W.heap[d]? = some (.deferred (some [])) → Q .normal { a with defers := { target := .collected d, args := #[] } :: a.defers } W)
    (hstop : ∀ (d : Nat) (c : Code) (pre : List α) (Fp : Nat → Prop) (W : World), Sp pre → w.heap.size ≤ d → Ux c pre Fp W → ¬ Fp d → W.heap[d]? = some (.deferred (some [])) → c.wpIn F n P Q { a with defers := { target := .collected d, args := #[] } :: a.defers } W) :
    (Code.rangeFunc g ps assign body).wpIn F n P Q a w := by
  refine wpIn_rangeFunc fun fn hfn => ?_
  rw [hro]
  let rec_ : LoopState → Option Code → Loop := fun st pe => { state := st, pending := pe, fn, tmps := a.tmps, params := ps, assign, body, defers := w.heap.size }
  have hrs : ∀ st pe, (rec_ st pe).state = st := fun _ _ => rfl
  have hrp : ∀ st pe, (rec_ st pe).params = ps := fun _ _ => rfl
  have hrb : ∀ st pe st' pe', { rec_ st pe with state := st', pending := pe' } = rec_ st' pe' := fun _ _ _ _ => rfl
  have hrb2 : ∀ st pe st', { rec_ st pe with state := st' } = rec_ st' pe := fun _ _ _ => rfl
  have hrf : ∀ st pe, (rec_ st pe).fn = fn ∧ (rec_ st pe).assign = assign ∧ (rec_ st pe).body = body ∧ (rec_ st pe).tmps = a.tmps ∧ (rec_ st pe).pending = pe := fun _ _ => ⟨rfl, rfl, rfl, rfl, rfl⟩
  have hent : (Instr.enterLoop fn a.tmps ps assign body none).run P w = .ok (w.heap.size + 1, [{ target := .collected w.heap.size, args := #[] }]) ((w.alloc (.deferred (some []))).alloc (.loop (rec_ .ready none))) := run_enterLoop_outer fn a.tmps ps assign body
  let Bk : Loop → World → Prop := fun r W => W.heap[w.heap.size + 1]? = some (.loop r) ∧ W.heap[w.heap.size]? = some (.deferred (some []))
  have hBk : ∀ r W, Bk r W ↔ (W.heap[w.heap.size + 1]? = some (.loop r) ∧ W.heap[w.heap.size]? = some (.deferred (some []))) := fun _ _ => Iff.rfl
  generalize hW1 : (w.alloc (.deferred (some []))).alloc (.loop (rec_ .ready none)) = W1 at hent
  have hs1 : W1.heap.size = w.heap.size + 2 := by subst hW1; rw [World.size_alloc, World.size_alloc]
  have hB1 : Bk (rec_ .ready none) W1 := by
    subst hW1
    refine ⟨?_, (Below.heap_alloc _ _ _ (by simp)).trans (World.alloc_heap_new w _)⟩
    have := World.alloc_heap_new (w.alloc (.deferred (some []))) (.loop (rec_ .ready none))
    rwa [World.size_alloc] at this
  have hg1 : w.grownBy W1 none := by subst hW1; exact ⟨rfl, rfl, rfl, by simp; omega, fun k hk _ => by rw [Below.heap_alloc _ _ _ (by simp; omega), Below.heap_alloc _ _ _ hk]⟩
  have hU1 : U [] Fp0 W1 := hU _ _ _ _ _ h0 (Nat.le_refl _) hg1 (fun r e => by cases e)
  have hC1 : ∀ b, C b → b < W1.heap.size ∧ W1.heap[b]? = w0.heap[b]? := fun b hb => by
    obtain ⟨h1, h2⟩ := hC b hb
    exact ⟨by omega, by rw [hg1.block b h1 (fun e => by cases e)]; exact h2⟩
  clear_value Bk rec_
  have keep : ∀ {r A B} {Fp : Nat → Prop}, Only Fp A B → ¬ Fp w.heap.size → ¬ Fp (w.heap.size + 1) → Bk r A → Bk r B := fun hk f0 f1 hb => by
    rw [hBk] at hb ⊢
    exact ⟨(hk.block _ (Array.getElem?_eq_some_iff.1 hb.1).1 f1).trans hb.1, (hk.block _ (Array.getElem?_eq_some_iff.1 hb.2).1 f0).trans hb.2⟩
  have big : ∀ {r A}, Bk r A → w.heap.size + 1 < A.heap.size := fun hb => by rw [hBk] at hb; exact (Array.getElem?_eq_some_iff.1 hb.1).1
  have turn : ∀ {r A} (r' : Loop), Bk r A → Bk r' (A.putObj (w.heap.size + 1) (.loop r')) := fun r' hb => by
    have h := big hb
    rw [hBk] at hb ⊢
    exact ⟨World.putObj_heap_same h, (World.putObj_heap_other (by omega)).trans hb.2⟩
  refine ⟨w.heap.size + 1, [{ target := .collected w.heap.size, args := #[] }], W1, { target := .fn (.func gf) lb, args := #[.func (.yield (w.heap.size + 1)) #[] #[]] }, W1, gf, #[.func (.yield (w.heap.size + 1)) #[] #[]] ++ lb, W1, hent, ?_, ?_, ?_, fun _ => h1, ?_⟩
  · simp only [resolve, hg]
    simp [go_sem]
  · intro f' hf'; simp [Target.leads] at hf'; subst hf'; exact hFg
  · simp [invoke, go_sem, eg]
  refine (hseq (w.heap.size + 1) (fun pre Fp' A => ∃ Fp, (∀ b, Fp' b ↔ Fp b ∨ b = w.heap.size + 1) ∧ U pre Fp A ∧ Bk (rec_ .ready none) A ∧ ¬ Fp w.heap.size ∧ ¬ Fp (w.heap.size + 1)) (fun pre Fp' A => ∃ Fp c, (∀ b, Fp' b ↔ Fp b ∨ b = w.heap.size + 1) ∧ Ux c pre Fp A ∧ Bk (rec_ .done (some c)) A ∧ ¬ Fp w.heap.size ∧ ¬ Fp (w.heap.size + 1)) W1 (fun b => Fp0 b ∨ b = w.heap.size + 1) hC1 ?_ ?_ ?_ ?_ ?_).mono ?_
  · rintro b (hb | rfl)
    · exact ⟨by have := (hFp0 b hb).1; omega, (hFp0 b hb).2⟩
    · exact ⟨by omega, fun hc => by have := (hC _ hc).1; omega⟩
  · rintro pre Fp' A A' row ⟨Fp, hF, hu, hb, f0, f1⟩ hsz hg hrow
    have hnl : ∀ r, row = some r → w.heap.size ≤ r ∧ ¬ Fp r := fun r e => ⟨by have := (hrow r e).1; omega, fun hf => (hrow r e).2 ((hF r).2 (.inl hf))⟩
    refine ⟨Fp, hF, hU _ _ _ _ _ hu (by omega) hg hnl, ?_, f0, f1⟩
    rw [hBk] at hb ⊢
    exact ⟨(hg.block _ (Array.getElem?_eq_some_iff.1 hb.1).1 (fun e => by have := (hrow _ e.symm).1; omega)).trans hb.1, (hg.block _ (Array.getElem?_eq_some_iff.1 hb.2).1 (fun e => by have := (hrow _ e.symm).1; omega)).trans hb.2⟩
  · rintro pre Fp' A A' row ⟨Fp, c, hF, hu, hb, f0, f1⟩ hsz hg hrow
    have hnl : ∀ r, row = some r → w.heap.size ≤ r ∧ ¬ Fp r := fun r e => ⟨by have := (hrow r e).1; omega, fun hf => (hrow r e).2 ((hF r).2 (.inl hf))⟩
    refine ⟨Fp, c, hF, hUx _ _ _ _ _ _ hu (by omega) hg hnl, ?_, f0, f1⟩
    rw [hBk] at hb ⊢
    exact ⟨(hg.block _ (Array.getElem?_eq_some_iff.1 hb.1).1 (fun e => by have := (hrow _ e.symm).1; omega)).trans hb.1, (hg.block _ (Array.getElem?_eq_some_iff.1 hb.2).1 (fun e => by have := (hrow _ e.symm).1; omega)).trans hb.2⟩
  · rintro pre x Fp' A0 ⟨Fp, hF, hu, hb, f0, f1⟩ hsz hlen
    have hl00 := ((hBk _ _).1 hb).1
    have hy := run_yield (P := P) (args := encs x) hl00 (by rw [hrp]; exact hps x)
    obtain ⟨e1, e2, e3, e4, e5⟩ := hrf .ready none
    rw [e1, e2, e3, e4, hrp] at hy
    have hbs0 := big hb
    obtain ⟨A, hA⟩ : ∃ A, A = A0.alloc (ob x) := ⟨_, rfl⟩
    have hsA : A.heap.size = A0.heap.size + 1 := by rw [hA, World.size_alloc]
    have hoA : ∀ k, k < A0.heap.size → A.heap[k]? = A0.heap[k]? := fun k hk => by rw [hA]; exact Below.heap_alloc _ _ _ hk
    have hgA : A0.grownBy A none := by rw [hA]; exact ⟨rfl, rfl, rfl, by simp, fun k hk _ => Below.heap_alloc _ _ _ hk⟩
    have huA : U pre Fp A := hU _ _ _ _ _ hu (by omega) hgA (fun r e => by cases e)
    have hbA : Bk (rec_ .ready none) A := by
      rw [hBk] at hb ⊢
      exact ⟨(hoA _ hbs0).trans hb.1, (hoA _ (by omega)).trans hb.2⟩
    have hl0 := ((hBk _ _).1 hbA).1
    have hub : U pre Fp (A.putObj (w.heap.size + 1) (.loop (rec_ .busy none))) := hU _ _ _ _ _ huA (by omega) (grownBy_putObj' A (w.heap.size + 1) _) (fun r e => by cases e; exact ⟨Nat.le_succ _, f1⟩)
    have hbb : Bk (rec_ .busy none) (A.putObj (w.heap.size + 1) (.loop (rec_ .busy none))) := turn _ hbA
    have hsb : (A.putObj (w.heap.size + 1) (.loop (rec_ .busy none))).heap.size = A0.heap.size + 1 := by rw [← hsA]; simp
    have hnew : (A.putObj (w.heap.size + 1) (.loop (rec_ .busy none))).heap[A0.heap.size]? = some (ob x) := by
      rw [World.putObj_heap_other (by omega), hA]; exact World.alloc_heap_new _ _
    refine ⟨fn, _, assign, body, hy, roundIn_of_wpIn hfn (hassign _ x A0 _ ⟨pre, hlen⟩ ⟨_, by have := run_beginRound (P := P) hl0 (hrs _ _); rw [hrb2] at this; rw [← hA]; exact this, ?_⟩)⟩
    refine wpIn_mono (hbody _ pre x Fp A0.heap.size _ hub (by rw [hsb]; omega) hlen ⟨A0, hu, by omega, rfl⟩ (by rw [hsb]; omega) hnew) ?_
    have fin : ∀ (jump : Option Code) (W3 : World), Only Fp (A.putObj (w.heap.size + 1) (.loop (rec_ .busy none))) W3 →
        (Instr.endRound (w.heap.size + 1) jump).run P W3 = .ok (.bool jump.isNone) (W3.putObj (w.heap.size + 1) (.loop (rec_ (if jump.isNone then .ready else .done) jump))) ∧
        W3.heap[w.heap.size + 1]? = some (.loop (rec_ .busy none)) ∧ Bk (rec_ (if jump.isNone then .ready else .done) jump) (W3.putObj (w.heap.size + 1) (.loop (rec_ (if jump.isNone then .ready else .done) jump))) := fun jump W3 hk3 => by
      have hb3 := keep hk3 f0 f1 hbb
      have hl3 := ((hBk _ _).1 hb3).1
      have := run_endRound (P := P) jump hl3
      rw [hrb] at this
      exact ⟨this, hl3, turn _ hb3⟩
    have hbs := big hbA
    have grow_ : ∀ (W3 : World) (Fp2 : Nat → Prop) (jump : Option Code), Only Fp (A.putObj (w.heap.size + 1) (.loop (rec_ .busy none))) W3 → (∀ b, Fp2 b → Fp b ∨ (A.putObj (w.heap.size + 1) (.loop (rec_ .busy none))).heap.size ≤ b) → ¬ Fp2 w.heap.size ∧ ¬ Fp2 (w.heap.size + 1) ∧
        Only Fp' A0 (W3.putObj (w.heap.size + 1) (.loop (rec_ (if jump.isNone then .ready else .done) jump))) ∧ ∀ b, (Fp2 b ∨ b = w.heap.size + 1) → Fp' b ∨ A0.heap.size ≤ b := fun W3 Fp2 jump ho2 hn2 => by
      rw [hsb] at hn2
      refine ⟨fun h => ?_, fun h => ?_, ?_, ?_⟩
      · rcases hn2 _ h with h | h
        · exact f0 h
        · omega
      · rcases hn2 _ h with h | h
        · exact f1 h
        · omega
      · have s0 : W3.heap.size = (W3.putObj (w.heap.size + 1) (.loop (rec_ (if jump.isNone then .ready else .done) jump))).heap.size := by simp
        refine ⟨ho2.os.trans hgA.os, ho2.tape.trans hgA.tape, ho2.output.trans hgA.output, ?_, fun k hk hnf => ?_⟩
        · have := ho2.size; rw [hsb] at this; rw [← s0]; omega
        · have hk1 : k ≠ w.heap.size + 1 := fun e => hnf ((hF k).2 (.inr e))
          have hk2 : ¬ Fp k := fun h => hnf ((hF k).2 (.inl h))
          rw [World.putObj_heap_other hk1, ho2.block k (by rw [hsb]; omega) hk2, World.putObj_heap_other hk1, hoA k hk]
      · rintro b (hb5 | rfl)
        · rcases hn2 b hb5 with h | h
          · exact .inl ((hF b).2 (.inl h))
          · exact .inr (by omega)
        · exact .inl ((hF _).2 (.inr rfl))
    rintro e a3 W3 hp
    cases e with
    | normal =>
      obtain ⟨Fp2, hu2, ho2, hn2⟩ := hp
      obtain ⟨hr, hl3, hb4⟩ := fin none W3 ho2
      obtain ⟨g0, g1, k1, k2⟩ := grow_ W3 Fp2 none ho2 hn2
      exact ⟨_, _, hr, .inl ⟨rfl, fun b => Fp2 b ∨ b = w.heap.size + 1, ⟨Fp2, fun b => Iff.rfl, hU _ _ _ _ _ hu2 (by have := ho2.size; rw [hsb] at this; omega) (grownBy_putObj' W3 (w.heap.size + 1) _) (fun r e => by cases e; exact ⟨Nat.le_succ _, g1⟩), hb4, g0, g1⟩, k1, k2⟩⟩
    | ret =>
      obtain ⟨Fp2, hu2, ho2, hn2⟩ := hp
      obtain ⟨hr, hl3, hb4⟩ := fin (some .ret) W3 ho2
      obtain ⟨g0, g1, k1, k2⟩ := grow_ W3 Fp2 (some .ret) ho2 hn2
      exact ⟨_, _, hr, .inr ⟨rfl, fun b => Fp2 b ∨ b = w.heap.size + 1, ⟨Fp2, .ret, fun b => Iff.rfl, hUx _ _ _ _ _ _ hu2 (by have := ho2.size; rw [hsb] at this; omega) (grownBy_putObj' W3 (w.heap.size + 1) _) (fun r e => by cases e; exact ⟨Nat.le_succ _, g1⟩), hb4, g0, g1⟩, k1, k2⟩⟩
    | exit id =>
      obtain ⟨Fp2, hu2, ho2, hn2⟩ := hp
      obtain ⟨hr, hl3, hb4⟩ := fin (some (.exit id)) W3 ho2
      obtain ⟨g0, g1, k1, k2⟩ := grow_ W3 Fp2 (some (.exit id)) ho2 hn2
      exact ⟨_, _, hr, .inr ⟨rfl, fun b => Fp2 b ∨ b = w.heap.size + 1, ⟨Fp2, (.exit id), fun b => Iff.rfl, hUx _ _ _ _ _ _ hu2 (by have := ho2.size; rw [hsb] at this; omega) (grownBy_putObj' W3 (w.heap.size + 1) _) (fun r e => by cases e; exact ⟨Nat.le_succ _, g1⟩), hb4, g0, g1⟩, k1, k2⟩⟩
    | goto t =>
      obtain ⟨Fp2, hu2, ho2, hn2⟩ := hp
      obtain ⟨hr, hl3, hb4⟩ := fin (some (.goto t)) W3 ho2
      obtain ⟨g0, g1, k1, k2⟩ := grow_ W3 Fp2 (some (.goto t)) ho2 hn2
      exact ⟨_, _, hr, .inr ⟨rfl, fun b => Fp2 b ∨ b = w.heap.size + 1, ⟨Fp2, (.goto t), fun b => Iff.rfl, hUx _ _ _ _ _ _ hu2 (by have := ho2.size; rw [hsb] at this; omega) (grownBy_putObj' W3 (w.heap.size + 1) _) (fun r e => by cases e; exact ⟨Nat.le_succ _, g1⟩), hb4, g0, g1⟩, k1, k2⟩⟩
    | panic ch => exact hp.elim
    | outgrown => exact hp.elim
  · exact ⟨Fp0, fun b => Iff.rfl, hU1, hB1, fun h => by have := (hFp0 _ h).1; omega, fun h => by have := (hFp0 _ h).1; omega⟩
  · rintro e W2 ⟨⟨v, rfl⟩, (⟨pre, Fp', hS, Fp, hF, hd, hb, f0, f1⟩ | ⟨pre, Fp', hSp, Fp, c, hF, hx, hb, f0, f1⟩)⟩
    · have hb2 := (hBk _ _).1 hb
      have hbs := big hb
      exact ⟨none, _, by have := run_endLoop (P := P) hb2.1 (by rw [hrs]; simp); rw [(hrf .ready none).2.2.2.2] at this; exact this, hdone _ pre Fp _ hS (Nat.le_refl _) (hU _ _ _ _ _ hd (by omega) (grownBy_putObj' W2 (w.heap.size + 1) _) (fun r e => by cases e; exact ⟨Nat.le_succ _, f1⟩)) f0 ((World.putObj_heap_other (by omega)).trans hb2.2)⟩
    · have hb2 := (hBk _ _).1 hb
      have hbs := big hb
      exact ⟨some c, _, by have := run_endLoop (P := P) hb2.1 (by rw [hrs]; simp); rw [(hrf .done (some c)).2.2.2.2] at this; exact this, hstop _ c pre Fp _ hSp (Nat.le_refl _) (hUx _ _ _ _ _ _ hx (by omega) (grownBy_putObj' W2 (w.heap.size + 1) _) (fun r e => by cases e; exact ⟨Nat.le_succ _, f1⟩)) f0 ((World.putObj_heap_other (by omega)).trans hb2.2)⟩
end Fo
end Go.Proofs.YtocoonkachbjaaaGreatDoor

/- The law's own kids: what an iterator of sessions hands out, at most so many (printed by wip/mklkids.py). -/
namespace Go.Proofs.YtocoonkachbjaaaGreatDoor
open Go.RowKit
set_option linter.unusedVariables false
namespace Vw
attribute [local go_sem] Oper.semAt_some

def csL (ss : List Sess) (l : List Nat) : List Value := l.flatMap (csAt ss)
theorem csL_snoc (ss : List Sess) (l : List Nat) (i : Nat) : csL ss (l ++ [i]) = csL ss l ++ csAt ss i := by simp [csL, List.flatMap_append]
/-- The list, as far as it has come, in its box. -/
def KU (ss : List Sess) (m B : Nat) (w : World) (pre : List Nat) (Fp : Nat → Prop) (A : World) : Prop :=
  ∃ d, Boxed A (B + 1) 42 d ∧ A.ownsRow (B + 2) 30 12 d pre.length (csL ss pre) ∧ pre.length ≤ m ∧ (∀ b, Fp b ↔ b = B + 1 ∨ d.ownBlock = some b) ∧ A.cell? ⟨B, 0, none⟩ = some (.int .i64 m) ∧ Below B w A
theorem KU.turn {ss : List Sess} {m B : Nat} {w A A' : World} {pre : List Nat} {Fp : Nat → Prop} {row : Option Nat} (h : KU ss m B w pre Fp A) (hg : A.grownBy A' row) (hrow : ∀ r, row = some r → B + 2 ≤ r ∧ ¬ Fp r) : KU ss m B w pre Fp A' := by
  obtain ⟨d, h1, h2, h3, h4, h5, h6⟩ := h
  have hne : ∀ b, b < B + 2 → some b ≠ row := fun b hb e => by have := (hrow b e.symm).1; omega
  refine ⟨d, h1.kept hg (hne _ (by omega)), own_keep h2 (fun b e => hg.block b (h2.lt b e).2 (fun e2 => (hrow b e2.symm).2 ((h4 b).2 (.inr e)))), h3, h4, ?_, h6.grown hg (by have := h1.lt; omega) (fun k e => by have := (hrow k e).1; omega)⟩
  exact (World.cell?_of_block (w := A) (hg.block B (by have := h1.lt; omega) (hne _ (by omega)))).trans h5
theorem KU.push {ss : List Sess} {m B : Nat} {w A w1 : World} {pre : List Nat} {Fp : Nat → Prop} {d v' : Value} {x : Nat} {o1 : Obj} (hm : pre.length < m) (h1 : Boxed A (B + 1) 42 d) (h2 : A.ownsRow (B + 2) 30 12 d pre.length (csL ss pre)) (h4 : ∀ b, Fp b ↔ b = B + 1 ∨ d.ownBlock = some b) (h5 : A.cell? ⟨B, 0, none⟩ = some (.int .i64 m)) (h6 : Below B w A)
    (hown' : w1.ownsRow (B + 2) 30 12 v' (pre.length + 1) (csL ss pre ++ csAt ss x)) (hgrow : (A.alloc o1).grownBy w1 d.ownBlock) (hat : v'.ownBlock = d.ownBlock ∨ v'.ownBlock = some (A.alloc o1).heap.size) :
    Boxed w1 (B + 1) 42 d ∧ ∃ Fp', KU ss m B w (pre ++ [x]) Fp' (w1.setCell ⟨B + 1, 0, none⟩ v') ∧ Only Fp A (w1.setCell ⟨B + 1, 0, none⟩ v') ∧ ∀ b, Fp' b → Fp b ∨ A.heap.size ≤ b := by
  have hlt := h1.lt
  have ho : Only Fp A w1 := ((Only.refl Fp A).alloc o1).grown hgrow (fun k hk e => (h4 k).2 (.inr e))
  have hlt1 : B + 1 < w1.heap.size := Nat.lt_of_lt_of_le hlt ho.size
  have hnb : ∀ b, d.ownBlock = some b → B + 2 ≤ b := fun b e => (h2.lt b e).1
  have hb1 : Boxed w1 (B + 1) 42 d := (h1.alloc o1).kept hgrow (fun e => by have := hnb _ e.symm; omega)
  refine ⟨hb1, fun b => b = B + 1 ∨ v'.ownBlock = some b, ⟨v', hb1.set v', ?_, by rw [List.length_append]; simp; omega, fun b => Iff.rfl, ?_, ?_⟩, ho.setCell (fun _ => (h4 _).2 (.inl rfl)) _, ?_⟩
  · rw [List.length_append, csL_snoc]
    refine own_keep hown' (fun b e => Below.heap_setCell _ _ _ _ ?_)
    have := (hown'.lt b e).1
    show b ≠ B + 1
    omega
  · have e1 : (w1.setCell ⟨B + 1, 0, none⟩ v').heap[B]? = A.heap[B]? := (Below.heap_setCell _ _ _ _ (by show B ≠ B + 1; omega)).trans (ho.block B (by omega) (fun hf => by
      rcases (h4 B).1 hf with h | h
      · omega
      · have := hnb _ h; omega))
    exact (World.cell?_of_block (w := A) (a := ⟨B, 0, none⟩) e1).trans h5
  · exact (h6.trans (ho.below (by omega) (fun i hi hf => by
      rcases (h4 i).1 hf with h | h
      · omega
      · have := hnb _ h; omega))).setCell (p := ⟨B + 1, 0, none⟩) (by show B ≤ B + 1; omega) _
  · rintro b (rfl | e)
    · exact .inl ((h4 _).2 (.inl rfl))
    · rcases hat with h | h
      · exact .inl ((h4 b).2 (.inr (h.symm.trans e)))
      · refine .inr ?_
        have e2 : b = (A.alloc o1).heap.size := Option.some.inj (e.symm.trans h)
        rw [e2]; simp
theorem KU.fin {ss : List Sess} {B : Nat} {w A A' : World} {pre : List Nat} {Fp : Nat → Prop} {row : Option Nat} {d : Value} (h1 : Boxed A (B + 1) 42 d) (h2 : A.ownsRow (B + 2) 30 12 d pre.length (csL ss pre)) (h4 : ∀ b, Fp b ↔ b = B + 1 ∨ d.ownBlock = some b) (h6 : Below B w A) (hg : A.grownBy A' row) (hrow : ∀ r, row = some r → B + 2 ≤ r ∧ ¬ Fp r) :
    A'.ownsRow B 30 12 d pre.length (csL ss pre) ∧ Below B w A' :=
  ⟨Ut.own_base (own_keep h2 (fun b e => hg.block b (h2.lt b e).2 (fun e2 => (hrow b e2.symm).2 ((h4 b).2 (.inr e))))) (Nat.le_add_right _ 2), h6.grown hg (by have := h1.lt; omega) (fun k e => by have := (hrow k e).1; omega)⟩
theorem pre_take {α : Type} {p L : List α} (h : p <+: L) : p = L.take p.length := List.prefix_iff_eq_take.1 h

set_option maxRecDepth 100000 in
set_option maxHeartbeats 4000000 in
theorem lkids_any (ss : List Sess) (hl : ss.length ≤ 65536) (L : List Nat) (hL : ∀ i ∈ L, i < ss.length) (bk bf : Nat) (C : Nat → Prop) (m : Nat) (hm : m ≤ 65536) (w0 w : World) (hC : ∀ b, C b → b < w.heap.size ∧ w.heap[b]? = w0.heap[b]?)
    (hseq : ∀ n, Fo.SeqF Fence.wide n Tryz.prog 93 #[.pointer (some ⟨bk, 0, none⟩), .pointer (some ⟨bf, 0, none⟩)] (encS ss) (fun ys => ys = L) (fun p => p <+: L) C w0) :
    Calls Tryz.prog 55 #[.func (.func 93) #[] #[.pointer (some ⟨bk, 0, none⟩), .pointer (some ⟨bf, 0, none⟩)], .int .i64 m] w fun e w' => (∃ d, e = .returned d ∧ w'.ownsRow w.heap.size 30 12 d (L.take m).length (csL ss (L.take m))) ∧ Below w.heap.size w w' := by
  obtain ⟨i0, hi, hz0, hz1, hz2⟩ := info_parts vinfo_sess
  have HSEQ := Lib.hid (hseq 8); have HC := Lib.hid hC; have HL := Lib.hid hL
  clear hseq hC hL
  have mI : (m : Int) ≤ 65536 := by omega
  refine (callsIn_wide (n := 9)).1 ?_
  refine callsIn_of_wp_marks Tryz.func55 rfl trivial ?_ rfl
  simp only [Tryz.ntmps55, List.size_toArray, List.length_cons, List.length_nil, Nat.reduceAdd, Nat.reduceSub, Array.replicate_succ, Array.replicate_zero, List.push_toArray, List.append_toArray, List.nil_append, List.cons_append]
  gi_wp2_with fail
  obtain ⟨W2, hW2⟩ : ∃ W2, W2 = (w.alloc (.cells #[.int .i64 m] 3)).alloc (.cells #[.slice none 0 0] 42) := ⟨_, rfl⟩
  have hs2 : W2.heap.size = w.heap.size + 2 := by rw [hW2, World.size_alloc, World.size_alloc]
  have hb2 : Below w.heap.size w W2 := by rw [hW2]; exact ((Below.refl _ _).alloc (Nat.le_refl _) _).alloc (by simp) _
  have hU0 : KU ss m w.heap.size w [] (fun b => b = w.heap.size + 1) W2 := by
    refine ⟨.slice none 0 0, ?_, World.ownsRow_nil _ _ _ _, Nat.zero_le _, fun b => ⟨.inl, fun h => h.elim id (fun h => by cases h)⟩, ?_, hb2⟩
    · rw [hW2]
      have := Boxed.new (w.alloc (.cells #[.int .i64 m] 3)) 42 (.slice none 0 0)
      rwa [World.size_alloc] at this
    · rw [hW2]
      exact ((Boxed.new w 3 (.int .i64 m)).alloc _).cell
  rw [← hW2]
  have HS2 := Lib.hid hs2; have HU0 := Lib.hid hU0; have HB2 := Lib.hid hb2
  clear hs2 hU0 hb2 hW2
  refine Fo.range_foot_new (F := Fence.wide) (n := 9) rfl (by omega) (gf := 93) (lb := #[.pointer (some ⟨bk, 0, none⟩), .pointer (some ⟨bf, 0, none⟩)]) rfl trivial (enters_of Tryz.func93 (by kernel_rfl) rfl)
    HSEQ.out (fun _ => rfl) (fun b hb => ⟨by have := (HC.out b hb).1; have := HS2.out; omega, (HB2.out.block b (HC.out b hb).1).trans (HC.out b hb).2⟩)
    (KU ss m w.heap.size w) (fun c pre Fp A => c = .exit 0 ∧ ∃ ini x, pre = ini ++ [x] ∧ ini.length = m ∧ KU ss m w.heap.size w ini Fp A) (fun b => b = w.heap.size + 1) (fun b hb => ⟨by have := HS2.out; omega, fun h => by have := (HC.out b h).1; omega⟩)
    ?hU ?hUx HU0.out
    (fun x b => { tmps := #[.func (.func 93) #[] #[.pointer (some ⟨bk, 0, none⟩), .pointer (some ⟨bf, 0, none⟩)], .int .i64 m, undef, .pointer (some ⟨w.heap.size, 0, none⟩), .slice none 0 0, .pointer (some ⟨w.heap.size + 1, 0, none⟩), .pointer (some ⟨b, 0, none⟩), .func (.func 93) #[] #[.pointer (some ⟨bk, 0, none⟩), .pointer (some ⟨bf, 0, none⟩)], .agg (csAt ss x).toArray, undef, undef, undef, undef, undef, undef, undef, undef, undef], defers := [] })
    (fun x => .cells (csAt ss x).toArray 30)
    ?assign ?body ?done ?stop
  case hU =>
    intro pre Fp A A' row h1 hsz hg hrow
    exact h1.turn hg (fun r e => ⟨by have := (hrow r e).1; have := HS2.out; omega, (hrow r e).2⟩)
  case hUx =>
    rintro c pre Fp A A' row ⟨rfl, ini, x, h0, h1, h2⟩ hsz hg hrow
    exact ⟨rfl, ini, x, h0, h1, h2.turn hg (fun r e => ⟨by have := (hrow r e).1; have := HS2.out; omega, (hrow r e).2⟩)⟩
  case assign =>
    rintro l2 x A K ⟨pre, hpre⟩ hK
    have hin : x < ss.length := HL.out x (hpre.subset (by simp))
    unfold encS
    obtain ⟨cs, hcs⟩ : ∃ cs, cs = csAt ss x := ⟨_, rfl⟩
    have HCL : Hid (cs.length = 12) := by show _ = _; rw [hcs]; exact cs_len hin
    have HC1 : Hid (∀ u ∈ cs, u.oneCell' = true) := by show ∀ _, _; rw [hcs, csAt_at hin]; exact ss[x].one
    rw [← hcs] at hK ⊢
    clear hcs hin hpre
    gi_wp2_with (refine Ag.wpListIn_store_new (by rfl) 30 (.tmp 6) (.tmp 8) (by rfl) cs (by rfl) (by rfl) (by rw [HCL.out]; kernel_rfl) (by rw [HCL.out]; rfl) HC1.out ?_)
    exact hK
  case body =>
    intro l2 pre x Fp b A hu hszA hpre hold hbA hbb
    have hin : x < ss.length := HL.out x (hpre.subset (by simp))
    obtain ⟨d, h1, h2, h3, h4, h5, h6⟩ := hu
    obtain ⟨q, r, rfl, -⟩ := own_any_shape h2
    have hc := h1.cell
    obtain ⟨cs, hcs⟩ : ∃ cs, cs = csAt ss x := ⟨_, rfl⟩
    have HCL : Hid (cs.length = 12) := by show _ = _; rw [hcs]; exact cs_len hin
    have HC1 : Hid (∀ u ∈ cs, u.oneCell' = true) := by show ∀ _, _; rw [hcs, csAt_at hin]; exact ss[x].one
    have H1 := Lib.hid h1; have H2 := Lib.hid h2; have H4 := Lib.hid h4; have H5 := Lib.hid h5; have H6 := Lib.hid h6
    have HCS := Lib.hid hcs
    rw [← hcs] at hbb ⊢
    have HPU := Lib.hid (fun (hm : pre.length < m) (v' : Value) (w1 : World) (o1 : Obj) => KU.push (ss := ss) (x := x) (v' := v') (w1 := w1) (o1 := o1) hm h1 h2 h4 h5 h6)
    rw [← hcs] at HPU
    have HRG : Hid (A.rangeAt b 0 cs) := fun j u hu => by rw [Nat.zero_add, block_cell hbb]; simpa using hu
    have HSZ := Lib.hid hszA
    obtain ⟨K, hK⟩ : ∃ K, K = pre.length := ⟨_, rfl⟩
    have HK := Lib.hid hK
    rw [← hK] at hc h3 HPU
    have H2K : Hid (A.ownsRow (w.heap.size + 2) 30 12 (.slice q K r) K (csL ss pre)) := by show A.ownsRow _ _ _ _ _ _; rw [hK]; exact h2
    clear h1 h2 h4 h6 hbb hcs hin hszA hold
    by_cases hm2 : K < m
    · have b1 : (K : Int) < (m : Int) := by omega
      have am1 : K + 1 ≤ maxLen := by unfold maxLen; omega
      have am2 : (K + 1) * 112 ≤ 140737488355328 := by omega
      have k3 : w.heap.size + 2 ≤ (A.alloc (.cells cs.toArray 30)).heap.size := by have := HSZ.out; have := HS2.out; simp; omega
      have HP2 := Lib.hid (HPU.out hm2)
      have hd : decide (m ≤ K) = false := decide_eq_false (by omega)
      clear hm2 hK h3 HPU
      gi_wp2_with (first
        | (refine Ag.wpListIn_load (by rfl) 30 _ (by rfl) _ _ (by rfl) cs _ HRG.out Tryz.underlying30 rfl (by rw [HCL.out]; kernel_rfl) ?_)
        | (refine Ag.wpListIn_one (by rfl) 42 30 _ (by rfl) cs (by rfl) i0 _ Tryz.underlying42 hi hz0 (by rw [hz1]; exact HCL.out) (by rw [hz1]; decide) (by rw [hz1]; decide) ?_)
        | (gi_at_builtin; (refine wpListIn_append_own_at _ rfl _ _ 42 rfl (w.heap.size + 2) 30 i0 (.agg #[.int .i64 0, .int .i64 0, .int .i64 0, .int .i64 0, .int .i64 0, .string ByteArray.empty, .string ByteArray.empty, .int .u64 0, .int .i64 0, .int .i64 0, .int .i64 0, .int .i64 0]) 12 112 Tryz.underlying42 hi hz0 hz1 hz2 rfl (by decide) _ _ _ rfl (H2K.out.alloc _) ⟨A.heap.size, 0, none⟩ 1 1 cs rfl HCL.out (World.news_of_block (Ut.alloc_at _ _)) HC1.out am1 am2 k3 ?_); (intro v' w1 hown' hgrow hnil hat; obtain ⟨q', r', rfl, -⟩ := own_any_shape hown'; obtain ⟨hb1, Fp', hn1⟩ := HP2.out _ _ _ hown' hgrow hat; (have hc1 := hb1.cell); (have hf1 := hb1.frozen); (have HN := Lib.hid hn1); clear hown' hgrow hat hn1 hb1 hnil)))
      exact ⟨Fp', HN.out.1, HN.out.2.1, HN.out.2.2⟩
    · have b1 : (m : Int) ≤ (K : Int) := by omega
      have HM : Hid (K = m) := by show _ = _; omega
      have hd : decide (m ≤ K) = true := decide_eq_true (by omega)
      clear hm2 hK h3 HPU
      gi_wp2
      exact ⟨Fp, ⟨rfl, pre, x, rfl, HK.out.symm.trans HM.out, _, H1.out, H2.out, by rw [← HK.out, HM.out]; exact Nat.le_refl _, H4.out, H5.out, H6.out⟩, Only.refl _ _, fun b h => .inl h⟩
  case done =>
    rintro D ys Fp A rfl hD hu hnf hK
    obtain ⟨d, h1, h2, h3, h4, h5, h6⟩ := hu
    have hc := h1.cell
    gi_wp2
    refine ⟨by simp, .inl ⟨_, _, rfl, run_takeDeferred hK, ?_⟩⟩
    obtain ⟨k1, k2⟩ := KU.fin h1 h2 h4 h6 (grownBy_putObj' A D (.deferred none)) (fun r e => by cases e; exact ⟨by have := HS2.out; omega, hnf⟩)
    have e : ys.take m = ys := List.take_of_length_le h3
    rw [e]
    exact ⟨_, results_tmp rfl _ _ _, ⟨d, rfl, k1⟩, k2⟩
  case stop =>
    rintro D c pre Fp A hSp hD ⟨rfl, ini, x, rfl, hlen, hu⟩ hnf hK
    obtain ⟨d, h1, h2, h3, h4, h5, h6⟩ := hu
    have hc := h1.cell
    gi_wp2
    refine ⟨by simp, .inl ⟨_, _, rfl, run_takeDeferred hK, ?_⟩⟩
    obtain ⟨k1, k2⟩ := KU.fin h1 h2 h4 h6 (grownBy_putObj' A D (.deferred none)) (fun r e => by cases e; exact ⟨by have := HS2.out; omega, hnf⟩)
    have e : L.take m = ini := by
      have h7 := pre_take ((List.prefix_append ini [x]).trans hSp)
      rw [hlen] at h7; exact h7.symm
    rw [e]
    exact ⟨_, results_tmp rfl _ _ _, ⟨d, rfl, k1⟩, k2⟩
end Vw
end Go.Proofs.YtocoonkachbjaaaGreatDoor
