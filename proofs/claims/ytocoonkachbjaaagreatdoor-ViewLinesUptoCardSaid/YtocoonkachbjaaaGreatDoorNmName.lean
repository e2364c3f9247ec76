/- names.Name and the reference's Name, of any text. -/
import Derived.Test.YtocoonkachbjaaaGreatDoorRune2
import Derived.Test.YtocoonkachbjaaaGreatDoorNmPlain
namespace Go.Proofs.YtocoonkachbjaaaGreatDoor
open Go.RowKit Go.Proofs.NmPlain
set_option linter.unusedVariables false

/-- May a byte stand at a place of a name? -/
def okAt (i : Nat) (b : UInt8) : Bool := (decide (97 ≤ b.toNat) && decide (b.toNat ≤ 122)) || (decide (i ≠ 0) && isSign b.toNat)
def nameAux : Nat → Bs → Bool
  | _, [] => true
  | i, b :: l => okAt i b && nameAux (i + 1) l
/-- Is a text a name? -/
def nameB (l : Bs) : Bool := decide (1 ≤ l.length ∧ l.length ≤ 32) && nameAux 0 l

theorem nameAux_drop {l : Bs} {p : Nat} (h : p < l.length) : nameAux p (l.drop p) = (okAt p l[p] && nameAux (p + 1) (l.drop (p + 1))) := by
  rw [List.drop_eq_getElem_cons h, nameAux]

theorem nameB_len {l : Bs} (h : ¬ (1 ≤ l.length ∧ l.length ≤ 32)) : nameB l = false := by unfold nameB; rw [decide_eq_false h]; rfl
theorem nameB_aux {l : Bs} (h : 1 ≤ l.length ∧ l.length ≤ 32) : nameB l = nameAux 0 l := by unfold nameB; rw [decide_eq_true h]; rfl

theorem isSign_high {c : Nat} (h : 128 ≤ c) : isSign c = false := by
  unfold isSign
  have a : decide (c ≤ 57) = false := by simp; omega
  have b : (c == 45) = false := by rw [beq_eq_false_iff_ne]; omega
  have d : (c == 95) = false := by rw [beq_eq_false_iff_ne]; omega
  rw [a, b, d]; simp

theorem okAt_letter {i : Nat} {b : UInt8} (h1 : 97 ≤ b.toNat) (h2 : b.toNat ≤ 122) : okAt i b = true := by simp [okAt, h1, h2]
theorem okAt_zero {b : UInt8} (h : b.toNat < 97 ∨ 122 < b.toNat) : okAt 0 b = false := by
  unfold okAt
  have : (decide (97 ≤ b.toNat) && decide (b.toNat ≤ 122)) = false := by
    rcases h with h | h
    · rw [decide_eq_false (by omega)]; rfl
    · rw [decide_eq_false (p := b.toNat ≤ 122) (by omega), Bool.and_false]
  rw [this]; simp
theorem okAt_sign {i : Nat} {b : UInt8} (hi : i ≠ 0) (h : b.toNat < 97 ∨ 122 < b.toNat) : okAt i b = isSign b.toNat := by
  unfold okAt
  have : (decide (97 ≤ b.toNat) && decide (b.toNat ≤ 122)) = false := by
    rcases h with h | h
    · rw [decide_eq_false (by omega)]; rfl
    · rw [decide_eq_false (p := b.toNat ≤ 122) (by omega), Bool.and_false]
  rw [this, decide_eq_true hi]; simp

theorem decode_valid (s : ByteArray) (p : Nat) (h : p < s.size) (ha : 128 ≤ (s[p]'h).toNat) : Utf8.valid ((Utf8.decode s p).1 : Int) = true := by
  unfold Utf8.decode
  dsimp only
  have hnot : ¬ (s.get! (p + 0)).toNat < 128 := by rw [get_at s p h]; omega
  rw [if_neg hnot]
  have hve : Utf8.valid ((Utf8.runeError : Nat) : Int) = true := by decide
  split
  · split
    · rename_i h1 h2
      have h3 : (s.get! (p + 0)).toNat % 32 < 32 := Nat.mod_lt _ (by omega)
      have h4 : (s.get! (p + 1)).toNat % 64 < 64 := Nat.mod_lt _ (by omega)
      generalize (s.get! (p + 0)).toNat % 32 = a at *
      generalize (s.get! (p + 1)).toNat % 64 = b at *
      simp only [Utf8.valid, Bool.or_eq_true, Bool.and_eq_true, decide_eq_true_eq]; left; constructor <;> omega
    · exact hve
  · split
    · split
      · rename_i h1 h2 h3
        simp only [Bool.and_eq_true] at h3; exact h3.2
      · exact hve
    · split
      · split
        · rename_i h1 h2 h3 h4
          simp only [Bool.and_eq_true] at h4; exact h4.2
        · exact hve
      · exact hve

/-- What the round knows: the rune at a place, and what the signs say of it. -/
structure RuneAt (s : ByteArray) (p : Nat) (h : p < s.size) (c d : Nat) (q : Bool) : Prop where
  dec : Utf8.decode s p = (c, d)
  pos : 1 ≤ d
  small : (s[p]'h).toNat < 97 → c < 97
  letter : 97 ≤ (s[p]'h).toNat → (s[p]'h).toNat ≤ 122 → 97 ≤ c ∧ c ≤ 122 ∧ d = 1
  great : 122 < (s[p]'h).toNat → 122 < c
  le : c ≤ 2147483647
  one : q = true → d = 1
  sign : isSign (s[p]'h).toNat = q
  says : ∀ W : World, Calls Tryz.prog 62 #[.string ⟨#[48, 49, 50, 51, 52, 53, 54, 55, 56, 57, 45, 95]⟩, .int .i32 c] W fun e w' => e = .returned (.bool q) ∧ Below W.heap.size W w'

theorem rune_at (s : ByteArray) (p : Nat) (h : p < s.size) : ∃ c d q, RuneAt s p h c d q := by
  by_cases ha : (s[p]'h).toNat < 128
  · have e := decode_ascii s p h ha
    refine ⟨_, _, isSign (s[p]'h).toNat, e, Nat.le_refl _, fun h => h, fun a b => ⟨a, b, rfl⟩, fun h => h, by omega, fun _ => rfl, rfl, fun W => ?_⟩
    exact (containsRune_ascii _ ha W).mono fun e w' ⟨a, b⟩ => ⟨a, by rw [b]; exact Below.refl _ _⟩
  · have hd := decode_high s p h (by omega)
    have hv := decode_valid s p h (by omega)
    refine ⟨(Utf8.decode s p).1, (Utf8.decode s p).2, false, rfl, hd.2, (fun h => by omega), (fun a b => by omega), (fun _ => by omega), decode_le s p, (fun h => by cases h), isSign_high (by omega), fun W => ?_⟩
    exact containsRune_high _ (by omega) hv W

def NRel (s : ByteArray) (w wr : World) : Prop :=
  ∃ p : Nat, p ≤ s.size ∧ wr.heap[w.heap.size]? = some (.stringIter s p) ∧ nameAux 0 s.data.toList = nameAux p (s.data.toList.drop p) ∧ Below w.heap.size w wr

set_option maxHeartbeats 1000000 in
theorem name_any (s : ByteArray) (hs : s.size ≤ 9223372036854775807) (w : World) :
    Calls Tryz.prog 22 #[.string s] w fun e w' => e = .returned (.bool (nameB s.data.toList)) ∧ Below w.heap.size w w' := by
  by_cases hl : 1 ≤ s.size ∧ s.size ≤ 32
  · have hnb : nameB s.data.toList = nameAux 0 s.data.toList := nameB_aux (by rw [← size_toList]; exact hl)
    have hne : s.toList.isEmpty = false := by
      rw [Lib.toList_data]
      have : s.data.toList.length ≠ 0 := by rw [← size_toList]; omega
      cases h : s.data.toList with
      | nil => rw [h] at this; simp at this
      | cons _ _ => rfl
    obtain ⟨l1, l2⟩ := hl
    rw [hnb]
    clear hnb
    go_enter Tryz.func22, Tryz.ntmps22
    go_wp2
    go_loopw [3, 4, 5] (fun _ _ _ wr => NRel s w wr) (fun _ _ _ wr => s.size - wr.iterPos w.heap.size)
    case atStart => exact ⟨0, Nat.zero_le _, World.iter_heap _ _ _, rfl, (Below.refl _ _).alloc (Nat.le_refl _) _⟩
    case round =>
      obtain ⟨p, hp, hit, haux, hbw⟩ := hrel
      have hsz : w.heap.size < wr.heap.size := (Array.getElem?_eq_some_iff.1 hit).1
      have HA := Lib.hid haux
      clear haux
      by_cases h : p < s.size
      · obtain ⟨c, d, q, hr⟩ := rune_at s p h
        have hnx : ∀ ty, (Instr.next (.pointer (some ⟨w.heap.size, 0, none⟩)) true ty).run Tryz.prog wr = .ok (.tuple #[.bool true, .int .i64 p, .int .i32 c]) (wr.iterAt w.heap.size s (p + d)) := fun ty => by
          have := Lib.run_next_any_at (P := Tryz.prog) (ty := ty) wr w.heap.size s p hit h
          rw [hr.dec] at this; exact this
        have hit2 := Lib.iterAt_heap wr w.heap.size s p (p + d) hit
        have hbw2 := Lib.below_iterAt hbw (k := w.heap.size) (Nat.le_refl _) s (p + d)
        have hsz2 : w.heap.size < (wr.iterAt w.heap.size s (p + d)).heap.size := by rw [Lib.iterAt_size]; exact hsz
        have hle := hr.le
        have hstep : nameAux p (s.data.toList.drop p) = (okAt p s[p] && nameAux (p + 1) (s.data.toList.drop (p + 1))) := nameAux_drop (by rw [← size_toList]; exact h)
        by_cases hlet : 97 ≤ (s[p]'h).toNat ∧ (s[p]'h).toNat ≤ 122
        · obtain ⟨c1, c2, rfl⟩ := hr.letter hlet.1 hlet.2
          have hok := okAt_letter (i := p) hlet.1 hlet.2
          have HN : Hid (nameAux 0 s.data.toList = nameAux (p + 1) (s.data.toList.drop (p + 1))) := by
            show _ = _; rw [HA.out, hstep, hok, Bool.true_and]
          clear hstep hok hr hlet
          go_wp2
          go_roundw
          case rel => exact ⟨p + 1, by omega, hit2, HN, hbw2⟩
          case measure =>
            simp only [World.iterPos, hit2, hit]
            omega
        · have hnl : (s[p]'h).toNat < 97 ∨ 122 < (s[p]'h).toNat := by omega
          have hcnl : c < 97 ∨ 122 < c := hnl.elim (fun h => .inl (hr.small h)) (fun h => .inr (hr.great h))
          by_cases hp0 : p = 0
          · subst hp0
            have hok := okAt_zero hnl
            have HN : Hid (nameAux 0 s.data.toList = false) := by
              show _ = _; rw [HA.out, hstep, hok, Bool.false_and]
            clear hstep hok hr hlet hnl
            simp only [Nat.zero_add] at hbw2
            rcases hcnl with hcc | hcc
            · go_wp2
              go_ret
              exact ⟨Ut.ret_bool HN.out.symm, hbw2⟩
            · have hd1 : decide ((c : Int) ≤ 122) = false := by simp; omega
              go_wp2
              go_ret
              exact ⟨Ut.ret_bool HN.out.symm, hbw2⟩
          · have hok := okAt_sign hp0 hnl
            rw [hr.sign] at hok
            have hq0 : ((p : Int) == 0) = false := by rw [beq_eq_false_iff_ne]; omega
            have HS := Lib.hid hr.says
            cases q
            · have HN : Hid (nameAux 0 s.data.toList = false) := by
                show _ = _; rw [HA.out, hstep, hok, Bool.false_and]
              clear hstep hok hr hlet hnl
              rcases hcnl with hcc | hcc
              · go_wp2_with (go_at_call 62; refine (HS.out _).mono ?_; rintro e w2 ⟨rfl, hb2⟩)
                go_ret
                exact ⟨Ut.ret_bool HN.out.symm, hbw2.trans (hb2.mono (Nat.le_of_lt hsz2))⟩
              · have hd1 : decide ((c : Int) ≤ 122) = false := by simp; omega
                go_wp2_with (go_at_call 62; refine (HS.out _).mono ?_; rintro e w2 ⟨rfl, hb2⟩)
                go_ret
                exact ⟨Ut.ret_bool HN.out.symm, hbw2.trans (hb2.mono (Nat.le_of_lt hsz2))⟩
            · obtain rfl := hr.one rfl
              have HN : Hid (nameAux 0 s.data.toList = nameAux (p + 1) (s.data.toList.drop (p + 1))) := by
                show _ = _; rw [HA.out, hstep, hok, Bool.true_and]
              clear hstep hok hr hlet hnl
              rcases hcnl with hcc | hcc
              · go_wp2_with (go_at_call 62; refine (HS.out _).mono ?_; rintro e w2 ⟨rfl, hb2⟩)
                have hit3 : w2.heap[w.heap.size]? = some (.stringIter s (p + 1)) := (hb2.block _ hsz2).trans hit2
                go_roundw
                case rel => exact ⟨p + 1, by omega, hit3, HN, hbw2.trans (hb2.mono (Nat.le_of_lt hsz2))⟩
                case measure =>
                  simp only [World.iterPos, hit3, hit]
                  omega
              · have hd1 : decide ((c : Int) ≤ 122) = false := by simp; omega
                go_wp2_with (go_at_call 62; refine (HS.out _).mono ?_; rintro e w2 ⟨rfl, hb2⟩)
                have hit3 : w2.heap[w.heap.size]? = some (.stringIter s (p + 1)) := (hb2.block _ hsz2).trans hit2
                go_roundw
                case rel => exact ⟨p + 1, by omega, hit3, HN, hbw2.trans (hb2.mono (Nat.le_of_lt hsz2))⟩
                case measure =>
                  simp only [World.iterPos, hit3, hit]
                  omega
      · have hnx : ∀ ty, (Instr.next (.pointer (some ⟨w.heap.size, 0, none⟩)) true ty).run Tryz.prog wr = _ := fun ty => Lib.run_next_end_at wr w.heap.size s p ty hit h
        have HN : Hid (nameAux 0 s.data.toList = true) := by
          show _ = _; rw [HA.out, List.drop_of_length_le (by rw [← size_toList]; omega)]; rfl
        go_wp2
        go_ret
        exact ⟨Ut.ret_bool HN.out.symm, hbw⟩
  · have hnb : nameB s.data.toList = false := nameB_len (by rw [← size_toList]; exact hl)
    rw [hnb]
    clear hnb
    by_cases h0 : s.size = 0
    · have hem : s.toList.isEmpty = true := by
        rw [Lib.toList_data, List.isEmpty_iff_length_eq_zero, ← size_toList]; exact h0
      have H0 := Lib.hid h0
      clear h0 hl
      go_enter Tryz.func22, Tryz.ntmps22
      go_wp2
      go_ret
      exact ⟨rfl, Below.refl _ _⟩
    · have hem : s.toList.isEmpty = false := by
        rw [Lib.toList_data]
        have : s.data.toList.length ≠ 0 := by rw [← size_toList]; omega
        cases h : s.data.toList with
        | nil => rw [h] at this; simp at this
        | cons _ _ => rfl
      have h2 : (32 : Int) < (s.size : Int) := by omega
      clear hl h0
      go_enter Tryz.func22, Tryz.ntmps22
      go_wp2
      go_ret
      exact ⟨rfl, Below.refl _ _⟩

end Go.Proofs.YtocoonkachbjaaaGreatDoor
