/- Several texts in one: what each proves its own first comment says. -/
import Derived.Test.YtocoonkachbjaaaGreatDoorM4
import Derived.Test.YtocoonkachbjaaaGreatDoorM5
import Derived.Test.YtocoonkachbjaaaGreatDoorM1
import Derived.Laws.BitsAllLaws
import Derived.Laws.Shifts
import Derived.IntWalk
import Derived.Lib.Join
import Derived.Deep.RegionHeld3
import Derived.WalkSmall
import Derived.Test.YtocoonkachbjaaaGreatDoorM3

/- The plain laws of the names' comparison: it is an order; a text is its pieces with dots between. No program in sight. -/
namespace Go.Proofs.NmPlain

/-- What makes a comparison an order. -/
structure Ord (α : Type) (c : α → α → Int) : Prop where
  anti : ∀ a b, c b a = - c a b
  zero : ∀ a b, c a b = 0 ↔ a = b
  trans : ∀ a b d, c a b ≤ 0 → c b d ≤ 0 → c a d ≤ 0
  range : ∀ a b, -1 ≤ c a b ∧ c a b ≤ 1

def lex {α : Type} (c : α → α → Int) : List α → List α → Int
  | [], [] => 0
  | [], _ :: _ => -1
  | _ :: _, [] => 1
  | x :: xs, y :: ys => if c x y = 0 then lex c xs ys else c x y

theorem Ord.refl {α : Type} {c : α → α → Int} (h : Ord α c) (a : α) : c a a = 0 := (h.zero a a).2 rfl
theorem Ord.lt_trans {α : Type} {c : α → α → Int} (h : Ord α c) {a b d : α} (h1 : c a b < 0) (h2 : c b d ≤ 0) : c a d < 0 := by
  have h3 := h.trans a b d (by omega) h2
  rcases Int.lt_or_eq_of_le h3 with h4 | h4
  · exact h4
  · have e := (h.zero a d).1 h4
    subst e
    have := h.anti a b
    omega
theorem Ord.le_lt {α : Type} {c : α → α → Int} (h : Ord α c) {a b d : α} (h1 : c a b ≤ 0) (h2 : c b d < 0) : c a d < 0 := by
  have h3 := h.trans a b d h1 (by omega)
  rcases Int.lt_or_eq_of_le h3 with h4 | h4
  · exact h4
  · have e := (h.zero a d).1 h4
    subst e
    have := h.anti a b
    omega

theorem lex_range {α : Type} {c : α → α → Int} (h : Ord α c) : ∀ xs ys : List α, -1 ≤ lex c xs ys ∧ lex c xs ys ≤ 1
  | [], [] => by simp [lex]
  | [], _ :: _ => by simp [lex]
  | _ :: _, [] => by simp [lex]
  | x :: xs, y :: ys => by
    unfold lex; split
    · exact lex_range h xs ys
    · exact h.range x y
theorem lex_anti {α : Type} {c : α → α → Int} (h : Ord α c) : ∀ xs ys : List α, lex c ys xs = - lex c xs ys
  | [], [] => by simp [lex]
  | [], _ :: _ => by simp [lex]
  | _ :: _, [] => by simp [lex]
  | x :: xs, y :: ys => by
    unfold lex
    have := h.anti x y
    by_cases e : c x y = 0
    · rw [if_pos e, if_pos (by omega)]; exact lex_anti h xs ys
    · rw [if_neg e, if_neg (by omega)]; exact this
theorem lex_zero {α : Type} {c : α → α → Int} (h : Ord α c) : ∀ xs ys : List α, lex c xs ys = 0 ↔ xs = ys
  | [], [] => by simp [lex]
  | [], _ :: _ => by simp [lex]
  | _ :: _, [] => by simp [lex]
  | x :: xs, y :: ys => by
    unfold lex
    by_cases e : c x y = 0
    · rw [if_pos e, lex_zero h xs ys, (h.zero x y).1 e]; simp
    · rw [if_neg e]
      constructor
      · intro h'; exact absurd h' e
      · intro h'; simp only [List.cons.injEq] at h'; exact absurd ((h.zero x y).2 h'.1) e
theorem lex_trans {α : Type} {c : α → α → Int} (h : Ord α c) : ∀ xs ys zs : List α, lex c xs ys ≤ 0 → lex c ys zs ≤ 0 → lex c xs zs ≤ 0
  | [], _, [], _, _ => by simp [lex]
  | [], _, _ :: _, _, _ => by simp [lex]
  | _ :: _, [], _, h1, _ => by simp [lex] at h1
  | _ :: _, _ :: _, [], _, h2 => by simp [lex] at h2
  | x :: xs, y :: ys, z :: zs, h1, h2 => by
    unfold lex at h1 h2 ⊢
    by_cases e1 : c x y = 0
    · rw [if_pos e1] at h1
      have exy := (h.zero x y).1 e1
      subst exy
      by_cases e2 : c x z = 0
      · rw [if_pos e2] at h2 ⊢; exact lex_trans h xs ys zs h1 h2
      · rw [if_neg e2] at h2 ⊢; exact h2
    · rw [if_neg e1] at h1
      by_cases e2 : c y z = 0
      · have eyz := (h.zero y z).1 e2
        subst eyz
        rw [if_neg e1]; exact h1
      · rw [if_neg e2] at h2
        have := h.lt_trans (a := x) (b := y) (d := z) (by omega) h2
        rw [if_neg (by omega)]; omega

theorem lex_ord {α : Type} {c : α → α → Int} (h : Ord α c) : Ord (List α) (lex c) := ⟨lex_anti h, lex_zero h, lex_trans h, lex_range h⟩

def ucmp (a b : UInt8) : Int := if a = b then 0 else if a < b then -1 else 1
theorem ucmp_ord : Ord UInt8 ucmp := by
  refine ⟨fun a b => ?_, fun a b => ?_, fun a b d h1 h2 => ?_, fun a b => ?_⟩
  · unfold ucmp
    by_cases e : a = b
    · rw [if_pos e, if_pos e.symm]; rfl
    · rw [if_neg e, if_neg (fun h => e h.symm)]
      have : a.toNat ≠ b.toNat := fun h => e (UInt8.toNat_inj.1 h)
      by_cases l : a < b
      · rw [if_pos l, if_neg (by rw [UInt8.lt_iff_toNat_lt] at l ⊢; omega)]; rfl
      · rw [if_neg l, if_pos (by rw [UInt8.lt_iff_toNat_lt] at l ⊢; omega)]
  · unfold ucmp
    by_cases e : a = b
    · simp [e]
    · rw [if_neg e]; split <;> simp [e]
  · have le_iff : ∀ a b : UInt8, ucmp a b ≤ 0 ↔ a.toNat ≤ b.toNat := fun a b => by
      unfold ucmp
      by_cases e : a = b
      · simp [e]
      · have : a.toNat ≠ b.toNat := fun h => e (UInt8.toNat_inj.1 h)
        rw [if_neg e]
        by_cases l : a < b
        · rw [if_pos l]; rw [UInt8.lt_iff_toNat_lt] at l; constructor
          · intro _; omega
          · intro _; decide
        · rw [if_neg l]; rw [UInt8.lt_iff_toNat_lt] at l; constructor
          · intro h; exact absurd h (by decide)
          · intro h; omega
    rw [le_iff] at h1 h2 ⊢; omega
  · unfold ucmp; split
    · decide
    · split <;> decide

theorem bcmp_lex : ∀ s t : Bs, bcmp s t = lex ucmp s t
  | [], [] => rfl
  | [], _ :: _ => rfl
  | _ :: _, [] => rfl
  | a :: s, b :: t => by
    unfold bcmp lex
    by_cases e : a = b
    · rw [if_pos e, if_pos ((ucmp_ord.zero a b).2 e), bcmp_lex s t]
    · rw [if_neg e, if_neg (fun h => e ((ucmp_ord.zero a b).1 h))]; unfold ucmp; rw [if_neg e]
theorem bcmp_ord : Ord Bs bcmp := by
  have e : bcmp = lex ucmp := funext fun s => funext fun t => bcmp_lex s t
  rw [e]; exact lex_ord ucmp_ord

theorem lcmp_lex : ∀ xs ys : List Bs, lcmp xs ys = lex bcmp xs ys
  | [], [] => rfl
  | [], _ :: _ => rfl
  | _ :: _, [] => rfl
  | x :: xs, y :: ys => by
    unfold lcmp lex; rw [lcmp_lex xs ys]
theorem lcmp_ord : Ord (List Bs) lcmp := by
  have e : lcmp = lex bcmp := funext fun s => funext fun t => lcmp_lex s t
  rw [e]; exact lex_ord bcmp_ord

/-- Pieces with dots between. -/
def joinD : List Bs → Bs
  | [] => []
  | [p] => p
  | p :: q :: r => p ++ 46 :: joinD (q :: r)

theorem join_split : ∀ s : Bs, joinD (split s) = s
  | [] => rfl
  | b :: l => by
    have ih := join_split l
    unfold split
    have hne := split_ne l
    by_cases hb : b = 46
    · rw [if_pos hb]
      cases h : split l with
      | nil => exact absurd h hne
      | cons p r => rw [h] at ih; rw [joinD, ih, hb]; rfl
    · rw [if_neg hb]
      cases h : split l with
      | nil => exact absurd h hne
      | cons p r =>
        rw [h] at ih
        cases r with
        | nil => simp only [joinD] at ih ⊢; rw [ih]
        | cons q r => simp only [joinD] at ih ⊢; rw [← ih]; rfl
theorem split_inj {a b : Bs} (h : split a = split b) : a = b := by rw [← join_split a, ← join_split b, h]

theorem ncmp_ord : Ord Bs ncmp := by
  refine ⟨fun a b => lcmp_ord.anti _ _, fun a b => ?_, fun a b d => lcmp_ord.trans _ _ _, fun a b => lcmp_ord.range _ _⟩
  unfold ncmp; rw [lcmp_ord.zero]; exact ⟨split_inj, fun h => by rw [h]⟩

/-- A beginning isn't behind the whole. -/
theorem lcmp_prefix : ∀ (ys xs : List Bs), xs.take ys.length = ys → lcmp ys xs ≤ 0
  | [], [], _ => by simp [lcmp]
  | [], _ :: _, _ => by simp [lcmp]
  | y :: ys, [], h => by simp at h
  | y :: ys, x :: xs, h => by
    simp only [List.length_cons, List.take_succ_cons, List.cons.injEq] at h
    obtain ⟨rfl, h⟩ := h
    rw [lcmp, if_pos (bcmp_ord.refl x)]
    exact lcmp_prefix ys xs h

end Go.Proofs.NmPlain

/- The reference's Dotted and Under; the law NamesUnder's walk. -/
namespace Go.Proofs.YtocoonkachbjaaaGreatDoor
open Go.RowKit Go.Proofs.NmPlain
set_option linter.unusedVariables false

theorem max_of_shape (w : World) (hsh : w.ShapedOpen Tryz.prog) : MaxAt w := by first | exact Tryz.laysM145.s1_3 w hsh | exact Tryz.laysM146.s1_3 w hsh | exact Tryz.laysM219.s1_3 w hsh | exact Tryz.laysM143.s1_3 w hsh | exact Tryz.laysM138.s1_3 w hsh

theorem str_ne {a b : ByteArray} (h : a ≠ b) : (a.toList == b.toList) = false := by
  rw [beq_eq_false_iff_ne, Lib.toList_data, Lib.toList_data]
  intro e; apply h
  cases a; cases b; simpa using e

theorem join_len : ∀ l : List Bs, (∀ p ∈ l, p.length ≤ 32) → (joinD l).length ≤ 33 * l.length
  | [], _ => by simp [joinD]
  | [p], h => by have := h p (by simp); simp [joinD]; omega
  | p :: q :: r, h => by
    have h1 := h p (by simp)
    have ih := join_len (q :: r) (fun x hx => h x (by simp at hx; simp [hx]))
    simp only [joinD, List.length_append, List.length_cons] at ih ⊢
    omega

theorem nameB_le {l : Bs} (h : nameB l = true) : l.length ≤ 32 := by
  unfold nameB at h
  simp only [Bool.and_eq_true, decide_eq_true_eq] at h
  exact h.1.2

theorem dotB_len {l : Bs} (h : 132 < l.length) : dotB l = false := by
  cases hd : dotB l with
  | false => rfl
  | true =>
    unfold dotB at hd
    simp only [Bool.and_eq_true, decide_eq_true_eq, List.all_eq_true] at hd
    have := join_len (split l) (fun p hp => nameB_le (hd.2 p hp))
    rw [join_split] at this
    omega

theorem dotB_of {l : Bs} {ps : List ByteArray} (h : ps.map (·.data.toList) = split l) : dotB l = (decide (ps.length ≤ 4) && ps.all fun p => nameB p.data.toList) := by
  unfold dotB
  rw [← h, List.length_map, List.all_map]; rfl

def UndRel (ps qs : List ByteArray) (w : World) (i : Value) (wr : World) : Prop :=
  ∃ k : Nat, k ≤ qs.length ∧ i = .int .i64 k ∧ ps.take k = qs.take k ∧ Below w.heap.size w wr

end Go.Proofs.YtocoonkachbjaaaGreatDoor

/- lineageref03.New, All: of any list of names, wherever it lies. -/
namespace Go.Proofs.YtocoonkachbjaaaGreatDoor
open Go.RowKit Go.Proofs.NmPlain Go.Proofs.Ar
set_option linter.unusedVariables false
namespace Sc

theorem bytes_eq (p : ByteArray) : (p.toList == p.toList) = true := by simp

theorem TextArg.at_ {w wr : World} {v : Value} {ps : List ByteArray} (h : TextArg w v ps) (hb : Below w.heap.size w wr) : TextArg wr v ps := h.below hb

/-- Place j of the list while New looks for an elder of it. -/
theorem take_next {ls : List ByteArray} {x : ByteArray} {j : Nat} (h : j < ls.length) (hx : x ∉ ls.take j) (hn : ls[j] ≠ x) : x ∉ ls.take (j + 1) := by
  rw [List.take_succ_eq_append_getElem h, List.mem_append]
  rintro (h1 | h1)
  · exact hx h1
  · exact hn (List.mem_singleton.1 h1).symm

theorem mem_take {ls : List ByteArray} {i j : Nat} (hj : j < ls.length) (hij : j < i) {x : ByteArray} (h : ls[j] = x) : x ∈ ls.take i := by
  rw [List.mem_take_iff_getElem]
  exact ⟨j, by omega, h⟩

theorem new_any_ret {a b c d : Int} {p : Int × Int} (h : p = (a, b)) (h1 : a = c) (h2 : b = d) : Ending.returned (.tuple #[.int .i64 c, .int .i64 d]) = .returned (.tuple #[.int .i64 p.1, .int .i64 p.2]) := by
  subst h; subst h1; subst h2; rfl

/-- Behind the first n names: all these. -/
theorem setBy_all_next (n : Nat) : setBy (fun _ => true) (n + 1) = setBy (fun _ => true) n ||| 2 ^ n := by
  show (if (fun _ => true) n = true then _ else _) = _
  rw [if_pos rfl]

theorem setBy_u64 (p : Nat → Bool) {n : Nat} (h : n ≤ 64) : setBy p n < 18446744073709551616 := by
  have h1 := setBy_lt p n
  have h2 : 2 ^ n ≤ 2 ^ 64 := Nat.pow_le_pow_right (by omega) h
  omega
theorem pow_u64 {n : Nat} (h : n < 64) : 2 ^ n < 18446744073709551616 := by
  have h2 : 2 ^ n < 2 ^ 64 := Nat.pow_lt_pow_right (by omega) h
  omega

/-- One bit, shifted to its place. -/
theorem shl_one {k : Nat} (h : k < 64) (yk : IntKind) : Op.shift .shl .u64 1 yk (k : Int) = pure (.int .u64 ((2 ^ k : Nat) : Int)) := by
  rw [shift_shl_any _ _ _ _ (by omega)]
  have e : (1 : Int) * 2 ^ min (k : Int).toNat IntKind.u64.bits = ((2 ^ k : Nat) : Int) := by
    rw [show min (k : Int).toNat IntKind.u64.bits = k by simp [IntKind.bits]; omega]
    simp
  have h2 := pow_u64 h
  rw [e, IntWalk.u64_in _ ⟨Int.natCast_nonneg _, Int.ofNat_le.2 (Nat.le_of_lt_succ h2)⟩]

theorem wrap_pow {k : Nat} (h : k < 64) : IntKind.u64.wrap ((2 : Int) ^ k) = ((2 ^ k : Nat) : Int) := by
  have h2 := pow_u64 h
  rw [show ((2 : Int) ^ k) = ((2 ^ k : Nat) : Int) by simp, IntWalk.u64_in _ ⟨Int.natCast_nonneg _, Int.ofNat_le.2 (Nat.le_of_lt_succ h2)⟩]

theorem or_bit {S k : Nat} (hS : S < 18446744073709551616) (h : k < 64) : bits .or .u64 (S : Int) (IntKind.u64.wrap ((2 : Int) ^ k)) = ((S ||| 2 ^ k : Nat) : Int) := by
  rw [wrap_pow h, u64_or_nat _ _ hS (pow_u64 h)]

set_option maxHeartbeats 2000000 in
theorem refall_any (v : Value) (ls : List ByteArray) (hl : ls.length ≤ 64) (w : World) (h1 : TextArg w v ls) :
    Calls Tryz.prog 72 #[v] w fun e w' => e = .returned (.int .u64 (allS ls : Nat)) ∧ w = w' := by
  obtain ⟨p, cp, rfl, -⟩ := h1
  have hA : allS ls = setBy (fun _ => true) ls.length := (setBy_all _).symm
  rw [hA]
  clear hA
  go_enter Tryz.func72, Tryz.ntmps72
  go_wp2
  go_loop [3, 4] (fun s i => ∃ k : Nat, k ≤ ls.length ∧ i = .int .i64 k ∧ s = .int .u64 (setBy (fun _ => true) k : Nat)) (fun _ i => ls.length - (intOf i).toNat)
  case atStart => exact ⟨0, Nat.zero_le _, rfl, rfl⟩
  case round =>
    obtain ⟨k, hk, rfl, rfl⟩ := hrel
    by_cases h : k < ls.length
    · have b1 : (0 : Int) ≤ (k : Int) := by omega
      have b2 : (k : Int) < (ls.length : Int) := by omega
      have b3 : (k : Int) ≤ 63 := by omega
      have HO : Hid (bits .or .u64 (setBy (fun _ => true) k : Int) (IntKind.u64.wrap ((2 : Int) ^ k)) = (setBy (fun _ => true) (k + 1) : Int)) := by
        show _ = _
        rw [or_bit (setBy_u64 _ (by omega)) (by omega), ← setBy_all_next]
      go_wp2
      exact ⟨⟨k + 1, by omega, by go_num, by rw [HO.out]⟩, by simp [intOf]; omega⟩
    · obtain rfl : k = ls.length := by omega
      go_wp2
      go_ret
      exact ⟨rfl, rfl⟩

end Sc
end Go.Proofs.YtocoonkachbjaaaGreatDoor

/- Words of a book, sets read and printed, plain. No program's code. -/
namespace Go.Proofs.YtocoonkachbjaaaGreatDoor
open Go.Proofs.NmPlain
set_option linter.unusedVariables false
namespace Sc

/-- A set, or the error that there is none. -/
def fin (s : Nat) : Nat × Int := if s = 0 then (0, 10) else (s, 0)
def eqAt (ls : List ByteArray) (l : Bs) (i : Nat) : Bool := match ls[i]? with
  | some x => decide (x.data.toList = l)
  | none => false
def belAt (ls : List ByteArray) (l : Bs) (i : Nat) : Bool := match ls[i]? with
  | some x => !decide (x.data.toList = l) && underB x.data.toList l
  | none => false
theorem eqAt_at {ls : List ByteArray} {l : Bs} {i : Nat} (h : i < ls.length) : eqAt ls l i = decide (ls[i].data.toList = l) := by
  unfold eqAt; rw [List.getElem?_eq_getElem h]
theorem belAt_at {ls : List ByteArray} {l : Bs} {i : Nat} (h : i < ls.length) : belAt ls l i = (!decide (ls[i].data.toList = l) && underB ls[i].data.toList l) := by
  unfold belAt; rw [List.getElem?_eq_getElem h]

/-- What a word is: a set, an error's number. -/
def wordL (ls : List ByteArray) (l : Bs) : Nat × Int :=
  if l = [42] then (allS ls, 0)
  else if dotB l = true then fin (setBy (eqAt ls l) ls.length)
  else if 2 ≤ l.length ∧ l.drop (l.length - 2) = [46, 42] ∧ dotB (l.take (l.length - 2)) = true then fin (setBy (belAt ls (l.take (l.length - 2))) ls.length)
  else (0, 4)

theorem fin_cases (s : Nat) : (fin s = (0, 10) ∧ s = 0) ∨ (fin s = (s, 0) ∧ s ≠ 0) := by
  unfold fin; by_cases h : s = 0
  · left; simp [h]
  · right; simp [h]

theorem wordL_cases (ls : List ByteArray) (l : Bs) : ((wordL ls l).1 = 0 ∧ ((wordL ls l).2 = 4 ∨ (wordL ls l).2 = 10)) ∨ ((wordL ls l).2 = 0 ∧ (wordL ls l).1 < 2 ^ ls.length) := by
  unfold wordL
  split
  · right; refine ⟨rfl, ?_⟩; have : 0 < 2 ^ ls.length := Nat.pow_pos (by omega); show allS ls < _; unfold allS; omega
  · split
    · rcases fin_cases (setBy (eqAt ls l) ls.length) with ⟨h, _⟩ | ⟨h, _⟩ <;> rw [h]
      · left; simp
      · right; exact ⟨rfl, setBy_lt _ _⟩
    · split
      · rcases fin_cases (setBy (belAt ls (l.take (l.length - 2))) ls.length) with ⟨h, _⟩ | ⟨h, _⟩ <;> rw [h]
        · left; simp
        · right; exact ⟨rfl, setBy_lt _ _⟩
      · left; simp

/-- The words of a text that begins at place k: each with its place. -/
def wordsAt (k : Nat) : Bs → List (Nat × Bs)
  | [] => []
  | c :: r => if c = 32 then wordsAt (k + 1) r else (k, c :: r.takeWhile (· ≠ 32)) :: wordsAt (k + 1 + (r.takeWhile (· ≠ 32)).length) (r.drop (r.takeWhile (· ≠ 32)).length)
termination_by l => l.length
decreasing_by
  · simp
  · simp; omega

/-- A set read word by word: the set, the error, its place. -/
def parseW (ls : List ByteArray) : List (Nat × Bs) → Nat → Nat × Int × Int
  | [], s => (s, 0, -1)
  | (k, l) :: r, s => if (wordL ls l).2 = 0 then parseW ls r (s ||| (wordL ls l).1) else (0, (wordL ls l).2, k)
def parseL (ls : List ByteArray) (l : Bs) : Nat × Int × Int := if 4096 < l.length then (0, 3, -1) else parseW ls (wordsAt 0 l) 0

/-- The names of a set, among the first k. -/
def selTo (ls : List ByteArray) (s : Nat) : Nat → List ByteArray
  | 0 => []
  | k + 1 => selTo ls s k ++ (if s.testBit k then (match ls[k]? with | some x => [x] | none => []) else [])
theorem sel_yes {ls : List ByteArray} {s k : Nat} (h : k < ls.length) (hb : s.testBit k = true) : selTo ls s (k + 1) = selTo ls s k ++ [ls[k]] := by
  show selTo ls s k ++ _ = _; rw [if_pos hb, List.getElem?_eq_getElem h]
theorem sel_no {ls : List ByteArray} {s k : Nat} (hb : s.testBit k = false) : selTo ls s (k + 1) = selTo ls s k := by
  show selTo ls s k ++ _ = _; rw [if_neg (by rw [hb]; simp), List.append_nil]
def printL (ls : List ByteArray) (s : Nat) : Bs × Int := if 2 ^ ls.length ≤ s then ([], 11) else (Lib.join ((selTo ls s ls.length).map (·.data.toList)) [32], 0)

theorem sel_len (ls : List ByteArray) (s : Nat) : ∀ k, (selTo ls s k).length ≤ k
  | 0 => Nat.le_refl _
  | k + 1 => by
    have ih := sel_len ls s k
    unfold selTo
    rw [List.length_append]
    split
    · split <;> simp <;> omega
    · simp; omega
theorem sel_mem (ls : List ByteArray) (s : Nat) : ∀ k, ∀ x ∈ selTo ls s k, ∃ i, ∃ h : i < ls.length, i < k ∧ x = ls[i] ∧ s.testBit i = true
  | 0, x, hx => by simp [selTo] at hx
  | k + 1, x, hx => by
    unfold selTo at hx
    rw [List.mem_append] at hx
    rcases hx with hx | hx
    · obtain ⟨i, h, h1, h2⟩ := sel_mem ls s k x hx
      exact ⟨i, h, by omega, h2⟩
    · split at hx
      · rename_i hb
        split at hx
        · rename_i y hy
          obtain ⟨h, e⟩ := List.getElem?_eq_some_iff.1 hy
          exact ⟨k, h, by omega, by rw [List.mem_singleton.1 hx, e], hb⟩
        · simp at hx
      · simp at hx

/-- What isn't in the book: nothing, just if the set is below its bound. -/
theorem andNot_zero {s n : Nat} (hs : s < 18446744073709551616) (hn : n ≤ 64) : (s &&& (18446744073709551615 - (2 ^ n - 1)) = 0) ↔ s < 2 ^ n := by
  have hp : 2 ^ n ≤ 2 ^ 64 := Nat.pow_le_pow_right (by omega) hn
  have hp0 : 0 < 2 ^ n := Nat.pow_pos (by omega)
  have hb : ∀ i, (18446744073709551615 - (2 ^ n - 1)).testBit i = (decide (i < 64) && !decide (i < n)) := fun i => by
    have e : 18446744073709551615 - (2 ^ n - 1) = 2 ^ 64 - ((2 ^ n - 1) + 1) := by omega
    rw [e, Nat.testBit_two_pow_sub_succ (by omega), Nat.testBit_two_pow_sub_one]
  constructor
  · intro h
    refine Nat.lt_pow_two_of_testBit _ fun i hi => ?_
    have h2 := congrArg (fun x => x.testBit i) h
    simp only [Nat.testBit_and, hb, Nat.zero_testBit] at h2
    by_cases h64 : i < 64
    · simpa [h64, show ¬ i < n by omega] using h2
    · exact Nat.testBit_lt_two_pow (Nat.lt_of_lt_of_le (by simpa using hs) (Nat.pow_le_pow_right (by omega) (show 64 ≤ i by omega)))
  · intro h
    refine Nat.eq_of_testBit_eq fun i => ?_
    rw [Nat.testBit_and, hb, Nat.zero_testBit]
    by_cases hi : i < n
    · simp [hi]
    · rw [Nat.testBit_lt_two_pow (Nat.lt_of_lt_of_le h (Nat.pow_le_pow_right (by omega) (show n ≤ i by omega)))]
      simp

end Sc
end Go.Proofs.YtocoonkachbjaaaGreatDoor

/- lineageref03.word: of any book's names and any word. -/
namespace Go.Proofs.YtocoonkachbjaaaGreatDoor
open Go.RowKit Go.Proofs.NmPlain Go.Proofs.Ar
set_option linter.unusedVariables false
namespace Sc

theorem set_yes {p : Nat → Bool} {k : Nat} (h : p k = true) : setBy p (k + 1) = setBy p k ||| 2 ^ k := by
  show (if p k = true then _ else _) = _
  rw [if_pos h]
theorem set_no {p : Nat → Bool} {k : Nat} (h : p k = false) : setBy p (k + 1) = setBy p k := by
  show (if p k = true then _ else _) = _
  rw [if_neg (by rw [h]; simp)]
theorem or_set {p : Nat → Bool} {k : Nat} (hk : k < 64) (h : p k = true) : bits .or .u64 (setBy p k : Int) (IntKind.u64.wrap ((2 : Int) ^ k)) = (setBy p (k + 1) : Int) := by
  rw [or_bit (setBy_u64 _ (by omega)) hk, ← set_yes h]
theorem bytes_ne {x t : ByteArray} {l : Bs} (ht : t.data.toList = l) (h : ¬ x.data.toList = l) : (x.toList == t.toList) = false := by
  rw [beq_eq_false_iff_ne, Lib.toList_data, Lib.toList_data, ht]; exact h
theorem bytes_yes {x t : ByteArray} {l : Bs} (ht : t.data.toList = l) (h : x.data.toList = l) : (x.toList == t.toList) = true := by
  rw [beq_iff_eq, Lib.toList_data, Lib.toList_data, ht]; exact h

theorem stem_list {t : ByteArray} {m : Nat} (h : t.size = m + 2) : (t.extract 0 m).data.toList = t.data.toList.take (t.data.toList.length - 2) := by
  have h2 : t.data.toList.length = m + 2 := by rw [← size_toList]; exact h
  rw [h2, Lib.extract_data, List.drop_zero, Nat.sub_zero]; rfl
theorem tail_list {t : ByteArray} {m : Nat} (h : t.size = m + 2) : (t.extract m (m + 2)).data.toList = t.data.toList.drop (t.data.toList.length - 2) := by
  have h2 : t.data.toList.length = m + 2 := by rw [← size_toList]; exact h
  rw [h2, Lib.extract_data]
  exact List.take_of_length_le (by rw [List.length_drop]; omega)

end Sc
end Go.Proofs.YtocoonkachbjaaaGreatDoor

/- A text's words, each with its place, plain. No program's code. -/
namespace Go.Proofs.YtocoonkachbjaaaGreatDoor
open Go.Proofs.NmPlain
set_option linter.unusedVariables false
namespace Sc

/-- No blank. -/
def nb (c : UInt8) : Bool := decide (c ≠ 32)
theorem tw_facts (p : UInt8 → Bool) : ∀ L : Bs, (∀ i (h : i < L.length), i < (L.takeWhile p).length → p L[i] = true) ∧ (∀ h : (L.takeWhile p).length < L.length, p L[(L.takeWhile p).length] = false) ∧ (L.takeWhile p).length ≤ L.length
  | [] => by simp
  | c :: r => by
    obtain ⟨h1, h2, h3⟩ := tw_facts p r
    by_cases hc : p c = true
    · rw [List.takeWhile_cons, if_pos hc]
      refine ⟨fun i h hi => ?_, fun h => ?_, by simp; omega⟩
      · cases i with
        | zero => exact hc
        | succ i => simp only [List.getElem_cons_succ]; exact h1 i (by simpa using h) (by simpa using hi)
      · simp only [List.length_cons, List.getElem_cons_succ]; exact h2 (by simpa using h)
    · rw [List.takeWhile_cons, if_neg hc]
      refine ⟨fun i h hi => by simp at hi, fun h => ?_, by simp⟩
      simpa using hc

theorem drop_at (s : ByteArray) (k : Nat) (h : k < s.size) : s.data.toList.drop k = s[k] :: s.data.toList.drop (k + 1) := by
  exact List.drop_eq_getElem_cons (by simpa using h)
theorem drop_end (s : ByteArray) (k : Nat) (h : s.size ≤ k) : s.data.toList.drop k = [] := List.drop_eq_nil_of_le (by simpa using h)
theorem drop_len (s : ByteArray) (k : Nat) : (s.data.toList.drop k).length = s.size - k := by rw [List.length_drop]; simp
theorem take_tw (p : UInt8 → Bool) (L : Bs) : L.take (L.takeWhile p).length = L.takeWhile p := (List.prefix_iff_eq_take.1 (List.takeWhile_prefix p)).symm

/-- Where a word ends. -/
theorem word_end (s : ByteArray) (k : Nat) (hk : k ≤ s.size) : ∃ n, n = ((s.data.toList.drop k).takeWhile nb).length ∧ k + n ≤ s.size ∧ (∀ e (h : e < s.size), k ≤ e → e < k + n → s[e] ≠ 32) ∧ (∀ h : k + n < s.size, s[k + n] = 32) := by
  obtain ⟨h1, h2, h3⟩ := tw_facts nb (s.data.toList.drop k)
  refine ⟨_, rfl, by rw [drop_len] at h3; omega, fun e h hke he => ?_, fun h => ?_⟩
  · have hl : e - k < (s.data.toList.drop k).length := by rw [drop_len]; omega
    have := h1 (e - k) hl (by omega)
    rw [List.getElem_drop] at this
    have e2 : k + (e - k) = e := by omega
    simp only [e2] at this
    have h5 : (s.data.toList[e]'(by simpa using h)) ≠ 32 := by simpa only [nb, decide_eq_true_eq] using this
    exact h5
  · have hl : ((s.data.toList.drop k).takeWhile nb).length < (s.data.toList.drop k).length := by rw [drop_len]; omega
    have := h2 hl
    rw [List.getElem_drop] at this
    have h5 : (s.data.toList[k + ((s.data.toList.drop k).takeWhile nb).length]'(by simpa using h)) = 32 := by simpa [nb] using this
    exact h5

theorem wordsAt_nil (k : Nat) : wordsAt k [] = [] := by rw [wordsAt]
theorem wordsAt_blank (k : Nat) (r : Bs) : wordsAt k (32 :: r) = wordsAt (k + 1) r := by rw [wordsAt, if_pos rfl]
theorem wordsAt_word {k : Nat} {c : UInt8} {r : Bs} (h : c ≠ 32) : wordsAt k (c :: r) = (k, (c :: r).takeWhile nb) :: wordsAt (k + ((c :: r).takeWhile nb).length) ((c :: r).drop ((c :: r).takeWhile nb).length) := by
  have hc : nb c = true := by simp [nb, h]
  rw [wordsAt, if_neg h, List.takeWhile_cons, if_pos hc]
  have e : r.takeWhile (fun x => decide (x ≠ 32)) = r.takeWhile nb := rfl
  simp only [List.length_cons, List.drop_succ_cons]
  rw [e]
  congr 2
  omega

theorem parseW_ok {ls : List ByteArray} {k : Nat} {l : Bs} {r : List (Nat × Bs)} {s : Nat} (h : (wordL ls l).2 = 0) : parseW ls ((k, l) :: r) s = parseW ls r (s ||| (wordL ls l).1) := by
  rw [parseW, if_pos h]
theorem parseW_no {ls : List ByteArray} {k : Nat} {l : Bs} {r : List (Nat × Bs)} {s : Nat} (h : (wordL ls l).2 ≠ 0) : parseW ls ((k, l) :: r) s = (0, (wordL ls l).2, (k : Int)) := by
  rw [parseW, if_neg h]

/-- The text from place k on, when a word stands there. -/
theorem word_step {s : ByteArray} {k n : Nat} (hk : k < s.size) (hc : s[k] ≠ 32) (hn : n = ((s.data.toList.drop k).takeWhile nb).length) :
    0 < n ∧ (s.extract k (k + n)).data.toList = (s.data.toList.drop k).takeWhile nb ∧ wordsAt k (s.data.toList.drop k) = (k, (s.extract k (k + n)).data.toList) :: wordsAt (k + n) (s.data.toList.drop (k + n)) := by
  have hd := drop_at s k hk
  have e : (s.extract k (k + n)).data.toList = (s.data.toList.drop k).takeWhile nb := by
    rw [Lib.extract_data, Nat.add_sub_cancel_left, hn, take_tw]
  refine ⟨?_, e, ?_⟩
  · rw [hn, hd, List.takeWhile_cons, if_pos (by simp [nb, hc])]; simp
  · have h2 := wordsAt_word (k := k) (r := s.data.toList.drop (k + 1)) hc
    rw [← hd, ← hn, List.drop_drop] at h2
    rw [e]; exact h2

theorem or_u64 {a b : Nat} (ha : a < 18446744073709551616) (hb : b < 18446744073709551616) : a ||| b < 18446744073709551616 :=
  Nat.or_lt_two_pow (n := 64) (by simpa using ha) (by simpa using hb)

end Sc
end Go.Proofs.YtocoonkachbjaaaGreatDoor

/- lineageref03.Parse: of any book's names and any text. -/
namespace Go.Proofs.YtocoonkachbjaaaGreatDoor
open Go.RowKit Go.Proofs.NmPlain Go.Proofs.Ar
set_option linter.unusedVariables false
namespace Sc

theorem at_no {c : UInt8} {n : UInt8} (h : c ≠ n) : ((c.toNat : Int) == (n.toNat : Int)) = false := by
  rw [beq_eq_false_iff_ne]; intro e; exact h (UInt8.toNat_inj.1 (by omega))
theorem at_no' {c : UInt8} {n : UInt8} (h : c ≠ n) : ((c.toNat : Int) != (n.toNat : Int)) = true := by
  rw [bne_iff_ne]; intro e; exact h (UInt8.toNat_inj.1 (by omega))
theorem ret3 {a : Nat} {b c : Int} {p : Nat × Int × Int} (h : p = (a, b, c)) : Ending.returned (.tuple #[.int .u64 (a : Int), .int .i64 b, .int .i64 c]) = .returned (.tuple #[.int .u64 (p.1 : Int), .int .i64 p.2.1, .int .i64 p.2.2]) := by
  subst h; rfl

/-- While a text is read. -/
def PRel (ls : List ByteArray) (t : ByteArray) (w : World) (s i : Value) (wr : World) : Prop :=
  ∃ k S : Nat, k ≤ t.size ∧ i = .int .i64 k ∧ s = .int .u64 (S : Int) ∧ S < 18446744073709551616 ∧ parseW ls (wordsAt k (t.data.toList.drop k)) S = parseL ls t.data.toList ∧ Below w.heap.size w wr

theorem word_u64 {ls : List ByteArray} (hl : ls.length ≤ 64) (l : Bs) : (wordL ls l).1 < 18446744073709551616 := by
  rcases wordL_cases ls l with ⟨h, _⟩ | ⟨_, h⟩
  · rw [h]; omega
  · have : 2 ^ ls.length ≤ 2 ^ 64 := Nat.pow_le_pow_right (by omega) hl
    omega

end Sc
end Go.Proofs.YtocoonkachbjaaaGreatDoor

/- lineageref03.Print: of any book and set. -/
namespace Go.Proofs.YtocoonkachbjaaaGreatDoor
open Go.RowKit Go.Proofs.NmPlain Go.Proofs.Ar
set_option linter.unusedVariables false
namespace Sc

theorem dotB_nil : dotB [] = false := by decide
theorem dotB_ne {l : Bs} (h : dotB l = true) : l ≠ [] := by
  rintro rfl; rw [dotB_nil] at h; cases h
theorem dotB_le {l : Bs} (h : dotB l = true) : l.length ≤ 132 := by
  rcases Nat.lt_or_ge 132 l.length with h2 | h2
  · rw [dotB_len h2] at h; cases h
  · exact h2

theorem join_snoc (xs : List Bs) (x sep : Bs) (h : xs ≠ []) : Lib.join (xs ++ [x]) sep = Lib.join xs sep ++ sep ++ x := by
  cases xs with
  | nil => exact absurd rfl h
  | cons a r => rw [List.cons_append, Lib.join_cons, Lib.join_cons]; simp [Lib.joinTail]
theorem join_ne (xs : List Bs) (sep : Bs) (h : xs ≠ []) (hx : ∀ x ∈ xs, x ≠ []) : Lib.join xs sep ≠ [] := by
  cases xs with
  | nil => exact absurd rfl h
  | cons a r =>
    rw [Lib.join_cons]
    have := hx a (by simp)
    intro e
    exact this (List.append_eq_nil_iff.1 e).1

/-- The text of a set's names among the first k. -/
def jn (ls : List ByteArray) (s k : Nat) : Bs := Lib.join ((selTo ls s k).map (·.data.toList)) [32]
theorem jn_ne {ls : List ByteArray} (hb : IsBook ls) (s k : Nat) (h : selTo ls s k ≠ []) : jn ls s k ≠ [] := by
  refine join_ne _ _ (by simpa using h) ?_
  intro x hx
  obtain ⟨y, hy, rfl⟩ := List.mem_map.1 hx
  obtain ⟨i, hi, _, rfl, _⟩ := sel_mem ls s k y hy
  exact dotB_ne (hb.dots i hi)
theorem jn_no {ls : List ByteArray} {s k : Nat} (h : s.testBit k = false) : jn ls s (k + 1) = jn ls s k := by
  unfold jn; rw [sel_no h]
theorem jn_first {ls : List ByteArray} (hb : IsBook ls) {s k : Nat} (hk : k < ls.length) (h : s.testBit k = true) (he : jn ls s k = []) : jn ls s (k + 1) = ls[k].data.toList := by
  have e : selTo ls s k = [] := by
    cases hs : selTo ls s k with
    | nil => rfl
    | cons a r => exact absurd he (jn_ne hb s k (by rw [hs]; simp))
  unfold jn; rw [sel_yes hk h, e]
  simp [Lib.join_one]
theorem jn_more {ls : List ByteArray} {s k : Nat} (hk : k < ls.length) (h : s.testBit k = true) (he : jn ls s k ≠ []) : jn ls s (k + 1) = jn ls s k ++ [32] ++ ls[k].data.toList := by
  have e : (selTo ls s k).map (·.data.toList) ≠ [] := by
    intro e; apply he; unfold jn; rw [e]; rfl
  unfold jn; rw [sel_yes hk h, List.map_append, List.map_cons, List.map_nil, join_snoc _ _ _ e]

theorem bit_at {s : Nat} (hs : s < 18446744073709551616) (k : Nat) : (bits .and .u64 ((s : Int) / 2 ^ k) 1 == 1) = s.testBit k := by
  have e : ((s : Int) / 2 ^ k) = ((s / 2 ^ k : Nat) : Int) := by simp
  have hle : s / 2 ^ k ≤ s := Nat.div_le_self _ _
  rw [e, and_one_u64 _ (Int.natCast_nonneg _) (Int.ofNat_le.2 (Nat.le_trans hle (Nat.le_of_lt_succ hs))), Nat.testBit_eq_decide_div_mod_eq]
  by_cases h : s / 2 ^ k % 2 = 1
  · rw [decide_eq_true h, beq_iff_eq]; omega
  · rw [decide_eq_false h, beq_eq_false_iff_ne]; omega

/-- While a set is printed. -/
def QRel (ls : List ByteArray) (s : Nat) (w : World) (t i : Value) (wr : World) : Prop :=
  ∃ (k : Nat) (T : ByteArray), k ≤ ls.length ∧ i = .int .i64 k ∧ t = .string T ∧ T.data.toList = jn ls s k ∧ T.size ≤ 133 * k ∧ wr = w

theorem ret2 {a : ByteArray} {l : Bs} {b : Int} {p : Bs × Int} (h : p = (l, b)) (ha : a.data.toList = l) : Ending.returned (.tuple #[.string a, .int .i64 b]) = .returned (.tuple #[.string ⟨p.1.toArray⟩, .int .i64 p.2]) := by
  subst h; subst ha; rfl

set_option maxHeartbeats 4000000 in
theorem refprint_any (v : Value) (ls : List ByteArray) (hb : IsBook ls) (s : Nat) (hs : s < 18446744073709551616) (w : World) (h1 : TextArg w v ls) :
    Calls Tryz.prog 33 #[v, .int .u64 (s : Int)] w fun e w' => e = .returned (.tuple #[.string ⟨(printL ls s).1.toArray⟩, .int .i64 (printL ls s).2]) ∧ w = w' := by
  have hA := refall_any v ls hb.len w h1
  have hal := allS_lt hb.len
  have han := u64_andNot_nat s (allS ls) hs (by omega)
  have hz := andNot_zero hs hb.len
  have hal2 : allS ls = 2 ^ ls.length - 1 := rfl
  rw [← hal2] at hz
  obtain ⟨A, hA2⟩ : ∃ A, A = allS ls := ⟨_, rfl⟩
  obtain ⟨X, hX⟩ : ∃ X, X = s &&& (18446744073709551615 - allS ls) := ⟨_, rfl⟩
  rw [← hX] at hz han
  rw [← hA2] at hA han
  have HA := Lib.hid hA; have HAN := Lib.hid han
  have hlen : (ls.length : Int) ≤ 64 := by have := hb.len; omega
  clear hA han hal hal2 hA2 hX
  by_cases h : s < 2 ^ ls.length
  · have q1 : (bits .andNot .u64 (s : Int) (A : Int) != 0) = false := by rw [HAN.out, bne_eq_false_iff_eq]; have := hz.2 h; omega
    have HP : Hid (printL ls s = (jn ls s ls.length, 0)) := by show _ = _; unfold printL; rw [if_neg (by omega)]; rfl
    have HB := Lib.hid hb
    have H1 := Lib.hid h1
    have HS := Lib.hid hs
    clear hz h hb h1 hs
    obtain ⟨p, cp, rfl, h1⟩ := H1.out
    have H2 := Lib.hid h1
    clear h1 H1
    go_enter Tryz.func33, Tryz.ntmps33
    go_wp2_with fail
    refine HA.out.mono ?_
    rintro e w1 ⟨rfl, rfl⟩
    go_wp2
    go_loopw [6, 7] (fun t i wr => QRel ls s w t i wr) (fun _ i _ => ls.length - (intOf i).toNat)
    case atStart => exact ⟨0, ByteArray.empty, Nat.zero_le _, rfl, rfl, rfl, by simp, rfl⟩
    case round =>
      obtain ⟨k, T, hk, rfl, rfl, hT, hTs, rfl⟩ := hrel
      have b2 : (0 : Int) ≤ (k : Int) := by omega
      by_cases h : k < ls.length
      · have b3 : (k : Int) < (ls.length : Int) := by omega
        have b4 : (k : Int) ≤ 63 := by omega
        obtain ⟨g1, o1, rfl, hg1, k1⟩ := H2.out k h
        have hxs : ls[k].size ≤ 132 := by
          have := dotB_le (HB.out.dots k h); rw [← size_toList] at this; exact this
        have hTz : T.size ≤ 9000 := by omega
        have hq := bit_at HS.out k
        cases hbit : s.testBit k with
        | true =>
          rw [hbit] at hq
          by_cases he : jn ls s k = []
          · have HN := Lib.hid (jn_first HB.out h hbit he)
            have q3 : (!T.toList.isEmpty) = false := by rw [Lib.toList_data, hT, he]; rfl
            have HT : Hid (T.data.toList = []) := by show _ = _; rw [hT, he]
            clear hT hbit he
            go_wp2
            refine ⟨⟨k + 1, _, by omega, by go_num, rfl, ?_, ?_, rfl⟩, by simp [intOf]; omega⟩
            · rw [HN.out]; simp [HT.out]
            · simp only [ByteArray.size_append]; omega
          · have HN := Lib.hid (jn_more h hbit he)
            have q3 : (!T.toList.isEmpty) = true := by
              rw [Lib.toList_data, hT]
              cases hj : jn ls s k with
              | nil => exact absurd hj he
              | cons a r => rfl
            have HT := Lib.hid hT
            clear hT hbit he
            go_wp2
            refine ⟨⟨k + 1, _, by omega, by go_num, rfl, ?_, ?_, rfl⟩, by simp [intOf]; omega⟩
            · rw [HN.out, ← HT.out]; simp
            · simp only [ByteArray.size_append]
              have e1 : (⟨#[32]⟩ : ByteArray).size = 1 := rfl
              rw [e1]; omega
        | false =>
          rw [hbit] at hq
          have HN := Lib.hid (jn_no (ls := ls) hbit)
          have HT := Lib.hid hT
          clear hT hbit
          go_wp2
          exact ⟨⟨k + 1, _, by omega, by go_num, rfl, by rw [HN.out]; exact HT.out, by omega, rfl⟩, by simp [intOf]; omega⟩
      · obtain rfl : k = ls.length := by omega
        go_wp2
        go_ret2
        exact ⟨ret2 HP.out hT, rfl⟩
  · have q1 : (bits .andNot .u64 (s : Int) (A : Int) != 0) = true := by rw [HAN.out, bne_iff_ne]; have := fun e => h (hz.1 e); omega
    have HP : Hid (printL ls s = ([], 11)) := by show _ = _; unfold printL; rw [if_pos (by omega)]
    clear hz h hb hs
    obtain ⟨p, cp, rfl, h1⟩ := h1
    clear h1
    go_enter Tryz.func33, Tryz.ntmps33
    go_wp2_with fail
    refine HA.out.mono ?_
    rintro e w1 ⟨rfl, rfl⟩
    go_wp2
    go_ret2
    exact ⟨ret2 HP.out rfl, rfl⟩

end Sc
end Go.Proofs.YtocoonkachbjaaaGreatDoor

/- A session's line: what the document says of it. No program's code is walked here. -/
namespace Go.Proofs.YtocoonkachbjaaaGreatDoor
open Go.RowKit Go.Proofs.NmPlain Go.Proofs.YtocoonkachbjaaaGreatDoor.Sc
set_option linter.unusedVariables false

theorem vdpart_len (n c : Int) (h0 : 0 ≤ n) (h1 : n ≤ 1099511627777) : (dpart n c).length ≤ 22 := by
  unfold dpart
  split
  · have := Lib.itoa_length_le n (by omega) (by omega)
    simp; omega
  · simp
theorem vaccAt_len (t : Int) (h0 : 0 ≤ t) (h1 : t ≤ 1099511627776) : ∀ k, (accAt t k).length ≤ 22 * k
  | 0 => by simp [accAt]
  | k + 1 => by
    have ih := vaccAt_len t h0 h1 k
    obtain ⟨r1, r2⟩ := remAt_bd t h0 h1 k
    obtain ⟨c1, c2⟩ := worth_pos k
    have d1 : 0 ≤ remAt t k / worthOf k := Int.ediv_nonneg r1 (by omega)
    have d2 : remAt t k / worthOf k ≤ remAt t k := Int.ediv_le_self _ r1
    have := vdpart_len (remAt t k / worthOf k) (letterOf k) d1 (by omega)
    simp only [accAt, List.length_append]; omega
theorem vprt_len (t : Int) (h0 : 0 ≤ t) (h1 : t ≤ 1099511627776) : (prt t).length ≤ 88 := by
  unfold prt
  split
  · simp
  · exact vaccAt_len t h0 h1 4
theorem vjn_len {ls : List ByteArray} (hb : IsBook ls) (s : Nat) : ∀ k, k ≤ ls.length → (jn ls s k).length ≤ 133 * k
  | 0, _ => by simp [jn, selTo, Lib.join]
  | k + 1, hk => by
    have ih := vjn_len hb s k (by omega)
    have hd : ls[k].data.toList.length ≤ 132 := by
      rcases Nat.lt_or_ge 132 ls[k].data.toList.length with h | h
      · have := dotB_len h
        rw [hb.dots k (by omega)] at this; cases this
      · exact h
    cases h : s.testBit k with
    | false => rw [jn_no h]; omega
    | true =>
      by_cases he : jn ls s k = []
      · rw [jn_first hb (by omega) h he]; omega
      · rw [jn_more (by omega) h he]; simp only [List.length_append, List.length_cons, List.length_nil]; omega

namespace Vw
def whoL (s : Sess) : Bs := s.user.data.toList ++ if s.label.data.toList = [] then [] else 47 :: s.label.data.toList
def textL (ls : List ByteArray) (s : Sess) (now : Int) : Bs :=
  Lib.join [Lib.itoa s.birth, whoL s, kindL s.kind, levL s.level, 91 :: (printL ls s.scopes).1 ++ [93], prt (lft now s.dl)] [32]
/-- The line, or the number of what is wrong first. -/
def lineL (ls : List ByteArray) (s : Sess) (now : Int) : Bs × Int :=
  if s.birth < 1 ∨ 1048576 < s.birth then ([], 1)
  else if nameB s.user.data.toList = false ∨ (s.label.data.toList ≠ [] ∧ nameB s.label.data.toList = false) then ([], 8)
  else if s.kind < 0 ∨ 2 < s.kind then ([], 1)
  else if s.level < 0 ∨ 2 < s.level then ([], 13)
  else if 2 ^ ls.length ≤ s.scopes then ([], 11)
  else if now < 0 ∨ 1099511627776 < now ∨ s.dl < 0 ∨ 1099511627776 < s.dl then ([], 12)
  else (textL ls s now, 0)
theorem kind_no {k : Int} (h : k < 0 ∨ 2 < k) : kindL k = [] := by unfold kindL; rw [if_neg (by omega), if_neg (by omega), if_neg (by omega)]
theorem kind_yes {k : Int} (h0 : 0 ≤ k) (h1 : k ≤ 2) : kindL k ≠ [] := by
  have h : k = 0 ∨ k = 1 ∨ k = 2 := by omega
  rcases h with rfl | rfl | rfl <;> simp [kindL]
theorem scopes_err {ls : List ByteArray} {s : Nat} (h : 2 ^ ls.length ≤ s) : printL ls s = ([], 11) := by unfold printL; rw [if_pos h]
theorem scopes_ok {ls : List ByteArray} {s : Nat} (h : ¬ 2 ^ ls.length ≤ s) : printL ls s = (jn ls s ls.length, 0) := by unfold printL; rw [if_neg h]; rfl
theorem lft_bd {now d : Int} (h0 : 0 ≤ now) (h1 : d ≤ 1099511627776) : 0 ≤ lft now d ∧ lft now d ≤ 1099511627776 := by unfold lft; split <;> (try split) <;> omega
theorem tm_of {t : Int} (h0 : 0 ≤ t) (h1 : t ≤ 1099511627776) : tm t = true := by unfold tm; simp; omega

section
variable {ls : List ByteArray} {s : Sess} {now : Int}
theorem line_a (h : s.birth < 1 ∨ 1048576 < s.birth) : lineL ls s now = ([], 1) := if_pos h
variable (ha : ¬ (s.birth < 1 ∨ 1048576 < s.birth))
include ha
theorem line_b (h : nameB s.user.data.toList = false ∨ (s.label.data.toList ≠ [] ∧ nameB s.label.data.toList = false)) : lineL ls s now = ([], 8) := by unfold lineL; rw [if_neg ha, if_pos h]
variable (hb : ¬ (nameB s.user.data.toList = false ∨ (s.label.data.toList ≠ [] ∧ nameB s.label.data.toList = false)))
include hb
theorem line_c (h : s.kind < 0 ∨ 2 < s.kind) : lineL ls s now = ([], 1) := by unfold lineL; rw [if_neg ha, if_neg hb, if_pos h]
variable (hc : ¬ (s.kind < 0 ∨ 2 < s.kind))
include hc
theorem line_d (h : s.level < 0 ∨ 2 < s.level) : lineL ls s now = ([], 13) := by unfold lineL; rw [if_neg ha, if_neg hb, if_neg hc, if_pos h]
variable (hd : ¬ (s.level < 0 ∨ 2 < s.level))
include hd
theorem line_e (h : 2 ^ ls.length ≤ s.scopes) : lineL ls s now = ([], 11) := by unfold lineL; rw [if_neg ha, if_neg hb, if_neg hc, if_neg hd, if_pos h]
variable (he : ¬ 2 ^ ls.length ≤ s.scopes)
include he
theorem line_f (h : now < 0 ∨ 1099511627776 < now ∨ s.dl < 0 ∨ 1099511627776 < s.dl) : lineL ls s now = ([], 12) := by unfold lineL; rw [if_neg ha, if_neg hb, if_neg hc, if_neg hd, if_neg he, if_pos h]
theorem line_g (hf : ¬ (now < 0 ∨ 1099511627776 < now ∨ s.dl < 0 ∨ 1099511627776 < s.dl)) : lineL ls s now = (textL ls s now, 0) := by unfold lineL; rw [if_neg ha, if_neg hb, if_neg hc, if_neg hd, if_neg he, if_neg hf]
end

def LinePost (ls : List ByteArray) (s : Sess) (now : Int) (e : Ending) : Prop := e = .returned (.tuple #[.string ⟨(lineL ls s now).1.toArray⟩, errVal (lineL ls s now).2])
theorem LinePost.mk {ls : List ByteArray} {s : Sess} {now : Int} {a : ByteArray} {l : Bs} {no : Int} {v : Value} (h : lineL ls s now = (l, no)) (ha : a.data.toList = l) (hv : v = errVal no) : LinePost ls s now (.returned (.tuple #[.string a, v])) := by
  unfold LinePost; rw [h, hv]; subst ha; rfl
def RLinePost (ls : List ByteArray) (s : Sess) (now : Int) (e : Ending) : Prop := e = .returned (.tuple #[.string ⟨(lineL ls s now).1.toArray⟩, .int .i64 (lineL ls s now).2])
theorem RLinePost.mk {ls : List ByteArray} {s : Sess} {now : Int} {a : ByteArray} {l : Bs} {no : Int} {v : Int} (h : lineL ls s now = (l, no)) (ha : a.data.toList = l) (hv : v = no) : RLinePost ls s now (.returned (.tuple #[.string a, .int .i64 v])) := by
  unfold RLinePost; rw [h, hv]; subst ha; rfl

end Vw
end Go.Proofs.YtocoonkachbjaaaGreatDoor
