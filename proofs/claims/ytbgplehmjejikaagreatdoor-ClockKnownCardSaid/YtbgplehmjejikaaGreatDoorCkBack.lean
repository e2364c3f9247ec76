/- Durations: what is printed is read, what is read is printed. No program's code. -/
import Derived.Test.YtbgplehmjejikaaGreatDoorCkNum
import Derived.Lib.ItoaNum
namespace Go.Proofs.YtbgplehmjejikaaGreatDoor
open Go.RowKit
set_option linter.unusedVariables false
set_option linter.unusedSimpArgs false
namespace Ck

theorem dig_of (d : Nat) (h : d < 10) : dig (UInt8.ofNat (48 + d)) = true ∧ (UInt8.ofNat (48 + d)).toNat = 48 + d := by
  have e : (UInt8.ofNat (48 + d)).toNat = 48 + d := by rw [UInt8.toNat_ofNat']; exact Nat.mod_eq_of_lt (by omega)
  exact ⟨by unfold dig; rw [e]; exact decide_eq_true (by omega), e⟩

theorem dec_val (n : Nat) : (Lib.decDigits n).all dig = true ∧ val 0 (Lib.decDigits n) = n ∧ (n ≠ 0 → (Lib.decDigits n).head? ≠ some 48) ∧ Lib.decDigits n ≠ [] := by
  induction n using Nat.strongRecOn with
  | _ n ih =>
    by_cases h : n < 10
    · rw [Lib.decDigits_one h]
      obtain ⟨h1, h2⟩ := dig_of n h
      refine ⟨by rw [List.all_cons, h1]; rfl, ?_, ?_, by simp⟩
      · rw [val_cons, val_nil]; unfold stp; omega
      · intro h0 e
        have e1 : UInt8.ofNat (48 + n) = 48 := by simpa using e
        have e2 := congrArg UInt8.toNat e1
        rw [h2] at e2
        have e48 : (48 : UInt8).toNat = 48 := rfl
        omega
    · have e : Lib.decDigits n = Lib.decDigits (n / 10) ++ [UInt8.ofNat (48 + n % 10)] := by rw [Lib.decDigits, dif_neg h]
      obtain ⟨h1, h2, h3, h4⟩ := ih (n / 10) (by omega)
      obtain ⟨g1, g2⟩ := dig_of (n % 10) (by omega)
      rw [e]
      refine ⟨by rw [List.all_append, h1, List.all_cons, g1]; rfl, ?_, ?_, by simp⟩
      · rw [val_app, h2, val_cons, val_nil]; unfold stp; omega
      · intro _
        cases hd : Lib.decDigits (n / 10) with
        | nil => exact absurd hd h4
        | cons c t =>
          have := h3 (by omega)
          rw [hd] at this
          simpa using this

theorem val_pos {c : UInt8} {t : Bs} (hd : dig c = true) (h : c ≠ 48) : 0 < val 0 (c :: t) := by
  rw [val_cons]
  have h1 := val_le t (stp 0 c)
  have h2 : 48 ≤ c.toNat ∧ c.toNat ≤ 57 := of_decide_eq_true hd
  have h3 : c.toNat ≠ 48 := fun e => h (UInt8.toNat_inj.1 e)
  have h4 : stp 0 c = 10 * 0 + (c.toNat - 48) := rfl
  omega

theorem byte_of (c : UInt8) : UInt8.ofNat c.toNat = c := by simp

theorem dec_uniq : ∀ (m : Nat) (ds : Bs), ds.length = m → ds.all dig = true → ds ≠ [] → ds.head? ≠ some 48 → ds = Lib.decDigits (val 0 ds) := by
  intro m
  induction m with
  | zero => intro ds h _ h2 _; exact absurd (List.eq_nil_of_length_eq_zero h) h2
  | succ m ih =>
    intro ds hl ha hne hh
    obtain ⟨l, c, rfl⟩ : ∃ l c, ds = l ++ [c] := ⟨ds.dropLast, ds.getLast hne, (List.dropLast_concat_getLast hne).symm⟩
    rw [List.all_append, Bool.and_eq_true] at ha
    obtain ⟨ha, hc⟩ := ha
    have hc : dig c = true := by simpa using hc
    have hcd : 48 ≤ c.toNat ∧ c.toNat ≤ 57 := of_decide_eq_true hc
    have hv : val 0 (l ++ [c]) = 10 * val 0 l + (c.toNat - 48) := by rw [val_app, val_cons, val_nil]; rfl
    rw [hv]
    cases l with
    | nil =>
      rw [val_nil]
      have e1 : 10 * 0 + (c.toNat - 48) = c.toNat - 48 := by omega
      rw [e1, Lib.decDigits_one (by omega), show 48 + (c.toNat - 48) = c.toNat by omega, byte_of]
      rfl
    | cons a t =>
      have h2 := ih (a :: t) (by simpa using hl) ha (by simp) (by simpa using hh)
      have ha0 : a ≠ 48 := by intro e; apply hh; rw [e]; rfl
      have hp : 0 < val 0 (a :: t) := val_pos (by simp only [List.all_cons, Bool.and_eq_true] at ha; exact ha.1) ha0
      generalize val 0 (a :: t) = v at h2 hp ⊢
      rw [h2]
      have e : Lib.decDigits (10 * v + (c.toNat - 48)) = Lib.decDigits ((10 * v + (c.toNat - 48)) / 10) ++ [UInt8.ofNat (48 + (10 * v + (c.toNat - 48)) % 10)] := by rw [Lib.decDigits, dif_neg (by omega)]
      rw [e, show (10 * v + (c.toNat - 48)) / 10 = v by omega, show 48 + (10 * v + (c.toNat - 48)) % 10 = c.toNat by omega, byte_of]

/-- What the last n parts tell. -/
def tl : Nat → Int → Bs
  | 0, _ => []
  | n + 1, r => dpart (r / worthOf (3 - n)) (letterOf (3 - n)) ++ tl n (r % worthOf (3 - n))
/-- What the last n parts can tell. -/
def bnd : Nat → Int
  | 0 => 1
  | 1 => 60
  | 2 => 3600
  | 3 => 86400
  | _ => 1099511627777

theorem prt_tl (t : Int) (h : t ≠ 0) : prt t = tl 4 t := by
  unfold prt
  rw [if_neg h]
  simp only [accAt, tl, remAt, List.append_assoc, List.nil_append, List.append_nil]

theorem dpart_zero (c : Int) : dpart 0 c = [] := if_neg (by omega)
theorem tl_zero : ∀ n, tl n 0 = []
  | 0 => rfl
  | n + 1 => by simp only [tl, Int.zero_ediv, Int.zero_emod, dpart_zero, List.nil_append]; exact tl_zero n

theorem tl_low {n : Nat} (hn : n < 4) {x : Int} (h0 : 0 ≤ x) (h : x < bnd n) : tl (n + 1) x = tl n x := by
  simp only [tl]
  have e1 : x / worthOf (3 - n) = 0 := by
    match n, hn with
    | 0, _ => simp only [bnd, worthOf, Nat.sub_zero, Nat.reduceSub] at *; omega
    | 1, _ => simp only [bnd, worthOf, Nat.sub_zero, Nat.reduceSub] at *; omega
    | 2, _ => simp only [bnd, worthOf, Nat.sub_zero, Nat.reduceSub] at *; omega
    | 3, _ => simp only [bnd, worthOf, Nat.sub_zero, Nat.reduceSub] at *; omega
  have e2 : x % worthOf (3 - n) = x := by
    match n, hn with
    | 0, _ => simp only [bnd, worthOf, Nat.sub_zero, Nat.reduceSub] at *; omega
    | 1, _ => simp only [bnd, worthOf, Nat.sub_zero, Nat.reduceSub] at *; omega
    | 2, _ => simp only [bnd, worthOf, Nat.sub_zero, Nat.reduceSub] at *; omega
    | 3, _ => simp only [bnd, worthOf, Nat.sub_zero, Nat.reduceSub] at *; omega
  rw [e1, e2, dpart_zero, List.nil_append]

theorem bnd_up {n : Nat} (hn : n < 4) : bnd n ≤ bnd (n + 1) := by
  match n, hn with
  | 0, _ => simp [bnd]
  | 1, _ => simp [bnd]
  | 2, _ => simp [bnd]
  | 3, _ => simp [bnd]

theorem tl_skip {n' : Nat} {x : Int} (h0 : 0 ≤ x) (h : x < bnd n') : ∀ n, n' ≤ n → n ≤ 4 → tl n x = tl n' x ∧ bnd n' ≤ bnd n := by
  intro n
  induction n with
  | zero => intro h1 _; obtain rfl : n' = 0 := by omega
            exact ⟨rfl, Int.le_refl _⟩
  | succ n ih =>
    intro h1 h2
    by_cases e : n' = n + 1
    · subst e; exact ⟨rfl, Int.le_refl _⟩
    · obtain ⟨a, b⟩ := ih (by omega) (by omega)
      have := bnd_up (n := n) (by omega)
      exact ⟨(tl_low (by omega) h0 (by omega)).trans a, by omega⟩

theorem letter_ne {j k : Nat} (h : j < k) (hk : k < 4) : letterOf j ≠ letterOf k := by
  have h4 : ∀ j k : Fin 4, j < k → letterOf j.val ≠ letterOf k.val := by decide
  exact h4 ⟨j, by omega⟩ ⟨k, hk⟩ h

theorem find_letter (j k : Nat) (hjk : j ≤ k) (hk : k < 4) (c : UInt8) (hc : (c.toNat : Int) = letterOf k) : find j c = k := by
  unfold find
  rw [if_neg (by omega)]
  by_cases e : j = k
  · subst e; rw [if_pos hc.symm]
  · rw [if_neg (by rw [hc]; exact letter_ne (by omega) hk)]
    exact find_letter (j + 1) k (by omega) hk c hc
termination_by k - j

theorem letter_byte (k : Nat) : ((UInt8.ofNat (letterOf k).toNat).toNat : Int) = letterOf k ∧ dig (UInt8.ofNat (letterOf k).toNat) = false := by
  match k with
  | 0 => exact ⟨rfl, by decide⟩
  | 1 => exact ⟨rfl, by decide⟩
  | 2 => exact ⟨rfl, by decide⟩
  | k + 3 => exact ⟨rfl, (by decide : dig (UInt8.ofNat (Int.toNat 115)) = false)⟩

theorem pf_nil (f j sum : Nat) : parseFrom f j sum [] = some sum := by cases f <;> rfl
theorem num_nil_ : num [] = none := rfl

theorem pf_step {f j sum v : Nat} {l t : Bs} {c : UInt8} (h : num l = some (v, c :: t)) (hk : find j c < 4) (hv : (v : Int) ≤ mostOf (find j c)) :
    parseFrom (f + 1) j sum l = parseFrom f (find j c + 1) (sat (sum + v * (worthOf (find j c)).toNat)) t := by
  cases l with
  | nil => rw [num_nil_] at h; cases h
  | cons a l =>
    rw [parseFrom, h]
    simp only []
    rw [if_neg (by omega)]

theorem pf_inv {f j sum m : Nat} {a : UInt8} {l : Bs} (h : parseFrom (f + 1) j sum (a :: l) = some m) :
    ∃ v c t, num (a :: l) = some (v, c :: t) ∧ find j c ≠ 4 ∧ (v : Int) ≤ mostOf (find j c) ∧ parseFrom f (find j c + 1) (sat (sum + v * (worthOf (find j c)).toNat)) t = some m := by
  rw [parseFrom] at h
  split at h
  · cases h
  · cases h
  · rename_i v c t hn
    split at h
    · cases h
    · rename_i hc
      exact ⟨v, c, t, hn, fun e => hc (.inl e), by omega, h⟩

theorem itoa_dec (q : Int) (h : 0 ≤ q) : Lib.itoa q = Lib.decDigits q.toNat := by unfold Lib.itoa; rw [if_neg (by omega)]

theorem num_dec (q : Nat) (hq : 0 < q) (h : q ≤ 1099511627777) (c : UInt8) (hc : dig c = false) (t : Bs) : num (Lib.decDigits q ++ c :: t) = some (q, c :: t) := by
  obtain ⟨h1, h2, h3, h4⟩ := dec_val q
  rw [num_app h1 (fun d u e => by obtain ⟨rfl, _⟩ := List.cons.inj e; exact hc)]
  have h5 := h3 (by omega)
  unfold numOf
  cases hd : Lib.decDigits q with
  | nil => exact absurd hd h4
  | cons a u =>
    simp only []
    rw [hd] at h2 h5
    rw [if_neg (by simpa using h5), h2]
    have : sat q = q := by unfold sat; omega
    rw [this]

theorem parse_tl : ∀ (n : Nat), n ≤ 4 → ∀ (f j sum : Nat) (r : Int), n ≤ f → j ≤ 4 - n → 0 ≤ r → r < bnd n → sum + r ≤ 1099511627776 → parseFrom f j sum (tl n r) = some (sum + r.toNat) := by
  intro n
  induction n with
  | zero =>
    intro _ f j sum r _ _ h0 h1 _
    have : r = 0 := by simp only [bnd] at h1; omega
    subst this
    exact pf_nil f j sum
  | succ n ih =>
    intro hn f j sum r hf hj h0 h1 hs
    by_cases hlow : r < bnd n
    · rw [tl_low (by omega) h0 hlow]
      exact ih (by omega) f j sum r (by omega) (by omega) h0 hlow hs
    · obtain ⟨f, rfl⟩ : ∃ g, f = g + 1 := ⟨f - 1, by omega⟩
      obtain ⟨q, hq⟩ : ∃ q, q = r / worthOf (3 - n) := ⟨_, rfl⟩
      obtain ⟨s, hs'⟩ : ∃ s, s = r % worthOf (3 - n) := ⟨_, rfl⟩
      obtain ⟨W, hW⟩ : ∃ W : Nat, worthOf (3 - n) = W := ⟨(worthOf (3 - n)).toNat, by have := (worth_pos (3 - n)).1; omega⟩
      have hfacts : 0 < q ∧ q ≤ mostOf (3 - n) ∧ 0 ≤ s ∧ s < bnd n ∧ q * W + s = r ∧ q ≤ 1099511627777 := by
        match n, hn with
        | 0, _ =>
          simp only [bnd, worthOf, mostOf, Nat.sub_zero, Nat.reduceSub] at *
          obtain rfl : W = 1 := by omega
          omega
        | 1, _ =>
          simp only [bnd, worthOf, mostOf, Nat.sub_zero, Nat.reduceSub] at *
          obtain rfl : W = 60 := by omega
          omega
        | 2, _ =>
          simp only [bnd, worthOf, mostOf, Nat.sub_zero, Nat.reduceSub] at *
          obtain rfl : W = 3600 := by omega
          omega
        | 3, _ =>
          simp only [bnd, worthOf, mostOf, Nat.sub_zero, Nat.reduceSub] at *
          obtain rfl : W = 86400 := by omega
          omega
      obtain ⟨g1, g2, g3, g4, g5, g6⟩ := hfacts
      simp only [tl]
      rw [← hq, ← hs']
      obtain ⟨p, rfl⟩ := Int.eq_ofNat_of_zero_le (Int.le_of_lt g1)
      have ed : dpart (p : Int) (letterOf (3 - n)) = Lib.decDigits p ++ [UInt8.ofNat (letterOf (3 - n)).toNat] := by
        unfold dpart; rw [if_pos g1, itoa_dec _ (by omega)]; rfl
      rw [ed, List.append_assoc, List.singleton_append]
      obtain ⟨l1, l2⟩ := letter_byte (3 - n)
      have hfd := find_letter j (3 - n) (by omega) (by omega) _ l1
      have hnum := num_dec p (by omega) (by omega) _ l2 (tl n s)
      rw [pf_step hnum (by rw [hfd]; omega) (by rw [hfd]; exact g2), hfd, hW, Int.toNat_natCast]
      have hpw : ((p * W : Nat) : Int) = (p : Int) * W := by simp
      have hsat : sat (sum + p * W) = sum + p * W := by unfold sat; omega
      rw [hsat, ih (by omega) f (3 - n + 1) (sum + p * W) s (by omega) (by omega) g3 g4 (by omega)]
      congr 1
      omega

theorem parse_prt (t : Int) (h0 : 0 ≤ t) (h1 : t ≤ 1099511627776) : parseL (prt t) = (t, 0) := by
  by_cases ht : t = 0
  · subst ht; rfl
  · have hp := parse_tl 4 (Nat.le_refl _) 5 0 0 t (by omega) (by omega) h0 (by simp only [bnd]; omega) (by omega)
    rw [← prt_tl t ht] at hp
    obtain ⟨T, rfl⟩ := Int.eq_ofNat_of_zero_le h0
    rw [Int.toNat_natCast, Nat.zero_add] at hp
    unfold parseL
    have hne : prt (T : Int) ≠ [] := by
      intro e; rw [e, pf_nil] at hp; simp only [Option.some.injEq] at hp; omega
    have hne0 : prt (T : Int) ≠ [48, 115] := by
      intro e
      rw [e] at hp
      have : parseFrom 5 0 0 [48, 115] = none := by
        rw [parseFrom]
        have : num [48, 115] = none := rfl
        rw [this]
      rw [this] at hp; cases hp
    rw [if_neg hne0, if_neg hne, hp]
    simp only []
    rw [if_neg (by omega)]

theorem parse_back : ∀ (f n : Nat), n ≤ 4 → ∀ (sum m : Nat) (l : Bs), parseFrom f (4 - n) sum l = some m → m ≤ 1099511627776 → sum ≤ m ∧ l = tl n ((m : Int) - sum) ∧ (m : Int) - sum < bnd n ∧ (l ≠ [] → sum < m) := by
  intro f
  induction f with
  | zero =>
    intro n hn sum m l h hm
    cases l with
    | nil =>
      rw [pf_nil] at h
      obtain rfl := Option.some.inj h
      rw [Int.sub_self, tl_zero]
      exact ⟨Nat.le_refl _, rfl, by have := bnd_up (n := 0); match n, hn with
        | 0, _ => simp [bnd]
        | 1, _ => simp [bnd]
        | 2, _ => simp [bnd]
        | 3, _ => simp [bnd]
        | 4, _ => simp [bnd], fun h => absurd rfl h⟩
    | cons a l => rw [parseFrom] at h; cases h
  | succ f ih =>
    intro n hn sum m l h hm
    cases l with
    | nil =>
      rw [pf_nil] at h
      obtain rfl := Option.some.inj h
      rw [Int.sub_self, tl_zero]
      exact ⟨Nat.le_refl _, rfl, by match n, hn with
        | 0, _ => simp [bnd]
        | 1, _ => simp [bnd]
        | 2, _ => simp [bnd]
        | 3, _ => simp [bnd]
        | 4, _ => simp [bnd], fun h => absurd rfl h⟩
    | cons a l =>
      obtain ⟨v, c, t, hnum, hk4, hv, hrest⟩ := pf_inv h
      obtain ⟨k1, k2⟩ := find_le (4 - n) c (by omega)
      have hk : find (4 - n) c < 4 := by omega
      have hlet := find_hit (4 - n) c hk
      generalize find (4 - n) c = k at *
      obtain ⟨n', hk', hn3⟩ : ∃ n', k = 3 - n' ∧ n' ≤ 3 := ⟨3 - k, by omega, by omega⟩
      subst hk'
      rw [show 3 - n' + 1 = 4 - n' by omega] at hrest
      obtain ⟨i1, i2, i3, -⟩ := ih n' (by omega) _ m t hrest hm
      obtain ⟨ds, e1, e2, e3, e4, e5⟩ := num_split hnum
      obtain ⟨W, hW⟩ : ∃ W : Nat, worthOf (3 - n') = W := ⟨(worthOf (3 - n')).toNat, by have := (worth_pos (3 - n')).1; omega⟩
      rw [hW, Int.toNat_natCast] at i1 i2 i3
      have hW1 : 1 ≤ W := by have := (worth_pos (3 - n')).1; omega
      have hpw : ((v * W : Nat) : Int) = (v : Int) * W := by simp
      have hvw : v ≤ v * W := Nat.le_mul_of_pos_right v hW1
      have hsat : sat (sum + v * W) = sum + v * W := by unfold sat at *; omega
      rw [hsat] at i1 i2 i3
      have hvv : v = val 0 ds := by have := e4; unfold sat at this; omega
      have hdne : ds ≠ [] := by intro e; rw [e] at e3; simp at e3
      have hds := dec_uniq _ ds rfl e2 hdne e5
      rw [← hvv] at hds
      have hvpos : 0 < v := by
        rw [hvv]
        cases ds with
        | nil => exact absurd rfl hdne
        | cons a0 t0 => exact val_pos (by simp only [List.all_cons, Bool.and_eq_true] at e2; exact e2.1) (by intro e; apply e5; rw [e]; rfl)
      have hx : (m : Int) - (sum : Int) = (v : Int) * W + ((m : Int) - ((sum + v * W : Nat) : Int)) := by omega
      have hr0 : 0 ≤ (m : Int) - ((sum + v * W : Nat) : Int) := by omega
      generalize (m : Int) - ((sum + v * W : Nat) : Int) = r' at i2 i3 hx hr0
      have hfacts : ((v : Int) * W + r') / worthOf (3 - n') = v ∧ ((v : Int) * W + r') % worthOf (3 - n') = r' ∧ (v : Int) * W + r' < bnd (n' + 1) := by
        rw [← hx]
        match n', hn3 with
        | 0, _ =>
          simp only [bnd, worthOf, mostOf, Nat.sub_zero, Nat.reduceSub] at *
          obtain rfl : W = 1 := by omega
          omega
        | 1, _ =>
          simp only [bnd, worthOf, mostOf, Nat.sub_zero, Nat.reduceSub] at *
          obtain rfl : W = 60 := by omega
          omega
        | 2, _ =>
          simp only [bnd, worthOf, mostOf, Nat.sub_zero, Nat.reduceSub] at *
          obtain rfl : W = 3600 := by omega
          omega
        | 3, _ =>
          simp only [bnd, worthOf, mostOf, Nat.sub_zero, Nat.reduceSub] at *
          obtain rfl : W = 86400 := by omega
          omega
      obtain ⟨f1, f2, f3⟩ := hfacts
      have hp0 : 0 < (v : Int) * W := by have : 0 < v * W := by omega
                                         omega
      obtain ⟨s1, s2⟩ := tl_skip (n' := n' + 1) (x := (v : Int) * W + r') (by omega) f3 n (by omega) hn
      refine ⟨by omega, ?_, by omega, fun _ => by omega⟩
      rw [hx, s1]
      simp only [tl]
      rw [f1, f2, ← i2, e1]
      have hcb : UInt8.ofNat (letterOf (3 - n')).toNat = c := by rw [hlet, Int.toNat_natCast]; exact byte_of c
      unfold dpart
      rw [if_pos (by omega), itoa_dec _ (by omega), hcb, Int.toNat_natCast, ← hds, List.append_assoc]
      rfl

/-- What is read, and not refused, is written so. -/
theorem prt_parse (l : Bs) (n : Int) (h : parseL l = (n, 0)) : tm n = true ∧ prt n = l := by
  unfold parseL at h
  split at h
  · rename_i e
    obtain ⟨rfl, _⟩ : 0 = n ∧ True := by simpa using h
    exact ⟨rfl, by rw [e]; rfl⟩
  · split at h
    · simp at h
    · rename_i hne
      split at h
      · simp at h
      · rename_i m hp
        split at h
        · simp at h
        · rename_i hm
          obtain ⟨rfl, _⟩ : (m : Int) = n ∧ True := by simpa using h
          obtain ⟨h1, h2, h3, h4⟩ := parse_back 5 4 (Nat.le_refl _) 0 m l hp (by omega)
          have h5 := h4 hne
          refine ⟨by unfold tm; exact decide_eq_true (by omega), ?_⟩
          rw [prt_tl _ (by omega), h2]
          simp

end Ck
end Go.Proofs.YtbgplehmjejikaaGreatDoor
