/- ClockParses, ClockThere, ClockBack: the laws' walks. -/
import Derived.Test.YtbgplehmjejikaaGreatDoorCkRefParse
import Derived.SizedLaws
namespace Go.Proofs.YtbgplehmjejikaaGreatDoor
open Go.RowKit
set_option linter.unusedVariables false
namespace Ck

/-- What the laws ask of the variables. -/
structure Ctx (w : World) : Prop where
  hp : PartsAt w
  ht : Lib.TabIs Tryz.prog w "internal/strconv.uint64pow10" .u64 Lib.pow10Tab
  he : ErrAt w

theorem Ctx.below {w w' : World} (h : Ctx w) (hb : Below w.heap.size w w') : Ctx w' :=
  ⟨h.hp.below hb, tab_below gPow h.ht (tab_lt gPow h.ht) hb, h.he.below hb⟩

theorem gErr : Tryz.prog.globalNamed "strconv.ErrRange" = some 4 := by kernel_rfl
theorem gErrType : (Tryz.prog.globals[4]?).map (·.type) = some 28 := by kernel_rfl

theorem trod_iface {H : Type} {enc : TypeId × Value → H} {P : Program} {w : World} {base : Nat} {sp : Nat → Bool} {held : Bool} {n : Nat} {t : TypeId} {ms : Array (String × TypeId)} {cs : List Value} {name : String} {d : DataW H} {p : List MemPlace}
    (ht : P.underlying t = some (.interface ms)) (h : DataW.trod enc P w base sp held (n + 1) t cs = some (.iface name d, p)) : ∃ u v, cs = [.iface u v] := by
  unfold DataW.trod at h
  split at h
  all_goals first
    | exact ⟨_, _, rfl⟩
    | (rename_i h0 _ ; rw [ht] at h0; cases h0; done)
    | (rename_i h0; rw [ht] at h0; cases h0; done)
    | (simp at h; done)
    | (exfalso; simp_all; done)

theorem err_of_laid {l : List (String × DataW Unit)} {W : World} (h : laidMetH Tryz.prog l W) (e : (l.filter fun x => x.1 == "strconv.ErrRange") = [("strconv.ErrRange", Rows.laid_strconv_ErrRange)]) : ErrAt W := by
  obtain ⟨g, t, cs, fuel, p, h1, h2, h3, h4⟩ := Lib.laidMet.reads (filt h e rfl) (List.mem_singleton.2 rfl)
  obtain rfl := Option.some.inj (gErr.symm.trans h1)
  obtain rfl := Option.some.inj (gErrType.symm.trans h2)
  have hcell := World.var?_cell gErr h3 0
  cases fuel with
  | zero => cases h4
  | succ fuel =>
    obtain ⟨u, v, hcs⟩ := trod_iface Tryz.underlying28 h4
    refine ⟨u, v, ?_⟩
    rw [hcell]
    have : cs = #[.iface u v] := by rw [← hcs]
    rw [this]; rfl

theorem parse_err (l : Bs) : ((parseL l).2 = 0 ∨ (parseL l).2 = 4 ∨ (parseL l).2 = 12) ∧ ((parseL l).2 ≠ 0 → (parseL l).1 = 0) := by
  unfold parseL
  split
  · exact ⟨.inl rfl, fun h => absurd rfl h⟩
  · split
    · exact ⟨.inr (.inl rfl), fun _ => rfl⟩
    · split
      · exact ⟨.inr (.inl rfl), fun _ => rfl⟩
      · split
        · exact ⟨.inr (.inr rfl), fun _ => rfl⟩
        · exact ⟨.inl rfl, fun h => absurd rfl h⟩

theorem dpart_len (n c : Int) (h0 : 0 ≤ n) (h1 : n ≤ 1099511627777) : (dpart n c).length ≤ 22 := by
  unfold dpart
  split
  · have := Lib.itoa_length_le n (by omega) (by omega)
    simp; omega
  · simp

theorem accAt_len (t : Int) (h0 : 0 ≤ t) (h1 : t ≤ 1099511627776) : ∀ k, (accAt t k).length ≤ 22 * k
  | 0 => by simp [accAt]
  | k + 1 => by
    have ih := accAt_len t h0 h1 k
    obtain ⟨r1, r2⟩ := remAt_bd t h0 h1 k
    obtain ⟨c1, c2⟩ := worth_pos k
    have d1 : 0 ≤ remAt t k / worthOf k := Int.ediv_nonneg r1 (by omega)
    have d2 : remAt t k / worthOf k ≤ remAt t k := Int.ediv_le_self _ r1
    have := dpart_len (remAt t k / worthOf k) (letterOf k) d1 (by omega)
    simp only [accAt, List.length_append]; omega

theorem prt_len (t : Int) (h0 : 0 ≤ t) (h1 : t ≤ 1099511627776) : (prt t).length ≤ 88 := by
  unfold prt
  split
  · simp
  · have := accAt_len t h0 h1 4; omega

set_option maxHeartbeats 1000000 in
theorem clockParses_core (s : ByteArray) (hs : s.size ≤ 281474976710656) (w : World) (hc : Ctx w) (hg : erHandle w) :
    Calls Tryz.prog 16 #[.string s] w fun e w' => e = .returned (.bool true) ∧ Below w.heap.size w w' := by
  have h1 := cparse_any s hs w hc.he hc.hp
  have h2 := fun w' => refparse_any s hs w'
  unfold PPost at h1; unfold RPPost at h2
  obtain ⟨hk, _⟩ := parse_err s.data.toList
  obtain ⟨k, hkk⟩ : ∃ k, k = (parseL s.data.toList).2 := ⟨_, rfl⟩
  obtain ⟨n, hn⟩ : ∃ n, n = (parseL s.data.toList).1 := ⟨_, rfl⟩
  rw [← hkk] at h1 hk; rw [← hn] at h1
  simp only [← hkk, ← hn] at h2
  have HK := Lib.hid (fun (w' : World) (hg : erHandle w') => plain_any k k (by omega) (by omega) w' hg)
  have hq : (n == n) = true := by simp
  have hq2 : (k == k) = true := by simp
  have HQ2 := Lib.hid hq2
  have HG := Lib.hid hg; have H1 := Lib.hid h1; have H2 := Lib.hid h2
  clear h1 h2 hk hkk hn hc hq2 hg
  go_enter Tryz.func16, Tryz.ntmps16
  go_wp2_with fail
  refine H1.out.mono ?_
  rintro e w1 ⟨rfl, hb1⟩
  go_wp2_with fail
  refine (H2.out _).mono ?_
  rintro e w2 ⟨rfl, hb2⟩
  have hb12 := hb1.trans (hb2.mono hb1.size)
  have HB := Lib.hid hb12
  clear hb1 hb2 hb12
  go_wp2_with fail
  refine (HK.out _ (HG.out.below HG.out.lt HB.out)).mono ?_
  rintro e w3 ⟨rfl, hb3⟩
  go_wp2
  go_ret
  exact ⟨rfl, HB.out.trans (hb3.mono HB.out.size)⟩

set_option maxHeartbeats 1000000 in
theorem clockThere_core (t : Int) (w : World) (hc : Ctx w) :
    Calls Tryz.prog 7 #[.int .i64 t] w fun e w' => e = .returned (.bool true) ∧ Below w.heap.size w w' := by
  by_cases h : tm t = true
  · obtain ⟨b0, b1⟩ := tm_yes h
    have h1 : Calls Tryz.prog 12 #[.int .i64 t] w fun e w' => e = .returned (.tuple #[.string ⟨(prt t).toArray⟩, .nilIface]) ∧ Below w.heap.size w w' := by
      by_cases h0 : t = 0
      · subst h0
        exact (print_zero w).mono fun e w' ⟨he, hw⟩ => ⟨he, hw ▸ Below.refl _ _⟩
      · exact print_yes t h h0 w hc.hp hc.ht
    have hl := prt_len t b0 b1
    have hp := parse_prt t b0 b1
    obtain ⟨S, hS⟩ : ∃ S, S = (⟨(prt t).toArray⟩ : ByteArray) := ⟨_, rfl⟩
    have hSl : S.data.toList = prt t := by rw [hS]
    have hSz : S.size ≤ 281474976710656 := by have : S.size = (prt t).length := by rw [hS]; simp [ByteArray.size]
                                              omega
    have h3 : Hid (∀ w' : World, Ctx w' → Calls Tryz.prog 13 #[.string S] w' fun e w2 => e = .returned (.tuple #[.int .i64 t, .nilIface]) ∧ Below w'.heap.size w' w2) := fun w' hc' => by
      have := cparse_any S hSz w' hc'.he hc'.hp
      unfold PPost at this
      rw [hSl, hp] at this
      exact this
    rw [← hS] at h1
    have H1 := Lib.hid h1
    have HC := Lib.hid hc
    have HW : Hid (∀ w' : World, Ctx w' → Calls Tryz.prog 14 #[] w' fun e w2 => e = .returned (.bool true) ∧ Below w'.heap.size w' w2) := fun w' hc' => works_any w' hc'.hp hc'.ht
    have hq : (t == t) = true := by simp
    clear h1 hl hp hSl hSz hS h hc
    go_enter Tryz.func7, Tryz.ntmps7
    go_wp2_with fail
    refine H1.out.mono ?_
    rintro e w1 ⟨rfl, hb1⟩
    have HB1 := Lib.hid hb1
    clear hb1
    go_wp2_with fail
    refine (HW.out _ (HC.out.below HB1.out)).mono ?_
    rintro e w2 ⟨rfl, hb2⟩
    have HB2 := Lib.hid (HB1.out.trans (hb2.mono HB1.out.size))
    clear hb2
    go_wp2_with fail
    refine (h3.out _ (HC.out.below HB2.out)).mono ?_
    rintro e w3 ⟨rfl, hb3⟩
    go_wp2
    go_ret
    exact ⟨rfl, HB2.out.trans (hb3.mono HB2.out.size)⟩
  · have h' : tm t = false := by simpa using h
    have hb := tm_no h'
    have HC := Lib.hid hc
    have HW : Hid (∀ w' : World, Ctx w' → Calls Tryz.prog 14 #[] w' fun e w2 => e = .returned (.bool true) ∧ Below w'.heap.size w' w2) := fun w' hc' => works_any w' hc'.hp hc'.ht
    have h3 : Hid (∀ w' : World, Ctx w' → Calls Tryz.prog 13 #[.string ⟨#[]⟩] w' fun e w2 => e = .returned (.tuple #[.int .i64 0, .iface 44 (.int .i64 4)]) ∧ Below w'.heap.size w' w2) := fun w' hc' => by
      have := cparse_any ⟨#[]⟩ (by decide) w' hc'.he hc'.hp
      unfold PPost at this
      exact this
    have hP := Lib.hid (fun w' => print_no t h' w')
    clear h h' hc
    by_cases h0 : 0 ≤ t
    · have h2 : ¬ t ≤ 1099511627776 := by omega
      clear hb
      go_enter Tryz.func7, Tryz.ntmps7
      go_wp2_with fail
      refine (hP.out _).mono ?_
      rintro e w1 ⟨rfl, rfl⟩
      go_wp2_with fail
      refine (HW.out _ HC.out).mono ?_
      rintro e w2 ⟨rfl, hb2⟩
      have HB2 := Lib.hid hb2
      clear hb2
      go_wp2_with fail
      refine (h3.out _ (HC.out.below HB2.out)).mono ?_
      rintro e w3 ⟨rfl, hb3⟩
      go_wp2
      go_ret
      exact ⟨rfl, HB2.out.trans (hb3.mono HB2.out.size)⟩
    · clear hb
      go_enter Tryz.func7, Tryz.ntmps7
      go_wp2_with fail
      refine (hP.out _).mono ?_
      rintro e w1 ⟨rfl, rfl⟩
      go_wp2_with fail
      refine (HW.out _ HC.out).mono ?_
      rintro e w2 ⟨rfl, hb2⟩
      have HB2 := Lib.hid hb2
      clear hb2
      go_wp2_with fail
      refine (h3.out _ (HC.out.below HB2.out)).mono ?_
      rintro e w3 ⟨rfl, hb3⟩
      go_wp2
      go_ret
      exact ⟨rfl, HB2.out.trans (hb3.mono HB2.out.size)⟩

set_option maxHeartbeats 1000000 in
theorem clockBack_core (s : ByteArray) (hs : s.size ≤ 281474976710656) (w : World) (hc : Ctx w) :
    Calls Tryz.prog 17 #[.string s] w fun e w' => e = .returned (.bool true) ∧ Below w.heap.size w w' := by
  have h1 := cparse_any s hs w hc.he hc.hp
  unfold PPost at h1
  obtain ⟨hk, hk0⟩ := parse_err s.data.toList
  have HC := Lib.hid hc
  have HW : Hid (∀ w' : World, Ctx w' → Calls Tryz.prog 14 #[] w' fun e w2 => e = .returned (.bool true) ∧ Below w'.heap.size w' w2) := fun w' hc' => works_any w' hc'.hp hc'.ht
  by_cases h0 : (parseL s.data.toList).2 = 0
  · obtain ⟨n, hn⟩ : ∃ n, parseL s.data.toList = (n, 0) := ⟨(parseL s.data.toList).1, by rw [← h0]⟩
    obtain ⟨htm, hpr⟩ := prt_parse _ _ hn
    have h2 : Hid (∀ w' : World, Ctx w' → Calls Tryz.prog 12 #[.int .i64 n] w' fun e w2 => e = .returned (.tuple #[.string s, .nilIface]) ∧ Below w'.heap.size w' w2) := fun w' hc' => by
      have e : (⟨(prt n).toArray⟩ : ByteArray) = s := by rw [hpr]
      by_cases h00 : n = 0
      · subst h00
        have := print_zero w'
        rw [e] at this
        exact this.mono fun e w2 ⟨he, hw⟩ => ⟨he, hw ▸ Below.refl _ _⟩
      · have := print_yes n htm h00 w' hc'.hp hc'.ht
        rw [e] at this
        exact this
    rw [hn] at h1
    have H1 : Hid (Calls Tryz.prog 13 #[.string s] w fun e w' => e = .returned (.tuple #[.int .i64 n, .nilIface]) ∧ Below w.heap.size w w') := h1
    have hq : (s.toList == s.toList) = true := by simp
    clear h1 hk hk0 h0 hn htm hpr hc
    go_enter Tryz.func17, Tryz.ntmps17
    go_wp2_with fail
    refine H1.out.mono ?_
    rintro e w1 ⟨rfl, hb1⟩
    have HB1 := Lib.hid hb1
    clear hb1
    go_wp2_with fail
    refine (h2.out _ (HC.out.below HB1.out)).mono ?_
    rintro e w2 ⟨rfl, hb2⟩
    have HB2 := Lib.hid (HB1.out.trans (hb2.mono HB1.out.size))
    clear hb2
    go_wp2_with fail
    refine (HW.out _ (HC.out.below HB2.out)).mono ?_
    rintro e w3 ⟨rfl, hb3⟩
    go_wp2
    go_ret
    exact ⟨rfl, HB2.out.trans (hb3.mono HB2.out.size)⟩
  · have hz := hk0 h0
    obtain ⟨k, hkk⟩ : ∃ k, k = (parseL s.data.toList).2 := ⟨_, rfl⟩
    rw [hz, ← hkk] at h1
    rw [← hkk] at h0
    have ek : errVal k = .iface 44 (.int .i64 k) := by unfold errVal; rw [if_neg h0]
    rw [ek] at h1
    have H1 := Lib.hid h1
    clear h1 hk hk0 h0 hz hkk ek hc
    go_enter Tryz.func17, Tryz.ntmps17
    go_wp2_with fail
    refine H1.out.mono ?_
    rintro e w1 ⟨rfl, hb1⟩
    have HB1 := Lib.hid hb1
    clear hb1
    go_wp2_with fail
    refine (HW.out _ (HC.out.below HB1.out)).mono ?_
    rintro e w2 ⟨rfl, hb2⟩
    go_wp2
    go_ret
    exact ⟨rfl, HB1.out.trans (hb2.mono HB1.out.size)⟩

end Ck


end Go.Proofs.YtbgplehmjejikaaGreatDoor
