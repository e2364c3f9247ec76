/- The law HeapLast. -/
import Derived.Test.YtkmgpajodbadmaaDoorHpFill
namespace Go.Proofs.YtkmgpajodbadmaaDoor
open Go.RowKit Go.Proofs.Ar
set_option linter.unusedVariables false
namespace Hp

/-- Over the numbers: n of the first i are in it. -/
def L1 (w w0 : World) (L : List It) (nn i : Value) (wr : World) : Prop := ∃ k : Nat, k ≤ 64 ∧ i = .int .i64 k ∧ nn = .int .i64 (cnt L k) ∧ w0 = wr
/-- Over the pairs: what number i was given by the first k. -/
def L2 (ps : List It) (i : Int) (w0 : World) (is want k : Value) (wr : World) : Prop := ∃ j : Nat, j ≤ ps.length ∧ k = .int .i64 j ∧ is = .bool (lst (ps.take j) i).isSome ∧ want = .int .i64 ((lst (ps.take j) i).getD 0) ∧ w0 = wr

set_option maxHeartbeats 4000000 in
theorem heapLast_core (v : Value) (ps : List It) (hl : (ps.length : Int) ≤ 9223372036854775807) (w : World) (ht : PairArg w v ps) :
    Calls Tryd.prog 46 #[v] w fun e w' => e = .returned (.bool true) ∧ Below w.heap.size w w' := by
  have HW := Lib.hid (fun w' => hworks_any w')
  have HT := Lib.hid ht
  have HFL := Lib.hid (fun w' (hb : Below w.heap.size w w') => filled_any v ps hl w' (ht.below hb))
  obtain ⟨q, c, rfl, h1⟩ := ht
  have H1 := Lib.hid h1
  clear h1
  by_cases hbig : ps.length ≤ 1000
  · have b0 : (ps.length : Int) ≤ 1000 := by omega
    clear hbig hl
    go_enter Tryd.func46, Tryd.ntmps46
    go_wp2_with fail
    refine (HW.out _).mono ?_
    rintro e w1 ⟨rfl, hb1⟩
    go_wp2_with fail
    refine (HFL.out _ hb1).mono ?_
    rintro e w2 ⟨H, F, L, rfl, hh, hp, hb2⟩
    have hb12 : Below w.heap.size w w2 := hb1.trans (hb2.mono hb1.size)
    have HH := Lib.hid hh; have HP := Lib.hid hp; have HB := Lib.hid hb12
    have HGD := Lib.hid hh.good
    clear hh hp hb12 hb1 hb2
    go_wp2
    go_loopw [4, 5] (fun nn i wr => L1 w w2 L nn i wr) (fun _ i _ => 64 - (intOf i).toNat)
    case atStart => exact ⟨0, Nat.zero_le _, rfl, rfl, rfl⟩
    case round =>
      obtain ⟨i, hi, rfl, rfl, rfl⟩ := hrel
      have b1 : (0 : Int) ≤ (i : Int) := by omega
      by_cases h : i < 64
      · have b2 : (i : Int) < 64 := by omega
        go_wp2
        go_loopw [6, 7, 8] (fun is want k wr => L2 ps (i : Int) w2 is want k wr) (fun _ _ k _ => ps.length - (intOf k).toNat)
        case atStart => exact ⟨0, Nat.zero_le _, rfl, rfl, rfl, rfl⟩
        case round =>
          obtain ⟨j, hj, rfl, rfl, rfl, rfl⟩ := hrel
          have b3 : (0 : Int) ≤ (j : Int) := by omega
          by_cases h2 : j < ps.length
          · have b4 : (j : Int) < (ps.length : Int) := by omega
            obtain ⟨g1, o1, rfl, hg1, k1, k2⟩ := H1.out j h2
            have hln := lst_next h2 (i : Int)
            obtain ⟨p, hpj⟩ : ∃ p, p = ps[j] := ⟨_, rfl⟩
            rw [← hpj] at k1 k2 hln
            have k1' : w2.cell? ⟨g1, o1 + j * 2, none⟩ = some (.int .i64 p.1) := (HB.out.cell (p := ⟨g1, o1 + j * 2, none⟩) hg1).trans k1
            have k2' : w2.cell? ⟨g1, o1 + j * 2 + 1, none⟩ = some (.int .i64 p.2) := (HB.out.cell (p := ⟨g1, o1 + j * 2 + 1, none⟩) hg1).trans k2
            have HPK := Lib.hid (fun w' => Pk.pick_any p.1 64 (by omega) (by omega) w')
            obtain ⟨mm, hmm⟩ : ∃ m, m = p.1 % 64 := ⟨_, rfl⟩
            rw [← hmm] at HPK hln
            have HLN := Lib.hid hln
            clear k1 k2 hpj hln hmm
            by_cases he : mm = (i : Int)
            · have e1 : (mm == (i : Int)) = true := by simp [he]
              have HE := Lib.hid he
              clear he
              go_wp2_with fail
              refine (HPK.out _).mono ?_
              rintro e w3 ⟨rfl, rfl⟩
              go_wp2
              go_roundw
              case rel => exact ⟨j + 1, by omega, by go_num, by rw [HLN.out, if_pos HE.out]; rfl, by rw [HLN.out, if_pos HE.out]; rfl, rfl⟩
              case measure => simp [intOf]; omega
            · have e1 : (mm == (i : Int)) = false := by simp [he]
              have HE := Lib.hid he
              clear he
              go_wp2_with fail
              refine (HPK.out _).mono ?_
              rintro e w3 ⟨rfl, rfl⟩
              go_wp2
              go_roundw
              case rel => exact ⟨j + 1, by omega, by go_num, by rw [HLN.out, if_neg HE.out], by rw [HLN.out, if_neg HE.out], rfl⟩
              case measure => simp [intOf]; omega
          · have hjl : j = ps.length := by omega
            have b4 : (ps.length : Int) ≤ (j : Int) := by omega
            have hkey : lst (ps.take j) (i : Int) = keyOf L (i : Int) := by
              have h5 := fin_good ps ps.length (Nat.le_refl _)
              rw [List.take_length] at h5
              have h6 := fin_lst ps (i : Int) ps.length (Nat.le_refl _)
              rw [List.take_length] at h6
              rw [hjl, List.take_length, ← h6]
              exact (keyOf_perm HGD.out HP.out _).symm
            have HK := Lib.hid (key_any _ H 64 L F w2 HH.out (by omega) (i : Int))
            have hcn := cnt_next L i
            have hcl := cnt_le L i
            rw [hkey]
            obtain ⟨o, ho⟩ : ∃ o, o = keyOf L (i : Int) := ⟨_, rfl⟩
            rw [← ho] at HK hcn ⊢
            have HC := Lib.hid hcn
            obtain ⟨m, hm⟩ : ∃ m, m = cnt L i := ⟨_, rfl⟩
            rw [← hm] at hcl HC ⊢
            have v1 : IntKind.i64.wrap ((m : Int) + 1) = (m : Int) + 1 := IntWalk.i64_in _ (by omega)
            have q1 : (o.isSome != o.isSome) = false := by simp
            have q2 : (o.getD 0 != o.getD 0) = false := by simp
            have b5 : (0 : Int) ≤ (m : Int) := by omega
            clear hkey ho hcn hm hjl hcl
            cases o with
            | none =>
              go_wp2_with fail
              refine HK.out.mono ?_
              rintro e w3 ⟨rfl, rfl⟩
              go_wp2
              go_roundw
              case rel => exact ⟨i + 1, by omega, by go_num, by rw [HC.out]; rfl, rfl⟩
              case measure => simp [intOf]; omega
            | some key =>
              go_wp2_with fail
              refine HK.out.mono ?_
              rintro e w3 ⟨rfl, rfl⟩
              go_wp2
              go_roundw
              case rel => exact ⟨i + 1, by omega, by go_num, by rw [HC.out]; rfl, rfl⟩
              case measure => simp [intOf]; omega
      · have b2 : (64 : Int) ≤ (i : Int) := by omega
        have hi64 : i = 64 := by omega
        have HLE := Lib.hid (len_any _ H 64 L F w2 HH.out)
        have hcl : cnt L i = L.length := by rw [hi64]; exact cnt_all HGD.out
        rw [hcl]
        have q1 : ((L.length : Int) == (L.length : Int)) = true := by simp
        clear hi64 hcl
        go_wp2_with fail
        refine HLE.out.mono ?_
        rintro e w3 ⟨rfl, rfl⟩
        go_wp2
        go_ret
        exact ⟨rfl, HB.out⟩
  · have b0 : (1000 : Int) < (ps.length : Int) := by omega
    clear hbig hl
    go_enter Tryd.func46, Tryd.ntmps46
    go_wp2_with fail
    refine (HW.out _).mono ?_
    rintro e w1 ⟨rfl, hb1⟩
    go_wp2_with fail
    refine (HW.out _).mono ?_
    rintro e w2 ⟨rfl, hb2⟩
    go_wp2
    go_ret
    exact ⟨rfl, hb1.trans (hb2.mono hb1.size)⟩

end Hp

theorem heapLast_walk (v : Value) (ps : List (Int × Int)) (hl : ps.length ≤ maxLen) (hz : ∀ s ∈ ps, (Lit.int .i64 s.1).wf = true ∧ (Lit.int .i64 s.2).wf = true) (w : World) (ht : PairArg w v ps) :
    Calls Tryd.prog 46 #[v] w fun e w' => e = .returned (.bool true) ∧ Below w.heap.size w w' :=
  Hp.heapLast_core v ps (by unfold maxLen at hl; omega) w ht

end Go.Proofs.YtkmgpajodbadmaaDoor
