/- asked: all that can be asked of a heap is as the document has it. -/
import Derived.Test.YtkmgpajodbadmaaDoorHpState
namespace Go.Proofs.YtkmgpajodbadmaaDoor
open Go.RowKit
set_option linter.unusedVariables false
namespace Hp

theorem least_srt {L : List It} {a b : Int} {c : Bool} (h : LeastIs L a b c) : a = (g (srt L) 0).1 ∧ b = (g (srt L) 0).2 ∧ c = decide (0 < (srt L).length) := by
  by_cases h0 : L = []
  · subst h0
    rcases h with ⟨-, rfl, rfl, rfl⟩ | ⟨-, h, -⟩
    · have e : srt [] = [] := List.eq_nil_of_length_eq_zero (srt_len [])
      rw [e]; exact ⟨rfl, rfl, rfl⟩
    · cases h
  · have hl : 0 < (srt L).length := by rw [srt_len]; exact List.length_pos_iff.2 h0
    obtain ⟨e1, e2, e3⟩ := take_least (S := srt L) (k := 0) (srt_sorted L) hl (by simpa using (srt_perm L).symm) h
    exact ⟨e1, e2, by rw [e3]; simp [hl]⟩

set_option maxHeartbeats 2000000 in
theorem asked_any (lo H r n : Nat) (L : List It) (F : Nat → Prop) (v : Value) (w : World) (h : Both lo H r n L (srt L) F v w) (hn : (n : Int) ≤ 65536) (i : Int) :
    Calls Tryd.prog 18 #[.pointer (some ⟨H, 0, none⟩), .pointer (some ⟨r, 0, none⟩), .int .i64 i] w fun e w' => e = .returned (.bool true) ∧ Below w.heap.size w w' := by
  have hgl := h.heap.good.len
  have hsl : (srt L).length = L.length := srt_len L
  have hkey := keyOf_srt h.heap.good i
  have HLS := Lib.hid (least_any lo H n L F w h.heap)
  have HRL := Lib.hid (fun w' (hb : Below w.heap.size w w') => rleast_any lo r n (srt L) v w' (h.ref.below hb))
  have HKY := Lib.hid (fun w' (hb : Below w.heap.size w w') => key_any lo H n L F w' (h.heap.below hb) hn i)
  have HRK := Lib.hid (fun w' (hb : Below w.heap.size w w') => rkey_any lo r n (srt L) v w' (h.ref.below hb) (by omega) i)
  have HLN := Lib.hid (fun w' (hb : Below w.heap.size w w') => len_any lo H n L F w' (h.heap.below hb))
  have HCL := Lib.hid (fun w' (hb : Below w.heap.size w w') => (h.ref.below hb).c_l)
  have HSL := Lib.hid hsl
  rw [hkey] at HRK
  obtain ⟨q, c, rfl⟩ := h.ref.shape
  clear h hgl hkey hsl
  go_enter Tryd.func18, Tryd.ntmps18
  go_wp2_with fail
  refine HLS.out.mono ?_
  rintro e w1 ⟨⟨a, b, z, rfl, hl⟩, hb1⟩
  obtain ⟨e1, e2, e3⟩ := least_srt hl
  clear hl
  go_wp2_with fail
  refine (HRL.out _ hb1).mono ?_
  rintro e w2 ⟨rfl, hb2⟩
  rw [← e1, ← e2, ← e3]
  clear e1 e2 e3
  have hb2' := hb1.trans (hb2.mono hb1.size)
  clear hb1 hb2
  go_wp2_with fail
  refine (HKY.out _ hb2').mono ?_
  rintro e w3 ⟨rfl, rfl⟩
  go_wp2_with fail
  refine (HRK.out _ hb2').mono ?_
  rintro e w4 ⟨rfl, hb4⟩
  have hb4' := hb2'.trans (hb4.mono hb2'.size)
  have hbd : Below w.heap.size w w4.drew := hb4'.drew
  have HB := Lib.hid hb4'
  clear hb2' hb4
  have c1 := HCL.out _ hb4'
  obtain ⟨kk, hkk⟩ : ∃ kk, kk = (keyOf L i).getD 0 := ⟨_, rfl⟩
  obtain ⟨ks, hks⟩ : ∃ ks, ks = (keyOf L i).isSome := ⟨_, rfl⟩
  rw [← hkk, ← hks]
  clear hkk hks hb4'
  have q1 : (a == a) = true := by simp
  have q2 : (b == b) = true := by simp
  have q3 : (z == z) = true := by simp
  have q4 : (kk == kk) = true := by simp
  have q5 : (ks == ks) = true := by simp
  have q6 : ((L.length : Int) == (((srt L).length : Nat) : Int)) = true := by rw [HSL.out]; simp
  have HL2 := Lib.hid (fun w' (h : w'.cell? ⟨r, 1, none⟩ = some (.slice q (srt L).length c) ∧ Below w.heap.size w w') =>
    (HLN.out w' h.2).mono fun e w2 h2 => (⟨h2.1, h2.2 ▸ h⟩ : e = .returned (.int .i64 L.length) ∧ (w2.cell? ⟨r, 1, none⟩ = some (.slice q (srt L).length c) ∧ Below w.heap.size w w2)))
  go_wp2
  go_region_held3 (fun w' => w'.cell? ⟨r, 1, none⟩ = some (.slice q (srt L).length c) ∧ Below w.heap.size w w') (go_keep) (first | (go_at_call 42; refine (HL2.out _ ?_).mono ?_; (simp [*]); rintro e w3 ⟨rfl, n1, n2⟩))
  go_wp2
  go_ret
  exact ⟨by simp, by assumption⟩

end Hp
end Go.Proofs.YtkmgpajodbadmaaDoor
