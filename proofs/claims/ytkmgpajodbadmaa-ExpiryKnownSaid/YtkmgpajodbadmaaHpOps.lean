/- A heap: Drop, Set. -/
import Derived.Test.YtkmgpajodbadmaaHpHeap
namespace Go.Proofs.Ytkmgpajodbadmaa
open Go.RowKit
set_option linter.unusedVariables false
namespace Hp

theorem perm_without {L L' : List It} {n : Nat} {x : It} (hG : Good L n) (h : List.Perm (x :: L') L) : List.Perm L' (without L x.1) := by
  have h1 := without_cons (hG.perm h)
  have h2 := without_perm h x.1
  rw [h1] at h2; exact h2

/-- What Drop leaves. -/
def DropPost (lo H n : Nat) (L : List It) (F : Nat → Prop) (i : Int) (w : World) (e : Ending) (w' : World) : Prop :=
  e = .returned (.bool (keyOf L i).isSome) ∧ ∃ L' F', HeapAt lo H n L' F' w' ∧ List.Perm L' (without L i) ∧ Only F w w' ∧ ∀ k, F' k → F k ∨ w.heap.size ≤ k

set_option maxHeartbeats 2000000 in
theorem hdrop_any (lo H n : Nat) (L : List It) (F : Nat → Prop) (w : World) (h : HeapAt lo H n L F w) (hn : (n : Int) ≤ 65536) (i : Int) :
    Calls Try.prog 17 #[.pointer (some ⟨H, 0, none⟩), .int .i64 i] w (DropPost lo H n L F i w) := by
  have HH := Lib.hid h
  obtain ⟨hb, ga, ca, v, ats, hq, hG, hP, hO, hF⟩ := h
  have HP := Lib.hid (place_any lo H hb ga ca n v L ats w hq hG hP hn i)
  by_cases hex : ∀ x ∈ L, x.1 ≠ i
  · have HR : Hid (DropPost lo H n L F i w (.returned (.bool false)) w) :=
      ⟨by rw [keyOf_none hex]; rfl, L, F, HH.out, by rw [without_none hex], Only.refl _ _, fun k hk => .inl hk⟩
    have HE := Lib.hid hex
    clear hex hq hG hP hO hF
    go_enter Try.func17, Try.ntmps17
    go_wp2_with fail
    refine HP.out.mono ?_
    rintro e w1 ⟨p, rfl, hp, rfl⟩
    rcases hp with ⟨k, h1, h2, -⟩ | ⟨-, rfl⟩
    · exact absurd h2 (HE.out _ (g_mem h1))
    · go_wp2
      go_ret
      exact HR.out
  · have HE := Lib.hid hex
    have HG := Lib.hid hG; have HPO := Lib.hid hP; have HO := Lib.hid hO; have HF := Lib.hid hF; have HQ := Lib.hid hq
    have c1 := hq.c_at
    clear hex hq hG hP hO hF HH
    go_enter Try.func17, Try.ntmps17
    go_wp2_with fail
    refine HP.out.mono ?_
    rintro e w1 ⟨p, rfl, hp, rfl⟩
    rcases hp with ⟨k, h1, h2, rfl⟩ | ⟨h, -⟩
    · have hr := HG.out.range _ (g_mem h1)
      obtain ⟨m, rfl⟩ : ∃ m : Nat, i = m := ⟨i.toNat, by omega⟩
      have hal := HPO.out.len
      have hm : m < ats.length := by omega
      obtain ⟨u, c2, c3⟩ := HQ.out.at_cell hm
      have hq2 := HQ.out.set_at hm (-1)
      have hgm : (g L k).1.toNat = m := by omega
      have hlen := HG.out.len
      have hpos : Pos (ats.set m (-1)) L n k := ⟨by rw [List.length_set]; exact hal, fun j hj hjk => by
          have hrj := HG.out.range _ (g_mem hj)
          rw [getD_set hm, if_neg (fun e => hjk (HG.out.inj hj h1 (by omega)))]
          exact HPO.out.here j hj (by omega), fun j hj hno => by
          have := hno k h1
          rw [getD_set hm, if_neg (by omega)]; exact HPO.out.gone j hj hno⟩
      have hgone : (ats.set m (-1)).getD (g L k).1.toNat 0 = -1 := by rw [hgm, getD_set hm, if_pos rfl]
      have HD := Lib.hid (drop_any lo H hb ga ca v L _ n k _ hq2 HG.out hpos h1 hgone (by omega))
      have HON : Hid (Only F w (w.setCell ⟨ga, m, none⟩ (.int .i64 (-1)))) := (Only.refl _ _).setCell (p := ⟨ga, m, none⟩) (fun _ => (HF.out ga).2 (.inr (.inr (.inl rfl)))) _
      have HKEY : Hid (keyOf L (m : Int) = some (g L k).2) := by
        show _ = _
        rw [← h2]; exact keyOf_some HG.out (g_mem h1)
      have HGK := Lib.hid h2
      have b1 : (0 : Int) ≤ (m : Int) := by omega
      have b2 : (m : Int) < (ats.length : Int) := by omega
      have b3 : (0 : Int) ≤ (k : Int) := by omega
      clear hr hal hm hq2 hgm hlen hpos hgone h1 h2
      go_wp2_with fail
      refine HD.out.mono ?_
      rintro e w2 ⟨⟨u2, rfl⟩, v', L', az, hq', hp', hpos', hord', hon', hnew'⟩
      have HR : Hid (DropPost lo H n L F (m : Int) w (.returned (.bool true)) w2) := by
        refine ⟨by rw [HKEY.out]; rfl, L', fun j => j = hb ∨ Ft H ga v' j, ⟨hb, ga, ca, v', az, hq', (HG.out.perm hp').tail, hpos', hord' HO.out, fun j => Iff.rfl⟩, ?_, HON.out.trans hon' (fun j _ hj => (HF.out j).2 (.inr hj)), fun j hj => .inl ((HF.out j).2 ?_)⟩
        · have := perm_without HG.out hp'
          rw [HGK.out] at this; exact this
        · rcases hj with e | e | e | e
          · exact .inl e
          · exact .inr (.inl e)
          · exact .inr (.inr (.inl e))
          · exact .inr (.inr (.inr (hnew' j e)))
      clear hq' hp' hpos' hord' hon' hnew'
      go_wp2
      go_ret
      exact HR.out
    · exact absurd h HE.out

/-- What Set leaves. -/
def SetPost (lo H n : Nat) (L : List It) (F : Nat → Prop) (i key : Int) (w : World) (e : Ending) (w' : World) : Prop :=
  if 0 ≤ i ∧ i < (n : Int) then e = .returned .nilIface ∧ ∃ L' F', HeapAt lo H n L' F' w' ∧ List.Perm L' ((i, key) :: without L i) ∧ Only F w w' ∧ ∀ k, F' k → F k ∨ w.heap.size ≤ k
  else e = .returned (.iface 78 (.int .i64 1)) ∧ w = w'

set_option maxHeartbeats 2000000 in
theorem hset_any (lo H n : Nat) (L : List It) (F : Nat → Prop) (w : World) (h : HeapAt lo H n L F w) (hn : (n : Int) ≤ 65536) (hlo : lo ≤ w.heap.size) (i key : Int) :
    Calls Try.prog 16 #[.pointer (some ⟨H, 0, none⟩), .int .i64 i, .int .i64 key] w (SetPost lo H n L F i key w) := by
  have HH := Lib.hid h
  have HD := Lib.hid (hdrop_any lo H n L F w h hn i)
  obtain ⟨hb, ga, ca, v, ats, hq, hG, hP, hO, hF⟩ := h
  have c1 := hq.c_at
  have hal : ats.length = n := hP.len
  rw [hal] at c1
  clear hq hG hP hO hF hal
  by_cases h0 : i < 0
  · have HR : Hid (SetPost lo H n L F i key w (.returned (.iface 78 (.int .i64 1))) w) := by
      unfold SetPost; rw [if_neg (by omega)]; exact ⟨rfl, rfl⟩
    go_enter Try.func16, Try.ntmps16
    go_wp2
    go_ret
    exact HR.out
  · have h0' : (0 : Int) ≤ i := by omega
    by_cases h1 : i < (n : Int)
    · have HI : Hid (0 ≤ i ∧ i < (n : Int)) := ⟨h0', h1⟩
      have HLO := Lib.hid hlo; have HN := Lib.hid hn
      clear hlo hn h0
      go_enter Try.func16, Try.ntmps16
      go_wp2_with fail
      refine HD.out.mono ?_
      rintro e w1 ⟨rfl, L1, F1, hh1, hp1, ho1, hn1⟩
      have hsz := ho1.size
      obtain ⟨hb1, ga1, ca1, v1, az1, hq1, hG1, hP1, hO1, hF1⟩ := hh1
      have hne : ∀ y ∈ L1, y.1 ≠ i := fun y hy e => by
        have := (List.mem_filter.1 (hp1.mem_iff.1 hy)).2
        simp [e] at this
      have hG2 : Good (L1 ++ [(i, key)]) n := (hG1.cons (x := (i, key)) h0' h1 hne).perm (List.perm_append_comm (l₁ := L1) (l₂ := [(i, key)]))
      have hlen := hG1.len
      have hP2 : Pos az1 (L1 ++ [(i, key)]) n L1.length := by
        have hg : ∀ k, k < L1.length → g (L1 ++ [(i, key)]) k = g L1 k := fun k hk => by
          unfold g
          rw [List.getD_eq_getElem?_getD, List.getD_eq_getElem?_getD, List.getElem?_append_left hk]
        refine ⟨hP1.len, fun k hk hk2 => ?_, fun j hj hno => hP1.gone j hj (fun k hk => ?_)⟩
        · rw [List.length_append, List.length_singleton] at hk
          rw [hg k (by omega)]; exact hP1.here k (by omega) (by omega)
        · have := hno k (by rw [List.length_append]; omega)
          rw [hg k hk] at this; exact this
      have HPUT := Lib.hid (put_any lo H hb1 ga1 ca1 v1 L1 az1 (i, key) n w1 hq1 hG2 hP2 (by have := HN.out; omega) (Nat.le_trans HLO.out hsz))
      have HG2 := Lib.hid hG2; have HO1 := Lib.hid hO1; have HON1 := Lib.hid ho1; have HP1 := Lib.hid hp1; have HF1 := Lib.hid hF1; have HN1 := Lib.hid hn1
      have HSZ := Lib.hid hsz
      clear hq1 hG1 hP1 hO1 hF1 hne hG2 hP2 hlen hp1 ho1 hn1 hsz
      go_wp2_with fail
      refine HPUT.out.mono ?_
      rintro e w2 ⟨⟨u2, rfl⟩, v2, L2, az2, hq2, hp2, hpos2, hord2, hon2, hnew2⟩
      have HR : Hid (SetPost lo H n L F i key w (.returned .nilIface) w2) := by
        show SetPost _ _ _ _ _ _ _ _ _ _
        unfold SetPost
        rw [if_pos HI.out]
        refine ⟨rfl, L2, fun j => j = hb1 ∨ Ft H ga1 v2 j, ⟨hb1, ga1, ca1, v2, az2, hq2, HG2.out.perm hp2, hpos2, hord2 HO1.out, fun j => Iff.rfl⟩, ?_, ?_, ?_⟩
        · refine hp2.trans ((List.perm_append_comm (l₁ := L1) (l₂ := [(i, key)])).trans ?_)
          exact List.Perm.cons _ HP1.out
        · refine HON1.out.trans hon2 (fun j hj hf => ?_)
          rcases HN1.out j ((HF1.out j).2 (.inr hf)) with e | e
          · exact e
          · omega
        · intro j hj
          have hjj : F1 j ∨ w1.heap.size ≤ j := by
            rcases hj with e | e | e | e
            · exact .inl ((HF1.out j).2 (.inl e))
            · exact .inl ((HF1.out j).2 (.inr (.inl e)))
            · exact .inl ((HF1.out j).2 (.inr (.inr (.inl e))))
            · rcases hnew2 j e with e | e
              · exact .inl ((HF1.out j).2 (.inr (.inr (.inr e))))
              · exact .inr e
          rcases hjj with e | e
          · exact HN1.out j e
          · right; have := HSZ.out; omega
      clear hq2 hp2 hpos2 hord2 hon2 hnew2
      go_wp2
      go_ret
      exact HR.out
    · have h1' : (n : Int) ≤ i := by omega
      have HR : Hid (SetPost lo H n L F i key w (.returned (.iface 78 (.int .i64 1))) w) := by
        unfold SetPost; rw [if_neg (by omega)]; exact ⟨rfl, rfl⟩
      clear h1 h0
      go_enter Try.func16, Try.ntmps16
      go_wp2
      go_ret
      exact HR.out

end Hp
end Go.Proofs.Ytkmgpajodbadmaa
