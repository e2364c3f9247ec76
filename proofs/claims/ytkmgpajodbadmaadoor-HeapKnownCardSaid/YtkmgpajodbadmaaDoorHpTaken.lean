/- The law HeapTaken. -/
import Derived.Test.YtkmgpajodbadmaaDoorHpFill
import Derived.Test.YtkmgpajodbadmaaDoorHpAll
import Derived.Test.YtkmgpajodbadmaaDoorInts
import Derived.Deep.AppendLies
namespace Go.Proofs.YtkmgpajodbadmaaDoor
open Go.RowKit Go.Proofs.Ar
set_option linter.unusedVariables false
namespace Hp

theorem pairs_any (Bs m lo : Nat) (zs : List It) (w : World) (hit : ItAt lo Bs zs w) (hl : (zs.length : Int) ≤ 1048575) (hm : (m : Int) ≤ 1048575) :
    Calls Tryd.prog 15 #[.func (.func 33) #[] #[.pointer (some ⟨Bs, 0, none⟩)], .int .i64 m] w fun e w' => ∃ v, e = .returned v ∧ w'.ownsRow w.heap.size 3 1 v ((zs.take m).length * 2) ((flat (zs.take m)).map vJ) ∧ Below w.heap.size w w' := by
  obtain ⟨_, sv, h1, h2, _⟩ := hit
  exact callsIn_wide.1 (pairs_in Fence.wide 3 trivial trivial rfl (by omega) Bs sv zs hl m hm w h1 h2)

theorem flat_at : ∀ (L : List It) (k : Nat), k < L.length → (flat L)[k * 2]? = some (g L k).1 ∧ (flat L)[k * 2 + 1]? = some (g L k).2
  | a :: r, 0, _ => ⟨rfl, rfl⟩
  | a :: r, k + 1, h => by
    have ih := flat_at r k (by simpa using h)
    have e : flat (a :: r) = a.1 :: a.2 :: flat r := rfl
    rw [e, show (k + 1) * 2 = k * 2 + 1 + 1 by omega]
    exact ⟨by simpa [g] using ih.1, by simpa [g] using ih.2⟩

theorem drop_g {S : List It} {k : Nat} (h : k < S.length) : S.drop k = g S k :: S.drop (k + 1) := by
  rw [List.drop_eq_getElem_cons h, g_eq h]
theorem take_least {S L : List It} {k : Nat} (hS : S.Pairwise fun x y => ahd y x = false) (h : k < S.length) (hp : L.Perm (S.drop k)) {i key : Int} {b : Bool} (hl : LeastIs L i key b) : i = (g S k).1 ∧ key = (g S k).2 ∧ b = true := by
  have hx : g S k ∈ L := hp.mem_iff.2 (by rw [drop_g h]; exact List.mem_cons_self)
  rcases hl with ⟨h1, -⟩ | ⟨h1, h2, h3⟩
  · rw [h1] at hx; cases hx
  · have h4 := hp.mem_iff.1 h2
    rw [drop_g h] at h4
    have e : g S k = (i, key) := by
      rcases List.mem_cons.1 h4 with e | e
      · exact e.symm
      · have hd := hS.drop (i := k)
        rw [drop_g h] at hd
        exact eq_of_no (h3 _ hx) ((List.pairwise_cons.1 hd).1 _ e)
    exact ⟨by rw [e], by rw [e], h1⟩
theorem good_drop {S : List It} {n : Nat} (h : Good S n) (k : Nat) : Good (S.drop k) n :=
  ⟨h.nodup.sublist ((List.drop_sublist k S).map _), fun x hx => h.range x (List.mem_of_mem_drop hx)⟩
theorem take_next {S L L' : List It} {k n : Nat} (hG : Good S n) (h : k < S.length) (hp : L.Perm (S.drop k)) (hp' : L'.Perm (without L (g S k).1)) : L'.Perm (S.drop (k + 1)) := by
  have h1 := without_perm hp (g S k).1
  have hg := good_drop hG k
  rw [drop_g h] at h1 hg
  rw [without_cons hg] at h1
  exact hp'.trans h1
theorem take_key {S L : List It} {k n : Nat} (hG : Good L n) (h : k < S.length) (hp : L.Perm (S.drop k)) : keyOf L (g S k).1 = some (g S k).2 :=
  keyOf_some hG (hp.mem_iff.2 (by rw [drop_g h]; exact List.mem_cons_self))
theorem key_gone {L L' : List It} {i : Int} (hp' : L'.Perm (without L i)) : keyOf L' i = none :=
  keyOf_none fun x hx e => by
    have := (List.mem_filter.1 (hp'.mem_iff.1 hx)).2
    simp [e] at this
theorem take_order {S : List It} {j n : Nat} (hS : S.Pairwise fun x y => ahd y x = false) (hG : Good S n) (h : j + 1 < S.length) : (g S j).2 < (g S (j + 1)).2 ∨ ((g S (j + 1)).2 = (g S j).2 ∧ (g S j).1 < (g S (j + 1)).1) := by
  have h1 := List.pairwise_iff_getElem.1 hS j (j + 1) (by omega) h (by omega)
  rw [← g_eq h, ← g_eq (show j < S.length by omega)] at h1
  rw [ahd_no] at h1
  have h2 : (g S j).1 ≠ (g S (j + 1)).1 := fun e => by have := hG.inj (by omega) h e; omega
  omega

/-- A list of the call's own, behind a drop. -/
theorem own_only {F F' : Nat → Prop} {w w' : World} (ho : Only F w w') (hn : ∀ k, F' k → F k ∨ w.heap.size ≤ k) {base e size n : Nat} {v : Value} {xs : List Value} (hr : w.ownsRow base e size v n xs) (hf : ∀ k, v.ownBlock = some k → ¬ F k) :
    w'.ownsRow base e size v n xs ∧ ∀ k, v.ownBlock = some k → ¬ F' k :=
  ⟨ho.row hr hf, fun k hk hF => by
    rcases hn k hF with h | h
    · exact hf k hk h
    · have := (hr.lt k hk).2; omega⟩

def TakeRel (S : List It) (lo H B1 : Nat) (w0 : World) (all got i : Value) (wr : World) : Prop :=
  ∃ (k : Nat) (L : List It) (F : Nat → Prop), k ≤ S.length ∧ i = .int .i64 k ∧ HeapAt lo H 64 L F wr ∧ List.Perm L (S.drop k) ∧ wr.ownsRow B1 3 1 got (k * 2) ((flat (S.take k)).map vJ) ∧ (∀ b, got.ownBlock = some b → ¬ F b) ∧
    wr.ownsRow lo 3 1 all (S.length * 2) ((flat S).map vJ) ∧ (∀ b, all.ownBlock = some b → ¬ F b ∧ b < B1) ∧ B1 ≤ wr.heap.size ∧ Below lo w0 wr

/-- The round's end: behind the append. -/
theorem TakeRel.next {S : List It} {lo H B1 k : Nat} {w0 w5 w7 : World} {all got v' : Value} {L : List It} {F : Nat → Prop} {o : Obj} (hk : k < S.length) (hh : HeapAt lo H 64 L F w5) (hp : List.Perm L (S.drop (k + 1))) (hgr : w5.ownsRow B1 3 1 got (k * 2) ((flat (S.take k)).map vJ)) (hgf : ∀ b, got.ownBlock = some b → ¬ F b)
    (har : w5.ownsRow lo 3 1 all (S.length * 2) ((flat S).map vJ)) (haf : ∀ b, all.ownBlock = some b → ¬ F b ∧ b < B1) (hsz : B1 ≤ w5.heap.size) (hlo : lo ≤ B1) (hbl : Below lo w0 w5)
    (hown : w7.ownsRow B1 3 1 v' (k * 2 + 2) ((flat (S.take k)).map vJ ++ [.int .i64 (g S k).1, .int .i64 (g S k).2])) (hgrow : (w5.alloc o).grownBy w7 got.ownBlock) (hlie : ∀ b, v'.ownBlock = some b → got.ownBlock = some b ∨ b = w5.heap.size + 1) :
    TakeRel S lo H B1 w0 all v' (.int .i64 (k + 1 : Nat)) w7 := by
  have hon : Only (fun b => got.ownBlock = some b) w5 w7 := ((Only.refl _ w5).alloc o).grown hgrow (fun b _ e => e)
  refine ⟨k + 1, L, F, hk, rfl, hh.only hon (fun b hb e => hgf b e hb), hp, ?_, ?_, hon.row har (fun b e e2 => ?_), haf, Nat.le_trans hsz hon.size, hbl.trans (hon.below (Nat.le_trans hlo hsz) (fun b hb e => ?_))⟩
  · have e : (flat (S.take (k + 1))).map vJ = (flat (S.take k)).map vJ ++ [.int .i64 (g S k).1, .int .i64 (g S k).2] := by
      rw [take_g hk, flat_snoc]; simp [vJ]
    rw [e, show (k + 1) * 2 = k * 2 + 2 by omega]; exact hown
  · intro b e hF
    have h1 := (hh.lt b hF).2
    rcases hlie b e with e2 | e2
    · exact hgf b e2 hF
    · omega
  · have h1 := (haf b e).2
    have h2 := (hgr.lt b e2).1
    omega
  · have h2 := (hgr.lt b e).1
    omega

set_option maxRecDepth 100000 in
set_option maxHeartbeats 4000000 in
theorem heapTaken_core (v : Value) (ps : List It) (hl : (ps.length : Int) ≤ 9223372036854775807) (w : World) (ht : PairArg w v ps) :
    Calls Tryd.prog 44 #[v] w fun e w' => e = .returned (.bool true) ∧ Below w.heap.size w w' := by
  obtain ⟨i0, hi, hz0, hz1, hz2⟩ := info_parts hpj_info
  have HW := Lib.hid (fun w' => hworks_any w')
  have HFL := Lib.hid (fun w' (hb : Below w.heap.size w w') => filled_any v ps hl w' (ht.below hb))
  obtain ⟨q, c, rfl, h1⟩ := ht
  clear h1
  by_cases hbig : ps.length ≤ 1000
  · have b0 : (ps.length : Int) ≤ 1000 := by omega
    clear hbig hl
    go_enter Tryd.func44, Tryd.ntmps44
    go_wp2_with fail
    refine (HW.out _).mono ?_
    rintro e w1 ⟨rfl, hb1⟩
    go_wp2_with fail
    refine (HFL.out _ hb1).mono ?_
    rintro e w2 ⟨H, F0, L0, rfl, hh2, hp2, hb2⟩
    have HA := Lib.hid (all_any _ H 64 L0 F0 w2 hh2 (by omega))
    go_wp2_with fail
    refine HA.out.mono ?_
    rintro e w3 ⟨Bs, rfl, hit, hb3⟩
    have hlen0 := hh2.good.len
    have hsl : (srt L0).length = L0.length := srt_len L0
    have HP := Lib.hid (pairs_any Bs 64 w2.heap.size (srt L0) w3 hit (by omega) (by omega))
    rw [List.take_of_length_le (show (srt L0).length ≤ 64 by omega)] at HP
    go_wp2_with fail
    refine HP.out.mono ?_
    rintro e w4 ⟨all, rfl, har, hb4⟩
    have hb24 : Below w2.heap.size w2 w4 := hb3.trans (hb4.mono hb3.size)
    have hh4 : HeapAt w1.heap.size H 64 L0 F0 w4 := hh2.below hb24
    have HLE := Lib.hid (len_any _ H 64 L0 F0 w4 hh4)
    rw [← hsl] at HLE
    go_wp2_with fail
    refine HLE.out.mono ?_
    rintro e w4' ⟨rfl, rfl⟩
    have hallb : ∀ b, all.ownBlock = some b → ¬ F0 b ∧ b < w4.heap.size := fun b e => ⟨fun hF => by
      have h1 := (har.lt b e).1
      have h2 := (hh2.lt b hF).2
      have h3 := hb3.size
      omega, (har.lt b e).2⟩
    have hsz13 : w1.heap.size ≤ w3.heap.size := Nat.le_trans hb2.size hb3.size
    have hw4 : Below w1.heap.size w1 w4 := (hb2).trans (hb24.mono hb2.size)
    obtain ⟨S, hS⟩ : ∃ S, S = srt L0 := ⟨_, rfl⟩
    have hso : S.Pairwise fun x y => ahd y x = false := by rw [hS]; exact srt_sorted L0
    have hgd : Good S 64 := by rw [hS]; exact hh2.good.perm (srt_perm L0)
    have hst : TakeRel S w1.heap.size H w4.heap.size w1 all (.slice none 0 0) (.int .i64 (0 : Nat)) w4 :=
      ⟨0, L0, F0, Nat.zero_le _, rfl, hh4, by rw [hS]; exact (srt_perm L0).symm, World.ownsRow_nil _ _ _ _, (fun b e => by simp [Value.ownBlock] at e), by rw [hS]; exact Ut.own_base har hsz13, hallb, Nat.le_refl _, hw4⟩
    have hlo : w1.heap.size ≤ w4.heap.size := hw4.size
    have hs64 : S.length ≤ 64 := by rw [hS, hsl]; exact hlen0
    rw [← hS]
    have HSO := Lib.hid hso; have HGD := Lib.hid hgd; have HST := Lib.hid hst; have HB1 := Lib.hid hb1; have HLO := Lib.hid hlo; have HS64 := Lib.hid hs64
    clear hso hgd hst hb1 hlo hs64 hS hw4 hsz13 hallb hh4 HLE hb24 hb4 har HP hsl hlen0 hb3 hit HA hb2 hp2 hh2
    go_wp2
    go_loopw [5, 7] (fun got i wr => TakeRel S w1.heap.size H w4.heap.size w1 all got i wr) (fun _ i _ => S.length - (intOf i).toNat)
    case atStart => exact HST.out
    case round =>
      obtain ⟨k, L, F, hk, rfl, hh, hp, hgr, hgf, har, haf, hsz, hbl⟩ := hrel
      by_cases h : k < S.length
      · have HRD := Lib.hid h
        have hk64 : k < 64 := Nat.lt_of_lt_of_le h HS64.out
        obtain ⟨x, hx⟩ : ∃ x, x = g S k := ⟨_, rfl⟩
        have HLS := Lib.hid (least_any _ H 64 L F wr hh)
        have hkey := take_key hh.good h hp
        rw [← hx] at hkey
        have HKY := Lib.hid (fun w' (hb : Below wr.heap.size wr w') => key_any _ H 64 L F w' (hh.below hb) (by omega) x.1)
        rw [hkey] at HKY
        have HDR := Lib.hid (fun w' (hb : Below wr.heap.size wr w') => hdrop_any _ H 64 L F w' (hh.below hb) (by omega) x.1)
        have b1 : (k : Int) < (S.length : Int) := by omega
        have HKEY := Lib.hid hkey; have HX := Lib.hid hx
        obtain ⟨qg, rg, rfl⟩ := own_any_shape hgr
        have HP := Lib.hid hp; have HGR := Lib.hid hgr; have HGF := Lib.hid hgf; have HAR := Lib.hid har; have HAF := Lib.hid haf; have HSZ := Lib.hid hsz; have HBL := Lib.hid hbl
        have HK64 := Lib.hid hk64; have HLT := Lib.hid hh.lt
        clear hh hp hgr hgf har haf hsz hbl hkey hx hk h hk64
        go_wp2_with fail
        refine HLS.out.mono ?_
        rintro e w5 ⟨⟨i, key, b, rfl, hls⟩, hb5⟩
        obtain ⟨rfl, rfl, rfl⟩ := take_least HSO.out HRD.out HP.out hls
        rw [← HX.out]
        clear hls
        go_wp2_with fail
        refine (HKY.out _ hb5).mono ?_
        rintro e w5' ⟨rfl, rfl⟩
        have q1 : (x.2 != x.2) = false := by simp
        go_wp2_with fail
        refine (HDR.out _ hb5).mono ?_
        rintro e w6 ⟨rfl, L1, F1, hh1, hp1, ho1, hn1⟩
        rw [HKEY.out]
        simp only [Option.isSome]
        have hg1 := own_only ho1 hn1 (Ut.own_below HGR.out hb5) HGF.out
        have ha1 := own_only ho1 hn1 (Ut.own_below HAR.out hb5) (fun b e => (HAF.out b e).1)
        have hgone := key_gone hp1
        have HD2 := Lib.hid (hdrop_any _ H 64 L1 F1 w6 hh1 (by omega) x.1)
        have hpn := hp1
        rw [HX.out] at hpn
        have hnx := take_next HGD.out HRD.out HP.out hpn
        have hl2 := hh1.lt
        have hbl6 : Below w1.heap.size w5 w6 := ho1.below (Nat.le_trans HLO.out (Nat.le_trans HSZ.out hb5.size)) (fun i hi hf => by have := (HLT.out i hf).1; omega)
        clear hp1
        have HG1 := Lib.hid hg1; have HA1 := Lib.hid ha1; have HNX := Lib.hid hnx; have HGN := Lib.hid hgone; have HO1 := Lib.hid ho1; have HH1 := Lib.hid hh1
        clear hg1 ha1 hnx hgone ho1 hh1 hpn hn1 hl2
        go_wp2_with fail
        refine HD2.out.mono ?_
        rintro e w7 ⟨rfl, L2, F2, hh2, hp2, ho2, hn2⟩
        rw [HGN.out]
        simp only [Option.isSome]
        have hbl7 : Below w1.heap.size w6 w7 := ho2.below (Nat.le_trans HLO.out (Nat.le_trans HSZ.out (Nat.le_trans hb5.size hbl6.size))) (fun i hi hf => by have := (HH1.out.lt i hf).1; omega)
        have hbl17 : Below w1.heap.size w1 w7 := (HBL.out.trans (hb5.mono (Nat.le_trans HLO.out HSZ.out))).trans (hbl6.trans hbl7)
        have hsz7 : w4.heap.size ≤ w7.heap.size := Nat.le_trans HSZ.out (Nat.le_trans hb5.size (Nat.le_trans hbl6.size hbl7.size))
        have hg2 := own_only ho2 hn2 HG1.out.1 HG1.out.2
        have ha2 := own_only ho2 hn2 HA1.out.1 HA1.out.2
        have hnx2 : L2.Perm (S.drop (k + 1)) := by
          have e : without L1 x.1 = L1 := without_none (fun y hy e => by
            have h1 := keyOf_some HH1.out.good hy
            rw [e, HGN.out] at h1; cases h1)
          rw [e] at hp2
          exact hp2.trans HNX.out
        have HEND : Hid (∀ (g' cap' : Nat) (w8 : World), w8.ownsRow w4.heap.size 3 1 (.slice (some ⟨g', 0, none⟩) (k * 2 + 2) cap') (k * 2 + 2) ((flat (S.take k)).map vJ ++ [.int .i64 x.1, .int .i64 x.2]) → ((w7.alloc (.cells #[.int .i64 x.1, .int .i64 x.2] 3)).grownBy w8 (Value.slice qg (k * 2) rg).ownBlock) → ((Value.slice qg (k * 2) rg).ownBlock = some g' ∨ g' = w7.heap.size + 1) → TakeRel S w1.heap.size H w4.heap.size w1 all (.slice (some ⟨g', 0, none⟩) (k * 2 + 2) cap') (.int .i64 (k + 1 : Nat)) w8) := fun g' cap' w8 h1 h2 h3 => by
          rw [HX.out] at h1
          exact TakeRel.next HRD.out hh2 hnx2 hg2.1 hg2.2 ha2.1 (fun b e => ⟨ha2.2 b e, (HAF.out b e).2⟩) hsz7 HLO.out hbl17 h1 h2 (fun b e => by
            obtain rfl : g' = b := by simpa [Value.ownBlock] using e
            exact h3)
        have hrow := hg2.1
        have k1 : k * 2 + 2 ≤ maxLen := by have := HK64.out; unfold maxLen; omega
        have k2 : (k * 2 + 2) * 8 ≤ 140737488355328 := by have := HK64.out; omega
        have k3 : w4.heap.size ≤ (w7.alloc (.cells #[.int .i64 x.1, .int .i64 x.2] 3)).heap.size := by simp; omega
        clear hh2 hnx2 hg2 ha2 hsz7 hbl17 hbl7 hbl6 ho2 hn2 hp2 HD2 hb5
        have HROW := Lib.hid hrow
        clear hrow
        have bk : (0 : Int) ≤ (k : Int) := by omega
        have vk : IntKind.i64.wrap ((k : Int) + 1) = ((k + 1 : Nat) : Int) := by rw [IntWalk.i64_in _ (by have := HK64.out; omega)]; rfl
        by_cases hk0 : k = 0
        · have bk0 : (k : Int) ≤ 0 := by omega
          go_wp2_with (at_builtin; refine wpList_append_lies _ rfl _ _ 35 rfl w4.heap.size 3 i0 (.int .i64 0) 1 8 Tryd.underlying35 hi hz0 hz1 hz2 rfl (by decide) _ _ _ rfl (HROW.out.alloc _) ⟨w7.heap.size, 0, none⟩ 2 2 [.int .i64 x.1, .int .i64 x.2] rfl rfl (news_two _ [.int .i64 x.1, .int .i64 x.2] _) (by intro u hu; simp at hu; rcases hu with rfl | rfl <;> rfl) (by decide) k1 k2 k3 (w7.heap.size + 1) (by simp) ?_; intro g' cap' w8 hown' hgrow hlie hlt)
          have HU := Lib.hid (HEND.out g' cap' w8 hown' hgrow hlie)
          clear hown' hgrow hlie hlt
          subst hk0
          exact ⟨by simpa using HU.out, by simp [intOf]; omega⟩
        · obtain ⟨j, hj⟩ : ∃ j, k = j + 1 := ⟨k - 1, by omega⟩
          have hord := take_order (j := j) HSO.out HGD.out (by have := HRD.out; omega)
          rw [← hj, ← HX.out] at hord
          obtain ⟨y, hy⟩ : ∃ y, y = g S j := ⟨_, rfl⟩
          rw [← hy] at hord
          have hjl : j < (S.take k).length := by have := HRD.out; rw [List.length_take]; omega
          obtain ⟨gg, cc, hsh, -, -, -, -, hcells⟩ := Ut.own_cells HROW.out (by omega)
          obtain ⟨rfl, rfl⟩ : qg = some ⟨gg, 0, none⟩ ∧ rg = cc := by simpa using hsh
          have hgj : g (S.take k) j = y := by
            rw [hy, g_eq hjl, g_eq (by have := HRD.out; omega)]; simp
          have hfa := flat_at _ j hjl
          rw [hgj] at hfa
          have m1 : w7.cell? ⟨gg, j * 2, none⟩ = some (.int .i64 y.1) := by rw [hcells _ (by omega)]; simp [hfa.1, vJ]
          have m2 : w7.cell? ⟨gg, j * 2 + 1, none⟩ = some (.int .i64 y.2) := by rw [hcells _ (by omega)]; simp [hfa.2, vJ]
          obtain ⟨t, ht⟩ : ∃ t, t = j * 2 := ⟨_, rfl⟩
          rw [← ht] at m1 m2
          obtain ⟨K, hK⟩ : ∃ K, K = k * 2 := ⟨_, rfl⟩
          have u1 : IntKind.i64.wrap (2 * (k : Int)) = 2 * (k : Int) := IntWalk.i64_in _ (by have := HK64.out; omega)
          have u2 : IntKind.i64.wrap (2 * (k : Int) - 2) = ((t : Nat) : Int) := by rw [IntWalk.i64_in _ (by have := HK64.out; omega)]; omega
          have u3 : IntKind.i64.wrap (2 * (k : Int) - 1) = ((t + 1 : Nat) : Int) := by rw [IntWalk.i64_in _ (by have := HK64.out; omega)]; omega
          have t1 : t < K := by omega
          have t2 : t + 1 < K := by omega
          have t3 : 0 < k := by omega
          rw [← hK] at HEND k1 k2 HROW ⊢
          clear hK hgj hfa hsh hcells hjl hy hj ht
          rcases hord with ho | ⟨ho, ho3⟩
          · have d1 : y.2 ≤ x.2 := by omega
            have d2 : (x.2 == y.2) = false := by rw [beq_eq_false_iff_ne]; omega
            clear ho hk0
            go_wp2_with (at_builtin; refine wpList_append_lies _ rfl _ _ 35 rfl w4.heap.size 3 i0 (.int .i64 0) 1 8 Tryd.underlying35 hi hz0 hz1 hz2 rfl (by decide) _ _ _ rfl (HROW.out.alloc _) ⟨w7.heap.size, 0, none⟩ 2 2 [.int .i64 x.1, .int .i64 x.2] rfl rfl (news_two _ [.int .i64 x.1, .int .i64 x.2] _) (by intro u hu; simp at hu; rcases hu with rfl | rfl <;> rfl) (by decide) k1 k2 k3 (w7.heap.size + 1) (by simp) ?_; intro g' cap' w8 hown' hgrow hlie hlt)
            have HU := Lib.hid (HEND.out g' cap' w8 hown' hgrow hlie)
            clear hown' hgrow hlie hlt
            have HRD2 := HRD.out
            exact ⟨by simpa using HU.out, by simp [intOf]; omega⟩
          · have d1 : y.2 ≤ x.2 := by omega
            have d2 : (x.2 == y.2) = true := by rw [ho]; simp
            clear ho hk0
            go_wp2_with (at_builtin; refine wpList_append_lies _ rfl _ _ 35 rfl w4.heap.size 3 i0 (.int .i64 0) 1 8 Tryd.underlying35 hi hz0 hz1 hz2 rfl (by decide) _ _ _ rfl (HROW.out.alloc _) ⟨w7.heap.size, 0, none⟩ 2 2 [.int .i64 x.1, .int .i64 x.2] rfl rfl (news_two _ [.int .i64 x.1, .int .i64 x.2] _) (by intro u hu; simp at hu; rcases hu with rfl | rfl <;> rfl) (by decide) k1 k2 k3 (w7.heap.size + 1) (by simp) ?_; intro g' cap' w8 hown' hgrow hlie hlt)
            have HU := Lib.hid (HEND.out g' cap' w8 hown' hgrow hlie)
            clear hown' hgrow hlie hlt
            have HRD2 := HRD.out
            exact ⟨by simpa using HU.out, by simp [intOf]; omega⟩
      · have hkl : k = S.length := by omega
        have b1 : (S.length : Int) ≤ (k : Int) := by omega
        have hL0 : L = [] := by
          rw [hkl, List.drop_length] at hp
          exact List.perm_nil.1 hp
        rw [hL0] at hh
        rw [hkl, List.take_length] at hgr
        have HLS := Lib.hid (least_any _ H 64 [] F wr hh)
        have HLN := Lib.hid (fun w' (hb : Below wr.heap.size wr w') => len_any _ H 64 [] F w' (hh.below hb))
        have hfl : (flat S).length = S.length * 2 := flat_len S
        have HSI := Lib.hid (fun w' (hb : Below wr.heap.size wr w') => In.same_any u5 all (flat S) (flat S) (by have := HS64.out; omega) (by have := HS64.out; omega) w' ((In.own_ints (fun _ => rfl) hfl.symm hgr).below hb) ((In.own_ints (fun _ => rfl) hfl.symm har).below hb))
        have HBL := Lib.hid hbl; have HSZ := Lib.hid hsz
        obtain ⟨qa, ra, rfl⟩ := own_any_shape har
        obtain ⟨K, hK⟩ : ∃ K, K = S.length * 2 := ⟨_, rfl⟩
        rw [← hK] at HSI ⊢
        have c1 : IntKind.i64.wrap (2 * (S.length : Int)) = 2 * (S.length : Int) := IntWalk.i64_in _ (by have := HS64.out; omega)
        have c2 : ((K : Int) == 2 * (S.length : Int)) = true := by rw [beq_iff_eq]; omega
        clear hh hp hgr hgf har haf hsz hbl hkl hL0 hfl hK hk h
        go_wp2_with fail
        refine HLS.out.mono ?_
        rintro e w5 ⟨⟨i, key, b, rfl, hls⟩, hb5⟩
        obtain ⟨rfl, rfl, rfl⟩ : i = 0 ∧ key = 0 ∧ b = false := by
          rcases hls with ⟨-, h1, h2, h3⟩ | ⟨-, h1, -⟩
          · exact ⟨h1, h2, h3⟩
          · cases h1
        clear hls
        go_wp2_with fail
        refine (HLN.out _ hb5).mono ?_
        rintro e w5' ⟨rfl, rfl⟩
        go_wp2_with fail
        refine (HSI.out _ hb5).mono ?_
        rintro e w6 ⟨rfl, hb6⟩
        have HZ := Lib.hid (hb5.trans (hb6.mono hb5.size))
        clear hb5 hb6
        go_wp2
        go_ret
        exact ⟨by simp, HB1.out.trans ((HBL.out.trans (HZ.out.mono (Nat.le_trans HLO.out HSZ.out))).mono HB1.out.size)⟩
  · have b0 : (1000 : Int) < (ps.length : Int) := by omega
    clear hbig hl
    go_enter Tryd.func44, Tryd.ntmps44
    go_wp2_with fail
    refine (HW.out _).mono ?_
    rintro e w1 ⟨rfl, hb1⟩
    go_wp2_with fail
    refine (HW.out _).mono ?_
    rintro e w2 ⟨rfl, hb2⟩
    go_wp2
    go_ret
    exact ⟨rfl, hb1.trans (hb2.mono hb1.size)⟩

end Hp

theorem heapTaken_walk (v : Value) (ps : List (Int × Int)) (hl : ps.length ≤ maxLen) (hz : ∀ s ∈ ps, (Lit.int .i64 s.1).wf = true ∧ (Lit.int .i64 s.2).wf = true) (w : World) (ht : PairArg w v ps) :
    Calls Tryd.prog 44 #[v] w fun e w' => e = .returned (.bool true) ∧ Below w.heap.size w w' :=
  Hp.heapTaken_core v ps (by unfold maxLen at hl; omega) w ht

end Go.Proofs.YtkmgpajodbadmaaDoor
