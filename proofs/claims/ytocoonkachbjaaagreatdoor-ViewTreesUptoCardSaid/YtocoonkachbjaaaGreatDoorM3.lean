/- Several texts in one: what each proves its own first comment says. -/
import Derived.Shelf.Strings.Builder1
import Derived.Shelf.Strings.BuilderK
import Derived.Test.YtocoonkachbjaaaGreatDoorM2
import Derived.Test.YtocoonkachbjaaaGreatDoorM1
import Derived.Lib.FrozenHead
import Derived.Sort.Grow
import Derived.Laws.Rows
import Derived.Lib.ItoaLen
import Derived.Laws.Concat
import Derived.Laws.BytesString
import Derived.Laws.BytesArg
import Derived.WalkLawsBesides
import Derived.WalkSpells
import Derived.Test.YtocoonkachbjaaaGreatDoorProg

/- The contracts of the shelf for strings.Builder, laid at this translation by hand. -/
namespace Go.Proofs
open Go.Shelf
def Tryz.lays240_ren : Go.Shelf.Ren := ⟨fun | 166 => 67 | 167 => 68 | 240 => 103 | 276 => 121 | n => n, fun | 0 => 0 | 3 => 3 | 4 => 4 | 5 => 5 | 9 => 9 | 20 => 20 | 37 => 108 | 70 => 107 | 72 => 110 | 75 => 33 | 80 => 117 | 164 => 123 | n => n, fun | n => n⟩
theorem Tryz.lays240 : Go.Proofs.Lays.n240 Tryz.prog Tryz.lays240_ren := {
  mixed := by kernel_rfl
  f240 := Tryz.func103.trans (congrArg some (by kernel_rfl))
  f276 := Tryz.func121.trans (congrArg some (by kernel_rfl))
  t0 := Tryz.underlying0
  a0 := Tryz.isAgg0
  z0 := Tryz.sizeOf0
  v0 := Tryz.zeroValue0
  t4 := Tryz.underlying4
  a4 := Tryz.isAgg4
  z4 := Tryz.sizeOf4
  v4 := Tryz.zeroValue4
  t9 := Tryz.underlying9
  a9 := Tryz.isAgg9
  z9 := Tryz.sizeOf9
  v9 := Tryz.zeroValue9
  t20 := Tryz.underlying20
  a20 := Tryz.isAgg20
  z20 := Tryz.sizeOf20
  v20 := Tryz.zeroValue20
  t70 := Tryz.underlying107
  a70 := Tryz.isAgg107
  z70 := Tryz.sizeOf107
  v70 := Tryz.zeroValue107
  t72 := Tryz.underlying110
  a72 := Tryz.isAgg110
  z72 := Tryz.sizeOf110
  v72 := Tryz.zeroValue110
  t164 := Tryz.underlying123
  a164 := Tryz.isAgg123
  z164 := Tryz.sizeOf123
  v164 := Tryz.zeroValue123 }
def Tryz.lays167_ren : Go.Shelf.Ren := ⟨fun | 166 => 67 | 167 => 68 | 240 => 103 | 276 => 121 | n => n, fun | 0 => 0 | 3 => 3 | 4 => 4 | 5 => 5 | 9 => 9 | 20 => 20 | 37 => 108 | 70 => 107 | 72 => 110 | 75 => 33 | 80 => 117 | 164 => 123 | n => n, fun | n => n⟩
theorem Tryz.lays167 : Go.Proofs.Lays.n167 Tryz.prog Tryz.lays167_ren := {
  mixed := by kernel_rfl
  f167 := Tryz.func68.trans (congrArg some (by kernel_rfl))
  f240 := Tryz.func103.trans (congrArg some (by kernel_rfl))
  f276 := Tryz.func121.trans (congrArg some (by kernel_rfl))
  t0 := Tryz.underlying0
  a0 := Tryz.isAgg0
  z0 := Tryz.sizeOf0
  v0 := Tryz.zeroValue0
  t4 := Tryz.underlying4
  a4 := Tryz.isAgg4
  z4 := Tryz.sizeOf4
  v4 := Tryz.zeroValue4
  t5 := Tryz.underlying5
  a5 := Tryz.isAgg5
  z5 := Tryz.sizeOf5
  v5 := Tryz.zeroValue5
  t9 := Tryz.underlying9
  a9 := Tryz.isAgg9
  z9 := Tryz.sizeOf9
  v9 := Tryz.zeroValue9
  t20 := Tryz.underlying20
  a20 := Tryz.isAgg20
  z20 := Tryz.sizeOf20
  v20 := Tryz.zeroValue20
  t37 := Tryz.underlying108
  a37 := Tryz.isAgg108
  z37 := Tryz.sizeOf108
  v37 := Tryz.zeroValue108
  t70 := Tryz.underlying107
  a70 := Tryz.isAgg107
  z70 := Tryz.sizeOf107
  v70 := Tryz.zeroValue107
  t72 := Tryz.underlying110
  a72 := Tryz.isAgg110
  z72 := Tryz.sizeOf110
  v72 := Tryz.zeroValue110
  t75 := Tryz.underlying33
  a75 := Tryz.isAgg33
  z75 := Tryz.sizeOf33
  v75 := Tryz.zeroValue33
  t164 := Tryz.underlying123
  a164 := Tryz.isAgg123
  z164 := Tryz.sizeOf123
  v164 := Tryz.zeroValue123 }
def Tryz.lays166_ren : Go.Shelf.Ren := ⟨fun | 166 => 67 | 167 => 68 | 240 => 103 | 276 => 121 | n => n, fun | 0 => 0 | 3 => 3 | 4 => 4 | 5 => 5 | 9 => 9 | 20 => 20 | 37 => 108 | 70 => 107 | 72 => 110 | 75 => 33 | 80 => 117 | 164 => 123 | n => n, fun | n => n⟩
theorem Tryz.lays166 : Go.Proofs.Lays.n166 Tryz.prog Tryz.lays166_ren := {
  mixed := by kernel_rfl
  f166 := Tryz.func67.trans (congrArg some (by kernel_rfl))
  f240 := Tryz.func103.trans (congrArg some (by kernel_rfl))
  f276 := Tryz.func121.trans (congrArg some (by kernel_rfl))
  t0 := Tryz.underlying0
  a0 := Tryz.isAgg0
  z0 := Tryz.sizeOf0
  v0 := Tryz.zeroValue0
  t3 := Tryz.underlying3
  a3 := Tryz.isAgg3
  z3 := Tryz.sizeOf3
  v3 := Tryz.zeroValue3
  t4 := Tryz.underlying4
  a4 := Tryz.isAgg4
  z4 := Tryz.sizeOf4
  v4 := Tryz.zeroValue4
  t9 := Tryz.underlying9
  a9 := Tryz.isAgg9
  z9 := Tryz.sizeOf9
  v9 := Tryz.zeroValue9
  t20 := Tryz.underlying20
  a20 := Tryz.isAgg20
  z20 := Tryz.sizeOf20
  v20 := Tryz.zeroValue20
  t37 := Tryz.underlying108
  a37 := Tryz.isAgg108
  z37 := Tryz.sizeOf108
  v37 := Tryz.zeroValue108
  t70 := Tryz.underlying107
  a70 := Tryz.isAgg107
  z70 := Tryz.sizeOf107
  v70 := Tryz.zeroValue107
  t72 := Tryz.underlying110
  a72 := Tryz.isAgg110
  z72 := Tryz.sizeOf110
  v72 := Tryz.zeroValue110
  t75 := Tryz.underlying33
  a75 := Tryz.isAgg33
  z75 := Tryz.sizeOf33
  v75 := Tryz.zeroValue33
  t164 := Tryz.underlying123
  a164 := Tryz.isAgg123
  z164 := Tryz.sizeOf123
  v164 := Tryz.zeroValue123 }
theorem Tryz.Builder_X72 : Builder.X72 Tryz.prog Tryz.lays240_ren := { sizeBuilder := by kernel_rfl, liesBuilder := by kernel_rfl }
theorem Tryz.Builder_Extra_167 : Builder.Extra Tryz.prog Tryz.lays167_ren := {
  sizeBuilder := by kernel_rfl
  liesBuilder := by kernel_rfl
  t5 := Tryz.underlying5
  a5 := Tryz.isAgg5
  z5 := Tryz.sizeOf5
  v5 := Tryz.zeroValue5
  infoByte := by kernel_rfl
  cellsByte := by kernel_rfl
  sizeByte := by kernel_rfl
  neB5 := by decide }
theorem Tryz.Builder_Extra_166 : Builder.Extra Tryz.prog Tryz.lays166_ren := {
  sizeBuilder := by kernel_rfl
  liesBuilder := by kernel_rfl
  t5 := Tryz.underlying5
  a5 := Tryz.isAgg5
  z5 := Tryz.sizeOf5
  v5 := Tryz.zeroValue5
  infoByte := by kernel_rfl
  cellsByte := by kernel_rfl
  sizeByte := by kernel_rfl
  neB5 := by decide }
open Go.RowKit Go.Lib in
theorem Tryz.Builder_WriteByte (B b : Nat) (bs : List Value) (c : Int) (w : World) (h : Lib.IsBuilder 110 5 B b bs w) (hlen : bs.length + 1 ≤ 140737488355328) (hBw : B ≤ w.heap.size) :
    Calls Tryz.prog 68 #[.pointer (some ⟨b, 0, none⟩), .int .u8 c] w fun e w' => e = .returned .nilIface ∧ (Lib.BuilderAt 110 5 B b (.pointer (some ⟨b, 0, none⟩)) (bs ++ [.int .u8 c]) w' ∧ Below B w w') :=
  Any.Builder_WriteByte Tryz.lays167 Tryz.Builder_Extra_167 B b bs c w h hlen hBw
open Go.RowKit Go.Lib in
theorem Tryz.Builder_WriteString (B b : Nat) (bs : List Value) (s : ByteArray) (w : World) (h : Lib.IsBuilder 110 5 B b bs w) (hlen : bs.length + s.size ≤ 140737488355328) (hBw : B ≤ w.heap.size) :
    Calls Tryz.prog 67 #[.pointer (some ⟨b, 0, none⟩), .string s] w fun e w' => e = .returned (.tuple #[.int .i64 s.size, .nilIface]) ∧ (Lib.BuilderAt 110 5 B b (.pointer (some ⟨b, 0, none⟩)) (bs ++ Lib.strCells s) w' ∧ Below B w w') :=
  Any.Builder_WriteString Tryz.lays166 Tryz.Builder_Extra_166 B b bs s w h hlen hBw
open Go.RowKit Go.Lib in
theorem Tryz.Builder_WriteByte_k (B b : Nat) (bs : List Value) (c : Int) (w : World) (h : Lib.IsBuilderF 110 5 B b bs w) (hlen : bs.length + 1 ≤ 140737488355328) (hBw : B ≤ w.heap.size) :
    Calls Tryz.prog 68 #[.pointer (some ⟨b, 0, none⟩), .int .u8 c] w fun e w' => e = .returned .nilIface ∧ (Lib.BuilderAtF 110 5 B b (.pointer (some ⟨b, 0, none⟩)) (bs ++ [.int .u8 c]) w' ∧ Below B w w' ∧ Lib.OthersKept 5 (some b) w w') :=
  Any.Builder_WriteByte_k Tryz.lays167 Tryz.Builder_Extra_167 B b bs c w h hlen hBw
open Go.RowKit Go.Lib in
theorem Tryz.Builder_WriteString_k (B b : Nat) (bs : List Value) (s : ByteArray) (w : World) (h : Lib.IsBuilderF 110 5 B b bs w) (hlen : bs.length + s.size ≤ 140737488355328) (hBw : B ≤ w.heap.size) :
    Calls Tryz.prog 67 #[.pointer (some ⟨b, 0, none⟩), .string s] w fun e w' => e = .returned (.tuple #[.int .i64 s.size, .nilIface]) ∧ (Lib.BuilderAtF 110 5 B b (.pointer (some ⟨b, 0, none⟩)) (bs ++ Lib.strCells s) w' ∧ Below B w w' ∧ Lib.OthersKept 5 (some b) w w') :=
  Any.Builder_WriteString_k Tryz.lays166 Tryz.Builder_Extra_166 B b bs s w h hlen hBw
end Go.Proofs

/- A builder stays a builder where all that was there stays; strconv.Itoa's contract with 'Below'. -/
namespace Go.Proofs.YtocoonkachbjaaaGreatDoor
open Go.RowKit
set_option linter.unusedVariables false

theorem bF_below {T e : TypeId} {B b : Nat} {bs : List Value} {w w' : World} (h : Lib.IsBuilderF T e B b bs w) (hb : Below w.heap.size w w') : Lib.IsBuilderF T e B b bs w' := by
  have one : ∀ p, Lib.BuilderAtF T e B b p bs w → Lib.BuilderAtF T e B b p bs w' := by
    intro p ⟨h1, v, h2, h3, h4⟩
    refine ⟨h1, v, by rw [hb.block b (Array.getElem?_eq_some_iff.1 h2).1]; exact h2, ⟨h3.1, ?_⟩, h4⟩
    rcases h3.2 with h5 | ⟨g, cap, cur, fz, h5, h6, h7, h8⟩
    · exact .inl h5
    · exact .inr ⟨g, cap, cur, fz, h5, h6, by rw [hb.block g (Array.getElem?_eq_some_iff.1 h7).1]; exact h7, h8⟩
  rcases h with h | h
  · exact .inl (one _ h)
  · exact .inr (one _ h)

theorem bF_lt {T e : TypeId} {B b : Nat} {bs : List Value} {w : World} (h : Lib.IsBuilderF T e B b bs w) : b < w.heap.size := by
  rcases h with ⟨_, v, h2, _⟩ | ⟨_, v, h2, _⟩ <;> exact (Array.getElem?_eq_some_iff.1 h2).1

theorem bF_base {T e : TypeId} {B b : Nat} {bs : List Value} {w : World} (h : Lib.IsBuilderF T e B b bs w) : B ≤ b := by
  rcases h with ⟨h2, _⟩ | ⟨h2, _⟩ <;> exact h2

/-- A cell of a block that is neither the builder's nor a row of bytes stays, over a write. -/
theorem kept_cell {e : TypeId} {b : Nat} {w w' : World} (h : Lib.OthersKept e (some b) w w') {k : Nat} {cs : Array Value} {t : TypeId} {fz : Nat × Nat} (hk : w.heap[k]? = some (.cells cs t fz)) (hkb : k ≠ b) (ht : t ≠ e) : w'.heap[k]? = some (.cells cs t fz) :=
  h k _ hk (by simpa using hkb) (fun c z hc => by cases hc; exact ht rfl)

theorem cell_of_block {w : World} {k : Nat} {cs : Array Value} {t : TypeId} {fz : Nat × Nat} (h : w.heap[k]? = some (.cells cs t fz)) (j : Nat) : w.cell? ⟨k, j, none⟩ = cs[j]? := by
  simp [World.cell?, h]

theorem itoa_below (n : Int) (h0 : -9223372036854775808 ≤ n) (h1 : n ≤ 9223372036854775807) (w : World) (htab : Lib.TabIs Tryz.prog w "internal/strconv.uint64pow10" .u64 Lib.pow10Tab) :
    Calls Tryz.prog 29 #[.int .i64 n] w fun e w' => e = .returned (.string ⟨(Lib.itoa n).toArray⟩) ∧ Below w.heap.size w w' :=
  (Tryz.strconv_Itoa n h0 h1 w htab).mono fun e w' ⟨he, k, os, hw⟩ => ⟨he, by
    subst hw
    exact ⟨rfl, rfl, rfl, by simp [Go.Sort.grow], fun i hi => by simp [Go.Sort.grow, Array.getElem?_append, hi]⟩⟩

theorem tab_below {w w' : World} {name : String} {k : IntKind} {zs : List Int} {g : Nat} (hg : Tryz.prog.globalNamed name = some g) (h : Lib.TabIs Tryz.prog w name k zs) {B : Nat} (hB : g < B) (hb : Below B w w') : Lib.TabIs Tryz.prog w' name k zs := by
  unfold Lib.TabIs World.var? at h ⊢
  rw [hg] at h ⊢
  simp only [Option.bind_some] at h ⊢
  rw [hb.block g hB]; exact h

theorem tab_lt {w : World} {name : String} {k : IntKind} {zs : List Int} {g : Nat} (hg : Tryz.prog.globalNamed name = some g) (h : Lib.TabIs Tryz.prog w name k zs) : g < w.heap.size := by
  unfold Lib.TabIs World.var? at h
  rw [hg] at h
  simp only [Option.bind_some] at h
  rcases Nat.lt_or_ge g w.heap.size with h0 | h0
  · exact h0
  · rw [Array.getElem?_eq_none h0] at h; cases h

end Go.Proofs.YtocoonkachbjaaaGreatDoor

/- clock.Print: what it hands back, of any number of ticks. -/
namespace Go.Proofs.YtocoonkachbjaaaGreatDoor
open Go.RowKit
set_option linter.unusedVariables false

def worthOf : Nat → Int
  | 0 => 86400
  | 1 => 3600
  | 2 => 60
  | _ => 1
def letterOf : Nat → Int
  | 0 => 100
  | 1 => 104
  | 2 => 109
  | _ => 115
def mostOf : Nat → Int
  | 0 => 1099511627777
  | 1 => 23
  | _ => 59
/-- What is left ahead of part k. -/
def remAt (t : Int) : Nat → Int
  | 0 => t
  | k + 1 => remAt t k % worthOf k
def dpart (n c : Int) : List UInt8 := if 0 < n then Lib.itoa n ++ [UInt8.ofNat c.toNat] else []
/-- What has been written ahead of part k. -/
def accAt (t : Int) : Nat → List UInt8
  | 0 => []
  | k + 1 => accAt t k ++ dpart (remAt t k / worthOf k) (letterOf k)
/-- A number of ticks as a text. -/
def prt (t : Int) : List UInt8 := if t = 0 then [48, 115] else accAt t 4

theorem worth_pos (k : Nat) : 1 ≤ worthOf k ∧ worthOf k ≤ 86400 := by
  match k with
  | 0 => simp [worthOf]
  | 1 => simp [worthOf]
  | 2 => simp [worthOf]
  | k + 3 => simp [worthOf]

theorem letter_bd (k : Nat) : 0 ≤ letterOf k ∧ letterOf k ≤ 127 := by
  match k with
  | 0 => simp [letterOf]
  | 1 => simp [letterOf]
  | 2 => simp [letterOf]
  | k + 3 => simp [letterOf]

theorem remAt_bd (t : Int) (h0 : 0 ≤ t) (h1 : t ≤ 1099511627776) : ∀ k, 0 ≤ remAt t k ∧ remAt t k ≤ 1099511627776
  | 0 => ⟨h0, h1⟩
  | k + 1 => by
    obtain ⟨a, b⟩ := remAt_bd t h0 h1 k
    obtain ⟨c, d⟩ := worth_pos k
    unfold remAt
    have e1 := Int.emod_nonneg (remAt t k) (show worthOf k ≠ 0 by omega)
    have e2 := Int.emod_lt_of_pos (remAt t k) (show 0 < worthOf k by omega)
    omega

/-- The table of the parts, as the program's text lays it. -/
def partsCells : Array Value := #[.int .u8 100, .int .i64 86400, .int .i64 1099511627777, .int .u8 104, .int .i64 3600, .int .i64 23, .int .u8 109, .int .i64 60, .int .i64 59, .int .u8 115, .int .i64 1, .int .i64 59]
def PartsAt (w : World) : Prop := ∃ t fr, w.heap[0]? = some (.cells partsCells t fr)

theorem PartsAt.lt {w : World} (h : PartsAt w) : 0 < w.heap.size := by
  obtain ⟨t, fr, h⟩ := h; exact (Array.getElem?_eq_some_iff.1 h).1

theorem print_no (t : Int) (h : tm t = false) (w : World) :
    Calls Tryz.prog 26 #[.int .i64 t] w fun e w' => e = .returned (.tuple #[.string ⟨#[]⟩, .iface 55 (.int .i64 12)]) ∧ w = w' := by
  go_enter Tryz.func26, Tryz.ntmps26
  go_wp2_with (go_at_call 66; refine (time_any _ _).mono ?_; rintro e w' ⟨rfl, rfl⟩)
  go_ret2
  exact ⟨rfl, rfl⟩

theorem print_zero (w : World) :
    Calls Tryz.prog 26 #[.int .i64 0] w fun e w' => e = .returned (.tuple #[.string ⟨(prt 0).toArray⟩, .nilIface]) ∧ w = w' := by
  have h : tm 0 = true := rfl
  go_enter Tryz.func26, Tryz.ntmps26
  go_wp2_with (go_at_call 66; refine (time_any _ _).mono ?_; rintro e w' ⟨rfl, rfl⟩)
  go_ret2
  exact ⟨rfl, rfl⟩

set_option maxRecDepth 100000 in
theorem part_index (k : Nat) (hk : k < 4) : ∀ w, (Instr.index 113 (.agg partsCells) (.int .i64 (k : Int))).run Tryz.prog w = .ok (.agg #[.int .u8 (letterOf k), .int .i64 (worthOf k), .int .i64 (mostOf k)]) w := by
  match k, hk with
  | 0, _ => exact fun w => by kernel_rfl
  | 1, _ => exact fun w => by kernel_rfl
  | 2, _ => exact fun w => by kernel_rfl
  | 3, _ => exact fun w => by kernel_rfl

set_option maxHeartbeats 2000000 in
theorem print_yes (t : Int) (h : tm t = true) (hne : t ≠ 0) (w : World) (hp : PartsAt w) (htab : Lib.TabIs Tryz.prog w "internal/strconv.uint64pow10" .u64 Lib.pow10Tab) :
    Calls Tryz.prog 26 #[.int .i64 t] w fun e w' => e = .returned (.tuple #[.string ⟨(prt t).toArray⟩, .nilIface]) ∧ Below w.heap.size w w' := by
  obtain ⟨b0, b1⟩ := tm_yes h
  have hq : (t == 0) = false := by rw [beq_eq_false_iff_ne]; exact hne
  have hplt := hp.lt
  obtain ⟨pt, fr, hpt⟩ := hp
  have HT := Lib.hid htab; clear htab
  go_enter Tryz.func26, Tryz.ntmps26
  go_wp2_with (first | (go_at_call 66; refine (time_any _ _).mono ?_; rintro e w' ⟨rfl, rfl⟩) | (refine wpList_load_row rfl 113 _ rfl 0 rfl pt partsCells fr _ ?_ Tryz.underlying113 rfl (by kernel_rfl) ?_))
  · rw [Below.heap_alloc _ _ _ hplt]; exact hpt
  have hb0 : Lib.IsBuilderF 110 5 w.heap.size w.heap.size (Lib.byteCells (accAt t 0)) (w.alloc (.cells #[.pointer none, .slice none 0 0] 110)) := Lib.IsBuilderF.of (Lib.fresh_isBuilder 110 5 w)
  have hbl0 : Below w.heap.size w (w.alloc (.cells #[.pointer none, .slice none 0 0] 110)) := (Below.refl _ _).alloc (Nat.le_refl _) _
  go_loopw [0, 15] (fun r i wr => ∃ k : Nat, k ≤ 4 ∧ i = .int .i64 k ∧ r = .int .i64 (remAt t k) ∧ (accAt t k).length ≤ 24 * k ∧ Lib.IsBuilderF 110 5 w.heap.size w.heap.size (Lib.byteCells (accAt t k)) wr ∧ Below w.heap.size w wr) (fun _ i _ => 4 - (intOf i).toNat)
  case atStart => exact ⟨0, by omega, rfl, rfl, by simp [accAt], hb0, hbl0⟩
  case round =>
    obtain ⟨k, hk, rfl, rfl, hal, hbu, hbl⟩ := hrel
    clear hb0 hbl0
    by_cases hk4 : k < 4
    · have hix := part_index k hk4
      obtain ⟨c1, c2⟩ := worth_pos k
      obtain ⟨r1, r2⟩ := remAt_bd t b0 b1 k
      have hrs : remAt t (k + 1) = remAt t k % worthOf k := rfl
      have has : accAt t (k + 1) = accAt t k ++ dpart (remAt t k / worthOf k) (letterOf k) := rfl
      obtain ⟨W, hW⟩ : ∃ W, W = worthOf k := ⟨_, rfl⟩
      obtain ⟨R, hR⟩ : ∃ R, R = remAt t k := ⟨_, rfl⟩
      obtain ⟨c, hc⟩ : ∃ c, c = letterOf k := ⟨_, rfl⟩
      rw [← hW, ← hc] at hix
      rw [← hW] at c1 c2 hrs has
      rw [← hR] at r1 r2 hrs has ⊢
      rw [← hc] at has
      have HRS := Lib.hid hrs; have HAS := Lib.hid has
      have HCB : 0 ≤ c ∧ c ≤ 127 := by rw [hc]; exact letter_bd k
      obtain ⟨hc1, hc2⟩ := HCB
      clear hW hR hrs has hc
      have hdiv : 0 ≤ R / W := Int.ediv_nonneg r1 (by omega)
      have hdle : R / W ≤ R := Int.ediv_le_self _ r1
      by_cases hn : 0 < R / W
      · have hbr := hbl.size
        have hbw : w.heap.size < wr.heap.size := bF_lt hbu
        obtain ⟨HTR⟩ : Nonempty (Hid (Lib.TabIs Tryz.prog (wr.alloc (.cells #[.int .u8 c, .int .i64 W, .int .i64 (mostOf k)] 112)) "internal/strconv.uint64pow10" .u64 Lib.pow10Tab)) :=
          ⟨tab_below (g := 3) (by kernel_rfl) HT.out (tab_lt (by kernel_rfl) HT.out) (hbl.alloc hbr _)⟩
        go_wp2_with fail
        refine (itoa_below (R / W) (by omega) (by omega) _ HTR.out).mono ?_
        rintro e w1 ⟨rfl, hb1⟩
        have hbu1 := bF_below (hbu.alloc (.cells #[.int .u8 c, .int .i64 W, .int .i64 (mostOf k)] 112)) hb1
        have hpb : w1.heap[wr.heap.size]? = some (.cells #[.int .u8 c, .int .i64 W, .int .i64 (mostOf k)] 112 (0, 0)) := by
          rw [hb1.block _ (by simp)]; exact Ut.alloc_at _ _
        have hil : (Lib.itoa (R / W)).length ≤ 21 := Lib.itoa_length_le _ (by omega) (by omega)
        have HIL := Lib.hid hil
        go_wp2_with fail
        refine (Tryz.Builder_WriteString_k _ _ _ ⟨(Lib.itoa (R / W)).toArray⟩ _ hbu1 ?_ ?_).mono ?_
        · simp [Lib.byteCells_length, ByteArray.size]; omega
        · have := hb1.size; simp at this; omega
        rintro e w2 ⟨rfl, hbu2, hb2, hk2⟩
        have hpb2 := kept_cell hk2 hpb (by omega) (by decide)
        have hcl := cell_of_block hpb2 0
        have hcw := cell_of_block hpb2 1
        simp at hcl hcw
        clear hk2
        go_wp2_with fail
        refine (Tryz.Builder_WriteByte_k _ _ _ c _ (.inr hbu2) ?_ ?_).mono ?_
        · simp [Lib.byteCells_length, Lib.strCells_length, ByteArray.size]; omega
        · have h1 := hb1.size; have h2 := hb2.size; simp at h1; omega
        rintro e w3 ⟨rfl, hbu3, hb3, hk3⟩
        have hpb3 := kept_cell hk3 hpb2 (by omega) (by decide)
        have hcw3 := cell_of_block hpb3 1
        simp at hcw3
        clear hk3
        have hbf : Below w.heap.size w w3 := (((hbl.alloc hbr _).trans (hb1.mono (by simp; omega))).trans hb2).trans hb3
        go_wp2
        go_roundw
        case rel =>
          have ed : dpart (R / W) c = Lib.itoa (R / W) ++ [UInt8.ofNat c.toNat] := if_pos hn
          have ec : Lib.byteCells (accAt t k ++ (Lib.itoa (R / W) ++ [UInt8.ofNat c.toNat])) = Lib.byteCells (accAt t k) ++ Lib.strCells ⟨(Lib.itoa (R / W)).toArray⟩ ++ [.int .u8 c] := by
            simp [Lib.byteCells, Lib.strCells]; omega
          refine ⟨k + 1, by omega, by go_num, by rw [HRS.out], ?_, ?_, hbf⟩
          · rw [HAS.out, ed]; simp; omega
          · rw [HAS.out, ed]
            refine .inr ?_
            rw [ec]; exact hbu3
        case measure => simp [intOf]; omega
      · have hbr := hbl.size
        have hd0 : R / W = 0 := by omega
        have HD := Lib.hid hd0
        clear hd0
        go_wp2
        go_roundw
        case rel =>
          have ed : dpart (R / W) c = [] := if_neg (by omega)
          refine ⟨k + 1, by omega, by go_num, by rw [HRS.out], ?_, ?_, hbl.alloc hbr _⟩
          · rw [HAS.out, ed]; simp; omega
          · rw [HAS.out, ed, List.append_nil]; exact hbu.alloc _
        case measure => simp [intOf]; omega
    · obtain rfl : k = 4 := by omega
      have hbr := hbl.size
      have hpr : prt t = accAt t 4 := if_neg hne
      have HPR := Lib.hid hpr
      clear hpr
      go_wp2_with fail
      refine (Tryz.Builder_String_any_k _ _ (accAt t 4) _ hbu hbr).mono ?_
      rintro e w1 ⟨rfl, _, hb1, _⟩
      go_wp2
      go_ret2
      exact ⟨congrArg (fun l : List UInt8 => Ending.returned (Value.tuple #[Value.string ⟨l.toArray⟩, Value.nilIface])) HPR.out.symm, hbl.trans hb1⟩

end Go.Proofs.YtocoonkachbjaaaGreatDoor

/- The reference's worth, digits and Print. -/
namespace Go.Proofs.YtocoonkachbjaaaGreatDoor
open Go.RowKit
set_option linter.unusedVariables false

theorem worth_any (k : Nat) (hk : k < 4) (w : World) : Calls Tryz.prog 74 #[.int .i64 k] w fun e w' => e = .returned (.int .i64 (worthOf k)) ∧ w = w' := by
  match k, hk with
  | 0, _ => go_enter Tryz.func74, Tryz.ntmps74; go_wp2; go_ret; exact ⟨rfl, rfl⟩
  | 1, _ => go_enter Tryz.func74, Tryz.ntmps74; go_wp2; go_ret; exact ⟨rfl, rfl⟩
  | 2, _ => go_enter Tryz.func74, Tryz.ntmps74; go_wp2; go_ret; exact ⟨rfl, rfl⟩
  | 3, _ => go_enter Tryz.func74, Tryz.ntmps74; go_wp2; go_ret; exact ⟨rfl, rfl⟩

theorem conv_one (w : World) (x : Int) : (convert 108 9 (.slice (some ⟨w.heap.size, 0, none⟩) 1 1)).run Tryz.prog (w.alloc (.cells #[.int .u8 x] 5)) = .ok (.string (strOfNums [x])) (w.alloc (.cells #[.int .u8 x] 5)) :=
  run_convert_bytes_arg (w.alloc (.cells #[.int .u8 x] 5)) 108 5 Tryz.underlying108 Tryz.underlying5 w.heap.size 0 1 1 [x] rfl (fun i hi => by
    obtain rfl : i = 0 := by omega
    simp) 9 Tryz.underlying9

theorem strOfNums_one (x : Int) : (strOfNums [x]).data.toList = [UInt8.ofNat x.toNat] := rfl

/-- The digits that have been made, and what is left. -/
def DInv (n : Nat) (i nn : Nat) (s : ByteArray) : Prop :=
  (i = 0 ∧ nn = n ∧ s.data.toList = []) ∨ (0 < i ∧ 0 < nn ∧ Lib.decDigits n = Lib.decDigits nn ++ s.data.toList) ∨ (0 < i ∧ nn = 0 ∧ Lib.decDigits n = s.data.toList)

set_option maxHeartbeats 1000000 in
theorem DInv.step {n i nn : Nat} {t : ByteArray} (h : DInv n i nn t) (hgo : i = 0 ∨ 0 < nn) : DInv n (i + 1) (nn / 10) (strOfNums [48 + (nn : Int) % 10] ++ t) := by
  have e : (strOfNums [48 + (nn : Int) % 10] ++ t).data.toList = UInt8.ofNat (48 + nn % 10) :: t.data.toList := by
    rw [ByteArray.data_append, Array.toList_append, strOfNums_one]
    have : (48 + (nn : Int) % 10).toNat = 48 + nn % 10 := by omega
    rw [this]; rfl
  have base : Lib.decDigits n = Lib.decDigits nn ++ t.data.toList := by
    rcases h with ⟨_, rfl, h⟩ | ⟨_, _, h⟩ | ⟨h1, h2, _⟩
    · rw [h, List.append_nil]
    · exact h
    · omega
  by_cases hlt : nn < 10
  · refine .inr (.inr ⟨by omega, by omega, ?_⟩)
    rw [e, base, Lib.decDigits_one hlt, Nat.mod_eq_of_lt hlt]; rfl
  · refine .inr (.inl ⟨by omega, by omega, ?_⟩)
    rw [e, base, Lib.decDigits, dif_neg hlt]; simp

def DRel (n : Nat) (w : World) (r s i : Value) (wr : World) : Prop :=
  ∃ (i' nn : Nat) (t : ByteArray), i = .int .i64 i' ∧ i' ≤ 20 ∧ r = .int .i64 nn ∧ nn * 10 ^ i' ≤ 1099511627776 ∧ (nn : Int) ≤ 1099511627776 ∧ s = .string t ∧ t.size ≤ i' ∧ DInv n i' nn t ∧ Below w.heap.size w wr

set_option maxRecDepth 100000 in
theorem digits_any (n : Nat) (hn : (n : Int) ≤ 1099511627776) (w : World) :
    Calls Tryz.prog 75 #[.int .i64 n] w fun e w' => e = .returned (.string ⟨(Lib.decDigits n).toArray⟩) ∧ Below w.heap.size w w' := by
  go_enter Tryz.func75, Tryz.ntmps75
  go_wp2
  go_loopw [0, 3, 4] (fun r s i wr => DRel n w r s i wr) (fun _ _ i _ => 20 - (intOf i).toNat)
  case atStart => exact ⟨0, n, ByteArray.empty, rfl, by omega, rfl, (show n * 10 ^ 0 ≤ 1099511627776 by omega), hn, rfl, by simp, .inl ⟨rfl, rfl, rfl⟩, Below.refl _ _⟩
  case round =>
    obtain ⟨i, nn, t, rfl, hi, rfl, hp, hb, rfl, ht, hd, hbl⟩ := hrel
    have hcv := conv_one wr (48 + (nn : Int) % 10)
    have hbr := hbl.size
    have hone : (strOfNums [48 + (nn : Int) % 10]).size ≤ 1 := Nat.le_refl 1
    by_cases hgo : i = 0 ∨ 0 < nn
    · have hi20 : i < 20 := by
        rcases Nat.lt_or_ge i 20 with h | h
        · exact h
        · obtain rfl : i = 20 := by omega
          have h1 : 0 < nn := by omega
          have h2 : nn * 10 ^ 20 ≤ 1099511627776 := hp
          omega
      have hnext := DInv.step hd hgo
      have hsz : (strOfNums [48 + (nn : Int) % 10] ++ t).size ≤ i + 1 := by
        have : (strOfNums [48 + (nn : Int) % 10]).size = 1 := rfl
        rw [ByteArray.size_append]; omega
      have hpw : nn / 10 * 10 ^ (i + 1) ≤ 1099511627776 := by
        have h2 : nn * 10 ^ i ≤ 1099511627776 := hp
        have h3 : nn / 10 * 10 ≤ nn := Nat.div_mul_le_self nn 10
        calc nn / 10 * 10 ^ (i + 1) = (nn / 10 * 10) * 10 ^ i := by rw [Nat.pow_succ, Nat.mul_comm (10 ^ i) 10, Nat.mul_assoc]
          _ ≤ nn * 10 ^ i := Nat.mul_le_mul_right _ h3
          _ ≤ 1099511627776 := h2
      have HN := Lib.hid hnext; have HS := Lib.hid hsz; have HPW := Lib.hid hpw
      clear hnext hsz hpw hd hp
      by_cases h0 : i = 0
      · have q0 : ((i : Int) == 0) = true := by rw [h0]; rfl
        have HI := Lib.hid h0
        clear h0 hgo
        go_wp2
        go_roundw
        case rel => exact ⟨i + 1, nn / 10, _, by go_num, by omega, by go_num, HPW, by omega, rfl, HS.out, HN.out, hbl.alloc hbr _⟩
        case measure => simp [intOf]; omega
      · have q0 : ((i : Int) == 0) = false := by rw [beq_eq_false_iff_ne]; omega
        have q1 : 0 < nn := by omega
        clear hgo
        go_wp2
        go_roundw
        case rel => exact ⟨i + 1, nn / 10, _, by go_num, by omega, by go_num, HPW, by omega, rfl, HS.out, HN.out, hbl.alloc hbr _⟩
        case measure => simp [intOf]; omega
    · have q0 : ((i : Int) == 0) = false := by rw [beq_eq_false_iff_ne]; omega
      obtain rfl : nn = 0 := by omega
      have hfin : Lib.decDigits n = t.data.toList := by
        rcases hd with ⟨h, _⟩ | ⟨_, h, _⟩ | ⟨_, _, h⟩
        · omega
        · omega
        · exact h
      have HF := Lib.hid hfin
      clear hfin hd hgo hp hcv
      go_wp2
      all_goals
        go_ret
        exact ⟨congrArg (fun x : ByteArray => Ending.returned (Value.string x)) (show t = ⟨(Lib.decDigits n).toArray⟩ by rw [HF.out]), hbl⟩

end Go.Proofs.YtocoonkachbjaaaGreatDoor

/- The reference's Print. -/
namespace Go.Proofs.YtocoonkachbjaaaGreatDoor
open Go.RowKit
set_option linter.unusedVariables false

theorem refprint_no (t : Int) (h : tm t = false) (w : World) :
    Calls Tryz.prog 34 #[.int .i64 t] w fun e w' => e = .returned (.tuple #[.string ⟨#[]⟩, .int .i64 12]) ∧ w = w' := by
  go_enter Tryz.func34, Tryz.ntmps34
  go_wp2_with (go_at_call 73; refine (reftime_any _ _).mono ?_; rintro e w' ⟨rfl, rfl⟩)
  go_ret2
  exact ⟨rfl, rfl⟩

theorem refprint_zero (w : World) :
    Calls Tryz.prog 34 #[.int .i64 0] w fun e w' => e = .returned (.tuple #[.string ⟨(prt 0).toArray⟩, .int .i64 0]) ∧ w = w' := by
  have h : tm 0 = true := rfl
  go_enter Tryz.func34, Tryz.ntmps34
  go_wp2_with (go_at_call 73; refine (reftime_any _ _).mono ?_; rintro e w' ⟨rfl, rfl⟩)
  go_ret2
  exact ⟨rfl, rfl⟩

def DigIs (n : Int) (d : ByteArray) : Prop := d.data.toList = Lib.itoa n

theorem digits_int (n : Int) (h0 : 0 ≤ n) (h1 : n ≤ 1099511627776) (w : World) :
    Calls Tryz.prog 75 #[.int .i64 n] w fun e w' => ∃ d : ByteArray, e = .returned (.string d) ∧ DigIs n d ∧ d.size ≤ 21 ∧ Below w.heap.size w w' := by
  obtain ⟨m, rfl⟩ := Int.eq_ofNat_of_zero_le h0
  have e : Lib.itoa (m : Int) = Lib.decDigits m := by unfold Lib.itoa; rw [if_neg (by omega), Int.toNat_natCast]
  have hl := Lib.itoa_length_le (m : Int) (by omega) (by omega)
  refine (digits_any m h1 w).mono fun e' w' ⟨he, hb⟩ => ⟨_, he, e.symm, ?_, hb⟩
  rw [e] at hl; simpa [ByteArray.size] using hl

def RPRel (t : Int) (w : World) (r s i : Value) (wr : World) : Prop :=
  ∃ (k : Nat) (x : ByteArray), k ≤ 4 ∧ i = .int .i64 k ∧ r = .int .i64 (remAt t k) ∧ s = .string x ∧ x.data.toList = accAt t k ∧ x.size ≤ 24 * k ∧ Below w.heap.size w wr

def LetIs (k : Nat) (L : ByteArray) : Prop := L.data.toList = [UInt8.ofNat (letterOf k).toNat]
set_option maxRecDepth 100000 in
theorem letters_slice (k : Nat) (hk : k < 4) : ∃ L : ByteArray, LetIs k L ∧ L.size ≤ 1 ∧ ∀ w, (Instr.slice 9 (.string ⟨#[100, 104, 109, 115]⟩) (some (.int .i64 (k : Int))) (some (.int .i64 ((k : Int) + 1))) none).run Tryz.prog w = .ok (.string L) w := by
  match k, hk with
  | 0, _ => exact ⟨⟨#[100]⟩, rfl, Nat.le_refl _, fun w => by kernel_rfl⟩
  | 1, _ => exact ⟨⟨#[104]⟩, rfl, Nat.le_refl _, fun w => by kernel_rfl⟩
  | 2, _ => exact ⟨⟨#[109]⟩, rfl, Nat.le_refl _, fun w => by kernel_rfl⟩
  | 3, _ => exact ⟨⟨#[115]⟩, rfl, Nat.le_refl _, fun w => by kernel_rfl⟩

set_option maxHeartbeats 1000000 in
set_option maxRecDepth 100000 in
theorem refprint_yes (t : Int) (h : tm t = true) (hne : t ≠ 0) (w : World) :
    Calls Tryz.prog 34 #[.int .i64 t] w fun e w' => e = .returned (.tuple #[.string ⟨(prt t).toArray⟩, .int .i64 0]) ∧ Below w.heap.size w w' := by
  obtain ⟨b0, b1⟩ := tm_yes h
  have hq : (t == 0) = false := by rw [beq_eq_false_iff_ne]; exact hne
  go_enter Tryz.func34, Tryz.ntmps34
  go_wp2_with (go_at_call 73; refine (reftime_any _ _).mono ?_; rintro e w' ⟨rfl, rfl⟩)
  go_loopw [0, 4, 5] (fun r s i wr => RPRel t w r s i wr) (fun _ _ i _ => 4 - (intOf i).toNat)
  case atStart => exact ⟨0, ByteArray.empty, by omega, rfl, rfl, rfl, rfl, by simp, Below.refl _ _⟩
  case round =>
    obtain ⟨k, x, hk, rfl, rfl, rfl, hx, hxl, hbl⟩ := hrel
    by_cases hk4 : k < 4
    · obtain ⟨c1, c2⟩ := worth_pos k
      obtain ⟨r1, r2⟩ := remAt_bd t b0 b1 k
      have hrs : remAt t (k + 1) = remAt t k % worthOf k := rfl
      have has : accAt t (k + 1) = accAt t k ++ dpart (remAt t k / worthOf k) (letterOf k) := rfl
      obtain ⟨L, hla, hll, hsl⟩ := letters_slice k hk4
      have hwk := worth_any k hk4
      obtain ⟨W, hW⟩ : ∃ W, W = worthOf k := ⟨_, rfl⟩
      obtain ⟨R, hR⟩ : ∃ R, R = remAt t k := ⟨_, rfl⟩
      rw [← hW] at c1 c2 hrs has hwk
      rw [← hR] at r1 r2 hrs has ⊢
      have HRS := Lib.hid hrs; have HAS := Lib.hid has; have HX := Lib.hid hx; have HWK := Lib.hid hwk
      clear hW hR hrs has hx hwk
      have hdiv : 0 ≤ R / W := Int.ediv_nonneg r1 (by omega)
      have hdle : R / W ≤ R := Int.ediv_le_self _ r1
      by_cases hn : 0 < R / W
      · have k0 : (0 : Int) ≤ (k : Int) := by omega
        have k1 : (k : Int) + 1 ≤ 4 := by omega
        have k2 : (k : Int) ≤ (k : Int) + 1 := by omega
        have k3 : (0 : Int) ≤ (k : Int) + 1 := by omega
        have hdc := digits_int (R / W) hdiv (by omega)
        have HDC := Lib.hid hdc
        clear hdc
        go_wp2_with (go_at_call 74; refine (HWK.out _).mono ?_; rintro e w' ⟨rfl, rfl⟩)
        have hwr : IntKind.i64.wrap ((k : Int) + 1) = (k : Int) + 1 := IntWalk.i64_in _ (by omega)
        go_region_with (go_at_call 75; refine (HDC.out _).mono ?_; rintro e w1 ⟨d, rfl, hd, hdl, hb1⟩)
        all_goals
          clear hwr
          go_wp2
          go_roundw
          case rel =>
            have ed : dpart (R / W) (letterOf k) = Lib.itoa (R / W) ++ [UInt8.ofNat (letterOf k).toNat] := if_pos hn
            refine ⟨k + 1, _, by omega, by go_num, by rw [HRS.out], rfl, ?_, ?_, ?_⟩
            · rw [HAS.out, ed, ← HX.out, ← hla, ← hd]; simp
            · rw [ByteArray.size_append, ByteArray.size_append]; omega
            · exact hbl.trans (((Below.refl wr.heap.size wr).drew.trans hb1).mono hbl.size)
          case measure => simp [intOf]; omega
      · have hd0 : R / W = 0 := by omega
        have HD := Lib.hid hd0
        clear hd0
        go_wp2_with (go_at_call 74; refine (HWK.out _).mono ?_; rintro e w' ⟨rfl, rfl⟩)
        go_roundw
        case rel =>
          have ed : dpart (R / W) (letterOf k) = [] := if_neg (by omega)
          refine ⟨k + 1, x, by omega, by go_num, by rw [HRS.out], rfl, ?_, by omega, hbl⟩
          rw [HAS.out, ed, List.append_nil, HX.out]
        case measure => simp [intOf]; omega
    · obtain rfl : k = 4 := by omega
      have hpr : prt t = accAt t 4 := if_neg hne
      have HPR := Lib.hid hpr; have HX := Lib.hid hx
      clear hpr hx
      go_wp2
      go_ret2
      exact ⟨congrArg (fun x : ByteArray => Ending.returned (Value.tuple #[Value.string x, Value.int .i64 0])) (show x = ⟨(prt t).toArray⟩ by rw [HPR.out, ← HX.out]), hbl⟩

end Go.Proofs.YtocoonkachbjaaaGreatDoor

/- A session's line: the words of a kind and of a level, and the digits of a number; the program's and the document's. -/
namespace Go.Proofs.YtocoonkachbjaaaGreatDoor
open Go.RowKit
set_option linter.unusedVariables false
namespace Vw
abbrev Bs := List UInt8

/-- A kind's word; a level's. -/
def kindL (k : Int) : Bs := if k = 0 then [108, 111, 103, 105, 110] else if k = 1 then [100, 101, 108, 101, 103, 97, 116, 101, 100] else if k = 2 then [114, 97, 105, 115, 101, 100] else []
def levL (l : Int) : Bs := if l = 0 then [108, 111, 119] else if l = 1 then [109, 105, 100] else if l = 2 then [104, 105, 103, 104] else []
theorem kind_len (k : Int) : (kindL k).length ≤ 9 := by unfold kindL; (repeat' split) <;> simp
theorem lev_len (l : Int) : (levL l).length ≤ 4 := by unfold levL; (repeat' split) <;> simp

theorem vword_any (k : Int) (w : World) : Calls Tryz.prog 23 #[.int .i64 k] w fun e w' => e = .returned (.string ⟨(kindL k).toArray⟩) ∧ w = w' := by
  by_cases h0 : k = 0
  · subst h0
    go_enter Tryz.func23, Tryz.ntmps23; go_wp2; go_ret; exact ⟨rfl, rfl⟩
  · by_cases h1 : k = 1
    · subst h1
      go_enter Tryz.func23, Tryz.ntmps23; go_wp2; go_ret; exact ⟨rfl, rfl⟩
    · by_cases h2 : k = 2
      · subst h2
        go_enter Tryz.func23, Tryz.ntmps23; go_wp2; go_ret; exact ⟨rfl, rfl⟩
      · have e : kindL k = [] := by unfold kindL; rw [if_neg h0, if_neg h1, if_neg h2]
        rw [e]
        have g0 : (k == 0) = false := by simp [h0]
        have g1 : (k == 1) = false := by simp [h1]
        have g2 : (k == 2) = false := by simp [h2]
        clear h0 h1 h2 e
        go_enter Tryz.func23, Tryz.ntmps23; go_wp2; go_ret; exact ⟨rfl, rfl⟩
theorem rkind_any (k : Int) (w : World) : Calls Tryz.prog 31 #[.int .i64 k] w fun e w' => e = .returned (.string ⟨(kindL k).toArray⟩) ∧ w = w' := by
  by_cases h0 : k = 0
  · subst h0
    go_enter Tryz.func31, Tryz.ntmps31; go_wp2; go_ret; exact ⟨rfl, rfl⟩
  · by_cases h1 : k = 1
    · subst h1
      go_enter Tryz.func31, Tryz.ntmps31; go_wp2; go_ret; exact ⟨rfl, rfl⟩
    · by_cases h2 : k = 2
      · subst h2
        go_enter Tryz.func31, Tryz.ntmps31; go_wp2; go_ret; exact ⟨rfl, rfl⟩
      · have e : kindL k = [] := by unfold kindL; rw [if_neg h0, if_neg h1, if_neg h2]
        rw [e]
        have g0 : (k == 0) = false := by simp [h0]
        have g1 : (k == 1) = false := by simp [h1]
        have g2 : (k == 2) = false := by simp [h2]
        clear h0 h1 h2 e
        go_enter Tryz.func31, Tryz.ntmps31; go_wp2; go_ret; exact ⟨rfl, rfl⟩

theorem is_yes (l : Int) (h0 : 0 ≤ l) (h1 : l ≤ 2) (w : World) : Calls Tryz.prog 63 #[.int .i64 l] w fun e w' => e = .returned (.bool true) ∧ w = w' := by
  go_enter Tryz.func63, Tryz.ntmps63
  go_wp2
  go_ret
  exact ⟨by simp, rfl⟩
theorem is_no (l : Int) (h : l < 0 ∨ 2 < l) (w : World) : Calls Tryz.prog 63 #[.int .i64 l] w fun e w' => e = .returned (.bool false) ∧ w = w' := by
  by_cases h1 : l < 0
  · have g : decide (0 ≤ l) = false := by simp; omega
    clear h
    go_enter Tryz.func63, Tryz.ntmps63
    go_wp2
    go_ret
    exact ⟨by simp, rfl⟩
  · have h2 : 0 ≤ l := by omega
    have h3 : 2 < l := by omega
    have g : decide (l ≤ 2) = false := by simp; omega
    clear h h1
    go_enter Tryz.func63, Tryz.ntmps63
    go_wp2
    go_ret
    exact ⟨by simp, rfl⟩
theorem names_any3 (w : World) : Calls Tryz.prog 64 #[] w fun e w' => e = .returned (.agg #[.string ⟨#[108, 111, 119]⟩, .string ⟨#[109, 105, 100]⟩, .string ⟨#[104, 105, 103, 104]⟩]) ∧ Below w.heap.size w w' := by
  go_enter Tryz.func64, Tryz.ntmps64
  go_wp2
  refine bodyPost_ret (v := .agg #[.string ⟨#[108, 111, 119]⟩, .string ⟨#[109, 105, 100]⟩, .string ⟨#[104, 105, 103, 104]⟩]) (by simp [results, Tryz.results64, go_sem]) rfl ⟨rfl, ?_⟩
  exact (Below.refl _ _).alloc (Nat.le_refl _) _
set_option maxRecDepth 100000 in
theorem lev_index (l : Int) (h0 : 0 ≤ l) (h1 : l ≤ 2) : ∀ w, (Instr.index 104 (.agg #[.string ⟨#[108, 111, 119]⟩, .string ⟨#[109, 105, 100]⟩, .string ⟨#[104, 105, 103, 104]⟩]) (.int .i64 l)).run Tryz.prog w = .ok (.string ⟨(levL l).toArray⟩) w := by
  have h : l = 0 ∨ l = 1 ∨ l = 2 := by omega
  rcases h with rfl | rfl | rfl <;> exact fun w => by kernel_rfl
theorem level_yes (l : Int) (h0 : 0 ≤ l) (h1 : l ≤ 2) (w : World) : Calls Tryz.prog 24 #[.int .i64 l] w fun e w' => e = .returned (.tuple #[.string ⟨(levL l).toArray⟩, .nilIface]) ∧ Below w.heap.size w w' := by
  have HI := Lib.hid (fun w' => is_yes l h0 h1 w')
  have HN := Lib.hid (fun w' => names_any3 w')
  have hix := lev_index l h0 h1
  clear h0 h1
  go_enter Tryz.func24, Tryz.ntmps24
  go_wp2_with fail
  refine (HI.out _).mono ?_
  rintro e w1 ⟨rfl, rfl⟩
  go_wp2_with fail
  refine (HN.out _).mono ?_
  rintro e w2 ⟨rfl, hb⟩
  go_wp2
  go_ret2
  exact ⟨rfl, hb⟩
theorem level_no (l : Int) (h : l < 0 ∨ 2 < l) (w : World) : Calls Tryz.prog 24 #[.int .i64 l] w fun e w' => e = .returned (.tuple #[.string ⟨#[]⟩, .iface 55 (.int .i64 13)]) ∧ w = w' := by
  have HI := Lib.hid (fun w' => is_no l h w')
  clear h
  go_enter Tryz.func24, Tryz.ntmps24
  go_wp2_with fail
  refine (HI.out _).mono ?_
  rintro e w1 ⟨rfl, rfl⟩
  go_wp2
  go_ret2
  exact ⟨rfl, rfl⟩
theorem rlevel_any (l : Int) (w : World) : Calls Tryz.prog 32 #[.int .i64 l] w fun e w' => e = .returned (.tuple #[.string ⟨(levL l).toArray⟩, .int .i64 (if 0 ≤ l ∧ l ≤ 2 then 0 else 13)]) ∧ w = w' := by
  by_cases h0 : l = 0
  · subst h0
    go_enter Tryz.func32, Tryz.ntmps32; go_wp2; go_ret2; exact ⟨rfl, rfl⟩
  · by_cases h1 : l = 1
    · subst h1
      go_enter Tryz.func32, Tryz.ntmps32; go_wp2; go_ret2; exact ⟨rfl, rfl⟩
    · by_cases h2 : l = 2
      · subst h2
        go_enter Tryz.func32, Tryz.ntmps32; go_wp2; go_ret2; exact ⟨rfl, rfl⟩
      · have e : levL l = [] := by unfold levL; rw [if_neg h0, if_neg h1, if_neg h2]
        rw [e, if_neg (show ¬ (0 ≤ l ∧ l ≤ 2) by omega)]
        have g0 : (l == 0) = false := by simp [h0]
        have g1 : (l == 1) = false := by simp [h1]
        have g2 : (l == 2) = false := by simp [h2]
        clear h0 h1 h2 e
        go_enter Tryz.func32, Tryz.ntmps32; go_wp2; go_ret2; exact ⟨rfl, rfl⟩

set_option maxRecDepth 100000 in
theorem vdigits_any (n : Nat) (h1 : 1 ≤ n) (hn : (n : Int) ≤ 1099511627776) (w : World) :
    Calls Tryz.prog 36 #[.int .i64 n] w fun e w' => e = .returned (.string ⟨(Lib.decDigits n).toArray⟩) ∧ Below w.heap.size w w' := by
  go_enter Tryz.func36, Tryz.ntmps36
  go_wp2
  go_loopw [0, 3, 4] (fun r s i wr => DRel n w r s i wr) (fun _ _ i _ => 20 - (intOf i).toNat)
  case atStart => exact ⟨0, n, ByteArray.empty, rfl, by omega, rfl, (show n * 10 ^ 0 ≤ 1099511627776 by omega), hn, rfl, by simp, .inl ⟨rfl, rfl, rfl⟩, Below.refl _ _⟩
  case round =>
    obtain ⟨i, nn, t, rfl, hi, rfl, hp, hb, rfl, ht, hd, hbl⟩ := hrel
    have hcv := conv_one wr (48 + (nn : Int) % 10)
    have hbr := hbl.size
    have hone : (strOfNums [48 + (nn : Int) % 10]).size ≤ 1 := Nat.le_refl 1
    by_cases hgo : 0 < nn
    · have hi20 : i < 20 := by
        rcases Nat.lt_or_ge i 20 with h | h
        · exact h
        · obtain rfl : i = 20 := by omega
          have h2 : nn * 10 ^ 20 ≤ 1099511627776 := hp
          omega
      have hnext := DInv.step hd (.inr hgo)
      have hsz : (strOfNums [48 + (nn : Int) % 10] ++ t).size ≤ i + 1 := by
        have : (strOfNums [48 + (nn : Int) % 10]).size = 1 := rfl
        rw [ByteArray.size_append]; omega
      have hpw : nn / 10 * 10 ^ (i + 1) ≤ 1099511627776 := by
        have h2 : nn * 10 ^ i ≤ 1099511627776 := hp
        have h3 : nn / 10 * 10 ≤ nn := Nat.div_mul_le_self nn 10
        calc nn / 10 * 10 ^ (i + 1) = (nn / 10 * 10) * 10 ^ i := by rw [Nat.pow_succ, Nat.mul_comm (10 ^ i) 10, Nat.mul_assoc]
          _ ≤ nn * 10 ^ i := Nat.mul_le_mul_right _ h3
          _ ≤ 1099511627776 := h2
      have HN := Lib.hid hnext; have HS := Lib.hid hsz; have HPW := Lib.hid hpw
      clear hnext hsz hpw hd hp
      go_wp2
      go_roundw
      case rel => exact ⟨i + 1, nn / 10, _, by go_num, by omega, by go_num, HPW, by omega, rfl, HS.out, HN.out, hbl.alloc hbr _⟩
      case measure => simp [intOf]; omega
    · obtain rfl : nn = 0 := by omega
      have hfin : Lib.decDigits n = t.data.toList := by
        rcases hd with ⟨_, h, _⟩ | ⟨_, h, _⟩ | ⟨_, _, h⟩
        · omega
        · omega
        · exact h
      have HF := Lib.hid hfin
      clear hfin hd hgo hp hcv
      go_wp2
      all_goals
        go_ret
        exact ⟨congrArg (fun x : ByteArray => Ending.returned (Value.string x)) (show t = ⟨(Lib.decDigits n).toArray⟩ by rw [HF.out]), hbl⟩

end Vw
end Go.Proofs.YtocoonkachbjaaaGreatDoor

/- A session as its cells say it. No program's code is walked here. -/
namespace Go.Proofs.YtocoonkachbjaaaGreatDoor
set_option linter.unusedVariables false
namespace Vw
structure Sess where
  slot : Int
  birth : Int
  us : Int
  ub : Int
  kind : Int
  user : ByteArray
  label : ByteArray
  scopes : Nat
  level : Int
  born : Int
  dl : Int
  depth : Int
def Sess.cells (s : Sess) : List Value := [.int .i64 s.slot, .int .i64 s.birth, .int .i64 s.us, .int .i64 s.ub, .int .i64 s.kind, .string s.user, .string s.label, .int .u64 (s.scopes : Int), .int .i64 s.level, .int .i64 s.born, .int .i64 s.dl, .int .i64 s.depth]
end Vw
end Go.Proofs.YtocoonkachbjaaaGreatDoor
