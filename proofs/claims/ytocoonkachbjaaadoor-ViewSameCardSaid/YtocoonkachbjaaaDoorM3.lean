/- Several texts in one: what each proves its own first comment says. -/
import Derived.Shelf.Strings.Builder1
import Derived.Shelf.Strings.BuilderK
import Derived.Test.YtocoonkachbjaaaDoorM2
import Derived.Test.YtocoonkachbjaaaDoorM1
import Derived.Lib.FrozenHead
import Derived.Sort.Grow
import Derived.Laws.Rows
import Derived.Lib.ItoaLen
import Derived.Laws.Concat
import Derived.Laws.BytesString
import Derived.Laws.BytesArg
import Derived.WalkLawsBesides
import Derived.WalkSpells
import Derived.Test.YtocoonkachbjaaaDoorProg
import Derived.BigQuiet
import Derived.Deep.QuietTactic
import Derived.Laws.Runes
import Derived.Laws.RangeAny
import Derived.Laws.RangeString
import Derived.Lib.OthersKept
import Derived.Lib.RangeT

/- The contracts of the shelf for strings.Builder, laid at this translation by hand. -/
namespace Go.Proofs
open Go.Shelf
def Tryd.lays240_ren : Go.Shelf.Ren := ⟨fun | 166 => 45 | 167 => 53 | 240 => 59 | 276 => 65 | n => n, fun | 0 => 0 | 3 => 3 | 4 => 4 | 5 => 5 | 9 => 9 | 20 => 20 | 37 => 93 | 70 => 92 | 72 => 95 | 75 => 45 | 80 => 100 | 164 => 121 | n => n, fun | n => n⟩
theorem Tryd.lays240 : Go.Proofs.Lays.n240 Tryd.prog Tryd.lays240_ren := {
  mixed := by kernel_rfl
  f240 := Tryd.func59.trans (congrArg some (by kernel_rfl))
  f276 := Tryd.func65.trans (congrArg some (by kernel_rfl))
  t0 := Tryd.underlying0
  a0 := Tryd.isAgg0
  z0 := Tryd.sizeOf0
  v0 := Tryd.zeroValue0
  t4 := Tryd.underlying4
  a4 := Tryd.isAgg4
  z4 := Tryd.sizeOf4
  v4 := Tryd.zeroValue4
  t9 := Tryd.underlying9
  a9 := Tryd.isAgg9
  z9 := Tryd.sizeOf9
  v9 := Tryd.zeroValue9
  t20 := Tryd.underlying20
  a20 := Tryd.isAgg20
  z20 := Tryd.sizeOf20
  v20 := Tryd.zeroValue20
  t70 := Tryd.underlying92
  a70 := Tryd.isAgg92
  z70 := Tryd.sizeOf92
  v70 := Tryd.zeroValue92
  t72 := Tryd.underlying95
  a72 := Tryd.isAgg95
  z72 := Tryd.sizeOf95
  v72 := Tryd.zeroValue95
  t164 := Tryd.underlying121
  a164 := Tryd.isAgg121
  z164 := Tryd.sizeOf121
  v164 := Tryd.zeroValue121 }
def Tryd.lays167_ren : Go.Shelf.Ren := ⟨fun | 166 => 45 | 167 => 53 | 240 => 59 | 276 => 65 | n => n, fun | 0 => 0 | 3 => 3 | 4 => 4 | 5 => 5 | 9 => 9 | 20 => 20 | 37 => 93 | 70 => 92 | 72 => 95 | 75 => 45 | 80 => 100 | 164 => 121 | n => n, fun | n => n⟩
theorem Tryd.lays167 : Go.Proofs.Lays.n167 Tryd.prog Tryd.lays167_ren := {
  mixed := by kernel_rfl
  f167 := Tryd.func53.trans (congrArg some (by kernel_rfl))
  f240 := Tryd.func59.trans (congrArg some (by kernel_rfl))
  f276 := Tryd.func65.trans (congrArg some (by kernel_rfl))
  t0 := Tryd.underlying0
  a0 := Tryd.isAgg0
  z0 := Tryd.sizeOf0
  v0 := Tryd.zeroValue0
  t4 := Tryd.underlying4
  a4 := Tryd.isAgg4
  z4 := Tryd.sizeOf4
  v4 := Tryd.zeroValue4
  t5 := Tryd.underlying5
  a5 := Tryd.isAgg5
  z5 := Tryd.sizeOf5
  v5 := Tryd.zeroValue5
  t9 := Tryd.underlying9
  a9 := Tryd.isAgg9
  z9 := Tryd.sizeOf9
  v9 := Tryd.zeroValue9
  t20 := Tryd.underlying20
  a20 := Tryd.isAgg20
  z20 := Tryd.sizeOf20
  v20 := Tryd.zeroValue20
  t37 := Tryd.underlying93
  a37 := Tryd.isAgg93
  z37 := Tryd.sizeOf93
  v37 := Tryd.zeroValue93
  t70 := Tryd.underlying92
  a70 := Tryd.isAgg92
  z70 := Tryd.sizeOf92
  v70 := Tryd.zeroValue92
  t72 := Tryd.underlying95
  a72 := Tryd.isAgg95
  z72 := Tryd.sizeOf95
  v72 := Tryd.zeroValue95
  t75 := Tryd.underlying45
  a75 := Tryd.isAgg45
  z75 := Tryd.sizeOf45
  v75 := Tryd.zeroValue45
  t164 := Tryd.underlying121
  a164 := Tryd.isAgg121
  z164 := Tryd.sizeOf121
  v164 := Tryd.zeroValue121 }
def Tryd.lays166_ren : Go.Shelf.Ren := ⟨fun | 166 => 45 | 167 => 53 | 240 => 59 | 276 => 65 | n => n, fun | 0 => 0 | 3 => 3 | 4 => 4 | 5 => 5 | 9 => 9 | 20 => 20 | 37 => 93 | 70 => 92 | 72 => 95 | 75 => 45 | 80 => 100 | 164 => 121 | n => n, fun | n => n⟩
theorem Tryd.lays166 : Go.Proofs.Lays.n166 Tryd.prog Tryd.lays166_ren := {
  mixed := by kernel_rfl
  f166 := Tryd.func45.trans (congrArg some (by kernel_rfl))
  f240 := Tryd.func59.trans (congrArg some (by kernel_rfl))
  f276 := Tryd.func65.trans (congrArg some (by kernel_rfl))
  t0 := Tryd.underlying0
  a0 := Tryd.isAgg0
  z0 := Tryd.sizeOf0
  v0 := Tryd.zeroValue0
  t3 := Tryd.underlying3
  a3 := Tryd.isAgg3
  z3 := Tryd.sizeOf3
  v3 := Tryd.zeroValue3
  t4 := Tryd.underlying4
  a4 := Tryd.isAgg4
  z4 := Tryd.sizeOf4
  v4 := Tryd.zeroValue4
  t9 := Tryd.underlying9
  a9 := Tryd.isAgg9
  z9 := Tryd.sizeOf9
  v9 := Tryd.zeroValue9
  t20 := Tryd.underlying20
  a20 := Tryd.isAgg20
  z20 := Tryd.sizeOf20
  v20 := Tryd.zeroValue20
  t37 := Tryd.underlying93
  a37 := Tryd.isAgg93
  z37 := Tryd.sizeOf93
  v37 := Tryd.zeroValue93
  t70 := Tryd.underlying92
  a70 := Tryd.isAgg92
  z70 := Tryd.sizeOf92
  v70 := Tryd.zeroValue92
  t72 := Tryd.underlying95
  a72 := Tryd.isAgg95
  z72 := Tryd.sizeOf95
  v72 := Tryd.zeroValue95
  t75 := Tryd.underlying45
  a75 := Tryd.isAgg45
  z75 := Tryd.sizeOf45
  v75 := Tryd.zeroValue45
  t164 := Tryd.underlying121
  a164 := Tryd.isAgg121
  z164 := Tryd.sizeOf121
  v164 := Tryd.zeroValue121 }
theorem Tryd.Builder_X72 : Builder.X72 Tryd.prog Tryd.lays240_ren := { sizeBuilder := by kernel_rfl, liesBuilder := by kernel_rfl }
theorem Tryd.Builder_Extra_167 : Builder.Extra Tryd.prog Tryd.lays167_ren := {
  sizeBuilder := by kernel_rfl
  liesBuilder := by kernel_rfl
  t5 := Tryd.underlying5
  a5 := Tryd.isAgg5
  z5 := Tryd.sizeOf5
  v5 := Tryd.zeroValue5
  infoByte := by kernel_rfl
  cellsByte := by kernel_rfl
  sizeByte := by kernel_rfl
  neB5 := by decide }
theorem Tryd.Builder_Extra_166 : Builder.Extra Tryd.prog Tryd.lays166_ren := {
  sizeBuilder := by kernel_rfl
  liesBuilder := by kernel_rfl
  t5 := Tryd.underlying5
  a5 := Tryd.isAgg5
  z5 := Tryd.sizeOf5
  v5 := Tryd.zeroValue5
  infoByte := by kernel_rfl
  cellsByte := by kernel_rfl
  sizeByte := by kernel_rfl
  neB5 := by decide }
open Go.RowKit Go.Lib in
theorem Tryd.Builder_WriteByte (B b : Nat) (bs : List Value) (c : Int) (w : World) (h : Lib.IsBuilder 95 5 B b bs w) (hlen : bs.length + 1 ≤ 140737488355328) (hBw : B ≤ w.heap.size) :
    Calls Tryd.prog 53 #[.pointer (some ⟨b, 0, none⟩), .int .u8 c] w fun e w' => e = .returned .nilIface ∧ (Lib.BuilderAt 95 5 B b (.pointer (some ⟨b, 0, none⟩)) (bs ++ [.int .u8 c]) w' ∧ Below B w w') :=
  Any.Builder_WriteByte Tryd.lays167 Tryd.Builder_Extra_167 B b bs c w h hlen hBw
open Go.RowKit Go.Lib in
theorem Tryd.Builder_WriteString (B b : Nat) (bs : List Value) (s : ByteArray) (w : World) (h : Lib.IsBuilder 95 5 B b bs w) (hlen : bs.length + s.size ≤ 140737488355328) (hBw : B ≤ w.heap.size) :
    Calls Tryd.prog 45 #[.pointer (some ⟨b, 0, none⟩), .string s] w fun e w' => e = .returned (.tuple #[.int .i64 s.size, .nilIface]) ∧ (Lib.BuilderAt 95 5 B b (.pointer (some ⟨b, 0, none⟩)) (bs ++ Lib.strCells s) w' ∧ Below B w w') :=
  Any.Builder_WriteString Tryd.lays166 Tryd.Builder_Extra_166 B b bs s w h hlen hBw
open Go.RowKit Go.Lib in
theorem Tryd.Builder_WriteByte_k (B b : Nat) (bs : List Value) (c : Int) (w : World) (h : Lib.IsBuilderF 95 5 B b bs w) (hlen : bs.length + 1 ≤ 140737488355328) (hBw : B ≤ w.heap.size) :
    Calls Tryd.prog 53 #[.pointer (some ⟨b, 0, none⟩), .int .u8 c] w fun e w' => e = .returned .nilIface ∧ (Lib.BuilderAtF 95 5 B b (.pointer (some ⟨b, 0, none⟩)) (bs ++ [.int .u8 c]) w' ∧ Below B w w' ∧ Lib.OthersKept 5 (some b) w w') :=
  Any.Builder_WriteByte_k Tryd.lays167 Tryd.Builder_Extra_167 B b bs c w h hlen hBw
open Go.RowKit Go.Lib in
theorem Tryd.Builder_WriteString_k (B b : Nat) (bs : List Value) (s : ByteArray) (w : World) (h : Lib.IsBuilderF 95 5 B b bs w) (hlen : bs.length + s.size ≤ 140737488355328) (hBw : B ≤ w.heap.size) :
    Calls Tryd.prog 45 #[.pointer (some ⟨b, 0, none⟩), .string s] w fun e w' => e = .returned (.tuple #[.int .i64 s.size, .nilIface]) ∧ (Lib.BuilderAtF 95 5 B b (.pointer (some ⟨b, 0, none⟩)) (bs ++ Lib.strCells s) w' ∧ Below B w w' ∧ Lib.OthersKept 5 (some b) w w') :=
  Any.Builder_WriteString_k Tryd.lays166 Tryd.Builder_Extra_166 B b bs s w h hlen hBw
end Go.Proofs

/- A builder stays a builder where all that was there stays; strconv.Itoa's contract with 'Below'. -/
namespace Go.Proofs.YtocoonkachbjaaaDoor
open Go.RowKit
set_option linter.unusedVariables false

theorem bF_below {T e : TypeId} {B b : Nat} {bs : List Value} {w w' : World} (h : Lib.IsBuilderF T e B b bs w) (hb : Below w.heap.size w w') : Lib.IsBuilderF T e B b bs w' := by
  have one : ∀ p, Lib.BuilderAtF T e B b p bs w → Lib.BuilderAtF T e B b p bs w' := by
    intro p ⟨h1, v, h2, h3, h4⟩
    refine ⟨h1, v, by rw [hb.block b (Array.getElem?_eq_some_iff.1 h2).1]; exact h2, ⟨h3.1, ?_⟩, h4⟩
    rcases h3.2 with h5 | ⟨g, cap, cur, fz, h5, h6, h7, h8⟩
    · exact .inl h5
    · exact .inr ⟨g, cap, cur, fz, h5, h6, by rw [hb.block g (Array.getElem?_eq_some_iff.1 h7).1]; exact h7, h8⟩
  rcases h with h | h
  · exact .inl (one _ h)
  · exact .inr (one _ h)

theorem bF_lt {T e : TypeId} {B b : Nat} {bs : List Value} {w : World} (h : Lib.IsBuilderF T e B b bs w) : b < w.heap.size := by
  rcases h with ⟨_, v, h2, _⟩ | ⟨_, v, h2, _⟩ <;> exact (Array.getElem?_eq_some_iff.1 h2).1

theorem bF_base {T e : TypeId} {B b : Nat} {bs : List Value} {w : World} (h : Lib.IsBuilderF T e B b bs w) : B ≤ b := by
  rcases h with ⟨h2, _⟩ | ⟨h2, _⟩ <;> exact h2

/-- A cell of a block that is neither the builder's nor a row of bytes stays, over a write. -/
theorem kept_cell {e : TypeId} {b : Nat} {w w' : World} (h : Lib.OthersKept e (some b) w w') {k : Nat} {cs : Array Value} {t : TypeId} {fz : Nat × Nat} (hk : w.heap[k]? = some (.cells cs t fz)) (hkb : k ≠ b) (ht : t ≠ e) : w'.heap[k]? = some (.cells cs t fz) :=
  h k _ hk (by simpa using hkb) (fun c z hc => by cases hc; exact ht rfl)

theorem cell_of_block {w : World} {k : Nat} {cs : Array Value} {t : TypeId} {fz : Nat × Nat} (h : w.heap[k]? = some (.cells cs t fz)) (j : Nat) : w.cell? ⟨k, j, none⟩ = cs[j]? := by
  simp [World.cell?, h]

theorem itoa_below (n : Int) (h0 : -9223372036854775808 ≤ n) (h1 : n ≤ 9223372036854775807) (w : World) (htab : Lib.TabIs Tryd.prog w "internal/strconv.uint64pow10" .u64 Lib.pow10Tab) :
    Calls Tryd.prog 34 #[.int .i64 n] w fun e w' => e = .returned (.string ⟨(Lib.itoa n).toArray⟩) ∧ Below w.heap.size w w' :=
  (Tryd.strconv_Itoa n h0 h1 w htab).mono fun e w' ⟨he, k, os, hw⟩ => ⟨he, by
    subst hw
    exact ⟨rfl, rfl, rfl, by simp [Go.Sort.grow], fun i hi => by simp [Go.Sort.grow, Array.getElem?_append, hi]⟩⟩

theorem tab_below {w w' : World} {name : String} {k : IntKind} {zs : List Int} {g : Nat} (hg : Tryd.prog.globalNamed name = some g) (h : Lib.TabIs Tryd.prog w name k zs) {B : Nat} (hB : g < B) (hb : Below B w w') : Lib.TabIs Tryd.prog w' name k zs := by
  unfold Lib.TabIs World.var? at h ⊢
  rw [hg] at h ⊢
  simp only [Option.bind_some] at h ⊢
  rw [hb.block g hB]; exact h

theorem tab_lt {w : World} {name : String} {k : IntKind} {zs : List Int} {g : Nat} (hg : Tryd.prog.globalNamed name = some g) (h : Lib.TabIs Tryd.prog w name k zs) : g < w.heap.size := by
  unfold Lib.TabIs World.var? at h
  rw [hg] at h
  simp only [Option.bind_some] at h
  rcases Nat.lt_or_ge g w.heap.size with h0 | h0
  · exact h0
  · rw [Array.getElem?_eq_none h0] at h; cases h

end Go.Proofs.YtocoonkachbjaaaDoor

/- clock.Print: what it hands back, of any number of ticks. -/
namespace Go.Proofs.YtocoonkachbjaaaDoor
open Go.RowKit
set_option linter.unusedVariables false

def worthOf : Nat → Int
  | 0 => 86400
  | 1 => 3600
  | 2 => 60
  | _ => 1
def letterOf : Nat → Int
  | 0 => 100
  | 1 => 104
  | 2 => 109
  | _ => 115
def mostOf : Nat → Int
  | 0 => 1099511627777
  | 1 => 23
  | _ => 59
/-- What is left ahead of part k. -/
def remAt (t : Int) : Nat → Int
  | 0 => t
  | k + 1 => remAt t k % worthOf k
def dpart (n c : Int) : List UInt8 := if 0 < n then Lib.itoa n ++ [UInt8.ofNat c.toNat] else []
/-- What has been written ahead of part k. -/
def accAt (t : Int) : Nat → List UInt8
  | 0 => []
  | k + 1 => accAt t k ++ dpart (remAt t k / worthOf k) (letterOf k)
/-- A number of ticks as a text. -/
def prt (t : Int) : List UInt8 := if t = 0 then [48, 115] else accAt t 4

theorem worth_pos (k : Nat) : 1 ≤ worthOf k ∧ worthOf k ≤ 86400 := by
  match k with
  | 0 => simp [worthOf]
  | 1 => simp [worthOf]
  | 2 => simp [worthOf]
  | k + 3 => simp [worthOf]

theorem letter_bd (k : Nat) : 0 ≤ letterOf k ∧ letterOf k ≤ 127 := by
  match k with
  | 0 => simp [letterOf]
  | 1 => simp [letterOf]
  | 2 => simp [letterOf]
  | k + 3 => simp [letterOf]

theorem remAt_bd (t : Int) (h0 : 0 ≤ t) (h1 : t ≤ 1099511627776) : ∀ k, 0 ≤ remAt t k ∧ remAt t k ≤ 1099511627776
  | 0 => ⟨h0, h1⟩
  | k + 1 => by
    obtain ⟨a, b⟩ := remAt_bd t h0 h1 k
    obtain ⟨c, d⟩ := worth_pos k
    unfold remAt
    have e1 := Int.emod_nonneg (remAt t k) (show worthOf k ≠ 0 by omega)
    have e2 := Int.emod_lt_of_pos (remAt t k) (show 0 < worthOf k by omega)
    omega

/-- The table of the parts, as the program's text lays it. -/
def partsCells : Array Value := #[.int .u8 100, .int .i64 86400, .int .i64 1099511627777, .int .u8 104, .int .i64 3600, .int .i64 23, .int .u8 109, .int .i64 60, .int .i64 59, .int .u8 115, .int .i64 1, .int .i64 59]
def PartsAt (w : World) : Prop := ∃ t fr, w.heap[0]? = some (.cells partsCells t fr)

theorem PartsAt.lt {w : World} (h : PartsAt w) : 0 < w.heap.size := by
  obtain ⟨t, fr, h⟩ := h; exact (Array.getElem?_eq_some_iff.1 h).1

theorem print_no (t : Int) (h : tm t = false) (w : World) :
    Calls Tryd.prog 31 #[.int .i64 t] w fun e w' => e = .returned (.tuple #[.string ⟨#[]⟩, .iface 69 (.int .i64 12)]) ∧ w = w' := by
  go_enter Tryd.func31, Tryd.ntmps31
  go_wp2_with (go_at_call 52; refine (time_any _ _).mono ?_; rintro e w' ⟨rfl, rfl⟩)
  go_ret2
  exact ⟨rfl, rfl⟩

theorem print_zero (w : World) :
    Calls Tryd.prog 31 #[.int .i64 0] w fun e w' => e = .returned (.tuple #[.string ⟨(prt 0).toArray⟩, .nilIface]) ∧ w = w' := by
  have h : tm 0 = true := rfl
  go_enter Tryd.func31, Tryd.ntmps31
  go_wp2_with (go_at_call 52; refine (time_any _ _).mono ?_; rintro e w' ⟨rfl, rfl⟩)
  go_ret2
  exact ⟨rfl, rfl⟩

set_option maxRecDepth 100000 in
theorem part_index (k : Nat) (hk : k < 4) : ∀ w, (Instr.index 108 (.agg partsCells) (.int .i64 (k : Int))).run Tryd.prog w = .ok (.agg #[.int .u8 (letterOf k), .int .i64 (worthOf k), .int .i64 (mostOf k)]) w := by
  match k, hk with
  | 0, _ => exact fun w => by kernel_rfl
  | 1, _ => exact fun w => by kernel_rfl
  | 2, _ => exact fun w => by kernel_rfl
  | 3, _ => exact fun w => by kernel_rfl

set_option maxHeartbeats 2000000 in
theorem print_yes (t : Int) (h : tm t = true) (hne : t ≠ 0) (w : World) (hp : PartsAt w) (htab : Lib.TabIs Tryd.prog w "internal/strconv.uint64pow10" .u64 Lib.pow10Tab) :
    Calls Tryd.prog 31 #[.int .i64 t] w fun e w' => e = .returned (.tuple #[.string ⟨(prt t).toArray⟩, .nilIface]) ∧ Below w.heap.size w w' := by
  obtain ⟨b0, b1⟩ := tm_yes h
  have hq : (t == 0) = false := by rw [beq_eq_false_iff_ne]; exact hne
  have hplt := hp.lt
  obtain ⟨pt, fr, hpt⟩ := hp
  have HT := Lib.hid htab; clear htab
  go_enter Tryd.func31, Tryd.ntmps31
  go_wp2_with (first | (go_at_call 52; refine (time_any _ _).mono ?_; rintro e w' ⟨rfl, rfl⟩) | (refine wpList_load_row rfl 108 _ rfl 0 rfl pt partsCells fr _ ?_ Tryd.underlying108 rfl (by kernel_rfl) ?_))
  · rw [Below.heap_alloc _ _ _ hplt]; exact hpt
  have hb0 : Lib.IsBuilderF 95 5 w.heap.size w.heap.size (Lib.byteCells (accAt t 0)) (w.alloc (.cells #[.pointer none, .slice none 0 0] 95)) := Lib.IsBuilderF.of (Lib.fresh_isBuilder 95 5 w)
  have hbl0 : Below w.heap.size w (w.alloc (.cells #[.pointer none, .slice none 0 0] 95)) := (Below.refl _ _).alloc (Nat.le_refl _) _
  go_loopw [0, 15] (fun r i wr => ∃ k : Nat, k ≤ 4 ∧ i = .int .i64 k ∧ r = .int .i64 (remAt t k) ∧ (accAt t k).length ≤ 24 * k ∧ Lib.IsBuilderF 95 5 w.heap.size w.heap.size (Lib.byteCells (accAt t k)) wr ∧ Below w.heap.size w wr) (fun _ i _ => 4 - (intOf i).toNat)
  case atStart => exact ⟨0, by omega, rfl, rfl, by simp [accAt], hb0, hbl0⟩
  case round =>
    obtain ⟨k, hk, rfl, rfl, hal, hbu, hbl⟩ := hrel
    clear hb0 hbl0
    by_cases hk4 : k < 4
    · have hix := part_index k hk4
      obtain ⟨c1, c2⟩ := worth_pos k
      obtain ⟨r1, r2⟩ := remAt_bd t b0 b1 k
      have hrs : remAt t (k + 1) = remAt t k % worthOf k := rfl
      have has : accAt t (k + 1) = accAt t k ++ dpart (remAt t k / worthOf k) (letterOf k) := rfl
      obtain ⟨W, hW⟩ : ∃ W, W = worthOf k := ⟨_, rfl⟩
      obtain ⟨R, hR⟩ : ∃ R, R = remAt t k := ⟨_, rfl⟩
      obtain ⟨c, hc⟩ : ∃ c, c = letterOf k := ⟨_, rfl⟩
      rw [← hW, ← hc] at hix
      rw [← hW] at c1 c2 hrs has
      rw [← hR] at r1 r2 hrs has ⊢
      rw [← hc] at has
      have HRS := Lib.hid hrs; have HAS := Lib.hid has
      have HCB : 0 ≤ c ∧ c ≤ 127 := by rw [hc]; exact letter_bd k
      obtain ⟨hc1, hc2⟩ := HCB
      clear hW hR hrs has hc
      have hdiv : 0 ≤ R / W := Int.ediv_nonneg r1 (by omega)
      have hdle : R / W ≤ R := Int.ediv_le_self _ r1
      by_cases hn : 0 < R / W
      · have hbr := hbl.size
        have hbw : w.heap.size < wr.heap.size := bF_lt hbu
        obtain ⟨HTR⟩ : Nonempty (Hid (Lib.TabIs Tryd.prog (wr.alloc (.cells #[.int .u8 c, .int .i64 W, .int .i64 (mostOf k)] 107)) "internal/strconv.uint64pow10" .u64 Lib.pow10Tab)) :=
          ⟨tab_below (g := 2) (by kernel_rfl) HT.out (tab_lt (by kernel_rfl) HT.out) (hbl.alloc hbr _)⟩
        go_wp2_with fail
        refine (itoa_below (R / W) (by omega) (by omega) _ HTR.out).mono ?_
        rintro e w1 ⟨rfl, hb1⟩
        have hbu1 := bF_below (hbu.alloc (.cells #[.int .u8 c, .int .i64 W, .int .i64 (mostOf k)] 107)) hb1
        have hpb : w1.heap[wr.heap.size]? = some (.cells #[.int .u8 c, .int .i64 W, .int .i64 (mostOf k)] 107 (0, 0)) := by
          rw [hb1.block _ (by simp)]; exact Ut.alloc_at _ _
        have hil : (Lib.itoa (R / W)).length ≤ 21 := Lib.itoa_length_le _ (by omega) (by omega)
        have HIL := Lib.hid hil
        go_wp2_with fail
        refine (Tryd.Builder_WriteString_k _ _ _ ⟨(Lib.itoa (R / W)).toArray⟩ _ hbu1 ?_ ?_).mono ?_
        · simp [Lib.byteCells_length, ByteArray.size]; omega
        · have := hb1.size; simp at this; omega
        rintro e w2 ⟨rfl, hbu2, hb2, hk2⟩
        have hpb2 := kept_cell hk2 hpb (by omega) (by decide)
        have hcl := cell_of_block hpb2 0
        have hcw := cell_of_block hpb2 1
        simp at hcl hcw
        clear hk2
        go_wp2_with fail
        refine (Tryd.Builder_WriteByte_k _ _ _ c _ (.inr hbu2) ?_ ?_).mono ?_
        · simp [Lib.byteCells_length, Lib.strCells_length, ByteArray.size]; omega
        · have h1 := hb1.size; have h2 := hb2.size; simp at h1; omega
        rintro e w3 ⟨rfl, hbu3, hb3, hk3⟩
        have hpb3 := kept_cell hk3 hpb2 (by omega) (by decide)
        have hcw3 := cell_of_block hpb3 1
        simp at hcw3
        clear hk3
        have hbf : Below w.heap.size w w3 := (((hbl.alloc hbr _).trans (hb1.mono (by simp; omega))).trans hb2).trans hb3
        go_wp2
        go_roundw
        case rel =>
          have ed : dpart (R / W) c = Lib.itoa (R / W) ++ [UInt8.ofNat c.toNat] := if_pos hn
          have ec : Lib.byteCells (accAt t k ++ (Lib.itoa (R / W) ++ [UInt8.ofNat c.toNat])) = Lib.byteCells (accAt t k) ++ Lib.strCells ⟨(Lib.itoa (R / W)).toArray⟩ ++ [.int .u8 c] := by
            simp [Lib.byteCells, Lib.strCells]; omega
          refine ⟨k + 1, by omega, by go_num, by rw [HRS.out], ?_, ?_, hbf⟩
          · rw [HAS.out, ed]; simp; omega
          · rw [HAS.out, ed]
            refine .inr ?_
            rw [ec]; exact hbu3
        case measure => simp [intOf]; omega
      · have hbr := hbl.size
        have hd0 : R / W = 0 := by omega
        have HD := Lib.hid hd0
        clear hd0
        go_wp2
        go_roundw
        case rel =>
          have ed : dpart (R / W) c = [] := if_neg (by omega)
          refine ⟨k + 1, by omega, by go_num, by rw [HRS.out], ?_, ?_, hbl.alloc hbr _⟩
          · rw [HAS.out, ed]; simp; omega
          · rw [HAS.out, ed, List.append_nil]; exact hbu.alloc _
        case measure => simp [intOf]; omega
    · obtain rfl : k = 4 := by omega
      have hbr := hbl.size
      have hpr : prt t = accAt t 4 := if_neg hne
      have HPR := Lib.hid hpr
      clear hpr
      go_wp2_with fail
      refine (Tryd.Builder_String_any_k _ _ (accAt t 4) _ hbu hbr).mono ?_
      rintro e w1 ⟨rfl, _, hb1, _⟩
      go_wp2
      go_ret2
      exact ⟨congrArg (fun l : List UInt8 => Ending.returned (Value.tuple #[Value.string ⟨l.toArray⟩, Value.nilIface])) HPR.out.symm, hbl.trans hb1⟩

end Go.Proofs.YtocoonkachbjaaaDoor

/- The reference's worth, digits and Print. -/
namespace Go.Proofs.YtocoonkachbjaaaDoor
open Go.RowKit
set_option linter.unusedVariables false

theorem conv_one (w : World) (x : Int) : (convert 93 9 (.slice (some ⟨w.heap.size, 0, none⟩) 1 1)).run Tryd.prog (w.alloc (.cells #[.int .u8 x] 5)) = .ok (.string (strOfNums [x])) (w.alloc (.cells #[.int .u8 x] 5)) :=
  run_convert_bytes_arg (w.alloc (.cells #[.int .u8 x] 5)) 93 5 Tryd.underlying93 Tryd.underlying5 w.heap.size 0 1 1 [x] rfl (fun i hi => by
    obtain rfl : i = 0 := by omega
    simp) 9 Tryd.underlying9

theorem strOfNums_one (x : Int) : (strOfNums [x]).data.toList = [UInt8.ofNat x.toNat] := rfl

/-- The digits that have been made, and what is left. -/
def DInv (n : Nat) (i nn : Nat) (s : ByteArray) : Prop :=
  (i = 0 ∧ nn = n ∧ s.data.toList = []) ∨ (0 < i ∧ 0 < nn ∧ Lib.decDigits n = Lib.decDigits nn ++ s.data.toList) ∨ (0 < i ∧ nn = 0 ∧ Lib.decDigits n = s.data.toList)

set_option maxHeartbeats 1000000 in
theorem DInv.step {n i nn : Nat} {t : ByteArray} (h : DInv n i nn t) (hgo : i = 0 ∨ 0 < nn) : DInv n (i + 1) (nn / 10) (strOfNums [48 + (nn : Int) % 10] ++ t) := by
  have e : (strOfNums [48 + (nn : Int) % 10] ++ t).data.toList = UInt8.ofNat (48 + nn % 10) :: t.data.toList := by
    rw [ByteArray.data_append, Array.toList_append, strOfNums_one]
    have : (48 + (nn : Int) % 10).toNat = 48 + nn % 10 := by omega
    rw [this]; rfl
  have base : Lib.decDigits n = Lib.decDigits nn ++ t.data.toList := by
    rcases h with ⟨_, rfl, h⟩ | ⟨_, _, h⟩ | ⟨h1, h2, _⟩
    · rw [h, List.append_nil]
    · exact h
    · omega
  by_cases hlt : nn < 10
  · refine .inr (.inr ⟨by omega, by omega, ?_⟩)
    rw [e, base, Lib.decDigits_one hlt, Nat.mod_eq_of_lt hlt]; rfl
  · refine .inr (.inl ⟨by omega, by omega, ?_⟩)
    rw [e, base, Lib.decDigits, dif_neg hlt]; simp

def DRel (n : Nat) (w : World) (r s i : Value) (wr : World) : Prop :=
  ∃ (i' nn : Nat) (t : ByteArray), i = .int .i64 i' ∧ i' ≤ 20 ∧ r = .int .i64 nn ∧ nn * 10 ^ i' ≤ 1099511627776 ∧ (nn : Int) ≤ 1099511627776 ∧ s = .string t ∧ t.size ≤ i' ∧ DInv n i' nn t ∧ Below w.heap.size w wr

end Go.Proofs.YtocoonkachbjaaaDoor

/- The reference's Print. -/
namespace Go.Proofs.YtocoonkachbjaaaDoor
open Go.RowKit
set_option linter.unusedVariables false

def DigIs (n : Int) (d : ByteArray) : Prop := d.data.toList = Lib.itoa n

def RPRel (t : Int) (w : World) (r s i : Value) (wr : World) : Prop :=
  ∃ (k : Nat) (x : ByteArray), k ≤ 4 ∧ i = .int .i64 k ∧ r = .int .i64 (remAt t k) ∧ s = .string x ∧ x.data.toList = accAt t k ∧ x.size ≤ 24 * k ∧ Below w.heap.size w wr

def LetIs (k : Nat) (L : ByteArray) : Prop := L.data.toList = [UInt8.ofNat (letterOf k).toNat]
set_option maxRecDepth 100000 in
theorem letters_slice (k : Nat) (hk : k < 4) : ∃ L : ByteArray, LetIs k L ∧ L.size ≤ 1 ∧ ∀ w, (Instr.slice 9 (.string ⟨#[100, 104, 109, 115]⟩) (some (.int .i64 (k : Int))) (some (.int .i64 ((k : Int) + 1))) none).run Tryd.prog w = .ok (.string L) w := by
  match k, hk with
  | 0, _ => exact ⟨⟨#[100]⟩, rfl, Nat.le_refl _, fun w => by kernel_rfl⟩
  | 1, _ => exact ⟨⟨#[104]⟩, rfl, Nat.le_refl _, fun w => by kernel_rfl⟩
  | 2, _ => exact ⟨⟨#[109]⟩, rfl, Nat.le_refl _, fun w => by kernel_rfl⟩
  | 3, _ => exact ⟨⟨#[115]⟩, rfl, Nat.le_refl _, fun w => by kernel_rfl⟩

end Go.Proofs.YtocoonkachbjaaaDoor

/- A session's line: the words of a kind and of a level, and the digits of a number; the program's and the document's. -/
namespace Go.Proofs.YtocoonkachbjaaaDoor
open Go.RowKit
set_option linter.unusedVariables false
namespace Vw
abbrev Bs := List UInt8

/-- A kind's word; a level's. -/
def kindL (k : Int) : Bs := if k = 0 then [108, 111, 103, 105, 110] else if k = 1 then [100, 101, 108, 101, 103, 97, 116, 101, 100] else if k = 2 then [114, 97, 105, 115, 101, 100] else []
def levL (l : Int) : Bs := if l = 0 then [108, 111, 119] else if l = 1 then [109, 105, 100] else if l = 2 then [104, 105, 103, 104] else []
theorem kind_len (k : Int) : (kindL k).length ≤ 9 := by unfold kindL; (repeat' split) <;> simp
theorem lev_len (l : Int) : (levL l).length ≤ 4 := by unfold levL; (repeat' split) <;> simp

theorem vword_any (k : Int) (w : World) : Calls Tryd.prog 28 #[.int .i64 k] w fun e w' => e = .returned (.string ⟨(kindL k).toArray⟩) ∧ w = w' := by
  by_cases h0 : k = 0
  · subst h0
    go_enter Tryd.func28, Tryd.ntmps28; go_wp2; go_ret; exact ⟨rfl, rfl⟩
  · by_cases h1 : k = 1
    · subst h1
      go_enter Tryd.func28, Tryd.ntmps28; go_wp2; go_ret; exact ⟨rfl, rfl⟩
    · by_cases h2 : k = 2
      · subst h2
        go_enter Tryd.func28, Tryd.ntmps28; go_wp2; go_ret; exact ⟨rfl, rfl⟩
      · have e : kindL k = [] := by unfold kindL; rw [if_neg h0, if_neg h1, if_neg h2]
        rw [e]
        have g0 : (k == 0) = false := by simp [h0]
        have g1 : (k == 1) = false := by simp [h1]
        have g2 : (k == 2) = false := by simp [h2]
        clear h0 h1 h2 e
        go_enter Tryd.func28, Tryd.ntmps28; go_wp2; go_ret; exact ⟨rfl, rfl⟩
theorem is_yes (l : Int) (h0 : 0 ≤ l) (h1 : l ≤ 2) (w : World) : Calls Tryd.prog 49 #[.int .i64 l] w fun e w' => e = .returned (.bool true) ∧ w = w' := by
  go_enter Tryd.func49, Tryd.ntmps49
  go_wp2
  go_ret
  exact ⟨by simp, rfl⟩
theorem is_no (l : Int) (h : l < 0 ∨ 2 < l) (w : World) : Calls Tryd.prog 49 #[.int .i64 l] w fun e w' => e = .returned (.bool false) ∧ w = w' := by
  by_cases h1 : l < 0
  · have g : decide (0 ≤ l) = false := by simp; omega
    clear h
    go_enter Tryd.func49, Tryd.ntmps49
    go_wp2
    go_ret
    exact ⟨by simp, rfl⟩
  · have h2 : 0 ≤ l := by omega
    have h3 : 2 < l := by omega
    have g : decide (l ≤ 2) = false := by simp; omega
    clear h h1
    go_enter Tryd.func49, Tryd.ntmps49
    go_wp2
    go_ret
    exact ⟨by simp, rfl⟩
theorem names_any3 (w : World) : Calls Tryd.prog 50 #[] w fun e w' => e = .returned (.agg #[.string ⟨#[108, 111, 119]⟩, .string ⟨#[109, 105, 100]⟩, .string ⟨#[104, 105, 103, 104]⟩]) ∧ Below w.heap.size w w' := by
  go_enter Tryd.func50, Tryd.ntmps50
  go_wp2
  refine bodyPost_ret (v := .agg #[.string ⟨#[108, 111, 119]⟩, .string ⟨#[109, 105, 100]⟩, .string ⟨#[104, 105, 103, 104]⟩]) (by simp [results, Tryd.results50, go_sem]) rfl ⟨rfl, ?_⟩
  exact (Below.refl _ _).alloc (Nat.le_refl _) _
set_option maxRecDepth 100000 in
theorem lev_index (l : Int) (h0 : 0 ≤ l) (h1 : l ≤ 2) : ∀ w, (Instr.index 103 (.agg #[.string ⟨#[108, 111, 119]⟩, .string ⟨#[109, 105, 100]⟩, .string ⟨#[104, 105, 103, 104]⟩]) (.int .i64 l)).run Tryd.prog w = .ok (.string ⟨(levL l).toArray⟩) w := by
  have h : l = 0 ∨ l = 1 ∨ l = 2 := by omega
  rcases h with rfl | rfl | rfl <;> exact fun w => by kernel_rfl
theorem level_yes (l : Int) (h0 : 0 ≤ l) (h1 : l ≤ 2) (w : World) : Calls Tryd.prog 29 #[.int .i64 l] w fun e w' => e = .returned (.tuple #[.string ⟨(levL l).toArray⟩, .nilIface]) ∧ Below w.heap.size w w' := by
  have HI := Lib.hid (fun w' => is_yes l h0 h1 w')
  have HN := Lib.hid (fun w' => names_any3 w')
  have hix := lev_index l h0 h1
  clear h0 h1
  go_enter Tryd.func29, Tryd.ntmps29
  go_wp2_with fail
  refine (HI.out _).mono ?_
  rintro e w1 ⟨rfl, rfl⟩
  go_wp2_with fail
  refine (HN.out _).mono ?_
  rintro e w2 ⟨rfl, hb⟩
  go_wp2
  go_ret2
  exact ⟨rfl, hb⟩
theorem level_no (l : Int) (h : l < 0 ∨ 2 < l) (w : World) : Calls Tryd.prog 29 #[.int .i64 l] w fun e w' => e = .returned (.tuple #[.string ⟨#[]⟩, .iface 69 (.int .i64 13)]) ∧ w = w' := by
  have HI := Lib.hid (fun w' => is_no l h w')
  clear h
  go_enter Tryd.func29, Tryd.ntmps29
  go_wp2_with fail
  refine (HI.out _).mono ?_
  rintro e w1 ⟨rfl, rfl⟩
  go_wp2
  go_ret2
  exact ⟨rfl, rfl⟩
end Vw
end Go.Proofs.YtocoonkachbjaaaDoor

/- A session as its cells say it. No program's code is walked here. -/
namespace Go.Proofs.YtocoonkachbjaaaDoor
set_option linter.unusedVariables false
namespace Vw
structure Sess where
  slot : Int
  birth : Int
  us : Int
  ub : Int
  kind : Int
  user : ByteArray
  label : ByteArray
  scopes : Nat
  level : Int
  born : Int
  dl : Int
  depth : Int
def Sess.cells (s : Sess) : List Value := [.int .i64 s.slot, .int .i64 s.birth, .int .i64 s.us, .int .i64 s.ub, .int .i64 s.kind, .string s.user, .string s.label, .int .u64 (s.scopes : Int), .int .i64 s.level, .int .i64 s.born, .int .i64 s.dl, .int .i64 s.depth]
end Vw
end Go.Proofs.YtocoonkachbjaaaDoor

/- strings.ContainsRune in the signs of a name, of every rune. -/
namespace Go.Proofs.YtocoonkachbjaaaDoor
open Go.RowKit
set_option linter.unusedVariables false

/-- The signs of a name besides letters. -/
def signs : ByteArray := ⟨#[48, 49, 50, 51, 52, 53, 54, 55, 56, 57, 45, 95]⟩

theorem enc_two (r : Int) (h1 : 128 ≤ r) (h2 : r < 2048) : ∃ x y : UInt8, Utf8.encode r = ⟨#[x, y]⟩ ∧ 128 ≤ y.toNat := by
  have hv : Utf8.valid r = true := by simp [Utf8.valid]; omega
  refine ⟨UInt8.ofNat (0xC0 + r.toNat / 64), UInt8.ofNat (0x80 + r.toNat % 64), ?_, by simp; omega⟩
  unfold Utf8.encode; rw [hv]; simp only [if_true]; rw [if_neg (by omega), if_pos (by omega)]
theorem enc_three (r : Int) (h1 : 2048 ≤ r) (h2 : r < 65536) (hv : Utf8.valid r = true) : ∃ x y z : UInt8, Utf8.encode r = ⟨#[x, y, z]⟩ ∧ 128 ≤ z.toNat := by
  refine ⟨UInt8.ofNat (0xE0 + r.toNat / 4096), UInt8.ofNat (0x80 + r.toNat / 64 % 64), UInt8.ofNat (0x80 + r.toNat % 64), ?_, by simp; omega⟩
  unfold Utf8.encode; rw [hv]; simp only [if_true]; rw [if_neg (by omega), if_neg (by omega), if_pos (by omega)]
theorem enc_four (r : Int) (h1 : 65536 ≤ r) (hv : Utf8.valid r = true) : ∃ x y z u : UInt8, Utf8.encode r = ⟨#[x, y, z, u]⟩ ∧ 128 ≤ u.toNat := by
  refine ⟨UInt8.ofNat (0xF0 + r.toNat / 262144), UInt8.ofNat (0x80 + r.toNat / 4096 % 64), UInt8.ofNat (0x80 + r.toNat / 64 % 64), UInt8.ofNat (0x80 + r.toNat % 64), ?_, by simp; omega⟩
  unfold Utf8.encode; rw [hv]; simp only [if_true]; rw [if_neg (by omega), if_neg (by omega), if_neg (by omega)]

theorem indexByte_high (l : List UInt8) (c : UInt8) (h : ∀ b ∈ l, b.toNat < 128) (hc : 128 ≤ c.toNat) : Lib.indexByte l c = -1 := by
  induction l with
  | nil => rfl
  | cons b l ih =>
    have hb := h b (by simp)
    have hne : ¬ b = c := fun e => by rw [e] at hb; omega
    have := ih (fun x hx => h x (by simp [hx]))
    unfold Lib.indexByte
    simp [hne, this]

/-- strings.IndexByte of a byte beyond ASCII in an ASCII text. -/
theorem indexByte_none (S : ByteArray) (y : UInt8) (hy : 128 ≤ y.toNat) (hS : (S.data.toList.all fun b => decide (b.toNat < 128)) = true) (w : World) :
    Calls Tryd.prog 67 #[.string S, .int .u8 y.toNat] w fun e w' => e = .returned (.int .i64 (-1)) ∧ w' = w := by
  have h := Tryd.strings_IndexByte S y.toNat w
  rw [show Lib.indexByte S.data.toList (y.toNat : Int).toNat.toUInt8 = -1 from indexByte_high _ _ (fun b hb => of_decide_eq_true (List.all_eq_true.1 hS b hb)) (by simpa using hy)] at h
  exact h

set_option maxRecDepth 100000 in
set_option maxHeartbeats 1000000 in
theorem indexRune_two (r : Int) (h1 : 128 ≤ r) (h2 : r < 2048) (w : World) :
    Calls Tryd.prog 61 #[.string ⟨#[48, 49, 50, 51, 52, 53, 54, 55, 56, 57, 45, 95]⟩, .int .i32 r] w fun e w' => e = .returned (.int .i64 (-1)) ∧ ∃ n, w' = w.drewN n := by
  obtain ⟨x, y, hR, hy⟩ := enc_two r h1 h2
  have q1 : (r == 65533) = false := by rw [beq_eq_false_iff_ne]; omega
  have hvr : Lib.validRune r = true := by simp [Lib.validRune]; omega
  have hcv : ∀ w, (convert 21 9 (.int .i32 r)).run Tryd.prog w = .ok (.string ⟨#[x, y]⟩) w := fun w => by
    rw [← hR]; exact run_convert_int_string w _ _ _ _ (by rw [Tryd.underlying21]; rfl) Tryd.underlying9
  have q2 : (((⟨#[48, 49, 50, 51, 52, 53, 54, 55, 56, 57, 45, 95]⟩ : ByteArray)[1].toNat : Int) != (((⟨#[x, y]⟩ : ByteArray)[1]'(by show 1 < 2; decide)).toNat : Int)) = true := by
    show ((49 : Int) != (y.toNat : Int)) = true
    rw [bne_iff_ne]; omega
  have h0 : 128 ≤ r := by omega
  have HVR := Lib.hid hvr
  clear hvr hR
  go_enter Tryd.func61, Tryd.ntmps61
  go_wp2_with (go_at_call 68; refine (Tryd.utf8_ValidRune r _).mono ?_; rintro e w' ⟨rfl, rfl⟩; rw [HVR.out])
  go_step3
  go_wp2_with fail
  refine wp_loop_rounds 1 ?_
  rw [rounds_succ]
  go_wp2_with fail
  go_step3
  go_wp2_with fail
  go_quiet (fail)
  go_wp2_with fail
  generalize hw2 : w'.drewN _ = w2
  have HW2 := Lib.hid hw2
  clear hw2
  go_quiet ((go_at_call 67; exact Calls.quiet_of_same (indexByte_none _ y hy (by decide) _)))
  go_wp2
  rw [Exit.noGoto_ret]
  go_wp2
  rw [Exit.noGoto_ret]
  go_ret
  exact ⟨rfl, _, by rw [← HW2.out, World.drewN_drewN]⟩

set_option maxRecDepth 100000 in
set_option maxHeartbeats 1000000 in
theorem indexRune_three (r : Int) (h1 : 2048 ≤ r) (h2 : r < 65536) (h3 : r ≠ 65533) (hv : Utf8.valid r = true) (w : World) :
    Calls Tryd.prog 61 #[.string ⟨#[48, 49, 50, 51, 52, 53, 54, 55, 56, 57, 45, 95]⟩, .int .i32 r] w fun e w' => e = .returned (.int .i64 (-1)) ∧ ∃ n, w' = w.drewN n := by
  obtain ⟨x, y, z, hR, hy⟩ := enc_three r h1 h2 hv
  have q1 : (r == 65533) = false := by rw [beq_eq_false_iff_ne]; omega
  have hvr : Lib.validRune r = true := by simp [Utf8.valid] at hv; simp [Lib.validRune]; omega
  have hcv : ∀ w, (convert 21 9 (.int .i32 r)).run Tryd.prog w = .ok (.string ⟨#[x, y, z]⟩) w := fun w => by
    rw [← hR]; exact run_convert_int_string w _ _ _ _ (by rw [Tryd.underlying21]; rfl) Tryd.underlying9
  have q2 : (((⟨#[48, 49, 50, 51, 52, 53, 54, 55, 56, 57, 45, 95]⟩ : ByteArray)[2].toNat : Int) != (((⟨#[x, y, z]⟩ : ByteArray)[2]'(by show 2 < 3; decide)).toNat : Int)) = true := by
    show ((50 : Int) != (z.toNat : Int)) = true
    rw [bne_iff_ne]; omega
  have h0 : 128 ≤ r := by omega
  have HVR := Lib.hid hvr
  clear hvr hR
  go_enter Tryd.func61, Tryd.ntmps61
  go_wp2_with (go_at_call 68; refine (Tryd.utf8_ValidRune r _).mono ?_; rintro e w' ⟨rfl, rfl⟩; rw [HVR.out])
  go_step3
  go_wp2_with fail
  refine wp_loop_rounds 1 ?_
  rw [rounds_succ]
  go_wp2_with fail
  go_step3
  go_wp2_with fail
  go_quiet (fail)
  go_wp2_with fail
  generalize hw2 : w'.drewN _ = w2
  have HW2 := Lib.hid hw2
  clear hw2
  go_quiet ((go_at_call 67; exact Calls.quiet_of_same (indexByte_none _ z hy (by decide) _)))
  go_wp2
  rw [Exit.noGoto_ret]
  go_wp2
  rw [Exit.noGoto_ret]
  go_ret
  exact ⟨rfl, _, by rw [← HW2.out, World.drewN_drewN]⟩

set_option maxRecDepth 100000 in
set_option maxHeartbeats 1000000 in
theorem indexRune_four (r : Int) (h1 : 65536 ≤ r) (hv : Utf8.valid r = true) (w : World) :
    Calls Tryd.prog 61 #[.string ⟨#[48, 49, 50, 51, 52, 53, 54, 55, 56, 57, 45, 95]⟩, .int .i32 r] w fun e w' => e = .returned (.int .i64 (-1)) ∧ ∃ n, w' = w.drewN n := by
  obtain ⟨x, y, z, u, hR, hy⟩ := enc_four r h1 hv
  have q1 : (r == 65533) = false := by rw [beq_eq_false_iff_ne]; omega
  have hvr : Lib.validRune r = true := by simp [Utf8.valid] at hv; simp [Lib.validRune]; omega
  have hcv : ∀ w, (convert 21 9 (.int .i32 r)).run Tryd.prog w = .ok (.string ⟨#[x, y, z, u]⟩) w := fun w => by
    rw [← hR]; exact run_convert_int_string w _ _ _ _ (by rw [Tryd.underlying21]; rfl) Tryd.underlying9
  have q2 : (((⟨#[48, 49, 50, 51, 52, 53, 54, 55, 56, 57, 45, 95]⟩ : ByteArray)[3].toNat : Int) != (((⟨#[x, y, z, u]⟩ : ByteArray)[3]'(by show 3 < 4; decide)).toNat : Int)) = true := by
    show ((51 : Int) != (u.toNat : Int)) = true
    rw [bne_iff_ne]; omega
  have h0 : 128 ≤ r := by omega
  have HVR := Lib.hid hvr
  clear hvr hR
  go_enter Tryd.func61, Tryd.ntmps61
  go_wp2_with (go_at_call 68; refine (Tryd.utf8_ValidRune r _).mono ?_; rintro e w' ⟨rfl, rfl⟩; rw [HVR.out])
  go_step3
  go_wp2_with fail
  refine wp_loop_rounds 1 ?_
  rw [rounds_succ]
  go_wp2_with fail
  go_step3
  go_wp2_with fail
  go_quiet (fail)
  go_wp2_with fail
  generalize hw2 : w'.drewN _ = w2
  have HW2 := Lib.hid hw2
  clear hw2
  go_quiet ((go_at_call 67; exact Calls.quiet_of_same (indexByte_none _ u hy (by decide) _)))
  go_wp2
  rw [Exit.noGoto_ret]
  go_wp2
  rw [Exit.noGoto_ret]
  go_ret
  exact ⟨rfl, _, by rw [← HW2.out, World.drewN_drewN]⟩


end Go.Proofs.YtocoonkachbjaaaDoor

/- strings.ContainsRune in the signs of a name, of every rune beyond ASCII. -/
namespace Go.Proofs.YtocoonkachbjaaaDoor
open Go.RowKit
set_option linter.unusedVariables false

theorem signs_ascii : ∀ p : Fin 12, ((⟨#[48, 49, 50, 51, 52, 53, 54, 55, 56, 57, 45, 95]⟩ : ByteArray).data.toList[p.val]'(p.isLt)).toNat < 128 := by decide

def SRel (w : World) (wr : World) : Prop := ∃ p : Nat, p ≤ 12 ∧ wr.heap[w.heap.size]? = some (.stringIter ⟨#[48, 49, 50, 51, 52, 53, 54, 55, 56, 57, 45, 95]⟩ p) ∧ Below w.heap.size w wr

set_option maxRecDepth 100000 in
set_option maxHeartbeats 1000000 in
theorem indexRune_err (w : World) :
    Calls Tryd.prog 61 #[.string ⟨#[48, 49, 50, 51, 52, 53, 54, 55, 56, 57, 45, 95]⟩, .int .i32 65533] w fun e w' => e = .returned (.int .i64 (-1)) ∧ Below w.heap.size w w' := by
  go_enter Tryd.func61, Tryd.ntmps61
  go_wp2
  go_loopw [5, 6] (fun _ _ wr => SRel w wr) (fun _ _ wr => 12 - wr.iterPos w.heap.size)
  case atStart => exact ⟨0, by omega, World.iter_heap _ _ _, (Below.refl _ _).alloc (Nat.le_refl _) _⟩
  case round =>
    obtain ⟨p, hp, hit, hbw⟩ := hrel
    have hsz : w.heap.size < wr.heap.size := (Array.getElem?_eq_some_iff.1 hit).1
    by_cases h : p < 12
    · have hb : p < (⟨#[48, 49, 50, 51, 52, 53, 54, 55, 56, 57, 45, 95]⟩ : ByteArray).size := h
      have ha : ((⟨#[48, 49, 50, 51, 52, 53, 54, 55, 56, 57, 45, 95]⟩ : ByteArray)[p]'hb).toNat < 128 := signs_ascii ⟨p, h⟩
      obtain ⟨c, hc⟩ : ∃ c, c = ((⟨#[48, 49, 50, 51, 52, 53, 54, 55, 56, 57, 45, 95]⟩ : ByteArray)[p]'hb).toNat := ⟨_, rfl⟩
      have hnx : ∀ ty, (Instr.next (.pointer (some ⟨w.heap.size, 0, none⟩)) true ty).run Tryd.prog wr = .ok (.tuple #[.bool true, .int .i64 p, .int .i32 c]) (wr.iterAt w.heap.size ⟨#[48, 49, 50, 51, 52, 53, 54, 55, 56, 57, 45, 95]⟩ (p + 1)) := fun ty => by
        have := Lib.run_next_any_at (P := Tryd.prog) (ty := ty) wr w.heap.size ⟨#[48, 49, 50, 51, 52, 53, 54, 55, 56, 57, 45, 95]⟩ p hit hb
        rw [decode_ascii _ _ hb ha, ← hc] at this
        exact this
      rw [← hc] at ha
      have q : ((c : Int) == 65533) = false := by rw [beq_eq_false_iff_ne]; omega
      have hit2 := Lib.iterAt_heap wr w.heap.size _ p (p + 1) hit
      have hbw2 := Lib.below_iterAt hbw (k := w.heap.size) (by omega) ⟨#[48, 49, 50, 51, 52, 53, 54, 55, 56, 57, 45, 95]⟩ (p + 1)
      clear hc hb
      go_wp2
      go_roundw
      case rel => exact ⟨p + 1, by omega, hit2, hbw2⟩
      case measure =>
        simp only [World.iterPos, hit2, hit]
        omega
    · have hnx : ∀ ty, (Instr.next (.pointer (some ⟨w.heap.size, 0, none⟩)) true ty).run Tryd.prog wr = _ := fun ty => Lib.run_next_end_at wr w.heap.size ⟨#[48, 49, 50, 51, 52, 53, 54, 55, 56, 57, 45, 95]⟩ p ty hit h
      go_wp2
      go_ret
      exact ⟨rfl, hbw⟩

/-- Of every rune beyond ASCII: it is no sign of a name. -/
theorem containsRune_high (r : Int) (h0 : 128 ≤ r) (hv : Utf8.valid r = true) (w : World) :
    Calls Tryd.prog 48 #[.string ⟨#[48, 49, 50, 51, 52, 53, 54, 55, 56, 57, 45, 95]⟩, .int .i32 r] w fun e w' => e = .returned (.bool false) ∧ Below w.heap.size w w' := by
  have hix : Calls Tryd.prog 61 #[.string ⟨#[48, 49, 50, 51, 52, 53, 54, 55, 56, 57, 45, 95]⟩, .int .i32 r] w fun e w' => e = .returned (.int .i64 (-1)) ∧ Below w.heap.size w w' := by
    have q : ∀ W : World, (∃ n, W = w.drewN n) → Below w.heap.size w W := fun W ⟨n, h⟩ => by rw [h]; exact Ut.below_drewN (Below.refl _ _) _
    by_cases he : r = 65533
    · subst he; exact indexRune_err w
    · by_cases h2 : r < 2048
      · exact (indexRune_two r h0 h2 w).mono fun e W ⟨a, b⟩ => ⟨a, q W b⟩
      · by_cases h3 : r < 65536
        · exact (indexRune_three r (by omega) h3 he hv w).mono fun e W ⟨a, b⟩ => ⟨a, q W b⟩
        · exact (indexRune_four r (by omega) hv w).mono fun e W ⟨a, b⟩ => ⟨a, q W b⟩
  have HIX := Lib.hid hix
  clear hix
  go_enter Tryd.func48, Tryd.ntmps48
  go_wp2_with fail
  refine HIX.out.mono ?_
  rintro e w1 ⟨rfl, hb⟩
  go_wp2
  go_ret
  exact ⟨rfl, hb⟩

/-- Of every ASCII rune: is it one of the signs? -/
def isSign (c : Nat) : Bool := (48 ≤ c && c ≤ 57) || c == 45 || c == 95
theorem sign_ix : ∀ c : Fin 128, decide (0 ≤ Lib.indexByte [48, 49, 50, 51, 52, 53, 54, 55, 56, 57, 45, 95] (UInt8.ofNat c.val)) = isSign c.val := by decide +kernel
theorem containsRune_ascii (c : Nat) (h : c < 128) (w : World) :
    Calls Tryd.prog 48 #[.string ⟨#[48, 49, 50, 51, 52, 53, 54, 55, 56, 57, 45, 95]⟩, .int .i32 c] w fun e w' => e = .returned (.bool (isSign c)) ∧ w' = w := by
  have e := Tryd.strings_ContainsRune_ascii ⟨#[48, 49, 50, 51, 52, 53, 54, 55, 56, 57, 45, 95]⟩ c w (by omega) (by omega)
  have e2 : decide (0 ≤ Lib.indexByte (⟨#[48, 49, 50, 51, 52, 53, 54, 55, 56, 57, 45, 95]⟩ : ByteArray).data.toList (c : Int).toNat.toUInt8) = isSign c := sign_ix ⟨c, h⟩
  rw [e2] at e
  exact e

end Go.Proofs.YtocoonkachbjaaaDoor
