/- view.Line and the document's Line: all their ways in one, each. -/
import Derived.Test.YtocoonkachbjaaaGreatDoorVwLine2
import Derived.Test.YtocoonkachbjaaaGreatDoorVwRLine2
namespace Go.Proofs.YtocoonkachbjaaaGreatDoor
open Go.RowKit Go.Proofs.NmPlain Go.Proofs.Ar Go.Proofs.YtocoonkachbjaaaGreatDoor.Sc
set_option linter.unusedVariables false
namespace Vw
theorem line_any (lo B : Nat) (ls : List ByteArray) (s : Sess) (now : Int) (wn : (Lit.int .i64 now).wf = true) (w : World) (hin : LineIn lo B ls s w) :
    Calls Tryz.prog 7 #[.pointer (some ⟨B, 0, none⟩), .agg #[.int .i64 s.slot, .int .i64 s.birth, .int .i64 s.us, .int .i64 s.ub, .int .i64 s.kind, .string s.user, .string s.label, .int .u64 (s.scopes : Int), .int .i64 s.level, .int .i64 s.born, .int .i64 s.dl, .int .i64 s.depth], .int .i64 now] w fun e w' => LinePost ls s now e ∧ Below w.heap.size w w' := by
  by_cases a1 : s.birth < 1
  · exact line_a1w lo B ls s now wn w hin a1
  by_cases a2 : 1048576 < s.birth
  · exact line_a2w lo B ls s now wn w hin (by omega) a2
  have a1' : 1 ≤ s.birth := by omega
  have a2' : s.birth ≤ 1048576 := by omega
  clear a1 a2
  cases hu : nameB s.user.data.toList with
  | false => exact line_b1w lo B ls s now wn w hin a1' a2' hu
  | true =>
  by_cases he : s.label.data.toList = []
  · by_cases hk : s.kind < 0 ∨ 2 < s.kind
    · exact line_cnw lo B ls s now wn w hin a1' a2' hu he hk
    by_cases hl : s.level < 0 ∨ 2 < s.level
    · exact line_dnw lo B ls s now wn w hin a1' a2' hu he (by omega) (by omega) hl
    by_cases hs : 2 ^ ls.length ≤ s.scopes
    · exact line_enw lo B ls s now wn w hin a1' a2' hu he (by omega) (by omega) (by omega) (by omega) hs
    by_cases f1 : now < 0
    · exact line_f1nw lo B ls s now wn w hin a1' a2' hu he (by omega) (by omega) (by omega) (by omega) hs f1
    by_cases f2 : 1099511627776 < now
    · exact line_f2nw lo B ls s now wn w hin a1' a2' hu he (by omega) (by omega) (by omega) (by omega) hs (by omega) f2
    by_cases f3 : s.dl < 0
    · exact line_f3nw lo B ls s now wn w hin a1' a2' hu he (by omega) (by omega) (by omega) (by omega) hs (by omega) (by omega) f3
    by_cases f4 : 1099511627776 < s.dl
    · exact line_f4nw lo B ls s now wn w hin a1' a2' hu he (by omega) (by omega) (by omega) (by omega) hs (by omega) (by omega) (by omega) f4
    exact line_gnw lo B ls s now wn w hin a1' a2' hu he (by omega) (by omega) (by omega) (by omega) hs (by omega) (by omega) (by omega) (by omega)
  cases hl : nameB s.label.data.toList with
  | false => exact line_b2w lo B ls s now wn w hin a1' a2' hu he hl
  | true =>
    by_cases hk : s.kind < 0 ∨ 2 < s.kind
    · exact line_clw lo B ls s now wn w hin a1' a2' hu he hl hk
    by_cases hv : s.level < 0 ∨ 2 < s.level
    · exact line_dlw lo B ls s now wn w hin a1' a2' hu he hl (by omega) (by omega) hv
    by_cases hs : 2 ^ ls.length ≤ s.scopes
    · exact line_elw lo B ls s now wn w hin a1' a2' hu he hl (by omega) (by omega) (by omega) (by omega) hs
    by_cases f1 : now < 0
    · exact line_f1lw lo B ls s now wn w hin a1' a2' hu he hl (by omega) (by omega) (by omega) (by omega) hs f1
    by_cases f2 : 1099511627776 < now
    · exact line_f2lw lo B ls s now wn w hin a1' a2' hu he hl (by omega) (by omega) (by omega) (by omega) hs (by omega) f2
    by_cases f3 : s.dl < 0
    · exact line_f3lw lo B ls s now wn w hin a1' a2' hu he hl (by omega) (by omega) (by omega) (by omega) hs (by omega) (by omega) f3
    by_cases f4 : 1099511627776 < s.dl
    · exact line_f4lw lo B ls s now wn w hin a1' a2' hu he hl (by omega) (by omega) (by omega) (by omega) hs (by omega) (by omega) (by omega) f4
    exact line_glw lo B ls s now wn w hin a1' a2' hu he hl (by omega) (by omega) (by omega) (by omega) hs (by omega) (by omega) (by omega) (by omega)

theorem rline_any (v : Value) (ls : List ByteArray) (s : Sess) (now : Int) (wn : (Lit.int .i64 now).wf = true) (w : World) (hin : RLineIn v ls s w) :
    Calls Tryz.prog 8 #[v, .agg #[.int .i64 s.slot, .int .i64 s.birth, .int .i64 s.us, .int .i64 s.ub, .int .i64 s.kind, .string s.user, .string s.label, .int .u64 (s.scopes : Int), .int .i64 s.level, .int .i64 s.born, .int .i64 s.dl, .int .i64 s.depth], .int .i64 now] w fun e w' => RLinePost ls s now e ∧ Below w.heap.size w w' := by
  by_cases a1 : s.birth < 1
  · exact rline_a1 v ls s now wn w hin a1
  by_cases a2 : 1048576 < s.birth
  · exact rline_a2 v ls s now wn w hin (by omega) a2
  have a1' : 1 ≤ s.birth := by omega
  have a2' : s.birth ≤ 1048576 := by omega
  clear a1 a2
  cases hu : nameB s.user.data.toList with
  | false => exact rline_b1 v ls s now wn w hin a1' a2' hu
  | true =>
  by_cases he : s.label.data.toList = []
  · by_cases hk : s.kind < 0 ∨ 2 < s.kind
    · exact rline_cn v ls s now wn w hin a1' a2' hu he hk
    by_cases hl : s.level < 0 ∨ 2 < s.level
    · exact rline_dn v ls s now wn w hin a1' a2' hu he (by omega) (by omega) hl
    by_cases hs : 2 ^ ls.length ≤ s.scopes
    · exact rline_en v ls s now wn w hin a1' a2' hu he (by omega) (by omega) (by omega) (by omega) hs
    by_cases f1 : now < 0
    · exact rline_f1n v ls s now wn w hin a1' a2' hu he (by omega) (by omega) (by omega) (by omega) hs f1
    by_cases f2 : 1099511627776 < now
    · exact rline_f2n v ls s now wn w hin a1' a2' hu he (by omega) (by omega) (by omega) (by omega) hs (by omega) f2
    by_cases f3 : s.dl < 0
    · exact rline_f3n v ls s now wn w hin a1' a2' hu he (by omega) (by omega) (by omega) (by omega) hs (by omega) (by omega) f3
    by_cases f4 : 1099511627776 < s.dl
    · exact rline_f4n v ls s now wn w hin a1' a2' hu he (by omega) (by omega) (by omega) (by omega) hs (by omega) (by omega) (by omega) f4
    exact rline_gn v ls s now wn w hin a1' a2' hu he (by omega) (by omega) (by omega) (by omega) hs (by omega) (by omega) (by omega) (by omega)
  cases hl : nameB s.label.data.toList with
  | false => exact rline_b2 v ls s now wn w hin a1' a2' hu he hl
  | true =>
    by_cases hk : s.kind < 0 ∨ 2 < s.kind
    · exact rline_cl v ls s now wn w hin a1' a2' hu he hl hk
    by_cases hv : s.level < 0 ∨ 2 < s.level
    · exact rline_dl v ls s now wn w hin a1' a2' hu he hl (by omega) (by omega) hv
    by_cases hs : 2 ^ ls.length ≤ s.scopes
    · exact rline_el v ls s now wn w hin a1' a2' hu he hl (by omega) (by omega) (by omega) (by omega) hs
    by_cases f1 : now < 0
    · exact rline_f1l v ls s now wn w hin a1' a2' hu he hl (by omega) (by omega) (by omega) (by omega) hs f1
    by_cases f2 : 1099511627776 < now
    · exact rline_f2l v ls s now wn w hin a1' a2' hu he hl (by omega) (by omega) (by omega) (by omega) hs (by omega) f2
    by_cases f3 : s.dl < 0
    · exact rline_f3l v ls s now wn w hin a1' a2' hu he hl (by omega) (by omega) (by omega) (by omega) hs (by omega) (by omega) f3
    by_cases f4 : 1099511627776 < s.dl
    · exact rline_f4l v ls s now wn w hin a1' a2' hu he hl (by omega) (by omega) (by omega) (by omega) hs (by omega) (by omega) (by omega) f4
    exact rline_gl v ls s now wn w hin a1' a2' hu he hl (by omega) (by omega) (by omega) (by omega) hs (by omega) (by omega) (by omega) (by omega)
end Vw
end Go.Proofs.YtocoonkachbjaaaGreatDoor
