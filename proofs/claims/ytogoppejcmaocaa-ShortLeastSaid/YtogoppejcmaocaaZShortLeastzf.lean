/- No word leads from all states to fewer states than the rank; a reset word is not shorter than the shortest one and does not come before it; the rank is 1 exactly if there is a reset word, for any automaton and word. (text 32 of 35) -/
import Derived.Test.YtogoppejcmaocaaZShortLeasti
import Derived.Test.YtogoppejcmaocaaZShortLeastzb
/-! Part StmtShortLeast -/
section
-- Written by xrow.py, a program of this session's. Lean checks it.
namespace Go.Proofs.Ytogoppejcmaocaa.Q
/-- What is left to prove of the law ShortLeast. -/
def mizmazelaw04_ShortLeast.Pure : Prop := ∀ (l0_0 : List (List Int)), ∀ (l1 : List Int), RowsOk l0_0 → IntsOk l1 → ∃ k, mizmazelaw04_ShortLeast.f k l0_0 l1 = some true
end Go.Proofs.Ytogoppejcmaocaa.Q
end
