/- A row of events is the same as itself. -/
import Derived.Test.YtnohbjgmldjbmaaDoorPx
set_option linter.unusedVariables false
set_option linter.unusedSimpArgs false
namespace Go.Proofs.YtnohbjgmldjbmaaDoor.P
open Go.RowKit Go.Proofs.YtnohbjgmldjbmaaDoorW.PrintWords Go.Proofs.YtnohbjgmldjbmaaDoorW.PrintLast Go.Proofs.YtnohbjgmldjbmaaDoorW.PrintMore

theorem same_go (l : List S32) (hl : l.length ≤ 1000000) : ∀ (d i k : Nat), i + d = l.length → d < k → liveryref30_Same.l0 k l l i = some true
  | 0, i, k, hi, hk => by
    obtain ⟨k, rfl⟩ : ∃ m, k = m + 1 := ⟨k - 1, by omega⟩
    simp only [liveryref30_Same.l0]
    rw [if_neg (by omega)]
  | d + 1, i, k, hi, hk => by
    obtain ⟨k, rfl⟩ : ∃ m, k = m + 1 := ⟨k - 1, by omega⟩
    have hw : wrap64 ((i : Int) + 1) = ((i + 1 : Nat) : Int) := by rw [IntWalk.wrap64_in _ ⟨by omega, by omega⟩]; omega
    simp only [liveryref30_Same.l0]
    rw [if_pos (by omega), if_pos (by omega), if_pos (by omega), if_neg (by simp), hw]
    exact same_go l hl d (i + 1) k (by omega) (by omega)
theorem same_self (l : List S32) (hl : l.length ≤ 1000000) (k : Nat) (hk : l.length < k) : liveryref30_Same.f k l l = some true := by
  unfold liveryref30_Same.f
  rw [if_pos rfl]
  exact same_go l hl l.length 0 k (by omega) hk
end Go.Proofs.YtnohbjgmldjbmaaDoor.P
