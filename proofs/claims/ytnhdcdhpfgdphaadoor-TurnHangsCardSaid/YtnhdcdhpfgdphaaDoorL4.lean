/-
  The chapter's examples, as plain data: what the nine functions answer.
-/
import Derived.Test.YtnhdcdhpfgdphaaDoorL3
import Derived.Test.YtnhdcdhpfgdphaaDoorAC
set_option linter.unusedSimpArgs false
set_option linter.unusedVariables false
namespace Go.Proofs.YtnhdcdhpfgdphaaDoor
open Go Go.RowKit

theorem own_valid : validB (bookB 541 543) = true := by kernel_rfl
theorem late_valid : validB (bookB 542 542) = true := by kernel_rfl
theorem torn_valid : validB tornB = true := by kernel_rfl
theorem ex_turn : tLo (bookB 541 543) 362 = 0 ∧ tHi (bookB 541 543) 362 = 1 := ⟨by kernel_rfl, by kernel_rfl⟩
theorem ex_owners : ownersL (bookB 541 543) 1 541 = [0, 2] := by kernel_rfl
theorem ex_fair0 : fairN (bookB 541 543) (sAt (bookB 541 543).shots 0) = 1 := by kernel_rfl
theorem ex_fair1 : fairN (bookB 541 543) (sAt (bookB 541 543).shots 1) = 2 := by kernel_rfl
theorem ex_hangs : hangsI (bookB 541 543) (sAt (bookB 541 543).shots 3) 2 = [1] := by kernel_rfl
theorem ex_first : firstN (sAt (bookB 541 543).shots 2) (sAt (bookB 541 543).shots 0) = 2 := by kernel_rfl
theorem ex_learn : learnV (bookB 542 542) = 1 ∧ learnE (bookB 542 542) = 0 := ⟨by kernel_rfl, by kernel_rfl⟩
theorem ex_wrong : wrongL tornB = [4] := by kernel_rfl

/-- Runs, from a minute on. -/
def runsFrom (B : Bk) (s : Nat) (c : Int) (k n : Nat) (R : List (Int × Int) × Bool) : List (Int × Int) × Bool := (List.range n).foldl (fun R i => runStep B s c R (k + i)) R
theorem runsK_add (B : Bk) (s : Nat) (c : Int) (k n : Nat) : runsK B s c (k + n) = runsFrom B s c k n (runsK B s c k) := by
  induction n with
  | zero => simp [runsFrom]
  | succ n ih =>
    rw [← Nat.add_assoc, runsK_succ, ih]
    simp [runsFrom, List.range_succ]
theorem ex_sure : runsL (bookB 541 543) 0 1 = [(364, 539)] := by kernel_rfl
end Go.Proofs.YtnhdcdhpfgdphaaDoor
