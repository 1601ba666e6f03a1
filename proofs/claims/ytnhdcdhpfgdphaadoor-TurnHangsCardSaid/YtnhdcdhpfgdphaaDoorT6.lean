/-
  The library's functions on slices of whole numbers, as far as they are used here: Index, Contains, Sort of one number or two.
-/
import Derived.Test.YtnhdcdhpfgdphaaDoorT1
import Derived.Test.YtnhdcdhpfgdphaaDoorR
import Derived.Deep.LoopGhost
import Derived.Deep.DeepCutAuto
set_option linter.unusedSimpArgs false
set_option linter.unusedVariables false
namespace Go.Proofs.YtnhdcdhpfgdphaaDoor
open Go Go.RowKit

def isIn (v : Int) (xs : List Int) : Bool := decide (v ∈ xs)
theorem isIn_take_succ (v : Int) (xs : List Int) (k : Nat) (h : k < xs.length) (h0 : isIn v (xs.take k) = false) (hne : v ≠ nAt xs k) : isIn v (xs.take (k + 1)) = false := by
  simp only [isIn, decide_eq_false_iff_not] at *
  rw [List.take_succ_eq_append_getElem h]
  intro hm
  rcases List.mem_append.1 hm with h1 | h1
  · exact h0 h1
  · simp at h1
    exact hne (by rw [h1, nAt]; simp [h])
theorem isIn_at (v : Int) (xs : List Int) (k : Nat) (h : k < xs.length) (he : v = nAt xs k) : isIn v xs = true := by
  simp only [isIn, decide_eq_true_eq]
  have : nAt xs k = xs[k] := by simp [nAt, h]
  rw [he, this]
  exact List.getElem_mem h

set_option maxHeartbeats 1000000 in
theorem index_any (a : Option Addr) (xs : List Int) (cp : Nat) (v : Int) (w : World) (h : IntA w a xs) (hm : xs.length ≤ 9223372036854775807) :
    Calls Tryd.prog 101 #[.slice a xs.length cp, .int .i64 v] w fun e w' => (∃ r : Int, e = .returned (.int .i64 r) ∧ decide (0 ≤ r) = isIn v xs) ∧ w = w' := by
  go_enter Tryd.func101, Tryd.ntmps101
  go_wp2_with (fail)
  go_loop [8] (fun i => ∃ k : Nat, k ≤ xs.length ∧ i = .int .i64 k ∧ isIn v (xs.take k) = false) (fun i => xs.length - (intOf i).toNat)
  case atStart => exact ⟨0, Nat.zero_le _, rfl, by simp [isIn]⟩
  case round =>
    obtain ⟨k, hk, rfl, hn⟩ := hrel
    have Hn := Lib.hid hn
    clear hn
    by_cases hlt : k < xs.length
    · obtain ⟨b, o, rfl, hbl, hc⟩ := h (by omega)
      have q := hc k hlt
      by_cases he : v = nAt xs k
      · have he' : (v == nAt xs k) = true := by rw [he]; simp
        have Hi := Lib.hid (isIn_at v xs k hlt he)
        clear he hc
        go_wp2
        go_ret
        exact ⟨⟨k, rfl, by rw [Hi.out]; simp⟩, rfl⟩
      · have he' : (v == nAt xs k) = false := by simp [he]
        have Hi := Lib.hid (isIn_take_succ v xs k hlt Hn.out he)
        clear he hc
        go_wp2
        go_round
        case rel => exact ⟨k + 1, by omega, by go_num, Hi.out⟩
        case measure => simp [intOf]; omega
    · obtain rfl : k = xs.length := by omega
      go_wp2
      go_ret
      exact ⟨⟨-1, rfl, by have := Hn.out; rw [List.take_length] at this; rw [this]; rfl⟩, rfl⟩

set_option maxHeartbeats 1000000 in
theorem contains_any (a : Option Addr) (xs : List Int) (cp : Nat) (v : Int) (w : World) (h : IntA w a xs) (hm : xs.length ≤ 9223372036854775807) :
    Calls Tryd.prog 93 #[.slice a xs.length cp, .int .i64 v] w fun e w' => e = .returned (.bool (isIn v xs)) ∧ w = w' := by
  go_enter Tryd.func93, Tryd.ntmps93
  go_wp2_with (fail)
  refine (index_any a xs cp v _ h hm).mono ?_
  rintro e w' ⟨⟨r, rfl, hr⟩, rfl⟩
  have Hr := Lib.hid hr
  clear hr
  go_wp2
  go_ret
  exact ⟨by rw [← Hr.out]; rfl, rfl⟩
end Go.Proofs.YtnhdcdhpfgdphaaDoor
