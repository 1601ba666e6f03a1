/-
  slices.Compare of whole numbers.
-/
import Derived.Test.YtnhdcdhpfgdphaaDoorT6
set_option linter.unusedSimpArgs false
set_option linter.unusedVariables false
namespace Go.Proofs.YtnhdcdhpfgdphaaDoor
open Go Go.RowKit

def cmp1 (a b : Int) : Int := if a < b then -1 else if b < a then 1 else 0
def cmpL : List Int → List Int → Int
  | [], [] => 0
  | [], _ :: _ => -1
  | _ :: _, [] => 1
  | a :: r, b :: q => if a < b then -1 else if b < a then 1 else cmpL r q

set_option maxHeartbeats 1000000 in
theorem nan_any (a : Int) (w : World) : Calls Tryd.prog 108 #[.int .i64 a] w fun e w' => e = .returned (.bool false) ∧ w = w' := by
  go_enter Tryd.func108, Tryd.ntmps108
  have h : (a != a) = false := by simp
  go_wp2
  go_ret
  exact ⟨by rw [← h]; rfl, rfl⟩

set_option maxHeartbeats 1000000 in
theorem cmp1_any (a b : Int) (w : World) : Calls Tryd.prog 99 #[.int .i64 a, .int .i64 b] w fun e w' => e = .returned (.int .i64 (cmp1 a b)) ∧ w = w' := by
  go_enter Tryd.func99, Tryd.ntmps99
  rcases (by omega : a < b ∨ b < a ∨ a = b) with h | h | h
  · go_wp2_with (go_at_call 108; refine (nan_any _ _).mono ?_; rintro e w' ⟨rfl, rfl⟩)
    go_ret
    exact ⟨by simp [cmp1, h], rfl⟩
  · go_wp2_with (go_at_call 108; refine (nan_any _ _).mono ?_; rintro e w' ⟨rfl, rfl⟩)
    go_ret
    exact ⟨by simp [cmp1, h, show ¬ a < b by omega], rfl⟩
  · go_wp2_with (go_at_call 108; refine (nan_any _ _).mono ?_; rintro e w' ⟨rfl, rfl⟩)
    go_ret
    exact ⟨by subst h; simp [cmp1], rfl⟩

theorem drop_at {xs : List Int} {k : Nat} (h : k < xs.length) : xs.drop k = nAt xs k :: xs.drop (k + 1) := by
  rw [List.drop_eq_getElem_cons h]
  simp [nAt, h]

set_option maxHeartbeats 1000000 in
theorem compare_any (a b : Option Addr) (xs ys : List Int) (cp cq : Nat) (w : World) (h : IntA w a xs) (h2 : IntA w b ys) (hm : xs.length ≤ 9223372036854775807) (hm2 : ys.length ≤ 9223372036854775807) :
    Calls Tryd.prog 81 #[.slice a xs.length cp, .slice b ys.length cq] w fun e w' => e = .returned (.int .i64 (cmpL xs ys)) ∧ w = w' := by
  go_enter Tryd.func81, Tryd.ntmps81
  go_wp2_with (fail)
  go_loop [11] (fun i => ∃ k : Nat, k ≤ xs.length ∧ k ≤ ys.length ∧ i = .int .i64 k ∧ cmpL xs ys = cmpL (xs.drop k) (ys.drop k)) (fun i => xs.length - (intOf i).toNat)
  case atStart => exact ⟨0, Nat.zero_le _, Nat.zero_le _, rfl, rfl⟩
  case round =>
    obtain ⟨k, hk, hk2, rfl, hn⟩ := hrel
    by_cases hlt : k < xs.length
    · rw [drop_at hlt] at hn
      by_cases hlt2 : k < ys.length
      · rw [drop_at hlt2, cmpL] at hn
        have Hn := Lib.hid hn
        clear hn
        obtain ⟨b1, o1, rfl, hb1, hc1⟩ := h (by omega)
        obtain ⟨b2, o2, rfl, hb2, hc2⟩ := h2 (by omega)
        have q1 := hc1 k hlt
        have q2 := hc2 k hlt2
        clear hc1 hc2
        rcases (by omega : nAt xs k < nAt ys k ∨ nAt ys k < nAt xs k ∨ nAt xs k = nAt ys k) with hc | hc | hc
        · have hv : cmp1 (nAt xs k) (nAt ys k) = -1 := by simp [cmp1, hc]
          have Hr : Hid (cmpL xs ys = -1) := Lib.hid (by rw [Hn.out, if_pos hc])
          have Hcall := Lib.hid (fun w => cmp1_any (nAt xs k) (nAt ys k) w)
          rw [hv] at Hcall
          clear hc hv
          go_wp2_with (go_at_call 99; refine (Hcall.out _).mono ?_; rintro e w' ⟨rfl, rfl⟩)
          go_ret
          exact ⟨by rw [Hr.out]; rfl, rfl⟩
        · have hv : cmp1 (nAt xs k) (nAt ys k) = 1 := by simp [cmp1, hc, show ¬ nAt xs k < nAt ys k by omega]
          have Hr : Hid (cmpL xs ys = 1) := Lib.hid (by rw [Hn.out, if_neg (by omega), if_pos hc])
          have Hcall := Lib.hid (fun w => cmp1_any (nAt xs k) (nAt ys k) w)
          rw [hv] at Hcall
          clear hc hv
          go_wp2_with (go_at_call 99; refine (Hcall.out _).mono ?_; rintro e w' ⟨rfl, rfl⟩)
          go_ret
          exact ⟨by rw [Hr.out]; rfl, rfl⟩
        · have hv : cmp1 (nAt xs k) (nAt ys k) = 0 := by simp [cmp1, hc]
          have Hr : Hid (cmpL xs ys = cmpL (xs.drop (k + 1)) (ys.drop (k + 1))) := Lib.hid (by rw [Hn.out, if_neg (by omega), if_neg (by omega)])
          have Hcall := Lib.hid (fun w => cmp1_any (nAt xs k) (nAt ys k) w)
          rw [hv] at Hcall
          clear hc hv
          go_wp2_with (go_at_call 99; refine (Hcall.out _).mono ?_; rintro e w' ⟨rfl, rfl⟩)
          go_round
          case rel => exact ⟨k + 1, by omega, by omega, by go_num, Hr.out⟩
          case measure => simp [intOf]; omega
      · obtain rfl : k = ys.length := by omega
        rw [List.drop_length] at hn
        have Hr : Hid (cmpL xs ys = 1) := Lib.hid (by rw [hn]; rfl)
        clear hn
        obtain ⟨b1, o1, rfl, hb1, hc1⟩ := h (by omega)
        have q1 := hc1 ys.length hlt
        clear hc1
        go_wp2
        go_ret
        exact ⟨by rw [Hr.out]; rfl, rfl⟩
    · obtain rfl : k = xs.length := by omega
      rw [List.drop_length] at hn
      by_cases hlt2 : xs.length < ys.length
      · rw [drop_at hlt2] at hn
        have Hr : Hid (cmpL xs ys = -1) := Lib.hid (by rw [hn]; rfl)
        clear hn
        go_wp2
        go_ret
        exact ⟨by rw [Hr.out]; rfl, rfl⟩
      · have e : ys.length = xs.length := by omega
        rw [← e, List.drop_length] at hn
        have Hr : Hid (cmpL xs ys = 0) := Lib.hid (by rw [hn]; rfl)
        clear hn
        go_wp2
        go_ret
        exact ⟨by rw [Hr.out]; rfl, rfl⟩
end Go.Proofs.YtnhdcdhpfgdphaaDoor
