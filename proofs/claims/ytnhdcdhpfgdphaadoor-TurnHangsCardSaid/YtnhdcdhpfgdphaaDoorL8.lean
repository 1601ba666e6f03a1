/-
  Rising lists; sets of small numbers.
-/
import Derived.Test.YtnhdcdhpfgdphaaDoorL1
set_option linter.unusedSimpArgs false
set_option linter.unusedVariables false
namespace Go.Proofs.YtnhdcdhpfgdphaaDoor
open Go Go.RowKit

def risesF (below : Int) : Int → List Int → Bool
  | _, [] => true
  | least, x :: r => inB x least (below - 1) && risesF below (x + 1) r
theorem rises_yes {below : Int} : ∀ (xs : List Int) (least : Int), xs.Pairwise (· < ·) → (∀ x ∈ xs, least ≤ x ∧ x < below) → risesF below least xs = true
  | [], _, _, _ => rfl
  | x :: r, least, hp, hb => by
    have h1 := hb x (by simp)
    have h2 := List.pairwise_cons.1 hp
    simp only [risesF, Bool.and_eq_true]
    refine ⟨by simp [inB]; omega, rises_yes r (x + 1) h2.2 (fun y hy => ?_)⟩
    have h3 := h2.1 y hy
    have h4 := hb y (by simp [hy])
    omega
set_option maxRecDepth 100000 in
set_option maxHeartbeats 1000000 in
theorem rises_any (a : Option Addr) (xs : List Int) (cp : Nat) (below : Int) (w : World) (h : IntA w a xs) (hm : xs.length ≤ 9223372036854775807) (hb : 0 ≤ below ∧ below ≤ 1000) :
    Calls Tryd.prog 40 #[.slice a xs.length cp, .int .i64 below] w fun e w' => e = .returned (.bool (risesF below 0 xs)) ∧ w = w' := by
  go_enter Tryd.func40, Tryd.ntmps40
  go_wp2_with (fail)
  go_loop [5, 6] (fun l i => ∃ (k : Nat) (least : Int), k ≤ xs.length ∧ i = .int .i64 k ∧ l = .int .i64 least ∧ 0 ≤ least ∧ least ≤ 1000 ∧ risesF below 0 xs = risesF below least (xs.drop k)) (fun _ i => xs.length - (intOf i).toNat)
  case atStart => exact ⟨0, 0, Nat.zero_le _, rfl, rfl, by omega, by omega, rfl⟩
  case round =>
    obtain ⟨k, least, hk, rfl, rfl, hl0, hl1, hn⟩ := hrel
    by_cases hlt : k < xs.length
    · rw [drop_at hlt, risesF] at hn
      obtain ⟨b, o, rfl, hbl, hc⟩ := h (by omega)
      have q := hc k hlt
      obtain ⟨x, hx⟩ : ∃ x, x = nAt xs k := ⟨_, rfl⟩
      rw [← hx] at hn q
      clear hc hx
      cases hi : inB x least (below - 1) with
      | false =>
        have Hn : Hid (risesF below 0 xs = false) := Lib.hid (by rw [hn, hi]; rfl)
        clear hn
        go_wp2_with (go_at_call 44; refine (between_any _ _ _ _).mono ?_; rintro e w2 ⟨rfl, rfl⟩)
        go_ret
        exact ⟨by rw [Hn.out]; rfl, rfl⟩
      | true =>
        have Hn : Hid (risesF below 0 xs = risesF below (x + 1) (xs.drop (k + 1))) := Lib.hid (by rw [hn, hi]; rfl)
        have hin : least ≤ x ∧ x ≤ below - 1 := by simpa [inB] using hi
        clear hn
        go_wp2_with (go_at_call 44; refine (between_any _ _ _ _).mono ?_; rintro e w2 ⟨rfl, rfl⟩)
        go_round
        case rel => exact ⟨k + 1, x + 1, by omega, by go_num, rfl, by omega, by omega, Hn.out⟩
        case measure => simp [intOf]; omega
    · obtain rfl : k = xs.length := by omega
      have Hn : Hid (risesF below 0 xs = true) := Lib.hid (by rw [hn, List.drop_length]; rfl)
      clear hn
      go_wp2
      go_ret
      exact ⟨by rw [Hn.out]; rfl, rfl⟩

theorem wrap_pow4 {n : Nat} (h : n < 4) : wrap64 ((2 : Int) ^ n) = ((2 ^ n : Nat) : Int) := by
  rcases (by omega : n = 0 ∨ n = 1 ∨ n = 2 ∨ n = 3) with rfl | rfl | rfl | rfl <;> first | kernel_rfl | simp [wrap64]
/-- A set of small numbers. -/
def setN (xs : List Int) : Nat := xs.foldl (fun s x => s ||| (1 <<< x.toNat)) 0
theorem or_all : ((List.range 16).all fun s => (List.range 4).all fun k => (bits BinOp.or IntKind.i64 (s : Int) ((2 ^ k : Nat) : Int) == ((s ||| (1 <<< k) : Nat) : Int)) && decide (s ||| (1 <<< k) < 16)) = true := by kernel_rfl
theorem or_eq {s k : Nat} (hs : s < 16) (hk : k < 4) : bits BinOp.or IntKind.i64 (s : Int) ((2 ^ k : Nat) : Int) = ((s ||| (1 <<< k) : Nat) : Int) ∧ s ||| (1 <<< k) < 16 := by
  have h := or_all
  simp only [List.all_eq_true, List.mem_range, Bool.and_eq_true, beq_iff_eq, decide_eq_true_eq] at h
  exact h s hs k hk
theorem setN_lt (xs : List Int) : ∀ s, s < 16 → (∀ x ∈ xs, 0 ≤ x ∧ x < 4) → xs.foldl (fun s x => s ||| (1 <<< x.toNat)) s < 16 := by
  induction xs with
  | nil => intro s h _; simpa using h
  | cons x r ih =>
    intro s hs hx
    have h1 := hx x (by simp)
    exact ih _ (or_eq hs (show x.toNat < 4 by omega)).2 (fun y hy => hx y (by simp [hy]))
theorem setN_take {xs : List Int} {k : Nat} (hk : k < xs.length) : setN (xs.take (k + 1)) = setN (xs.take k) ||| (1 <<< (nAt xs k).toNat) := by
  unfold setN
  rw [List.take_add_one, List.foldl_append]
  simp [nAt, List.getElem?_eq_getElem hk]
set_option maxRecDepth 100000 in
set_option maxHeartbeats 1000000 in
theorem set_any (a : Option Addr) (xs : List Int) (cp : Nat) (w : World) (h : IntA w a xs) (hm : xs.length ≤ 9223372036854775807) (hx : ∀ x ∈ xs, 0 ≤ x ∧ x < 4) :
    Calls Tryd.prog 46 #[.slice a xs.length cp] w fun e w' => e = .returned (.int .i64 (setN xs)) ∧ w = w' := by
  go_enter Tryd.func46, Tryd.ntmps46
  go_wp2_with (fail)
  go_loop [3, 4] (fun l i => ∃ k : Nat, k ≤ xs.length ∧ i = .int .i64 k ∧ l = .int .i64 (setN (xs.take k))) (fun _ i => xs.length - (intOf i).toNat)
  case atStart => exact ⟨0, Nat.zero_le _, rfl, rfl⟩
  case round =>
    obtain ⟨k, hk, rfl, rfl⟩ := hrel
    by_cases hlt : k < xs.length
    · obtain ⟨b, o, rfl, hbl, hc⟩ := h (by omega)
      have q := hc k hlt
      have hs : setN (xs.take k) < 16 := setN_lt _ 0 (by omega) (fun x hx' => hx x (List.mem_of_mem_take hx'))
      have hxk := hx (nAt xs k) (by simp only [nAt, List.getD_eq_getElem?_getD, List.getElem?_eq_getElem hlt, Option.getD_some]; exact List.getElem_mem hlt)
      have hsucc := setN_take hlt
      obtain ⟨x, hxe⟩ : ∃ x : Nat, nAt xs k = x := ⟨(nAt xs k).toNat, by omega⟩
      rw [hxe] at q hxk hsucc
      have hor := or_eq hs (show x < 4 by omega)
      simp only [Int.toNat_natCast] at hsucc
      obtain ⟨s, hse⟩ : ∃ s, s = setN (xs.take k) := ⟨_, rfl⟩
      rw [← hse] at hor hsucc ⊢
      have Hor := Lib.hid hor
      have Hsucc := Lib.hid hsucc
      clear hc hxe hs hor hsucc hse
      go_wp2
      refine ⟨⟨k + 1, by omega, by go_num, ?_⟩, by simp [intOf]; omega⟩
      rw [wrap_pow4 (show x < 4 by omega), Hor.out.1, Hsucc.out]
    · obtain rfl : k = xs.length := by omega
      rw [List.take_length]
      go_wp2
      go_ret
      exact ⟨rfl, rfl⟩
end Go.Proofs.YtnhdcdhpfgdphaaDoor
