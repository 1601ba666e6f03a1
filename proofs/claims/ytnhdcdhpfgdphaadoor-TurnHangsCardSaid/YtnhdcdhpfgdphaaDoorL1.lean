/-
  What statements share: spans, lists, sets of small numbers: contracts.
-/
import Derived.Test.YtnhdcdhpfgdphaaDoorX
import Derived.Test.YtnhdcdhpfgdphaaDoorA8
import Derived.Test.YtnhdcdhpfgdphaaDoorA5
set_option linter.unusedSimpArgs false
set_option linter.unusedVariables false
namespace Go.Proofs.YtnhdcdhpfgdphaaDoor
open Go Go.RowKit

theorem between_any (n lo hi : Int) (w : World) : Calls Tryd.prog 44 #[.int .i64 n, .int .i64 lo, .int .i64 hi] w fun e w' => e = .returned (.bool (inB n lo hi)) ∧ w = w' := by
  go_enter Tryd.func44, Tryd.ntmps44
  go_wp2
  all_goals
    go_ret
    refine ⟨?_, rfl⟩
    first | rfl | (congr 2; simp [inB]; omega) | (congr 2; simp [inB, *])
theorem to_any (l h : Int) (w : World) : Calls Tryd.prog 45 #[.int .i64 l, .int .i64 h] w fun e w' => e = .returned (.agg #[.int .i64 l, .int .i64 h]) ∧ Ext w w' := by
  go_enter Tryd.func45, Tryd.ntmps45
  go_wp2
  obtain ⟨k0, k1⟩ := (Blk.new w 29 #[.int .i64 l, .int .i64 h]).c2
  refine bodyPost_ret (v := .agg #[.int .i64 l, .int .i64 h]) ?_ rfl ⟨rfl, Ext.alloc _ _⟩
  simp [results, Tryd.results45, go_sem, k0, k1]
theorem just_any (l : Int) (w : World) : Calls Tryd.prog 56 #[.int .i64 l] w fun e w' => e = .returned (.agg #[.int .i64 l, .int .i64 l]) ∧ Ext w w' := by
  go_enter Tryd.func56, Tryd.ntmps56
  go_wp2
  obtain ⟨k0, k1⟩ := (Blk.new w 29 #[.int .i64 l, .int .i64 l]).c2
  refine bodyPost_ret (v := .agg #[.int .i64 l, .int .i64 l]) ?_ rfl ⟨rfl, Ext.alloc _ _⟩
  simp [results, Tryd.results56, go_sem, k0, k1]
theorem aim_any (st co l h : Int) (w : World) : Calls Tryd.prog 91 #[.int .i64 st, .int .i64 co, .agg #[.int .i64 l, .int .i64 h]] w fun e w' => e = .returned (.agg #[.int .i64 st, .int .i64 co, .int .i64 l, .int .i64 h]) ∧ Ext w w' := by
  go_enter Tryd.func91, Tryd.ntmps91
  go_wp2
  have k := (Blk.new (w.alloc (.cells #[.int .i64 l, .int .i64 h] 29)) 59 #[.int .i64 st, .int .i64 co, .int .i64 l, .int .i64 h]).c4
  rw [show (w.alloc (.cells #[.int .i64 l, .int .i64 h] 29)).heap.size = w.heap.size + 1 by simp] at k
  obtain ⟨k0, k1, k2, k3⟩ := k
  refine bodyPost_ret (v := .agg #[.int .i64 st, .int .i64 co, .int .i64 l, .int .i64 h]) ?_ rfl ⟨rfl, (Ext.alloc _ _).trans (Ext.alloc _ _)⟩
  simp [results, Tryd.results91, go_sem, k0, k1, k2, k3]
/-- Any number, turned to one from 0 to below another one. -/
def wheelZ (n many : Int) : Int := if many < 2 then 0 else n % many
theorem wheelZ_in (n many : Int) (h : 1 ≤ many) : 0 ≤ wheelZ n many ∧ wheelZ n many < many := by
  unfold wheelZ
  split
  · omega
  · exact ⟨Int.emod_nonneg _ (by omega), Int.emod_lt_of_pos _ (by omega)⟩
theorem tmod_neg {n many : Int} (h : 2 ≤ many) (hn : n.tmod many < 0) : n.tmod many + many = n % many := by
  have h1 := Int.lt_tmod_of_pos n (b := many) (by omega)
  have h2 := Int.tmod_add_mul_tdiv n many
  have h3 : n = (n.tmod many + many) + many * (n.tdiv many - 1) := by rw [Int.mul_sub]; omega
  conv => rhs; rw [h3, Int.add_mul_emod_self_left]
  rw [Int.emod_eq_of_lt (by omega) (by omega)]
theorem tmod_pos {n many : Int} (h : 2 ≤ many) (hn : 0 ≤ n.tmod many) : n.tmod many = n % many := by
  have h1 := Int.tmod_lt_of_pos n (b := many) (by omega)
  have h2 := Int.tmod_add_mul_tdiv n many
  conv => rhs; rw [← h2, Int.add_mul_emod_self_left]
  rw [Int.emod_eq_of_lt (by omega) (by omega)]
theorem wheel_any (n many : Int) (w : World) (hn : -9223372036854775808 ≤ n ∧ n ≤ 9223372036854775807) (hm : many ≤ 9223372036854775807) :
    Calls Tryd.prog 37 #[.int .i64 n, .int .i64 many] w fun e w' => e = .returned (.int .i64 (wheelZ n many)) ∧ w = w' := by
  rcases (by omega : many < 2 ∨ 2 ≤ many) with h2 | h2
  · have hz : Hid (wheelZ n many = 0) := Lib.hid (by simp [wheelZ, h2])
    go_enter Tryd.func37, Tryd.ntmps37
    go_wp2
    go_ret
    exact ⟨by rw [hz.out]; rfl, rfl⟩
  · have hz : Hid (wheelZ n many = n % many) := Lib.hid (by simp [wheelZ]; omega)
    have hl := wheelZ_in n many (by omega)
    rw [hz.out] at hl
    rcases (by omega : n.tmod many < 0 ∨ 0 ≤ n.tmod many) with h3 | h3
    · have he := Lib.hid (tmod_neg h2 h3)
      have hl2 := Lib.hid hl
      clear hl
      go_enter Tryd.func37, Tryd.ntmps37
      go_wp2
      go_ret
      refine ⟨?_, rfl⟩
      rw [hz.out, ← he.out]
      have := hl2.out
      rw [← he.out] at this
      show Ending.returned (Value.int .i64 (wrap64 (n.tmod many + many))) = _
      rw [show wrap64 (n.tmod many + many) = n.tmod many + many from IntWalk.wrap64_in _ (by omega)]
    · have he := Lib.hid (tmod_pos h2 h3)
      clear hl
      go_enter Tryd.func37, Tryd.ntmps37
      go_wp2
      go_ret
      exact ⟨by rw [hz.out, ← he.out]; rfl, rfl⟩

/-- The number of a list to which any number leads. -/
def pickL (xs : List Int) (n : Int) : Int := if xs.length < 1 then 0 else nAt xs (wheelZ n xs.length).toNat
theorem pick_any (a : Option Addr) (xs : List Int) (cp : Nat) (n : Int) (w : World) (h : IntA w a xs) (hm : xs.length ≤ 9223372036854775807) (hn : -9223372036854775808 ≤ n ∧ n ≤ 9223372036854775807) :
    Calls Tryd.prog 43 #[.slice a xs.length cp, .int .i64 n] w fun e w' => e = .returned (.int .i64 (pickL xs n)) ∧ w = w' := by
  rcases (by omega : xs.length < 1 ∨ 1 ≤ xs.length) with h1 | h1
  · have hz : Hid (pickL xs n = 0) := Lib.hid (by unfold pickL; rw [if_pos h1])
    go_enter Tryd.func43, Tryd.ntmps43
    go_wp2
    go_ret
    exact ⟨by rw [hz.out]; rfl, rfl⟩
  · have hz : pickL xs n = nAt xs (wheelZ n xs.length).toNat := by unfold pickL; rw [if_neg (by omega)]
    have hi := wheelZ_in n xs.length (by omega)
    obtain ⟨k, hk⟩ : ∃ k : Nat, wheelZ n xs.length = k := ⟨(wheelZ n xs.length).toNat, by omega⟩
    have hw := wheel_any n xs.length w hn (by omega)
    rw [hk] at hz hi hw
    simp only [Int.toNat_natCast] at hz
    obtain ⟨b, o, rfl, hb, hc⟩ := h (by omega)
    have q := hc k (by omega)
    have hkl : k < xs.length := by omega
    have Hw := Lib.hid hw
    have Hz := Lib.hid hz
    clear hc hk hw hz hi
    go_enter Tryd.func43, Tryd.ntmps43
    go_wp2_with (go_at_call 37; refine Hw.out.mono ?_; rintro e w' ⟨rfl, rfl⟩)
    go_ret
    exact ⟨by rw [Hz.out]; rfl, rfl⟩
/-- The number of a span to which any number leads. -/
def someZ (lo hi n : Int) : Int := lo + wheelZ n (hi - lo + 1)
theorem someZ_in {lo hi : Int} (n : Int) (h : lo ≤ hi) : lo ≤ someZ lo hi n ∧ someZ lo hi n ≤ hi := by
  have := wheelZ_in n (hi - lo + 1) (by omega)
  unfold someZ
  omega
set_option maxRecDepth 100000 in
theorem some_any (lo hi n : Int) (w : World) (h0 : 0 ≤ lo) (h1 : lo ≤ hi) (h2 : hi < 1440) (hn : -9223372036854775808 ≤ n ∧ n ≤ 9223372036854775807) :
    Calls Tryd.prog 42 #[.agg #[.int .i64 lo, .int .i64 hi], .int .i64 n] w fun e w' => e = .returned (.int .i64 (someZ lo hi n)) ∧ Ext w w' := by
  have hin := someZ_in n h1
  obtain ⟨k, hk⟩ : ∃ k, k = wheelZ n (hi - lo + 1) := ⟨_, rfl⟩
  have hz : someZ lo hi n = lo + k := by rw [hk]; rfl
  rw [hz] at hin
  have hw := fun w => wheel_any n (hi - lo + 1) w hn (by omega)
  rw [← hk] at hw
  have Hw := Lib.hid hw
  have Hz := Lib.hid hz
  clear hk hw hz
  go_enter Tryd.func42, Tryd.ntmps42
  go_upto_region 1 with (fail)
  have kk := Blk.new w 29 #[.int .i64 lo, .int .i64 hi]
  obtain ⟨k0, k1⟩ := kk.c2
  go_quiet ((go_at_call 37; exact (Hw.out _).mono fun e w' q => ⟨q.1, _, q.2.symm⟩))
  go_wp2
  go_ret
  exact ⟨by rw [Hz.out]; rfl, (Ext.alloc _ _).trans (Ext.drewN _ _)⟩
theorem holds_any (lo hi n : Int) (w : World) : Calls Tryd.prog 39 #[.agg #[.int .i64 lo, .int .i64 hi], .int .i64 n] w fun e w' => e = .returned (.bool (inB n lo hi)) ∧ Ext w w' := by
  by_cases h : lo ≤ n
  · go_enter Tryd.func39, Tryd.ntmps39
    go_wp2
    go_ret
    exact ⟨by simp [inB, h], Ext.alloc _ _⟩
  · go_enter Tryd.func39, Tryd.ntmps39
    go_wp2
    go_ret
    exact ⟨by simp [inB]; omega, Ext.alloc _ _⟩
theorem sane_any (lo hi a b : Int) (w : World) : Calls Tryd.prog 52 #[.agg #[.int .i64 lo, .int .i64 hi], .int .i64 a, .int .i64 b] w fun e w' => e = .returned (.bool (decide (a ≤ lo ∧ hi ≤ b ∧ lo ≤ hi))) ∧ Ext w w' := by
  by_cases h : a ≤ lo
  · by_cases h2 : hi ≤ b
    · go_enter Tryd.func52, Tryd.ntmps52
      go_wp2
      go_ret
      exact ⟨by simp [h, h2], Ext.alloc _ _⟩
    · go_enter Tryd.func52, Tryd.ntmps52
      go_wp2
      go_ret
      exact ⟨by simp; omega, Ext.alloc _ _⟩
  · go_enter Tryd.func52, Tryd.ntmps52
    go_wp2
    go_ret
    exact ⟨by simp; omega, Ext.alloc _ _⟩

/-- The first place of a number in a list; -1 if it is not there. -/
def placeL (xs : List Int) (n : Int) : Int := match xs.findIdx? (· == n) with
  | some k => k
  | none => -1
theorem placeL_at {xs : List Int} {n : Int} {k : Nat} (hk : k < xs.length) (hq : nAt xs k = n) (hb : ∀ i, i < k → nAt xs i ≠ n) : placeL xs n = k := by
  have : xs.findIdx? (· == n) = some k := by
    rw [List.findIdx?_eq_some_iff_getElem]
    refine ⟨hk, ?_, fun j hj => ?_⟩
    · have := hq; simp [nAt, List.getElem?_eq_getElem hk] at this; simp [this]
    · have := hb j hj; simp [nAt, List.getElem?_eq_getElem (show j < xs.length by omega)] at this; simp [this]
  simp [placeL, this]
theorem placeL_none {xs : List Int} {n : Int} (hb : ∀ i, i < xs.length → nAt xs i ≠ n) : placeL xs n = -1 := by
  have : xs.findIdx? (· == n) = none := by
    rw [List.findIdx?_eq_none_iff]
    intro x hx
    obtain ⟨i, hi, rfl⟩ := List.getElem_of_mem hx
    have := hb i hi
    simp [nAt, List.getElem?_eq_getElem hi] at this
    simp [this]
  simp [placeL, this]
theorem place_any (a : Option Addr) (xs : List Int) (cp : Nat) (n : Int) (w : World) (h : IntA w a xs) (hm : xs.length ≤ 9223372036854775807) :
    Calls Tryd.prog 41 #[.slice a xs.length cp, .int .i64 n] w fun e w' => e = .returned (.int .i64 (placeL xs n)) ∧ w = w' := by
  go_enter Tryd.func41, Tryd.ntmps41
  go_wp2_with (fail)
  go_loop [5] (fun i => ∃ k : Nat, k ≤ xs.length ∧ i = .int .i64 k ∧ ∀ i, i < k → nAt xs i ≠ n) (fun i => xs.length - (intOf i).toNat)
  case atStart => exact ⟨0, Nat.zero_le _, rfl, fun i hi => by omega⟩
  case round =>
    obtain ⟨k, hk, rfl, hn⟩ := hrel
    have Hn := Lib.hid hn
    clear hn
    by_cases hlt : k < xs.length
    · obtain ⟨b, o, rfl, hb, hc⟩ := h (by omega)
      have q := hc k hlt
      clear hc
      by_cases hq : nAt xs k = n
      · have hp := Lib.hid (placeL_at hlt hq Hn.out)
        have hq2 : (nAt xs k == n) = true := by simp [hq]
        clear hq
        go_wp2
        go_ret
        exact ⟨by rw [hp.out]; rfl, rfl⟩
      · have hq2 : (nAt xs k == n) = false := by simp [hq]
        have Hq := Lib.hid hq
        clear hq
        go_wp2
        go_round
        case rel => exact ⟨k + 1, by omega, by go_num, fun i hi => (by
          rcases (by omega : i < k ∨ i = k) with h | rfl
          · exact Hn.out i h
          · exact Hq.out)⟩
        case measure => simp [intOf]; omega
    · obtain rfl : k = xs.length := by omega
      have hp := Lib.hid (placeL_none Hn.out)
      go_wp2
      go_ret
      exact ⟨by rw [hp.out]; rfl, rfl⟩

theorem list_eq_at {xs ys : List Int} (hl : xs.length = ys.length) (h : ∀ i, i < xs.length → nAt xs i = nAt ys i) : xs = ys := by
  apply List.ext_getElem hl
  intro i h1 h2
  have := h i h1
  simpa [nAt, List.getElem?_eq_getElem h1, List.getElem?_eq_getElem h2] using this
set_option maxHeartbeats 1000000 in
theorem same_any (a b : Option Addr) (xs ys : List Int) (cp cq : Nat) (w : World) (h : IntA w a xs) (h2 : IntA w b ys) (hm : xs.length ≤ 9223372036854775807) (hm2 : ys.length ≤ 9223372036854775807) :
    Calls Tryd.prog 21 #[.slice a xs.length cp, .slice b ys.length cq] w fun e w' => e = .returned (.bool (decide (xs = ys))) ∧ Ext w w' := by
  go_enter Tryd.func21, Tryd.ntmps21
  go_wp2_with (fail)
  go_loopw [5, 6] (fun s i wr => ∃ (k : Nat) (p : Bool), k ≤ xs.length ∧ i = .int .i64 k ∧ s = .bool p ∧ (p = true → xs.length = ys.length ∧ ∀ i, i < k → nAt xs i = nAt ys i) ∧ (p = false → xs ≠ ys) ∧ Ext w wr) (fun _ i _ => xs.length - (intOf i).toNat)
  case atStart => exact ⟨0, _, Nat.zero_le _, rfl, rfl, fun hp => ⟨Int.ofNat.inj (by simpa using hp), fun i hi => by omega⟩, fun hp e => by subst e; simp at hp, Ext.refl _⟩
  case round =>
    obtain ⟨k, p, hk, rfl, rfl, ht, hf, hE⟩ := hrel
    cases p with
    | false =>
      have Hr : Hid (decide (xs = ys) = false) := Lib.hid (by simp [hf rfl])
      clear ht hf
      go_wp2
      go_ret
      exact ⟨by rw [Hr.out]; rfl, hE⟩
    | true =>
      obtain ⟨hl, ht⟩ := ht rfl
      have Ht := Lib.hid ht
      clear ht hf
      by_cases hlt : k < xs.length
      · have h1' := h.ext hE
        have h2' := h2.ext hE
        obtain ⟨b1, o1, rfl, hb1, hc1⟩ := h1' (by omega)
        obtain ⟨b2, o2, rfl, hb2, hc2⟩ := h2' (by omega)
        have q1 := hc1 k hlt
        have q2 := hc2 k (by omega)
        have hlt2 : k < ys.length := by omega
        have Hl := Lib.hid hl
        clear hc1 hc2 h1' h2' hl
        go_upto_region 5 with (fail)
        go_quiet (fail)
        go_wp2
        go_roundw
        case rel => exact ⟨k + 1, _, by omega, by go_num, rfl, fun hp => ⟨Hl.out, fun i hi => (by
          rcases (by omega : i < k ∨ i = k) with h | rfl
          · exact Ht.out i h
          · simpa using hp)⟩, fun hp e => (by subst e; simp at hp), Ext.trans hE (Ext.drewN _ _)⟩
        case measure => simp [intOf]; omega
      · obtain rfl : k = xs.length := by omega
        have Hr : Hid (decide (xs = ys) = true) := Lib.hid (by simp [list_eq_at hl Ht.out])
        clear hl
        go_wp2
        go_ret
        exact ⟨by rw [Hr.out]; rfl, hE⟩
end Go.Proofs.YtnhdcdhpfgdphaaDoor
