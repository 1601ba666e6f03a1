/-
  What statements share: spans, lists, sets of small numbers: contracts.
-/
import Derived.Test.YtnhdcdhpfgdphaaDoorMOw7
import Derived.Test.YtnhdcdhpfgdphaaDoorMOw8
import Derived.Test.YtnhdcdhpfgdphaaDoorMOw3
set_option linter.unusedSimpArgs false
set_option linter.unusedVariables false
namespace Go.Proofs.YtnhdcdhpfgdphaaDoor
open Go Go.RowKit

theorem between_any (n lo hi : Int) (w : World) : Calls Tryd.prog 44 #[.int .i64 n, .int .i64 lo, .int .i64 hi] w fun e w' => e = .returned (.bool (inB n lo hi)) ∧ w = w' := by
  go_enter Tryd.func44, Tryd.ntmps44
  go_wp2
  all_goals
    go_ret
    refine ⟨?_, rfl⟩
    first | rfl | (congr 2; simp [inB]; omega) | (congr 2; simp [inB, *])
theorem to_any (l h : Int) (w : World) : Calls Tryd.prog 45 #[.int .i64 l, .int .i64 h] w fun e w' => e = .returned (.agg #[.int .i64 l, .int .i64 h]) ∧ Ext w w' := by
  go_enter Tryd.func45, Tryd.ntmps45
  go_wp2
  obtain ⟨k0, k1⟩ := (Blk.new w 29 #[.int .i64 l, .int .i64 h]).c2
  refine bodyPost_ret (v := .agg #[.int .i64 l, .int .i64 h]) ?_ rfl ⟨rfl, Ext.alloc _ _⟩
  simp [results, Tryd.results45, go_sem, k0, k1]
theorem just_any (l : Int) (w : World) : Calls Tryd.prog 56 #[.int .i64 l] w fun e w' => e = .returned (.agg #[.int .i64 l, .int .i64 l]) ∧ Ext w w' := by
  go_enter Tryd.func56, Tryd.ntmps56
  go_wp2
  obtain ⟨k0, k1⟩ := (Blk.new w 29 #[.int .i64 l, .int .i64 l]).c2
  refine bodyPost_ret (v := .agg #[.int .i64 l, .int .i64 l]) ?_ rfl ⟨rfl, Ext.alloc _ _⟩
  simp [results, Tryd.results56, go_sem, k0, k1]
theorem aim_any (st co l h : Int) (w : World) : Calls Tryd.prog 91 #[.int .i64 st, .int .i64 co, .agg #[.int .i64 l, .int .i64 h]] w fun e w' => e = .returned (.agg #[.int .i64 st, .int .i64 co, .int .i64 l, .int .i64 h]) ∧ Ext w w' := by
  go_enter Tryd.func91, Tryd.ntmps91
  go_wp2
  have k := (Blk.new (w.alloc (.cells #[.int .i64 l, .int .i64 h] 29)) 59 #[.int .i64 st, .int .i64 co, .int .i64 l, .int .i64 h]).c4
  rw [show (w.alloc (.cells #[.int .i64 l, .int .i64 h] 29)).heap.size = w.heap.size + 1 by simp] at k
  obtain ⟨k0, k1, k2, k3⟩ := k
  refine bodyPost_ret (v := .agg #[.int .i64 st, .int .i64 co, .int .i64 l, .int .i64 h]) ?_ rfl ⟨rfl, (Ext.alloc _ _).trans (Ext.alloc _ _)⟩
  simp [results, Tryd.results91, go_sem, k0, k1, k2, k3]
/-- Any number, turned to one from 0 to below another one. -/
def wheelZ (n many : Int) : Int := if many < 2 then 0 else n % many
theorem wheelZ_in (n many : Int) (h : 1 ≤ many) : 0 ≤ wheelZ n many ∧ wheelZ n many < many := by
  unfold wheelZ
  split
  · omega
  · exact ⟨Int.emod_nonneg _ (by omega), Int.emod_lt_of_pos _ (by omega)⟩
theorem tmod_neg {n many : Int} (h : 2 ≤ many) (hn : n.tmod many < 0) : n.tmod many + many = n % many := by
  have h1 := Int.lt_tmod_of_pos n (b := many) (by omega)
  have h2 := Int.tmod_add_mul_tdiv n many
  have h3 : n = (n.tmod many + many) + many * (n.tdiv many - 1) := by rw [Int.mul_sub]; omega
  conv => rhs; rw [h3, Int.add_mul_emod_self_left]
  rw [Int.emod_eq_of_lt (by omega) (by omega)]
theorem tmod_pos {n many : Int} (h : 2 ≤ many) (hn : 0 ≤ n.tmod many) : n.tmod many = n % many := by
  have h1 := Int.tmod_lt_of_pos n (b := many) (by omega)
  have h2 := Int.tmod_add_mul_tdiv n many
  conv => rhs; rw [← h2, Int.add_mul_emod_self_left]
  rw [Int.emod_eq_of_lt (by omega) (by omega)]
theorem wheel_any (n many : Int) (w : World) (hn : -9223372036854775808 ≤ n ∧ n ≤ 9223372036854775807) (hm : many ≤ 9223372036854775807) :
    Calls Tryd.prog 37 #[.int .i64 n, .int .i64 many] w fun e w' => e = .returned (.int .i64 (wheelZ n many)) ∧ w = w' := by
  rcases (by omega : many < 2 ∨ 2 ≤ many) with h2 | h2
  · have hz : Hid (wheelZ n many = 0) := Lib.hid (by simp [wheelZ, h2])
    go_enter Tryd.func37, Tryd.ntmps37
    go_wp2
    go_ret
    exact ⟨by rw [hz.out]; rfl, rfl⟩
  · have hz : Hid (wheelZ n many = n % many) := Lib.hid (by simp [wheelZ]; omega)
    have hl := wheelZ_in n many (by omega)
    rw [hz.out] at hl
    rcases (by omega : n.tmod many < 0 ∨ 0 ≤ n.tmod many) with h3 | h3
    · have he := Lib.hid (tmod_neg h2 h3)
      have hl2 := Lib.hid hl
      clear hl
      go_enter Tryd.func37, Tryd.ntmps37
      go_wp2
      go_ret
      refine ⟨?_, rfl⟩
      rw [hz.out, ← he.out]
      have := hl2.out
      rw [← he.out] at this
      show Ending.returned (Value.int .i64 (wrap64 (n.tmod many + many))) = _
      rw [show wrap64 (n.tmod many + many) = n.tmod many + many from IntWalk.wrap64_in _ (by omega)]
    · have he := Lib.hid (tmod_pos h2 h3)
      clear hl
      go_enter Tryd.func37, Tryd.ntmps37
      go_wp2
      go_ret
      exact ⟨by rw [hz.out, ← he.out]; rfl, rfl⟩

/-- The number of a list to which any number leads. -/
def pickL (xs : List Int) (n : Int) : Int := if xs.length < 1 then 0 else nAt xs (wheelZ n xs.length).toNat
theorem pick_any (a : Option Addr) (xs : List Int) (cp : Nat) (n : Int) (w : World) (h : IntA w a xs) (hm : xs.length ≤ 9223372036854775807) (hn : -9223372036854775808 ≤ n ∧ n ≤ 9223372036854775807) :
    Calls Tryd.prog 43 #[.slice a xs.length cp, .int .i64 n] w fun e w' => e = .returned (.int .i64 (pickL xs n)) ∧ w = w' := by
  rcases (by omega : xs.length < 1 ∨ 1 ≤ xs.length) with h1 | h1
  · have hz : Hid (pickL xs n = 0) := Lib.hid (by unfold pickL; rw [if_pos h1])
    go_enter Tryd.func43, Tryd.ntmps43
    go_wp2
    go_ret
    exact ⟨by rw [hz.out]; rfl, rfl⟩
  · have hz : pickL xs n = nAt xs (wheelZ n xs.length).toNat := by unfold pickL; rw [if_neg (by omega)]
    have hi := wheelZ_in n xs.length (by omega)
    obtain ⟨k, hk⟩ : ∃ k : Nat, wheelZ n xs.length = k := ⟨(wheelZ n xs.length).toNat, by omega⟩
    have hw := wheel_any n xs.length w hn (by omega)
    rw [hk] at hz hi hw
    simp only [Int.toNat_natCast] at hz
    obtain ⟨b, o, rfl, hb, hc⟩ := h (by omega)
    have q := hc k (by omega)
    have hkl : k < xs.length := by omega
    have Hw := Lib.hid hw
    have Hz := Lib.hid hz
    clear hc hk hw hz hi
    go_enter Tryd.func43, Tryd.ntmps43
    go_wp2_with (go_at_call 37; refine Hw.out.mono ?_; rintro e w' ⟨rfl, rfl⟩)
    go_ret
    exact ⟨by rw [Hz.out]; rfl, rfl⟩
/-- The number of a span to which any number leads. -/
def someZ (lo hi n : Int) : Int := lo + wheelZ n (hi - lo + 1)
theorem someZ_in {lo hi : Int} (n : Int) (h : lo ≤ hi) : lo ≤ someZ lo hi n ∧ someZ lo hi n ≤ hi := by
  have := wheelZ_in n (hi - lo + 1) (by omega)
  unfold someZ
  omega
set_option maxRecDepth 100000 in
theorem some_any (lo hi n : Int) (w : World) (h0 : 0 ≤ lo) (h1 : lo ≤ hi) (h2 : hi < 1440) (hn : -9223372036854775808 ≤ n ∧ n ≤ 9223372036854775807) :
    Calls Tryd.prog 42 #[.agg #[.int .i64 lo, .int .i64 hi], .int .i64 n] w fun e w' => e = .returned (.int .i64 (someZ lo hi n)) ∧ Ext w w' := by
  have hin := someZ_in n h1
  obtain ⟨k, hk⟩ : ∃ k, k = wheelZ n (hi - lo + 1) := ⟨_, rfl⟩
  have hz : someZ lo hi n = lo + k := by rw [hk]; rfl
  rw [hz] at hin
  have hw := fun w => wheel_any n (hi - lo + 1) w hn (by omega)
  rw [← hk] at hw
  have Hw := Lib.hid hw
  have Hz := Lib.hid hz
  clear hk hw hz
  go_enter Tryd.func42, Tryd.ntmps42
  go_upto_region 1 with (fail)
  have kk := Blk.new w 29 #[.int .i64 lo, .int .i64 hi]
  obtain ⟨k0, k1⟩ := kk.c2
  go_quiet ((go_at_call 37; exact (Hw.out _).mono fun e w' q => ⟨q.1, _, q.2.symm⟩))
  go_wp2
  go_ret
  exact ⟨by rw [Hz.out]; rfl, (Ext.alloc _ _).trans (Ext.drewN _ _)⟩
theorem holds_any (lo hi n : Int) (w : World) : Calls Tryd.prog 39 #[.agg #[.int .i64 lo, .int .i64 hi], .int .i64 n] w fun e w' => e = .returned (.bool (inB n lo hi)) ∧ Ext w w' := by
  by_cases h : lo ≤ n
  · go_enter Tryd.func39, Tryd.ntmps39
    go_wp2
    go_ret
    exact ⟨by simp [inB, h], Ext.alloc _ _⟩
  · go_enter Tryd.func39, Tryd.ntmps39
    go_wp2
    go_ret
    exact ⟨by simp [inB]; omega, Ext.alloc _ _⟩
theorem sane_any (lo hi a b : Int) (w : World) : Calls Tryd.prog 52 #[.agg #[.int .i64 lo, .int .i64 hi], .int .i64 a, .int .i64 b] w fun e w' => e = .returned (.bool (decide (a ≤ lo ∧ hi ≤ b ∧ lo ≤ hi))) ∧ Ext w w' := by
  by_cases h : a ≤ lo
  · by_cases h2 : hi ≤ b
    · go_enter Tryd.func52, Tryd.ntmps52
      go_wp2
      go_ret
      exact ⟨by simp [h, h2], Ext.alloc _ _⟩
    · go_enter Tryd.func52, Tryd.ntmps52
      go_wp2
      go_ret
      exact ⟨by simp; omega, Ext.alloc _ _⟩
  · go_enter Tryd.func52, Tryd.ntmps52
    go_wp2
    go_ret
    exact ⟨by simp; omega, Ext.alloc _ _⟩

/-- The first place of a number in a list; -1 if it is not there. -/
def placeL (xs : List Int) (n : Int) : Int := match xs.findIdx? (· == n) with
  | some k => k
  | none => -1
theorem placeL_at {xs : List Int} {n : Int} {k : Nat} (hk : k < xs.length) (hq : nAt xs k = n) (hb : ∀ i, i < k → nAt xs i ≠ n) : placeL xs n = k := by
  have : xs.findIdx? (· == n) = some k := by
    rw [List.findIdx?_eq_some_iff_getElem]
    refine ⟨hk, ?_, fun j hj => ?_⟩
    · have := hq; simp [nAt, List.getElem?_eq_getElem hk] at this; simp [this]
    · have := hb j hj; simp [nAt, List.getElem?_eq_getElem (show j < xs.length by omega)] at this; simp [this]
  simp [placeL, this]
theorem placeL_none {xs : List Int} {n : Int} (hb : ∀ i, i < xs.length → nAt xs i ≠ n) : placeL xs n = -1 := by
  have : xs.findIdx? (· == n) = none := by
    rw [List.findIdx?_eq_none_iff]
    intro x hx
    obtain ⟨i, hi, rfl⟩ := List.getElem_of_mem hx
    have := hb i hi
    simp [nAt, List.getElem?_eq_getElem hi] at this
    simp [this]
  simp [placeL, this]
theorem place_any (a : Option Addr) (xs : List Int) (cp : Nat) (n : Int) (w : World) (h : IntA w a xs) (hm : xs.length ≤ 9223372036854775807) :
    Calls Tryd.prog 41 #[.slice a xs.length cp, .int .i64 n] w fun e w' => e = .returned (.int .i64 (placeL xs n)) ∧ w = w' := by
  go_enter Tryd.func41, Tryd.ntmps41
  go_wp2_with (fail)
  go_loop [5] (fun i => ∃ k : Nat, k ≤ xs.length ∧ i = .int .i64 k ∧ ∀ i, i < k → nAt xs i ≠ n) (fun i => xs.length - (intOf i).toNat)
  case atStart => exact ⟨0, Nat.zero_le _, rfl, fun i hi => by omega⟩
  case round =>
    obtain ⟨k, hk, rfl, hn⟩ := hrel
    have Hn := Lib.hid hn
    clear hn
    by_cases hlt : k < xs.length
    · obtain ⟨b, o, rfl, hb, hc⟩ := h (by omega)
      have q := hc k hlt
      clear hc
      by_cases hq : nAt xs k = n
      · have hp := Lib.hid (placeL_at hlt hq Hn.out)
        have hq2 : (nAt xs k == n) = true := by simp [hq]
        clear hq
        go_wp2
        go_ret
        exact ⟨by rw [hp.out]; rfl, rfl⟩
      · have hq2 : (nAt xs k == n) = false := by simp [hq]
        have Hq := Lib.hid hq
        clear hq
        go_wp2
        go_round
        case rel => exact ⟨k + 1, by omega, by go_num, fun i hi => (by
          rcases (by omega : i < k ∨ i = k) with h | rfl
          · exact Hn.out i h
          · exact Hq.out)⟩
        case measure => simp [intOf]; omega
    · obtain rfl : k = xs.length := by omega
      have hp := Lib.hid (placeL_none Hn.out)
      go_wp2
      go_ret
      exact ⟨by rw [hp.out]; rfl, rfl⟩

theorem list_eq_at {xs ys : List Int} (hl : xs.length = ys.length) (h : ∀ i, i < xs.length → nAt xs i = nAt ys i) : xs = ys := by
  apply List.ext_getElem hl
  intro i h1 h2
  have := h i h1
  simpa [nAt, List.getElem?_eq_getElem h1, List.getElem?_eq_getElem h2] using this
set_option maxHeartbeats 1000000 in
theorem same_any (a b : Option Addr) (xs ys : List Int) (cp cq : Nat) (w : World) (h : IntA w a xs) (h2 : IntA w b ys) (hm : xs.length ≤ 9223372036854775807) (hm2 : ys.length ≤ 9223372036854775807) :
    Calls Tryd.prog 21 #[.slice a xs.length cp, .slice b ys.length cq] w fun e w' => e = .returned (.bool (decide (xs = ys))) ∧ Ext w w' := by
  go_enter Tryd.func21, Tryd.ntmps21
  go_wp2_with (fail)
  go_loopw [5, 6] (fun s i wr => ∃ (k : Nat) (p : Bool), k ≤ xs.length ∧ i = .int .i64 k ∧ s = .bool p ∧ (p = true → xs.length = ys.length ∧ ∀ i, i < k → nAt xs i = nAt ys i) ∧ (p = false → xs ≠ ys) ∧ Ext w wr) (fun _ i _ => xs.length - (intOf i).toNat)
  case atStart => exact ⟨0, _, Nat.zero_le _, rfl, rfl, fun hp => ⟨Int.ofNat.inj (by simpa using hp), fun i hi => by omega⟩, fun hp e => by subst e; simp at hp, Ext.refl _⟩
  case round =>
    obtain ⟨k, p, hk, rfl, rfl, ht, hf, hE⟩ := hrel
    cases p with
    | false =>
      have Hr : Hid (decide (xs = ys) = false) := Lib.hid (by simp [hf rfl])
      clear ht hf
      go_wp2
      go_ret
      exact ⟨by rw [Hr.out]; rfl, hE⟩
    | true =>
      obtain ⟨hl, ht⟩ := ht rfl
      have Ht := Lib.hid ht
      clear ht hf
      by_cases hlt : k < xs.length
      · have h1' := h.ext hE
        have h2' := h2.ext hE
        obtain ⟨b1, o1, rfl, hb1, hc1⟩ := h1' (by omega)
        obtain ⟨b2, o2, rfl, hb2, hc2⟩ := h2' (by omega)
        have q1 := hc1 k hlt
        have q2 := hc2 k (by omega)
        have hlt2 : k < ys.length := by omega
        have Hl := Lib.hid hl
        clear hc1 hc2 h1' h2' hl
        go_upto_region 5 with (fail)
        go_quiet (fail)
        go_wp2
        go_roundw
        case rel => exact ⟨k + 1, _, by omega, by go_num, rfl, fun hp => ⟨Hl.out, fun i hi => (by
          rcases (by omega : i < k ∨ i = k) with h | rfl
          · exact Ht.out i h
          · simpa using hp)⟩, fun hp e => (by subst e; simp at hp), Ext.trans hE (Ext.drewN _ _)⟩
        case measure => simp [intOf]; omega
      · obtain rfl : k = xs.length := by omega
        have Hr : Hid (decide (xs = ys) = true) := Lib.hid (by simp [list_eq_at hl Ht.out])
        clear hl
        go_wp2
        go_ret
        exact ⟨by rw [Hr.out]; rfl, hE⟩
end Go.Proofs.YtnhdcdhpfgdphaaDoor

/-
  sound: is there a book?
-/
set_option linter.unusedSimpArgs false
set_option linter.unusedVariables false
namespace Go.Proofs.YtnhdcdhpfgdphaaDoor
open Go Go.RowKit

theorem between_yes {n lo hi : Int} (h : inB n lo hi = true) (w : World) : Calls Tryd.prog 44 #[.int .i64 n, .int .i64 lo, .int .i64 hi] w fun e w' => e = .returned (.bool true) ∧ w = w' := by
  have := between_any n lo hi w
  rwa [h] at this
theorem sane_yes {lo hi a b : Int} (h : a ≤ lo ∧ hi ≤ b ∧ lo ≤ hi) (w : World) : Calls Tryd.prog 52 #[.agg #[.int .i64 lo, .int .i64 hi], .int .i64 a, .int .i64 b] w fun e w' => e = .returned (.bool true) ∧ Ext w w' := by
  have := sane_any lo hi a b w
  rwa [decide_eq_true h] at this

set_option maxRecDepth 100000 in
set_option maxHeartbeats 4000000 in
theorem sound_no (B : Bk) (a1 a2 a3 : Option Addr) (c1 c2 c3 : Nat) (w : World) (h : BookA w B a1 a2 a3) (hv : validB B = false) :
    Calls Tryd.prog 36 #[.agg #[.int .i64 B.comp, .slice a1 B.bounds.length c1, .slice a2 B.orders.length c2, .slice a3 B.shots.length c3]] w
      fun e w' => e = .returned (.bool false) ∧ Ext w w' := by
  have HB := Lib.hid h
  clear h
  go_enter Tryd.func36, Tryd.ntmps36
  go_upto_region 1 with (fail)
  obtain ⟨W0, hW0⟩ : ∃ W0, W0 = w.alloc (.cells #[.int .i64 B.comp, .slice a1 B.bounds.length c1, .slice a2 B.orders.length c2, .slice a3 B.shots.length c3] 26) := ⟨_, rfl⟩
  have b0 : Blk W0 w.heap.size 26 #[.int .i64 B.comp, .slice a1 B.bounds.length c1, .slice a2 B.orders.length c2, .slice a3 B.shots.length c3] := by rw [hW0]; exact Blk.new _ _ _
  have E0 : Ext w W0 := by rw [hW0]; exact Ext.alloc _ _
  rw [← hW0]
  clear hW0
  obtain ⟨x0, x1, x2, x3⟩ := b0.c4
  go_upto_region 3 with (go_at_call 17; refine (check_no B a1 a2 a3 c1 c2 c3 _ (HB.out.ext E0) hv).mono ?_; rintro e w1 ⟨rfl, hE1⟩)
  clear x0 x1 x2 x3
  go_loopw [3, 4] (fun s i wr => s = .bool false ∧ Ext w wr) (fun _ i _ => 0)
  case atStart => exact ⟨rfl, E0.trans hE1⟩
  case round =>
    obtain ⟨rfl, hE⟩ := hrel
    go_upto_region 7 with (fail)
    go_loopw [3, 5] (fun s i wx => s = .bool false ∧ Ext w wx) (fun _ i _ => 0)
    case atStart => exact ⟨rfl, hE⟩
    case round =>
      obtain ⟨rfl, hE2⟩ := hrel
      go_upto_region 11 with (fail)
      go_loopw [3, 6] (fun s i wy => s = .bool false ∧ Ext w wy) (fun _ i _ => 0)
      case atStart => exact ⟨rfl, hE2⟩
      case round =>
        obtain ⟨rfl, hE3⟩ := hrel
        go_wp2
        go_ret
        exact ⟨rfl, hE3⟩

set_option maxRecDepth 100000 in
set_option maxHeartbeats 4000000 in
theorem sound_yes (B : Bk) (a1 a2 a3 : Option Addr) (c1 c2 c3 : Nat) (w : World) (h : BookA w B a1 a2 a3) (hv : validB B = true) :
    Calls Tryd.prog 36 #[.agg #[.int .i64 B.comp, .slice a1 B.bounds.length c1, .slice a2 B.orders.length c2, .slice a3 B.shots.length c3]] w
      fun e w' => e = .returned (.bool true) ∧ Ext w w' := by
  have HB := Lib.hid h
  have hsz := valid_sizes hv
  clear h
  go_enter Tryd.func36, Tryd.ntmps36
  go_upto_region 1 with (fail)
  obtain ⟨W0, hW0⟩ : ∃ W0, W0 = w.alloc (.cells #[.int .i64 B.comp, .slice a1 B.bounds.length c1, .slice a2 B.orders.length c2, .slice a3 B.shots.length c3] 26) := ⟨_, rfl⟩
  have b0 : Blk W0 w.heap.size 26 #[.int .i64 B.comp, .slice a1 B.bounds.length c1, .slice a2 B.orders.length c2, .slice a3 B.shots.length c3] := by rw [hW0]; exact Blk.new _ _ _
  have E0 : Ext w W0 := by rw [hW0]; exact Ext.alloc _ _
  rw [← hW0]
  clear hW0
  obtain ⟨x0, x1, x2, x3⟩ := b0.c4
  have g1 := (show inB B.comp 1 4 = true by simp [inB]; omega)
  have g2 := (show inB B.orders.length 1 3 = true by simp [inB]; omega)
  go_upto_region 3 with (first | (go_at_call 17; refine (check_yes B a1 a2 a3 c1 c2 c3 _ (HB.out.ext E0) hv).mono ?_; rintro e w1 ⟨rfl, hE1⟩; obtain ⟨z0, z1, z2, z3⟩ := (b0.ext hE1).c4) | (go_at_call 44; refine (between_any _ _ _ _).mono ?_; rintro e w2 ⟨rfl, rfl⟩))
  clear x0 x1 x2 x3 z0 z1 z2 z3 g1 g2
  have hok : decide ((B.shots.length : Int) ≤ 5) = true := by simp; omega
  rw [hok]
  clear hok
  go_loopw [3, 4] (fun s i wr => ∃ k : Nat, k ≤ B.bounds.length ∧ s = .bool true ∧ i = .int .i64 k ∧ Ext W0 wr) (fun _ i _ => B.bounds.length - (intOf i).toNat)
  case atStart => exact ⟨0, Nat.zero_le _, rfl, rfl, hE1⟩
  case round =>
    obtain ⟨k, hk, rfl, rfl, hE⟩ := hrel
    obtain ⟨x0, x1, x2, x3⟩ := (b0.ext hE).c4
    by_cases hlt : k < B.bounds.length
    · obtain ⟨h1, h2, h3, h4⟩ := valid_bound hv hlt
      have HBr := (HB.out.ext E0).ext hE
      obtain ⟨b, o, rfl, hbl, hc⟩ := HBr.bounds (by omega)
      obtain ⟨q0, q1⟩ := hc k hlt
      have hs := Lib.hid (⟨h1, by omega, h2⟩ : 0 ≤ bLo B.bounds k ∧ bHi B.bounds k ≤ 1439 ∧ bLo B.bounds k ≤ bHi B.bounds k)
      clear hc HBr
      go_wp2_with (go_at_call 52; refine (sane_yes hs.out _).mono ?_; rintro e w2 ⟨rfl, hE2⟩)
      go_roundw
      case rel => exact ⟨k + 1, by omega, rfl, by go_num, hE.trans hE2⟩
      case measure => simp [intOf]; omega
    · obtain rfl : k = B.bounds.length := by omega
      go_upto_region 7 with (fail)
      clear x0 x1 x2 x3
      go_loopw [3, 5] (fun s i wx => ∃ k : Nat, k ≤ B.orders.length ∧ s = .bool true ∧ i = .int .i64 k ∧ Ext W0 wx) (fun _ i _ => B.orders.length - (intOf i).toNat)
      case atStart => exact ⟨0, Nat.zero_le _, rfl, rfl, hE⟩
      case round =>
        obtain ⟨k, hk2, rfl, rfl, hE2⟩ := hrel
        obtain ⟨x0, x1, x2, x3⟩ := (b0.ext hE2).c4
        by_cases hlt2 : k < B.orders.length
        · have hr := (valid_row hv hlt2).1
          have HBr := (HB.out.ext E0).ext hE2
          obtain ⟨b, o, rfl, hbl, hc⟩ := HBr.orders (by omega)
          obtain ⟨ra, rc, q0, q1, _⟩ := hc k hlt2
          have hq : (((oAt B.orders k).length : Int) == (B.bounds.length : Int) + 1) = true := by rw [hr]; simp
          clear hc HBr hr
          go_upto_region 9 with (fail)
          go_quiet (fail)
          go_wp2
          go_roundw
          case rel => exact ⟨k + 1, by omega, rfl, by go_num, hE2.trans (Ext.drewN _ _)⟩
          case measure => simp [intOf]; omega
        · obtain rfl : k = B.orders.length := by omega
          go_upto_region 11 with (fail)
          clear x0 x1 x2 x3
          go_loopw [3, 6] (fun s i wy => ∃ k : Nat, k ≤ B.shots.length ∧ s = .bool true ∧ i = .int .i64 k ∧ Ext W0 wy) (fun _ i _ => B.shots.length - (intOf i).toNat)
          case atStart => exact ⟨0, Nat.zero_le _, rfl, rfl, hE2⟩
          case round =>
            obtain ⟨k, hk3, rfl, rfl, hE3⟩ := hrel
            obtain ⟨x0, x1, x2, x3⟩ := (b0.ext hE3).c4
            by_cases hlt3 : k < B.shots.length
            · obtain ⟨h1, h2, h3, h4, h5, h6, h7, h8⟩ := valid_shot hv hlt3
              have HBr := (HB.out.ext E0).ext hE3
              obtain ⟨b, o, rfl, hbl, hc⟩ := HBr.shots (by omega)
              obtain ⟨q0, q1, q2, q3⟩ := hc k hlt3
              clear hc HBr
              go_upto_region 14 with (fail)
              obtain ⟨W5, hW5⟩ : ∃ W5, W5 = wr.alloc (.cells #[.int .i64 (sAt B.shots k).st, .int .i64 (sAt B.shots k).co, .int .i64 (sAt B.shots k).lo, .int .i64 (sAt B.shots k).hi] 59) := ⟨_, rfl⟩
              have X5 : Ext wr W5 := by rw [hW5]; exact Ext.alloc _ _
              have s5 : Blk W5 wr.heap.size 59 #[.int .i64 (sAt B.shots k).st, .int .i64 (sAt B.shots k).co, .int .i64 (sAt B.shots k).lo, .int .i64 (sAt B.shots k).hi] := by rw [hW5]; exact Blk.new _ _ _
              rw [← hW5]
              have E5 := hE3.trans X5
              clear hW5 q0 q1 q2 q3 x0 x1 x2 x3
              obtain ⟨x0, x1, x2, x3⟩ := (b0.ext E5).c4
              obtain ⟨y0, y1, y2, y3⟩ := s5.c4
              have i1 : inB (sAt B.shots k).st 0 ((B.orders.length : Int) - 1) = true := by simp [inB]; omega
              have i2 : inB (sAt B.shots k).co 0 (B.comp - 1) = true := by simp [inB]; omega
              have i3 : decide ((sAt B.shots k).hi - (sAt B.shots k).lo ≤ 10) = true := by simp; omega
              have hs := Lib.hid (⟨h5, by omega, h6⟩ : 0 ≤ (sAt B.shots k).lo ∧ (sAt B.shots k).hi ≤ 1439 ∧ (sAt B.shots k).lo ≤ (sAt B.shots k).hi)
              go_wp2_with (first | (go_at_call 44; refine (between_any _ _ _ _).mono ?_; rintro e w2 ⟨rfl, rfl⟩) | (go_at_call 52; refine (sane_yes hs.out _).mono ?_; rintro e w3 ⟨rfl, hE4⟩; obtain ⟨z0, z1, z2, z3⟩ := (s5.ext hE4).c4))
              go_roundw
              case rel => exact ⟨k + 1, by omega, by first | rfl | exact congrArg _ i3, by go_num, E5.trans hE4⟩
              case measure => simp [intOf]; omega
            · obtain rfl : k = B.shots.length := by omega
              go_wp2
              go_ret
              exact ⟨rfl, E0.trans hE3⟩
end Go.Proofs.YtnhdcdhpfgdphaaDoor

/-
  The exported function Hangs.
-/
set_option linter.unusedSimpArgs false
set_option linter.unusedVariables false
namespace Go.Proofs.YtnhdcdhpfgdphaaDoor
open Go Go.RowKit

theorem ownsRow_ext {w w' : World} {base n e s : Nat} {v : Value} {xs : List Value} (h : w.ownsRow base e s v n xs) (hE : Ext w w') : w'.ownsRow base e s v n xs := by
  refine ⟨h.1, ?_⟩
  rcases h.2 with hn | ⟨g, cap, cur, hv, hb, hg, rest⟩
  · exact .inl hn
  · exact .inr ⟨g, cap, cur, hv, hb, (hE.block g (Array.getElem?_eq_some_iff.1 hg).1).trans hg, rest⟩
/-- The bounds, of the first j, on which a shot hangs. -/
def hangsI (B : Bk) (x : Sh) (j : Nat) : List Int := ((List.range j).filter (hangB B x)).map fun (i : Nat) => (i : Int)
theorem hangsI_succ (B : Bk) (x : Sh) (j : Nat) : hangsI B x (j + 1) = if hangB B x j then hangsI B x j ++ [(j : Int)] else hangsI B x j := by
  unfold hangsI
  rw [List.range_succ, List.filter_append]
  cases h : hangB B x j <;> simp [h]
theorem hangsI_len (B : Bk) (x : Sh) (j : Nat) : (hangsI B x j).length ≤ j := by
  unfold hangsI
  rw [List.length_map]
  have := List.length_filter_le (hangB B x) (List.range j)
  simpa using this

set_option maxRecDepth 100000 in
set_option maxHeartbeats 4000000 in
theorem hangs_no (B : Bk) (a1 a2 a3 : Option Addr) (c1 c2 c3 : Nat) (m : Int) (w : World) (h : BookA w B a1 a2 a3) (hG : Glob w) (hne : askE B (isShB B m) ≠ 0) :
    Calls Tryd.prog 28 #[.agg #[.int .i64 B.comp, .slice a1 B.bounds.length c1, .slice a2 B.orders.length c2, .slice a3 B.shots.length c3], .int .i64 m] w
      fun e w' => e = .returned (.tuple #[.slice none 0 0, .int .i64 (askE B (isShB B m))]) ∧ Ext w w' := by
  have HB := Lib.hid h
  have HG := Lib.hid hG
  have l2 := h.l2
  have l3 := h.l3
  clear h hG
  go_enter Tryd.func28, Tryd.ntmps28
  go_upto_region 1 with (fail)
  obtain ⟨W0, hW0⟩ : ∃ W0, W0 = w.alloc (.cells #[.int .i64 B.comp, .slice a1 B.bounds.length c1, .slice a2 B.orders.length c2, .slice a3 B.shots.length c3] 26) := ⟨_, rfl⟩
  have b0 : Blk W0 w.heap.size 26 #[.int .i64 B.comp, .slice a1 B.bounds.length c1, .slice a2 B.orders.length c2, .slice a3 B.shots.length c3] := by rw [hW0]; exact Blk.new _ _ _
  have E0 : Ext w W0 := by rw [hW0]; exact Ext.alloc _ _
  rw [← hW0]
  clear hW0
  have HH : Hid (∀ W, Ext W0 W → (W.cell? ⟨w.heap.size, 0, none⟩ = some (.int .i64 B.comp) ∧ W.cell? ⟨w.heap.size, 1, none⟩ = some (.slice a1 B.bounds.length c1) ∧ W.cell? ⟨w.heap.size, 2, none⟩ = some (.slice a2 B.orders.length c2) ∧ W.cell? ⟨w.heap.size, 3, none⟩ = some (.slice a3 B.shots.length c3))) := Lib.hid fun W e => (b0.ext e).c4
  go_cut [6, 7] (fun p e wx => ∃ g, p = .pointer (some ⟨g, 0, none⟩) ∧ e = .int .i64 (askE B (isShB B m)) ∧ Ext W0 wx)
  case first =>
    refine wp_plan (fun W => W.cell? ⟨w.heap.size, 0, none⟩ = some (.int .i64 B.comp) ∧ W.cell? ⟨w.heap.size, 1, none⟩ = some (.slice a1 B.bounds.length c1) ∧ W.cell? ⟨w.heap.size, 2, none⟩ = some (.slice a2 B.orders.length c2) ∧ W.cell? ⟨w.heap.size, 3, none⟩ = some (.slice a3 B.shots.length c3)) (.tames [0, 1, 2] (.two 3 8 (.two 4 8 (.tames [5, 6, 7] (.one 8 (.one 9 (.tames [10] (.done))))) (.one 4 (.tames [5, 6, 7] (.one 9 (.tames [10] (.done)))))) (.one 3 (.one 4 (.tames [5, 6, 7] (.one 9 (.tames [10] (.done)))))))) (by kernel_rfl) (by kernel_rfl) (by kernel_rfl) (fun c a d v w h => by cases d <;> exact h) ?_ ?_
    · exact HH.out _ (Ext.drew _)
    refine pl_tames ?_
    (try simp only [Act.put, List.setIfInBounds_toArray, List.set_cons_zero, List.set_cons_succ])
    repeat (first
      | (refine pl_run (v := ?_) rfl ?_ (fun W hW => ?_) ?_; rotate_left; rfl; ((try dsimp only at hW); go_simp; try with_reducible rfl); (try simp only [Act.put, List.setIfInBounds_toArray, List.set_cons_zero, List.set_cons_succ]))
      | (refine pl_skip rfl ?_ ?_; rfl; (try simp only [Act.put, List.setIfInBounds_toArray, List.set_cons_zero, List.set_cons_succ])))
    refine pl_end ?_
    refine pl_two ?_ ?_
    · refine pl_one rfl (by rfl) (fun K hK => ?_)
      go_simp
      go_at_call 74
      refine (isSh_any B a1 a2 a3 c1 c2 c3 _ _ l3).mono ?_
      rintro e w1 ⟨rfl, hE1⟩
      have X1 : Ext W0 w1 := Ext.trans (Ext.drew W0) hE1
      have hz1 := hE1.size
      refine hK.out _ _ (HH.out _ (X1)) ?_
      clear hK K
      (try simp only [Act.put, List.setIfInBounds_toArray, List.set_cons_zero, List.set_cons_succ])
      refine pl_two ?_ ?_
      · refine pl_one rfl (by rfl) (fun K hK => ?_)
        go_simp
        go_at_call 58
        refine (asked_ref B a1 a2 a3 c1 c2 c3 _ _ ((HB.out.ext E0).ext (X1)) ((HG.out.ext E0).ext (X1)) hne).mono ?_
        rintro e w2 ⟨rfl, hE2⟩
        have X2 : Ext W0 w2 := Ext.trans (X1) hE2
        have hz2 := hE2.size
        refine hK.out _ _ (HH.out _ (X2)) ?_
        clear hK K
        (try simp only [Act.put, List.setIfInBounds_toArray, List.set_cons_zero, List.set_cons_succ])
        refine pl_tames ?_
        (try simp only [Act.put, List.setIfInBounds_toArray, List.set_cons_zero, List.set_cons_succ])
        repeat (first
          | (refine pl_run (v := ?_) rfl ?_ (fun W hW => ?_) ?_; rotate_left; rfl; ((try dsimp only at hW); go_simp; try with_reducible rfl); (try simp only [Act.put, List.setIfInBounds_toArray, List.set_cons_zero, List.set_cons_succ]))
          | (refine pl_skip rfl ?_ ?_; rfl; (try simp only [Act.put, List.setIfInBounds_toArray, List.set_cons_zero, List.set_cons_succ])))
        refine pl_end ?_
        refine pl_one rfl (by rfl) (fun K hK => ?_)
        go_simp
        have X3 : Ext W0 (w2.alloc (.cells #[.int .i64 0, .slice none 0 0, .slice none 0 0, .slice none 0 0, .map none] 81)) := Ext.trans (X2) (Ext.alloc _ _)
        have B3 : Blk (w2.alloc (.cells #[.int .i64 0, .slice none 0 0, .slice none 0 0, .slice none 0 0, .map none] 81)) w2.heap.size 81 #[.int .i64 0, .slice none 0 0, .slice none 0 0, .slice none 0 0, .map none] := Blk.new _ _ _
        have hg3 : W0.heap.size ≤ w2.heap.size := Below.size (X2)
        have ha3 : (w2.alloc (.cells #[.int .i64 0, .slice none 0 0, .slice none 0 0, .slice none 0 0, .map none] 81)).heap.size = w2.heap.size + 1 := by simp
        refine hK.out _ _ (HH.out _ (X3)) ?_
        clear hK K
        (try simp only [Act.put, List.setIfInBounds_toArray, List.set_cons_zero, List.set_cons_succ])
        have BS : Blk (w2.alloc (.cells #[.int .i64 0, .slice none 0 0, .slice none 0 0, .slice none 0 0, .map none] 81)) w2.heap.size 81 #[.int .i64 0, .slice none 0 0, .slice none 0 0, .slice none 0 0, .map none] := B3
        have XS : Ext W0 (w2.alloc (.cells #[.int .i64 0, .slice none 0 0, .slice none 0 0, .slice none 0 0, .map none] 81)) := X3
        have gS : W0.heap.size ≤ w2.heap.size := by omega
        generalize (w2.alloc (.cells #[.int .i64 0, .slice none 0 0, .slice none 0 0, .slice none 0 0, .map none] 81)) = WS at BS XS ⊢
        obtain ⟨kS0, kS1, kS2, kS3, kS4⟩ := BS.c5
        have fS0 := BS.frozen 0
        have fS1 := BS.frozen 1
        have fS2 := BS.frozen 2
        have fS3 := BS.frozen 3
        have fS4 := BS.frozen 4
        refine pl_one rfl (by rfl) (fun K hK => ?_)
        go_simp
        refine hK.out _ _ (HH.out _ (below5 XS gS (.int .i64 0) (.slice none 0 0) (.slice none 0 0) (.slice none 0 0) (.map none))) ?_
        clear hK K
        (try simp only [Act.put, List.setIfInBounds_toArray, List.set_cons_zero, List.set_cons_succ])
        refine pl_tames ?_
        (try simp only [Act.put, List.setIfInBounds_toArray, List.set_cons_zero, List.set_cons_succ])
        repeat (first
          | (refine pl_run (v := ?_) rfl ?_ (fun W hW => ?_) ?_; rotate_left; rfl; ((try dsimp only at hW); go_simp; try with_reducible rfl); (try simp only [Act.put, List.setIfInBounds_toArray, List.set_cons_zero, List.set_cons_succ]))
          | (refine pl_skip rfl ?_ ?_; rfl; (try simp only [Act.put, List.setIfInBounds_toArray, List.set_cons_zero, List.set_cons_succ])))
        refine pl_end ?_
        refine pl_done ?_
        (try simp only [Act.put])
        go_wp2
        go_meet
        case rel => exact ⟨w2.heap.size, rfl, rfl, (below5 XS gS (.int .i64 0) (.slice none 0 0) (.slice none 0 0) (.slice none 0 0) (.map none))⟩
      · refine pl_one rfl (by rfl) (fun K hK => ?_)
        go_simp
        have X2 : Ext W0 (w1.alloc (.cells #[.int .i64 0, .slice none 0 0, .slice none 0 0, .slice none 0 0, .map none] 81)) := Ext.trans (X1) (Ext.alloc _ _)
        have B2 : Blk (w1.alloc (.cells #[.int .i64 0, .slice none 0 0, .slice none 0 0, .slice none 0 0, .map none] 81)) w1.heap.size 81 #[.int .i64 0, .slice none 0 0, .slice none 0 0, .slice none 0 0, .map none] := Blk.new _ _ _
        have hg2 : W0.heap.size ≤ w1.heap.size := Below.size (X1)
        have ha2 : (w1.alloc (.cells #[.int .i64 0, .slice none 0 0, .slice none 0 0, .slice none 0 0, .map none] 81)).heap.size = w1.heap.size + 1 := by simp
        refine hK.out _ _ (HH.out _ (X2)) ?_
        clear hK K
        (try simp only [Act.put, List.setIfInBounds_toArray, List.set_cons_zero, List.set_cons_succ])
        refine pl_one rfl (by rfl) (fun K hK => ?_)
        go_simp
        go_at_call 58
        refine (asked_ref B a1 a2 a3 c1 c2 c3 _ _ ((HB.out.ext E0).ext (X2)) ((HG.out.ext E0).ext (X2)) hne).mono ?_
        rintro e w3 ⟨rfl, hE3⟩
        have X3 : Ext W0 w3 := Ext.trans (X2) hE3
        have hz3 := hE3.size
        have B3 := Blk.ext (B2) hE3
        refine hK.out _ _ (HH.out _ (X3)) ?_
        clear hK K
        (try simp only [Act.put, List.setIfInBounds_toArray, List.set_cons_zero, List.set_cons_succ])
        refine pl_tames ?_
        (try simp only [Act.put, List.setIfInBounds_toArray, List.set_cons_zero, List.set_cons_succ])
        repeat (first
          | (refine pl_run (v := ?_) rfl ?_ (fun W hW => ?_) ?_; rotate_left; rfl; ((try dsimp only at hW); go_simp; try with_reducible rfl); (try simp only [Act.put, List.setIfInBounds_toArray, List.set_cons_zero, List.set_cons_succ]))
          | (refine pl_skip rfl ?_ ?_; rfl; (try simp only [Act.put, List.setIfInBounds_toArray, List.set_cons_zero, List.set_cons_succ])))
        refine pl_end ?_
        have BS : Blk w3 w1.heap.size 81 #[.int .i64 0, .slice none 0 0, .slice none 0 0, .slice none 0 0, .map none] := B3
        have XS : Ext W0 w3 := X3
        have gS : W0.heap.size ≤ w1.heap.size := by omega
        generalize w3 = WS at BS XS ⊢
        obtain ⟨kS0, kS1, kS2, kS3, kS4⟩ := BS.c5
        have fS0 := BS.frozen 0
        have fS1 := BS.frozen 1
        have fS2 := BS.frozen 2
        have fS3 := BS.frozen 3
        have fS4 := BS.frozen 4
        refine pl_one rfl (by rfl) (fun K hK => ?_)
        go_simp
        refine hK.out _ _ (HH.out _ (below5 XS gS (.int .i64 0) (.slice none 0 0) (.slice none 0 0) (.slice none 0 0) (.map none))) ?_
        clear hK K
        (try simp only [Act.put, List.setIfInBounds_toArray, List.set_cons_zero, List.set_cons_succ])
        refine pl_tames ?_
        (try simp only [Act.put, List.setIfInBounds_toArray, List.set_cons_zero, List.set_cons_succ])
        repeat (first
          | (refine pl_run (v := ?_) rfl ?_ (fun W hW => ?_) ?_; rotate_left; rfl; ((try dsimp only at hW); go_simp; try with_reducible rfl); (try simp only [Act.put, List.setIfInBounds_toArray, List.set_cons_zero, List.set_cons_succ]))
          | (refine pl_skip rfl ?_ ?_; rfl; (try simp only [Act.put, List.setIfInBounds_toArray, List.set_cons_zero, List.set_cons_succ])))
        refine pl_end ?_
        refine pl_done ?_
        (try simp only [Act.put])
        go_wp2
        go_meet
        case rel => exact ⟨w1.heap.size, rfl, rfl, (below5 XS gS (.int .i64 0) (.slice none 0 0) (.slice none 0 0) (.slice none 0 0) (.map none))⟩
    · refine pl_one rfl (by rfl) (fun K hK => ?_)
      go_simp
      have X1 : Ext W0 (W0.alloc (.cells #[.int .i64 0, .slice none 0 0, .slice none 0 0, .slice none 0 0, .map none] 81)).drew := Ext.trans (Ext.alloc _ _) (Ext.drew _)
      have B1 : Blk (W0.alloc (.cells #[.int .i64 0, .slice none 0 0, .slice none 0 0, .slice none 0 0, .map none] 81)).drew W0.heap.size 81 #[.int .i64 0, .slice none 0 0, .slice none 0 0, .slice none 0 0, .map none] := (Blk.new _ _ _).drew
      have ha1 : (W0.alloc (.cells #[.int .i64 0, .slice none 0 0, .slice none 0 0, .slice none 0 0, .map none] 81)).drew.heap.size = W0.heap.size + 1 := by simp
      refine hK.out _ _ (HH.out _ (X1)) ?_
      clear hK K
      (try simp only [Act.put, List.setIfInBounds_toArray, List.set_cons_zero, List.set_cons_succ])
      refine pl_one rfl (by rfl) (fun K hK => ?_)
      go_simp
      go_at_call 74
      refine (isSh_any B a1 a2 a3 c1 c2 c3 _ _ l3).mono ?_
      rintro e w2 ⟨rfl, hE2⟩
      have X2 : Ext W0 w2 := Ext.trans (X1) hE2
      have hz2 := hE2.size
      have B2 := Blk.ext (B1) hE2
      refine hK.out _ _ (HH.out _ (X2)) ?_
      clear hK K
      (try simp only [Act.put, List.setIfInBounds_toArray, List.set_cons_zero, List.set_cons_succ])
      refine pl_one rfl (by rfl) (fun K hK => ?_)
      go_simp
      go_at_call 58
      refine (asked_ref B a1 a2 a3 c1 c2 c3 _ _ ((HB.out.ext E0).ext (X2)) ((HG.out.ext E0).ext (X2)) hne).mono ?_
      rintro e w3 ⟨rfl, hE3⟩
      have X3 : Ext W0 w3 := Ext.trans (X2) hE3
      have hz3 := hE3.size
      have B3 := Blk.ext (B2) hE3
      refine hK.out _ _ (HH.out _ (X3)) ?_
      clear hK K
      (try simp only [Act.put, List.setIfInBounds_toArray, List.set_cons_zero, List.set_cons_succ])
      refine pl_tames ?_
      (try simp only [Act.put, List.setIfInBounds_toArray, List.set_cons_zero, List.set_cons_succ])
      repeat (first
        | (refine pl_run (v := ?_) rfl ?_ (fun W hW => ?_) ?_; rotate_left; rfl; ((try dsimp only at hW); go_simp; try with_reducible rfl); (try simp only [Act.put, List.setIfInBounds_toArray, List.set_cons_zero, List.set_cons_succ]))
        | (refine pl_skip rfl ?_ ?_; rfl; (try simp only [Act.put, List.setIfInBounds_toArray, List.set_cons_zero, List.set_cons_succ])))
      refine pl_end ?_
      have BS : Blk w3 W0.heap.size 81 #[.int .i64 0, .slice none 0 0, .slice none 0 0, .slice none 0 0, .map none] := B3
      have XS : Ext W0 w3 := X3
      have gS : W0.heap.size ≤ W0.heap.size := by omega
      generalize w3 = WS at BS XS ⊢
      obtain ⟨kS0, kS1, kS2, kS3, kS4⟩ := BS.c5
      have fS0 := BS.frozen 0
      have fS1 := BS.frozen 1
      have fS2 := BS.frozen 2
      have fS3 := BS.frozen 3
      have fS4 := BS.frozen 4
      refine pl_one rfl (by rfl) (fun K hK => ?_)
      go_simp
      refine hK.out _ _ (HH.out _ (below5 XS gS (.int .i64 0) (.slice none 0 0) (.slice none 0 0) (.slice none 0 0) (.map none))) ?_
      clear hK K
      (try simp only [Act.put, List.setIfInBounds_toArray, List.set_cons_zero, List.set_cons_succ])
      refine pl_tames ?_
      (try simp only [Act.put, List.setIfInBounds_toArray, List.set_cons_zero, List.set_cons_succ])
      repeat (first
        | (refine pl_run (v := ?_) rfl ?_ (fun W hW => ?_) ?_; rotate_left; rfl; ((try dsimp only at hW); go_simp; try with_reducible rfl); (try simp only [Act.put, List.setIfInBounds_toArray, List.set_cons_zero, List.set_cons_succ]))
        | (refine pl_skip rfl ?_ ?_; rfl; (try simp only [Act.put, List.setIfInBounds_toArray, List.set_cons_zero, List.set_cons_succ])))
      refine pl_end ?_
      refine pl_done ?_
      (try simp only [Act.put])
      go_wp2
      go_meet
      case rel => exact ⟨W0.heap.size, rfl, rfl, (below5 XS gS (.int .i64 0) (.slice none 0 0) (.slice none 0 0) (.slice none 0 0) (.map none))⟩
  case rest =>
    obtain ⟨g, rfl, rfl, hX⟩ := hcut
    obtain ⟨c, hc⟩ : ∃ c, c = askE B (isShB B m) := ⟨_, rfl⟩
    rw [← hc] at hne ⊢
    have hcn : (c != 0) = true := by simp [hne]
    go_wp2
    refine bodyPost_ret (v := .tuple #[.slice none 0 0, .int .i64 c]) ?_ rfl ⟨by rw [hc], E0.trans hX⟩
    simp [results, Tryd.results28, go_sem]
set_option maxRecDepth 100000 in
set_option maxHeartbeats 4000000 in
theorem hangs_yes (B : Bk) (a1 a2 a3 : Option Addr) (c1 c2 c3 : Nat) (k : Nat) (w : World) (h : BookA w B a1 a2 a3) (hG : Glob w) (hv : validB B = true) (hk : k < B.shots.length) :
    Calls Tryd.prog 28 #[.agg #[.int .i64 B.comp, .slice a1 B.bounds.length c1, .slice a2 B.orders.length c2, .slice a3 B.shots.length c3], .int .i64 k] w
      fun e w' => (∃ a cp, e = .returned (.tuple #[.slice a (hangsI B (sAt B.shots k) B.bounds.length).length cp, .int .i64 0]) ∧ IntA w' a (hangsI B (sAt B.shots k) B.bounds.length)) ∧ Ext w w' := by
  have hsh : isShB B k = true := by simp [isShB]; omega
  have HB := Lib.hid h
  have HG := Lib.hid hG
  have l2 := h.l2
  have l3 := h.l3
  clear h hG
  go_enter Tryd.func28, Tryd.ntmps28
  go_upto_region 1 with (fail)
  obtain ⟨W0, hW0⟩ : ∃ W0, W0 = w.alloc (.cells #[.int .i64 B.comp, .slice a1 B.bounds.length c1, .slice a2 B.orders.length c2, .slice a3 B.shots.length c3] 26) := ⟨_, rfl⟩
  have b0 : Blk W0 w.heap.size 26 #[.int .i64 B.comp, .slice a1 B.bounds.length c1, .slice a2 B.orders.length c2, .slice a3 B.shots.length c3] := by rw [hW0]; exact Blk.new _ _ _
  have E0 : Ext w W0 := by rw [hW0]; exact Ext.alloc _ _
  rw [← hW0]
  clear hW0
  have HH : Hid (∀ W, Ext W0 W → (W.cell? ⟨w.heap.size, 0, none⟩ = some (.int .i64 B.comp) ∧ W.cell? ⟨w.heap.size, 1, none⟩ = some (.slice a1 B.bounds.length c1) ∧ W.cell? ⟨w.heap.size, 2, none⟩ = some (.slice a2 B.orders.length c2) ∧ W.cell? ⟨w.heap.size, 3, none⟩ = some (.slice a3 B.shots.length c3))) := Lib.hid fun W e => (b0.ext e).c4
  go_cut [6, 7] (fun p e wx => ∃ g mp, p = .pointer (some ⟨g, 0, none⟩) ∧ e = .int .i64 0 ∧ Blk wx g 81 #[.int .i64 B.comp, .slice a1 B.bounds.length c1, .slice a2 B.orders.length c2, .slice a3 B.shots.length c3, .map (some mp)] ∧ MapA wx mp (ownL B.orders B.orders.length) ∧ w.heap.size < g ∧ Ext W0 wx)
  case first =>
    refine wp_plan (fun W => W.cell? ⟨w.heap.size, 0, none⟩ = some (.int .i64 B.comp) ∧ W.cell? ⟨w.heap.size, 1, none⟩ = some (.slice a1 B.bounds.length c1) ∧ W.cell? ⟨w.heap.size, 2, none⟩ = some (.slice a2 B.orders.length c2) ∧ W.cell? ⟨w.heap.size, 3, none⟩ = some (.slice a3 B.shots.length c3)) (.tames [0, 1, 2] (.two 3 8 (.two 4 8 (.tames [5, 6, 7] (.one 8 (.one 9 (.tames [10] (.done))))) (.one 4 (.tames [5, 6, 7] (.one 9 (.tames [10] (.done)))))) (.one 3 (.one 4 (.tames [5, 6, 7] (.one 9 (.tames [10] (.done)))))))) (by kernel_rfl) (by kernel_rfl) (by kernel_rfl) (fun c a d v w h => by cases d <;> exact h) ?_ ?_
    · exact HH.out _ (Ext.drew _)
    refine pl_tames ?_
    (try simp only [Act.put, List.setIfInBounds_toArray, List.set_cons_zero, List.set_cons_succ])
    repeat (first
      | (refine pl_run (v := ?_) rfl ?_ (fun W hW => ?_) ?_; rotate_left; rfl; ((try dsimp only at hW); go_simp; try with_reducible rfl); (try simp only [Act.put, List.setIfInBounds_toArray, List.set_cons_zero, List.set_cons_succ]))
      | (refine pl_skip rfl ?_ ?_; rfl; (try simp only [Act.put, List.setIfInBounds_toArray, List.set_cons_zero, List.set_cons_succ])))
    refine pl_end ?_
    refine pl_two ?_ ?_
    · refine pl_one rfl (by rfl) (fun K hK => ?_)
      go_simp
      go_at_call 74
      refine (isSh_yes B hsh a1 a2 a3 c1 c2 c3 _ l3).mono ?_
      rintro e w1 ⟨rfl, hE1⟩
      have X1 : Ext W0 w1 := Ext.trans (Ext.drew W0) hE1
      have hz1 := hE1.size
      refine hK.out _ _ (HH.out _ (X1)) ?_
      clear hK K
      (try simp only [Act.put, List.setIfInBounds_toArray, List.set_cons_zero, List.set_cons_succ])
      refine pl_two ?_ ?_
      · refine pl_one rfl (by rfl) (fun K hK => ?_)
        go_simp
        go_at_call 58
        refine (asked_yes B a1 a2 a3 c1 c2 c3 _ ((HB.out.ext E0).ext (X1)) ((HG.out.ext E0).ext (X1)) hv).mono ?_
        rintro e w2 ⟨⟨mp, rfl, hM2, hmp2⟩, hE2⟩
        have X2 : Ext W0 w2 := Ext.trans (X1) hE2
        have hz2 := hE2.size
        refine hK.out _ _ (HH.out _ (X2)) ?_
        clear hK K
        (try simp only [Act.put, List.setIfInBounds_toArray, List.set_cons_zero, List.set_cons_succ])
        refine pl_tames ?_
        (try simp only [Act.put, List.setIfInBounds_toArray, List.set_cons_zero, List.set_cons_succ])
        repeat (first
          | (refine pl_run (v := ?_) rfl ?_ (fun W hW => ?_) ?_; rotate_left; rfl; ((try dsimp only at hW); go_simp; try with_reducible rfl); (try simp only [Act.put, List.setIfInBounds_toArray, List.set_cons_zero, List.set_cons_succ]))
          | (refine pl_skip rfl ?_ ?_; rfl; (try simp only [Act.put, List.setIfInBounds_toArray, List.set_cons_zero, List.set_cons_succ])))
        refine pl_end ?_
        refine pl_one rfl (by rfl) (fun K hK => ?_)
        go_simp
        have X3 : Ext W0 (w2.alloc (.cells #[.int .i64 0, .slice none 0 0, .slice none 0 0, .slice none 0 0, .map none] 81)) := Ext.trans (X2) (Ext.alloc _ _)
        have B3 : Blk (w2.alloc (.cells #[.int .i64 0, .slice none 0 0, .slice none 0 0, .slice none 0 0, .map none] 81)) w2.heap.size 81 #[.int .i64 0, .slice none 0 0, .slice none 0 0, .slice none 0 0, .map none] := Blk.new _ _ _
        have hg3 : W0.heap.size ≤ w2.heap.size := Below.size (X2)
        have hl3 := MapA.lt (hM2)
        have M3 := MapA.ext (hM2) (Ext.alloc w2 (.cells #[.int .i64 0, .slice none 0 0, .slice none 0 0, .slice none 0 0, .map none] 81))
        have ha3 : (w2.alloc (.cells #[.int .i64 0, .slice none 0 0, .slice none 0 0, .slice none 0 0, .map none] 81)).heap.size = w2.heap.size + 1 := by simp
        refine hK.out _ _ (HH.out _ (X3)) ?_
        clear hK K
        (try simp only [Act.put, List.setIfInBounds_toArray, List.set_cons_zero, List.set_cons_succ])
        have BS : Blk (w2.alloc (.cells #[.int .i64 0, .slice none 0 0, .slice none 0 0, .slice none 0 0, .map none] 81)) w2.heap.size 81 #[.int .i64 0, .slice none 0 0, .slice none 0 0, .slice none 0 0, .map none] := B3
        have XS : Ext W0 (w2.alloc (.cells #[.int .i64 0, .slice none 0 0, .slice none 0 0, .slice none 0 0, .map none] 81)) := X3
        have gS : W0.heap.size ≤ w2.heap.size := by omega
        have MS : MapA (w2.alloc (.cells #[.int .i64 0, .slice none 0 0, .slice none 0 0, .slice none 0 0, .map none] 81)) mp (ownL B.orders B.orders.length) := M3
        have nS : mp ≠ w2.heap.size := by (first | omega | (simp at *; omega))
        generalize (w2.alloc (.cells #[.int .i64 0, .slice none 0 0, .slice none 0 0, .slice none 0 0, .map none] 81)) = WS at BS XS MS ⊢
        obtain ⟨kS0, kS1, kS2, kS3, kS4⟩ := BS.c5
        have fS0 := BS.frozen 0
        have fS1 := BS.frozen 1
        have fS2 := BS.frozen 2
        have fS3 := BS.frozen 3
        have fS4 := BS.frozen 4
        refine pl_one rfl (by rfl) (fun K hK => ?_)
        go_simp
        refine hK.out _ _ (HH.out _ (below5 XS gS (.int .i64 B.comp) (.slice a1 B.bounds.length c1) (.slice a2 B.orders.length c2) (.slice a3 B.shots.length c3) (.map (some mp)))) ?_
        clear hK K
        (try simp only [Act.put, List.setIfInBounds_toArray, List.set_cons_zero, List.set_cons_succ])
        refine pl_tames ?_
        (try simp only [Act.put, List.setIfInBounds_toArray, List.set_cons_zero, List.set_cons_succ])
        repeat (first
          | (refine pl_run (v := ?_) rfl ?_ (fun W hW => ?_) ?_; rotate_left; rfl; ((try dsimp only at hW); go_simp; try with_reducible rfl); (try simp only [Act.put, List.setIfInBounds_toArray, List.set_cons_zero, List.set_cons_succ]))
          | (refine pl_skip rfl ?_ ?_; rfl; (try simp only [Act.put, List.setIfInBounds_toArray, List.set_cons_zero, List.set_cons_succ])))
        refine pl_end ?_
        refine pl_done ?_
        (try simp only [Act.put])
        go_wp2
        go_meet
        case rel => exact ⟨w2.heap.size, mp, rfl, rfl, (puts5 BS (.int .i64 B.comp) (.slice a1 B.bounds.length c1) (.slice a2 B.orders.length c2) (.slice a3 B.shots.length c3) (.map (some mp))), (MS.puts5 nS (.int .i64 B.comp) (.slice a1 B.bounds.length c1) (.slice a2 B.orders.length c2) (.slice a3 B.shots.length c3) (.map (some mp))), by have := b0.lt; omega, (below5 XS gS (.int .i64 B.comp) (.slice a1 B.bounds.length c1) (.slice a2 B.orders.length c2) (.slice a3 B.shots.length c3) (.map (some mp)))⟩
      · refine pl_one rfl (by rfl) (fun K hK => ?_)
        go_simp
        have X2 : Ext W0 (w1.alloc (.cells #[.int .i64 0, .slice none 0 0, .slice none 0 0, .slice none 0 0, .map none] 81)) := Ext.trans (X1) (Ext.alloc _ _)
        have B2 : Blk (w1.alloc (.cells #[.int .i64 0, .slice none 0 0, .slice none 0 0, .slice none 0 0, .map none] 81)) w1.heap.size 81 #[.int .i64 0, .slice none 0 0, .slice none 0 0, .slice none 0 0, .map none] := Blk.new _ _ _
        have hg2 : W0.heap.size ≤ w1.heap.size := Below.size (X1)
        have ha2 : (w1.alloc (.cells #[.int .i64 0, .slice none 0 0, .slice none 0 0, .slice none 0 0, .map none] 81)).heap.size = w1.heap.size + 1 := by simp
        refine hK.out _ _ (HH.out _ (X2)) ?_
        clear hK K
        (try simp only [Act.put, List.setIfInBounds_toArray, List.set_cons_zero, List.set_cons_succ])
        refine pl_one rfl (by rfl) (fun K hK => ?_)
        go_simp
        go_at_call 58
        refine (asked_yes B a1 a2 a3 c1 c2 c3 _ ((HB.out.ext E0).ext (X2)) ((HG.out.ext E0).ext (X2)) hv).mono ?_
        rintro e w3 ⟨⟨mp, rfl, hM3, hmp3⟩, hE3⟩
        have X3 : Ext W0 w3 := Ext.trans (X2) hE3
        have hz3 := hE3.size
        have B3 := Blk.ext (B2) hE3
        refine hK.out _ _ (HH.out _ (X3)) ?_
        clear hK K
        (try simp only [Act.put, List.setIfInBounds_toArray, List.set_cons_zero, List.set_cons_succ])
        refine pl_tames ?_
        (try simp only [Act.put, List.setIfInBounds_toArray, List.set_cons_zero, List.set_cons_succ])
        repeat (first
          | (refine pl_run (v := ?_) rfl ?_ (fun W hW => ?_) ?_; rotate_left; rfl; ((try dsimp only at hW); go_simp; try with_reducible rfl); (try simp only [Act.put, List.setIfInBounds_toArray, List.set_cons_zero, List.set_cons_succ]))
          | (refine pl_skip rfl ?_ ?_; rfl; (try simp only [Act.put, List.setIfInBounds_toArray, List.set_cons_zero, List.set_cons_succ])))
        refine pl_end ?_
        have BS : Blk w3 w1.heap.size 81 #[.int .i64 0, .slice none 0 0, .slice none 0 0, .slice none 0 0, .map none] := B3
        have XS : Ext W0 w3 := X3
        have gS : W0.heap.size ≤ w1.heap.size := by omega
        have MS : MapA w3 mp (ownL B.orders B.orders.length) := hM3
        have nS : mp ≠ w1.heap.size := by (first | omega | (simp at *; omega))
        generalize w3 = WS at BS XS MS ⊢
        obtain ⟨kS0, kS1, kS2, kS3, kS4⟩ := BS.c5
        have fS0 := BS.frozen 0
        have fS1 := BS.frozen 1
        have fS2 := BS.frozen 2
        have fS3 := BS.frozen 3
        have fS4 := BS.frozen 4
        refine pl_one rfl (by rfl) (fun K hK => ?_)
        go_simp
        refine hK.out _ _ (HH.out _ (below5 XS gS (.int .i64 B.comp) (.slice a1 B.bounds.length c1) (.slice a2 B.orders.length c2) (.slice a3 B.shots.length c3) (.map (some mp)))) ?_
        clear hK K
        (try simp only [Act.put, List.setIfInBounds_toArray, List.set_cons_zero, List.set_cons_succ])
        refine pl_tames ?_
        (try simp only [Act.put, List.setIfInBounds_toArray, List.set_cons_zero, List.set_cons_succ])
        repeat (first
          | (refine pl_run (v := ?_) rfl ?_ (fun W hW => ?_) ?_; rotate_left; rfl; ((try dsimp only at hW); go_simp; try with_reducible rfl); (try simp only [Act.put, List.setIfInBounds_toArray, List.set_cons_zero, List.set_cons_succ]))
          | (refine pl_skip rfl ?_ ?_; rfl; (try simp only [Act.put, List.setIfInBounds_toArray, List.set_cons_zero, List.set_cons_succ])))
        refine pl_end ?_
        refine pl_done ?_
        (try simp only [Act.put])
        go_wp2
        go_meet
        case rel => exact ⟨w1.heap.size, mp, rfl, rfl, (puts5 BS (.int .i64 B.comp) (.slice a1 B.bounds.length c1) (.slice a2 B.orders.length c2) (.slice a3 B.shots.length c3) (.map (some mp))), (MS.puts5 nS (.int .i64 B.comp) (.slice a1 B.bounds.length c1) (.slice a2 B.orders.length c2) (.slice a3 B.shots.length c3) (.map (some mp))), by have := b0.lt; omega, (below5 XS gS (.int .i64 B.comp) (.slice a1 B.bounds.length c1) (.slice a2 B.orders.length c2) (.slice a3 B.shots.length c3) (.map (some mp)))⟩
    · refine pl_one rfl (by rfl) (fun K hK => ?_)
      go_simp
      have X1 : Ext W0 (W0.alloc (.cells #[.int .i64 0, .slice none 0 0, .slice none 0 0, .slice none 0 0, .map none] 81)).drew := Ext.trans (Ext.alloc _ _) (Ext.drew _)
      have B1 : Blk (W0.alloc (.cells #[.int .i64 0, .slice none 0 0, .slice none 0 0, .slice none 0 0, .map none] 81)).drew W0.heap.size 81 #[.int .i64 0, .slice none 0 0, .slice none 0 0, .slice none 0 0, .map none] := (Blk.new _ _ _).drew
      have ha1 : (W0.alloc (.cells #[.int .i64 0, .slice none 0 0, .slice none 0 0, .slice none 0 0, .map none] 81)).drew.heap.size = W0.heap.size + 1 := by simp
      refine hK.out _ _ (HH.out _ (X1)) ?_
      clear hK K
      (try simp only [Act.put, List.setIfInBounds_toArray, List.set_cons_zero, List.set_cons_succ])
      refine pl_one rfl (by rfl) (fun K hK => ?_)
      go_simp
      go_at_call 74
      refine (isSh_yes B hsh a1 a2 a3 c1 c2 c3 _ l3).mono ?_
      rintro e w2 ⟨rfl, hE2⟩
      have X2 : Ext W0 w2 := Ext.trans (X1) hE2
      have hz2 := hE2.size
      have B2 := Blk.ext (B1) hE2
      refine hK.out _ _ (HH.out _ (X2)) ?_
      clear hK K
      (try simp only [Act.put, List.setIfInBounds_toArray, List.set_cons_zero, List.set_cons_succ])
      refine pl_one rfl (by rfl) (fun K hK => ?_)
      go_simp
      go_at_call 58
      refine (asked_yes B a1 a2 a3 c1 c2 c3 _ ((HB.out.ext E0).ext (X2)) ((HG.out.ext E0).ext (X2)) hv).mono ?_
      rintro e w3 ⟨⟨mp, rfl, hM3, hmp3⟩, hE3⟩
      have X3 : Ext W0 w3 := Ext.trans (X2) hE3
      have hz3 := hE3.size
      have B3 := Blk.ext (B2) hE3
      refine hK.out _ _ (HH.out _ (X3)) ?_
      clear hK K
      (try simp only [Act.put, List.setIfInBounds_toArray, List.set_cons_zero, List.set_cons_succ])
      refine pl_tames ?_
      (try simp only [Act.put, List.setIfInBounds_toArray, List.set_cons_zero, List.set_cons_succ])
      repeat (first
        | (refine pl_run (v := ?_) rfl ?_ (fun W hW => ?_) ?_; rotate_left; rfl; ((try dsimp only at hW); go_simp; try with_reducible rfl); (try simp only [Act.put, List.setIfInBounds_toArray, List.set_cons_zero, List.set_cons_succ]))
        | (refine pl_skip rfl ?_ ?_; rfl; (try simp only [Act.put, List.setIfInBounds_toArray, List.set_cons_zero, List.set_cons_succ])))
      refine pl_end ?_
      have BS : Blk w3 W0.heap.size 81 #[.int .i64 0, .slice none 0 0, .slice none 0 0, .slice none 0 0, .map none] := B3
      have XS : Ext W0 w3 := X3
      have gS : W0.heap.size ≤ W0.heap.size := by omega
      have MS : MapA w3 mp (ownL B.orders B.orders.length) := hM3
      have nS : mp ≠ W0.heap.size := by (first | omega | (simp at *; omega))
      generalize w3 = WS at BS XS MS ⊢
      obtain ⟨kS0, kS1, kS2, kS3, kS4⟩ := BS.c5
      have fS0 := BS.frozen 0
      have fS1 := BS.frozen 1
      have fS2 := BS.frozen 2
      have fS3 := BS.frozen 3
      have fS4 := BS.frozen 4
      refine pl_one rfl (by rfl) (fun K hK => ?_)
      go_simp
      refine hK.out _ _ (HH.out _ (below5 XS gS (.int .i64 B.comp) (.slice a1 B.bounds.length c1) (.slice a2 B.orders.length c2) (.slice a3 B.shots.length c3) (.map (some mp)))) ?_
      clear hK K
      (try simp only [Act.put, List.setIfInBounds_toArray, List.set_cons_zero, List.set_cons_succ])
      refine pl_tames ?_
      (try simp only [Act.put, List.setIfInBounds_toArray, List.set_cons_zero, List.set_cons_succ])
      repeat (first
        | (refine pl_run (v := ?_) rfl ?_ (fun W hW => ?_) ?_; rotate_left; rfl; ((try dsimp only at hW); go_simp; try with_reducible rfl); (try simp only [Act.put, List.setIfInBounds_toArray, List.set_cons_zero, List.set_cons_succ]))
        | (refine pl_skip rfl ?_ ?_; rfl; (try simp only [Act.put, List.setIfInBounds_toArray, List.set_cons_zero, List.set_cons_succ])))
      refine pl_end ?_
      refine pl_done ?_
      (try simp only [Act.put])
      go_wp2
      go_meet
      case rel => exact ⟨W0.heap.size, mp, rfl, rfl, (puts5 BS (.int .i64 B.comp) (.slice a1 B.bounds.length c1) (.slice a2 B.orders.length c2) (.slice a3 B.shots.length c3) (.map (some mp))), (MS.puts5 nS (.int .i64 B.comp) (.slice a1 B.bounds.length c1) (.slice a2 B.orders.length c2) (.slice a3 B.shots.length c3) (.map (some mp))), by have := b0.lt; omega, (below5 XS gS (.int .i64 B.comp) (.slice a1 B.bounds.length c1) (.slice a2 B.orders.length c2) (.slice a3 B.shots.length c3) (.map (some mp)))⟩
  case rest =>
    obtain ⟨g, mp, rfl, rfl, hb, hM, hg, hX⟩ := hcut
    obtain ⟨h1, h2, h3, h4, h5, h6, h7, h8⟩ := valid_shot hv hk
    have hnb := (valid_sizes hv).2.2.2.2.1
    obtain ⟨i0, hi, hz0, hz1, hz2⟩ := info_parts int_info
    have HB2 := Lib.hid ((HB.out.ext E0).ext hX)
    have HG2 := Lib.hid ((HG.out.ext E0).ext hX)
    obtain ⟨b, o, rfl, hbl, hc⟩ := HB2.out.shots (by omega)
    obtain ⟨q0, q1, q2, q3⟩ := hc k hk
    obtain ⟨x0, x1, x2, x3, x4⟩ := hb.c5
    obtain ⟨y0, y1, y2, y3⟩ := (b0.ext hX).c4
    clear hc
    have HS : ∀ W, Ext wc W → ((W.cell? ⟨w.heap.size, 0, none⟩ = some (.int .i64 B.comp) ∧ W.cell? ⟨w.heap.size, 1, none⟩ = some (.slice a1 B.bounds.length c1) ∧ W.cell? ⟨w.heap.size, 2, none⟩ = some (.slice a2 B.orders.length c2) ∧ W.cell? ⟨w.heap.size, 3, none⟩ = some (.slice (some ⟨b, o, none⟩) B.shots.length c3)) ∧ (W.cell? ⟨g, 0, none⟩ = some (.int .i64 B.comp) ∧ W.cell? ⟨g, 1, none⟩ = some (.slice a1 B.bounds.length c1) ∧ W.cell? ⟨g, 2, none⟩ = some (.slice a2 B.orders.length c2) ∧ W.cell? ⟨g, 3, none⟩ = some (.slice (some ⟨b, o, none⟩) B.shots.length c3) ∧ W.cell? ⟨g, 4, none⟩ = some (.map (some mp))) ∧ (W.cell? ⟨b, o + k * 4, none⟩ = some (.int .i64 (sAt B.shots k).st) ∧ W.cell? ⟨b, o + k * 4 + 1, none⟩ = some (.int .i64 (sAt B.shots k).co) ∧ W.cell? ⟨b, o + k * 4 + 2, none⟩ = some (.int .i64 (sAt B.shots k).lo) ∧ W.cell? ⟨b, o + k * 4 + 3, none⟩ = some (.int .i64 (sAt B.shots k).hi))) := fun W e => ⟨⟨e.keep y0, e.keep y1, e.keep y2, e.keep y3⟩, ⟨e.keep x0, e.keep x1, e.keep x2, e.keep x3, e.keep x4⟩, e.keep q0, e.keep q1, e.keep q2, e.keep q3⟩
    have HS := Lib.hid HS
    go_wp2_with (fail)
    clear y0 y1 y2 y3 x0 x1 x2 x3 x4 q0 q1 q2 q3
    go_loopw [8, 24] (fun v i wr => ∃ j : Nat, j ≤ B.bounds.length ∧ i = .int .i64 j ∧ wr.ownsRow wc.heap.size 3 1 v (hangsI B (sAt B.shots k) j).length (ints (hangsI B (sAt B.shots k) j)) ∧ Ext wc wr) (fun _ i _ => B.bounds.length - (intOf i).toNat)
    case atStart => exact ⟨0, Nat.zero_le _, rfl, World.ownsRow_nil _ _ _ _, Ext.refl _⟩
    case round =>
      obtain ⟨j, hj, rfl, hown, hE⟩ := hrel
      have hlen := hangsI_len B (sAt B.shots k) j
      by_cases hlt : j < B.bounds.length
      · go_upto_region 8 with (fail)
        refine wp_plan (fun W => ((W.cell? ⟨w.heap.size, 0, none⟩ = some (.int .i64 B.comp) ∧ W.cell? ⟨w.heap.size, 1, none⟩ = some (.slice a1 B.bounds.length c1) ∧ W.cell? ⟨w.heap.size, 2, none⟩ = some (.slice a2 B.orders.length c2) ∧ W.cell? ⟨w.heap.size, 3, none⟩ = some (.slice (some ⟨b, o, none⟩) B.shots.length c3)) ∧ (W.cell? ⟨g, 0, none⟩ = some (.int .i64 B.comp) ∧ W.cell? ⟨g, 1, none⟩ = some (.slice a1 B.bounds.length c1) ∧ W.cell? ⟨g, 2, none⟩ = some (.slice a2 B.orders.length c2) ∧ W.cell? ⟨g, 3, none⟩ = some (.slice (some ⟨b, o, none⟩) B.shots.length c3) ∧ W.cell? ⟨g, 4, none⟩ = some (.map (some mp))) ∧ (W.cell? ⟨b, o + k * 4, none⟩ = some (.int .i64 (sAt B.shots k).st) ∧ W.cell? ⟨b, o + k * 4 + 1, none⟩ = some (.int .i64 (sAt B.shots k).co) ∧ W.cell? ⟨b, o + k * 4 + 2, none⟩ = some (.int .i64 (sAt B.shots k).lo) ∧ W.cell? ⟨b, o + k * 4 + 3, none⟩ = some (.int .i64 (sAt B.shots k).hi)))) (.tames [0, 1, 2, 3, 4, 5, 6] (.one 7 (.done))) (by kernel_rfl) (by kernel_rfl) (by kernel_rfl) (fun c a d v w h => by cases d <;> exact h) ?_ ?_
        · exact HS.out _ (Ext.trans hE (Ext.drew _))
        refine pl_tames ?_
        (try simp only [Act.put, List.setIfInBounds_toArray, List.set_cons_zero, List.set_cons_succ])
        repeat (first
          | (refine pl_run (v := ?_) rfl ?_ (fun W hW => ?_) ?_; rotate_left; rfl; ((try dsimp only at hW); go_simp; try with_reducible rfl); (try simp only [Act.put, List.setIfInBounds_toArray, List.set_cons_zero, List.set_cons_succ]))
          | (refine pl_skip rfl ?_ ?_; rfl; (try simp only [Act.put, List.setIfInBounds_toArray, List.set_cons_zero, List.set_cons_succ])))
        refine pl_end ?_
        refine pl_one rfl (by rfl) (fun K hK => ?_)
        go_simp
        go_at_call 78
        refine (hangs_any B a1 a2 _ c1 c2 c3 mp (sAt B.shots k) j _ ((HB2.out.ext hE).ext (Ext.drew _)) ((HG2.out.ext hE).ext (Ext.drew _)) ((hM.ext hE).ext (Ext.drew _)) hv ⟨h1, h2, h5, h6, h7⟩ hlt).mono ?_
        rintro e w5 ⟨rfl, hE5⟩
        have X5 : Ext wr w5 := Ext.trans (Ext.drew _) hE5
        refine hK.out _ _ (HS.out _ (Ext.trans hE X5)) (pl_done ?_)
        clear hK K
        (try simp only [Act.put, List.setIfInBounds_toArray, List.set_cons_zero, List.set_cons_succ])
        have hs := hangsI_succ B (sAt B.shots k) j
        have hown5 := ownsRow_ext hown X5
        obtain ⟨hn, av, cpv, rfl, hI⟩ := own_int hown5
        obtain ⟨p, hp⟩ : ∃ p, p = hangB B (sAt B.shots k) j := ⟨_, rfl⟩
        rw [← hp] at hs ⊢
        have Hs := Lib.hid hs
        clear hp hs hn
        have X6 := Ext.trans hE X5
        cases p with
        | true =>
          go_wp2_with (at_builtin; refine wpList_append_own _ rfl _ _ 34 rfl wc.heap.size 3 i0 (.int .i64 0) 1 8 Tryd.underlying34 hi hz0 hz1 hz2 rfl (by decide) _ _ _ rfl (hown5.alloc _) ⟨w5.heap.size, 0, none⟩ 1 1 [.int .i64 j] rfl rfl (cell_one_new _ _ _) (by simp [Value.oneCell']) (by unfold maxLen; omega) (by omega) (by have := X6.size; simp; omega) ?_)
          intro v' w7 hown' hgrow _
          have hE7 : Ext wc w7 := Below.grown (Ext.trans X6 (Ext.alloc w5 _)) hgrow (by have := X6.size; simp; omega) (own_base hown5)
          go_wp2
          go_roundw
          case rel => exact ⟨j + 1, by omega, by go_num, by rw [Hs.out]; simpa [ints] using hown', hE7⟩
          case measure => simp [intOf]; omega
        | false =>
          go_wp2_with (fail)
          go_roundw
          case rel => exact ⟨j + 1, by omega, by go_num, by rw [Hs.out]; exact hown5, X6⟩
          case measure => simp [intOf]; omega
      · obtain rfl : j = B.bounds.length := by omega
        have hI0 := own_int hown
        rcases Nat.eq_zero_or_pos (hangsI B (sAt B.shots k) B.bounds.length).length with h0 | h0
        · have Hh := Lib.hid h0
          rw [h0] at hown
          rcases hown.2 with ⟨rfl, _⟩ | ⟨gg, cap, cur, rfl, g1, g2, g3, g4, _⟩
          · clear h0
            go_wp2
            refine bodyPost_ret (v := .tuple #[.slice none 0 0, .int .i64 0]) ?_ rfl ⟨⟨_, ⟨0, by rw [Hh.out]⟩, fun hp => absurd hp (by rw [Hh.out]; omega)⟩, E0.trans (Ext.trans hX hE)⟩
            simp [results, Tryd.results28, go_sem]
          · unfold maxLen at g4
            clear h0
            go_wp2
            refine bodyPost_ret (v := .tuple #[.slice (some ⟨gg, 0, none⟩) 0 0, .int .i64 0]) ?_ rfl ⟨⟨_, ⟨0, by rw [Hh.out]⟩, fun hp => absurd hp (by rw [Hh.out]; omega)⟩, E0.trans (Ext.trans hX hE)⟩
            simp [results, Tryd.results28, go_sem]
        · obtain ⟨gg, cap, cur, rfl, g1, g2, g3, hbk, ht⟩ := own_open hown h0
          obtain ⟨hn, av, cpv, e1, hI⟩ := hI0
          unfold maxLen at g3
          simp only [Value.slice.injEq] at e1
          obtain ⟨rfl, -, rfl⟩ := e1
          go_wp2
          refine bodyPost_ret (v := .tuple #[.slice (some ⟨gg, 0, none⟩) (hangsI B (sAt B.shots k) B.bounds.length).length (hangsI B (sAt B.shots k) B.bounds.length).length, .int .i64 0]) ?_ rfl ⟨⟨_, ⟨_, rfl⟩, hI⟩, E0.trans (Ext.trans hX hE)⟩
          simp [results, Tryd.results28, go_sem]
end Go.Proofs.YtnhdcdhpfgdphaaDoor
