/-
  What 'fair' means, truth by truth; who has the turn in a truth: plain facts.
-/
import Derived.Test.YtnhdcdhpfgdphaaDoorP2
import Derived.Test.YtnhdcdhpfgdphaaDoorL1
set_option linter.unusedSimpArgs false
set_option linter.unusedVariables false
namespace Go.Proofs.YtnhdcdhpfgdphaaDoor
open Go

theorem fit_iff (B : Bk) (t : Q4) (x : Sh) (m : Int) : fitX B t x m = true ↔ nAt (oAt B.orders x.st.toNat) (cT (q4L t) m B.bounds.length) = x.co := by simp [fitX, fitB]
theorem fair_range (B : Bk) (x : Sh) : 0 ≤ fairN B x ∧ fairN B x ≤ 2 := by
  have h1 := wh_le (canN B x (x.hi - x.lo + 1).toNat)
  have h2 := wh_le (sureN B x (x.hi - x.lo + 1).toNat)
  unfold fairN
  omega
section
variable {B : Bk} (hv : validB B = true)
include hv
theorem truth_in {t : Q4} (ht : t ∈ truthsL B) : ∀ i, i < B.bounds.length → bLo B.bounds i ≤ nAt (q4L t) i ∧ nAt (q4L t) i ≤ bHi B.bounds i := ((mem_truths hv t).1 ht).2
/-- A company can have a station at a minute just if it has it in a truth. -/
theorem owner_truth (s : Nat) (m c : Int) : c ∈ ownersL B s m ↔ ∃ t ∈ truthsL B, nAt (oAt B.orders s) (cT (q4L t) m B.bounds.length) = c := by
  rw [mem_ownersL hv]
  constructor
  · rintro ⟨t, h1, h2, rfl⟩
    have h3 := tHi_le_succ hv m
    have h4 := tLo_le_tHi hv m
    rcases (by omega : t = tLo B m ∨ t = tHi B m) with e | e
    · obtain ⟨q, hq, hf⟩ := truth_of hv (fun i => bHi B.bounds i) (fun i hi => by have := valid_bound hv hi; omega)
      refine ⟨q, hq, ?_⟩
      congr 1
      rw [e]
      unfold tLo cHi cT
      congr 1
      apply List.filter_congr
      intro i hi
      rw [hf i (List.mem_range.1 hi)]
    · obtain ⟨q, hq, hf⟩ := truth_of hv (fun i => bLo B.bounds i) (fun i hi => by have := valid_bound hv hi; omega)
      refine ⟨q, hq, ?_⟩
      congr 1
      rw [e]
      unfold tHi cLo cT
      congr 1
      apply List.filter_congr
      intro i hi
      rw [hf i (List.mem_range.1 hi)]
  · rintro ⟨t, ht, rfl⟩
    have := cT_in hv (truth_in hv ht) m
    exact ⟨_, this.1, this.2, rfl⟩
theorem owners_one (s : Nat) (m c : Int) : ownersL B s m = [c] ↔ ∀ t ∈ truthsL B, nAt (oAt B.orders s) (cT (q4L t) m B.bounds.length) = c := by
  have hl := ownersL_len hv s m
  have hs := ownersL_sorted hv s m
  constructor
  · intro e t ht
    have := (owner_truth hv s m _).2 ⟨t, ht, rfl⟩
    rw [e] at this
    simpa using this
  · intro ha
    have hall : ∀ x ∈ ownersL B s m, x = c := fun x hx => by
      obtain ⟨t, ht, rfl⟩ := (owner_truth hv s m x).1 hx
      exact ha t ht
    rcases hq : ownersL B s m with _ | ⟨x, _ | ⟨y, r⟩⟩
    · rw [hq] at hl; simp at hl
    · rw [hq] at hall
      rw [hall x (by simp)]
    · rw [hq] at hall hs
      have h1 := hall x (by simp)
      have h2 := hall y (by simp)
      have h3 := (List.pairwise_cons.1 hs).1 y (by simp)
      omega
theorem can_one_iff (x : Sh) (i : Nat) : canOne B x i = true ↔ ∃ t ∈ truthsL B, fitX B t x (x.lo + i) = true := by
  simp only [canOne, isIn, decide_eq_true_eq]
  rw [owner_truth hv]
  exact ⟨fun ⟨t, a, b⟩ => ⟨t, a, (fit_iff B t x _).2 b⟩, fun ⟨t, a, b⟩ => ⟨t, a, (fit_iff B t x _).1 b⟩⟩
theorem sure_one_iff (x : Sh) (i : Nat) : sureOne B x i = true ↔ ∀ t ∈ truthsL B, fitX B t x (x.lo + i) = true := by
  have h : sureOne B x i = true ↔ ownersL B x.st.toNat (x.lo + i) = [x.co] := by
    simp only [sureOne, canOne, isIn, Bool.and_eq_true, decide_eq_true_eq]
    constructor
    · rintro ⟨h1, h2⟩
      obtain ⟨y, hy⟩ := List.length_eq_one_iff.1 h2
      rw [hy] at h1 ⊢
      simp only [List.mem_singleton] at h1
      rw [h1]
    · intro e
      rw [e]
      simp
  rw [h, owners_one hv]
  exact ⟨fun h t ht => (fit_iff B t x _).2 (h t ht), fun h t ht => (fit_iff B t x _).1 (h t ht)⟩
theorem canN_iff (x : Sh) : canN B x (x.hi - x.lo + 1).toNat = true ↔ ∃ t ∈ truthsL B, ∃ m, x.lo ≤ m ∧ m ≤ x.hi ∧ fitX B t x m = true := by
  unfold canN
  rw [List.any_eq_true]
  constructor
  · rintro ⟨i, hi, h⟩
    have := List.mem_range.1 hi
    obtain ⟨t, ht, hf⟩ := (can_one_iff hv x i).1 h
    exact ⟨t, ht, x.lo + i, by omega, by omega, hf⟩
  · rintro ⟨t, ht, m, h1, h2, hf⟩
    refine ⟨(m - x.lo).toNat, List.mem_range.2 (by omega), (can_one_iff hv x _).2 ⟨t, ht, ?_⟩⟩
    rwa [show x.lo + ((m - x.lo).toNat : Nat) = m by omega]
theorem sureN_iff (x : Sh) : sureN B x (x.hi - x.lo + 1).toNat = true ↔ ∀ t ∈ truthsL B, ∀ m, x.lo ≤ m → m ≤ x.hi → fitX B t x m = true := by
  unfold sureN
  rw [List.all_eq_true]
  constructor
  · intro h t ht m h1 h2
    have := (sure_one_iff hv x (m - x.lo).toNat).1 (h _ (List.mem_range.2 (by omega))) t ht
    rwa [show x.lo + ((m - x.lo).toNat : Nat) = m by omega] at this
  · intro h i hi
    have := List.mem_range.1 hi
    exact (sure_one_iff hv x i).2 fun t ht => h t ht _ (by omega) (by omega)
theorem truths_some : ∃ t, t ∈ truthsL B := by
  obtain ⟨t, ht, _⟩ := truth_of hv (fun i => bLo B.bounds i) (fun i hi => by have := valid_bound hv hi; omega)
  exact ⟨t, ht⟩
theorem fair_two {x : Sh} (hx : x.lo ≤ x.hi) : fairN B x = 2 ↔ ∀ t ∈ truthsL B, ∀ m, x.lo ≤ m → m ≤ x.hi → fitX B t x m = true := by
  rw [← sureN_iff hv]
  have hsc : sureN B x (x.hi - x.lo + 1).toNat = true → canN B x (x.hi - x.lo + 1).toNat = true := fun h => by
    obtain ⟨t, ht⟩ := truths_some hv
    exact (canN_iff hv x).2 ⟨t, ht, x.lo, Int.le_refl _, hx, (sureN_iff hv x).1 h t ht _ (Int.le_refl _) hx⟩
  unfold fairN
  cases hs : sureN B x (x.hi - x.lo + 1).toNat with
  | true => rw [hsc hs]; simp [wh]
  | false => cases canN B x (x.hi - x.lo + 1).toNat <;> simp [wh]
theorem fair_zero {x : Sh} (hx : x.lo ≤ x.hi) : fairN B x = 0 ↔ ∀ t ∈ truthsL B, ∀ m, x.lo ≤ m → m ≤ x.hi → fitX B t x m = false := by
  have hc : canN B x (x.hi - x.lo + 1).toNat = false ↔ ∀ t ∈ truthsL B, ∀ m, x.lo ≤ m → m ≤ x.hi → fitX B t x m = false := by
    rw [← Bool.not_eq_true, canN_iff hv]
    constructor
    · intro h t ht m h1 h2
      cases hf : fitX B t x m with
      | false => rfl
      | true => exact absurd ⟨t, ht, m, h1, h2, hf⟩ h
    · rintro h ⟨t, ht, m, h1, h2, hf⟩
      rw [h t ht m h1 h2] at hf
      cases hf
  rw [← hc]
  have hsc : sureN B x (x.hi - x.lo + 1).toNat = true → canN B x (x.hi - x.lo + 1).toNat = true := fun h => by
    obtain ⟨t, ht⟩ := truths_some hv
    exact (canN_iff hv x).2 ⟨t, ht, x.lo, Int.le_refl _, hx, (sureN_iff hv x).1 h t ht _ (Int.le_refl _) hx⟩
  unfold fairN
  cases hs : sureN B x (x.hi - x.lo + 1).toNat with
  | true => rw [hsc hs]; simp [wh]
  | false => cases canN B x (x.hi - x.lo + 1).toNat <;> simp [wh]
end

/-! ### A truth that numbers choose -/
def chosenL (B : Bk) (bits : List Int) : List Int := (List.range B.bounds.length).map fun k => someZ (bLo B.bounds k) (bHi B.bounds k) (pickL bits k)
theorem chosen_at (B : Bk) (bits : List Int) {k : Nat} (hk : k < B.bounds.length) : nAt (chosenL B bits) k = someZ (bLo B.bounds k) (bHi B.bounds k) (pickL bits k) := by simp [chosenL, nAt, List.getD, hk]
/-- The turn, at a minute. -/
def trueN (B : Bk) (bits : List Int) (m : Int) : Nat := cT (chosenL B bits) m B.bounds.length
/-- The minute of a shot. -/
def whenN (B : Bk) (bits : List Int) (k : Nat) : Int := someZ (sAt B.shots k).lo (sAt B.shots k).hi (pickL bits ((k : Int) + 3))
/-- Is a shot unfair in this truth? -/
def unfairB (B : Bk) (bits : List Int) (k : Nat) : Bool := decide (nAt (oAt B.orders (sAt B.shots k).st.toNat) (trueN B bits (whenN B bits k)) ≠ (sAt B.shots k).co)
def unfairN (B : Bk) (bits : List Int) (k : Nat) : Nat := ((List.range k).filter (unfairB B bits)).length
theorem unfairN_succ (B : Bk) (bits : List Int) (k : Nat) : unfairN B bits (k + 1) = unfairN B bits k + if unfairB B bits k then 1 else 0 := by
  unfold unfairN
  rw [List.range_succ, List.filter_append]
  cases h : unfairB B bits k <;> simp [h]
section
variable {B : Bk} (hv : validB B = true) (bits : List Int)
include hv
theorem chosen_in : ∀ i, i < B.bounds.length → bLo B.bounds i ≤ nAt (chosenL B bits) i ∧ nAt (chosenL B bits) i ≤ bHi B.bounds i := fun i hi => by
  rw [chosen_at B bits hi]
  have := valid_bound hv hi
  exact someZ_in _ (by omega)
theorem chosen_truth : ∃ t ∈ truthsL B, ∀ m, trueN B bits m = cT (q4L t) m B.bounds.length := by
  obtain ⟨t, ht, hf⟩ := truth_of hv (nAt (chosenL B bits)) (chosen_in hv bits)
  exact ⟨t, ht, fun m => cT_congr m fun i hi => (hf i hi).symm⟩
theorem true_in (m : Int) : tLo B m ≤ trueN B bits m ∧ trueN B bits m ≤ tHi B m := cT_in hv (chosen_in hv bits) m
theorem true_owner (s : Nat) (m : Int) : nAt (oAt B.orders s) (trueN B bits m) ∈ ownersL B s m := by
  obtain ⟨t, ht, he⟩ := chosen_truth hv bits
  exact (owner_truth hv s m _).2 ⟨t, ht, by rw [he]⟩
theorem when_in {k : Nat} (hk : k < B.shots.length) : (sAt B.shots k).lo ≤ whenN B bits k ∧ whenN B bits k ≤ (sAt B.shots k).hi := by
  have := valid_shot hv hk
  exact someZ_in _ (by omega)
theorem unfair_two {k : Nat} (hk : k < B.shots.length) (h : fairN B (sAt B.shots k) = 2) : unfairB B bits k = false := by
  have hs := valid_shot hv hk
  obtain ⟨t, ht, he⟩ := chosen_truth hv bits
  have hw := when_in hv bits hk
  have := (fit_iff B t _ _).1 ((fair_two hv (by omega)).1 h t ht _ hw.1 hw.2)
  simp [unfairB, he, this]
theorem unfair_zero {k : Nat} (hk : k < B.shots.length) (h : fairN B (sAt B.shots k) = 0) : unfairB B bits k = true := by
  have hs := valid_shot hv hk
  obtain ⟨t, ht, he⟩ := chosen_truth hv bits
  have hw := when_in hv bits hk
  have := (fair_zero hv (by omega)).1 h t ht _ hw.1 hw.2
  have h2 : ¬ nAt (oAt B.orders (sAt B.shots k).st.toNat) (cT (q4L t) (whenN B bits k) B.bounds.length) = (sAt B.shots k).co := fun e => by
    rw [(fit_iff B t _ _).2 e] at this
    cases this
  simp [unfairB, he, h2]
/-- No fewer shots are unfair than must be. -/
theorem wrong_le : (wrongL B).length ≤ unfairN B bits B.shots.length := by
  obtain ⟨t, ht, he⟩ := chosen_truth hv bits
  have htog : togB B (restK B.shots (maskN (unfairB B bits) B.shots.length) B.shots.length) = true := by
    rw [togB_iff]
    refine ⟨t, ht, fun x hx => ?_⟩
    rw [restK_mask] at hx
    obtain ⟨k, hk, rfl⟩ := List.mem_map.1 hx
    obtain ⟨hk1, hk2⟩ := List.mem_filter.1 hk
    have hk3 := List.mem_range.1 hk1
    have hw := when_in hv bits hk3
    refine (canX_iff B t _).2 ⟨whenN B bits k, hw.1, hw.2, (fit_iff B t _ _).2 ?_⟩
    rw [← he]
    simpa [unfairB] using hk2
  have h := (wrong_best B (2 ^ B.shots.length)).2 _ (maskN_lt _ _) htog
  have hnb := h.2
  rw [outK_mask] at hnb
  unfold better at hnb
  simp only [List.length_map] at hnb
  unfold unfairN
  have : wrongL B = (wrongK B (2 ^ B.shots.length)).1 := rfl
  rw [this]
  omega
end
end Go.Proofs.YtnhdcdhpfgdphaaDoor
