/-
  Truths, and the fewest shots that cannot be fair: plain facts.
-/
import Derived.Test.YtnhdcdhpfgdphaaDoorAB
import Derived.Test.YtnhdcdhpfgdphaaDoorP1
set_option linter.unusedSimpArgs false
set_option linter.unusedVariables false
namespace Go.Proofs.YtnhdcdhpfgdphaaDoor
open Go

/-! ### Truths -/
theorem nAt_setQ (t : Q4) {k : Nat} (hk : k < 4) (v : Int) (i : Nat) : nAt (q4L (setQ t k v)) i = if i = k then v else nAt (q4L t) i := by
  rcases (by omega : k = 0 ∨ k = 1 ∨ k = 2 ∨ k = 3) with rfl | rfl | rfl | rfl <;> rcases i with _ | _ | _ | _ | i <;> simp [nAt, q4L, setQ]
theorem q4_ext {s t : Q4} (h : ∀ i, i < 4 → nAt (q4L s) i = nAt (q4L t) i) : s = t := by
  obtain ⟨a, b, c, d⟩ := s
  obtain ⟨x, y, z, u⟩ := t
  have h0 := h 0 (by omega)
  have h1 := h 1 (by omega)
  have h2 := h 2 (by omega)
  have h3 := h 3 (by omega)
  simp [nAt, q4L] at h0 h1 h2 h3
  subst h0 h1 h2 h3
  rfl
theorem mem_gen (bs : List (Int × Int)) : ∀ (d k : Nat) (t q : Q4), k + d ≤ 4 → (q ∈ gen bs d k t ↔ (∀ i, i < 4 → (i < k ∨ k + d ≤ i) → nAt (q4L q) i = nAt (q4L t) i) ∧ ∀ i, k ≤ i → i < k + d → bLo bs i ≤ nAt (q4L q) i ∧ nAt (q4L q) i ≤ bHi bs i)
  | 0, k, t, q, _ => by
    simp only [gen, List.mem_singleton]
    constructor
    · rintro rfl
      exact ⟨fun _ _ _ => rfl, fun i a b => by omega⟩
    · rintro ⟨h, _⟩
      exact q4_ext fun i hi => h i hi (by omega)
  | d + 1, k, t, q, hd => by
    simp only [gen, List.mem_flatMap, List.mem_range]
    constructor
    · rintro ⟨n, hn, hq⟩
      obtain ⟨h1, h2⟩ := (mem_gen bs d (k + 1) _ q (by omega)).1 hq
      have hk := h1 k (by omega) (by omega)
      rw [nAt_setQ t (by omega), if_pos rfl] at hk
      refine ⟨fun i hi hik => ?_, fun i a b => ?_⟩
      · have := h1 i hi (by omega)
        rwa [nAt_setQ t (by omega), if_neg (by omega)] at this
      · rcases (by omega : i = k ∨ k + 1 ≤ i) with rfl | h
        · omega
        · exact h2 i h (by omega)
    · rintro ⟨h1, h2⟩
      have hk := h2 k (by omega) (by omega)
      refine ⟨(nAt (q4L q) k - bLo bs k).toNat, by omega, (mem_gen bs d (k + 1) _ q (by omega)).2 ⟨fun i hi hik => ?_, fun i a b => h2 i (by omega) (by omega)⟩⟩
      rw [nAt_setQ t (by omega)]
      split
      · rename_i e; subst e; omega
      · exact h1 i hi (by omega)
theorem mem_truths {B : Bk} (hv : validB B = true) (t : Q4) : t ∈ truthsL B ↔ (∀ i, i < 4 → B.bounds.length ≤ i → nAt (q4L t) i = 0) ∧ ∀ i, i < B.bounds.length → bLo B.bounds i ≤ nAt (q4L t) i ∧ nAt (q4L t) i ≤ bHi B.bounds i := by
  have h4 := (valid_sizes hv).2.2.2.2.1
  unfold truthsL
  rw [mem_gen _ _ _ _ _ (by omega)]
  have hz : ∀ i, nAt (q4L ((0, 0, 0, 0) : Q4)) i = 0 := fun i => by rcases i with _ | _ | _ | _ | i <;> simp [nAt, q4L]
  constructor
  · rintro ⟨h1, h2⟩
    exact ⟨fun i hi hl => by rw [h1 i hi (by omega), hz], fun i hi => h2 i (by omega) (by omega)⟩
  · rintro ⟨h1, h2⟩
    refine ⟨fun i hi hl => by rw [hz, h1 i hi (by omega)], fun i _ hi => h2 i (by omega)⟩
/-- There is a truth with whatever minutes. -/
theorem truth_of {B : Bk} (hv : validB B = true) (f : Nat → Int) (hf : ∀ i, i < B.bounds.length → bLo B.bounds i ≤ f i ∧ f i ≤ bHi B.bounds i) : ∃ t ∈ truthsL B, ∀ i, i < B.bounds.length → nAt (q4L t) i = f i := by
  have h4 := (valid_sizes hv).2.2.2.2.1
  let g : Nat → Int := fun i => if i < B.bounds.length then f i else 0
  refine ⟨(g 0, g 1, g 2, g 3), (mem_truths hv _).2 ⟨fun i hi hl => ?_, fun i hi => ?_⟩, fun i hi => ?_⟩
  · rcases (by omega : i = 0 ∨ i = 1 ∨ i = 2 ∨ i = 3) with rfl | rfl | rfl | rfl <;> simp [nAt, q4L, g] <;> omega
  · have := hf i hi
    rcases (by omega : i = 0 ∨ i = 1 ∨ i = 2 ∨ i = 3) with rfl | rfl | rfl | rfl <;> simp [nAt, q4L, g, hi] <;> omega
  · rcases (by omega : i = 0 ∨ i = 1 ∨ i = 2 ∨ i = 3) with rfl | rfl | rfl | rfl <;> simp [nAt, q4L, g, hi]
/-- The turn, by minutes of the bounds. -/
theorem cT_congr {ts us : List Int} {n : Nat} (m : Int) (h : ∀ i, i < n → nAt ts i = nAt us i) : cT ts m n = cT us m n := by
  unfold cT
  congr 1
  apply List.filter_congr
  intro i hi
  rw [h i (List.mem_range.1 hi)]
theorem lt_cT {B : Bk} (hv : validB B = true) {ts : List Int} (hb : ∀ i, i < B.bounds.length → bLo B.bounds i ≤ nAt ts i ∧ nAt ts i ≤ bHi B.bounds i) (m : Int) {i : Nat} (hi : i < B.bounds.length) : i < cT ts m B.bounds.length ↔ nAt ts i ≤ m := by
  have := count_prefix (fun i => decide (nAt ts i ≤ m)) B.bounds.length (fun i hi hp => by
    simp only [decide_eq_true_eq] at *
    have h1 := valid_rise hv hi
    have h2 := hb i (by omega)
    have h3 := hb (i + 1) hi
    omega) i hi
  simpa [cT] using this
theorem cT_eq {B : Bk} (hv : validB B = true) {ts : List Int} (hb : ∀ i, i < B.bounds.length → bLo B.bounds i ≤ nAt ts i ∧ nAt ts i ≤ bHi B.bounds i) (m : Int) {k : Nat} (hk : k ≤ B.bounds.length) (h1 : ∀ i, i < k → nAt ts i ≤ m) (h2 : k < B.bounds.length → m < nAt ts k) : cT ts m B.bounds.length = k := by
  have hle := cT_le ts m B.bounds.length
  rcases Nat.lt_or_ge k (cT ts m B.bounds.length) with h | h
  · have := (lt_cT hv hb m (i := k) (by omega)).1 h
    have := h2 (by omega)
    omega
  · rcases Nat.lt_or_ge (cT ts m B.bounds.length) k with h' | h'
    · have := (lt_cT hv hb m (i := cT ts m B.bounds.length) (by omega)).2 (h1 _ h')
      omega
    · omega
theorem cT_in {B : Bk} (hv : validB B = true) {ts : List Int} (hb : ∀ i, i < B.bounds.length → bLo B.bounds i ≤ nAt ts i ∧ nAt ts i ≤ bHi B.bounds i) (m : Int) : tLo B m ≤ cT ts m B.bounds.length ∧ cT ts m B.bounds.length ≤ tHi B m := by
  have hle := cT_le ts m B.bounds.length
  have hlo : tLo B m ≤ B.bounds.length := cHi_le _ _ _
  have hhi := tHi_le hv m
  constructor
  · rcases Nat.lt_or_ge (cT ts m B.bounds.length) (tLo B m) with h | h
    · have h1 := (lt_tLo hv m (i := cT ts m B.bounds.length) (by omega)).1 h
      have h2 := hb (cT ts m B.bounds.length) (by omega)
      have := (lt_cT hv hb m (i := cT ts m B.bounds.length) (by omega)).2 (by omega)
      omega
    · exact h
  · rcases Nat.lt_or_ge (tHi B m) (cT ts m B.bounds.length) with h | h
    · have h1 := (lt_cT hv hb m (i := tHi B m) (by omega)).1 h
      have h2 := hb (tHi B m) (by omega)
      have := (lt_tHi hv m (i := tHi B m) (by omega)).2 (by omega)
      omega
    · exact h

/-! ### The order of lists -/
theorem cmpL_lt_trans : ∀ (a b c : List Int), cmpL a b < 0 → cmpL b c < 0 → cmpL a c < 0
  | [], [], _, h, _ => by simp [cmpL] at h
  | [], _ :: _, [], _, h => by simp [cmpL] at h
  | [], _ :: _, _ :: _, _, _ => by simp [cmpL]
  | _ :: _, [], _, h, _ => by simp [cmpL] at h
  | _ :: _, _ :: _, [], _, h => by simp [cmpL] at h
  | x :: a, y :: b, z :: c, h1, h2 => by
    simp only [cmpL] at *
    split at h1 <;> split at h2 <;> (try split) <;> (try split) <;> (try omega)
    all_goals (try split at h1) <;> (try split at h2) <;> (try omega)
    exact cmpL_lt_trans a b c h1 h2
theorem cmpL_self : ∀ a : List Int, cmpL a a = 0
  | [] => rfl
  | x :: a => by simp [cmpL, cmpL_self a]
/-- Better: fewer, or as many and before. -/
def better (a b : List Int) : Prop := a.length < b.length ∨ a.length = b.length ∧ cmpL a b < 0
theorem worse_iff (a b : List Int) : worse a b = true ↔ ¬ better a b := by
  unfold worse better
  simp only [Bool.or_eq_true, Bool.and_eq_true, decide_eq_true_eq]
  omega
theorem better_trans {a b c : List Int} (h1 : better a b) (h2 : better b c) : better a c := by
  unfold better at *
  rcases h1 with h1 | ⟨e1, h1⟩ <;> rcases h2 with h2 | ⟨e2, h2⟩
  · left; omega
  · left; omega
  · left; omega
  · right; exact ⟨by omega, cmpL_lt_trans a b c h1 h2⟩
theorem better_irrefl (a : List Int) : ¬ better a a := by
  unfold better
  rw [cmpL_self]
  omega
theorem wrong_best (B : Bk) (k : Nat) : ((wrongK B k).2 = true → ∃ m, m < k ∧ togB B (restK B.shots m B.shots.length) = true ∧ (wrongK B k).1 = outK m B.shots.length) ∧
    ∀ m, m < k → togB B (restK B.shots m B.shots.length) = true → (wrongK B k).2 = true ∧ ¬ better (outK m B.shots.length) (wrongK B k).1 := by
  induction k with
  | zero => exact ⟨fun h => by simp [wrongK] at h, fun m hm => by omega⟩
  | succ k ih =>
    obtain ⟨ih1, ih2⟩ := ih
    rw [wrongK_succ]
    unfold wrongStep
    by_cases hw : ((wrongK B k).2 && worse (outK k B.shots.length) (wrongK B k).1) = true
    · rw [if_pos hw]
      simp only [Bool.and_eq_true] at hw
      refine ⟨fun h => ?_, fun m hm ht => ?_⟩
      · obtain ⟨m, h1, h2, h3⟩ := ih1 h
        exact ⟨m, by omega, h2, h3⟩
      · rcases (by omega : m < k ∨ m = k) with h | rfl
        · exact ih2 m h ht
        · exact ⟨hw.1, (worse_iff _ _).1 hw.2⟩
    · rw [if_neg hw]
      cases ht : togB B (restK B.shots k B.shots.length) with
      | true =>
        simp only [if_true]
        refine ⟨fun _ => ⟨k, by omega, ht, by simp⟩, fun m hm htm => ⟨by simp, fun hb => ?_⟩⟩
        rcases (by omega : m < k ∨ m = k) with h | rfl
        · obtain ⟨h1, h2⟩ := ih2 m h htm
          have h3 : better (outK k B.shots.length) (wrongK B k).1 := by
            rw [h1, Bool.true_and, worse_iff] at hw
            exact Classical.byContradiction hw
          exact h2 (better_trans hb h3)
        · exact better_irrefl _ hb
      | false =>
        simp only [Bool.false_eq_true, if_false]
        refine ⟨fun h => ?_, fun m hm htm => ?_⟩
        · obtain ⟨m, h1, h2, h3⟩ := ih1 h
          exact ⟨m, by omega, h2, h3⟩
        · rcases (by omega : m < k ∨ m = k) with h | rfl
          · exact ih2 m h htm
          · rw [ht] at htm; cases htm

/-! ### A set, as a number -/
def maskN (p : Nat → Bool) : Nat → Nat
  | 0 => 0
  | n + 1 => maskN p n + if p n then 2 ^ n else 0
theorem maskN_lt (p : Nat → Bool) (n : Nat) : maskN p n < 2 ^ n := by
  induction n with
  | zero => simp [maskN]
  | succ n ih =>
    simp only [maskN, Nat.pow_succ]
    split <;> omega
theorem maskN_bit (p : Nat → Bool) (n : Nat) : ∀ k, k < n → bitB (maskN p n) k = p k := by
  induction n with
  | zero => intro k hk; omega
  | succ n ih =>
    intro k hk
    have hlt := maskN_lt p n
    unfold bitB at *
    simp only [maskN]
    rcases (by omega : k < n ∨ k = n) with h | rfl
    · have hi := ih k h
      by_cases hp : p n = true
      · rw [if_pos hp]
        have : 2 ^ n = 2 ^ k * (2 * 2 ^ (n - k - 1)) := by rw [← Nat.pow_succ', ← Nat.pow_add]; congr 1; omega
        rw [this, Nat.add_mul_div_left _ _ (Nat.two_pow_pos k), Nat.add_mul_mod_self_left]
        exact hi
      · rw [if_neg hp, Nat.add_zero]
        exact hi
    · by_cases hp : p k = true
      · rw [if_pos hp, Nat.add_div_right _ (Nat.two_pow_pos k), Nat.div_eq_of_lt hlt, hp]; rfl
      · rw [if_neg hp, Nat.add_zero, Nat.div_eq_of_lt hlt]
        simp only [Bool.not_eq_true] at hp
        rw [hp]; rfl
theorem outK_mask (p : Nat → Bool) (n : Nat) : outK (maskN p n) n = ((List.range n).filter p).map fun (i : Nat) => (i : Int) := by
  unfold outK
  congr 1
  apply List.filter_congr
  intro i hi
  exact maskN_bit p n i (List.mem_range.1 hi)
theorem restK_mask (ss : List Sh) (p : Nat → Bool) (n : Nat) : restK ss (maskN p n) n = ((List.range n).filter fun i => !p i).map (sAt ss) := by
  unfold restK
  congr 1
  apply List.filter_congr
  intro i hi
  rw [maskN_bit p n i (List.mem_range.1 hi)]
theorem togB_iff (B : Bk) (L : List Sh) : togB B L = true ↔ ∃ t ∈ truthsL B, ∀ x ∈ L, canX B t x = true := by
  unfold togB
  rw [List.any_eq_true]
  have h : ∀ t, allX B t L = true ↔ ∀ x ∈ L, canX B t x = true := by
    intro t
    unfold allX allK
    rw [List.all_eq_true]
    constructor
    · intro h x hx
      obtain ⟨i, hi, rfl⟩ := List.getElem_of_mem hx
      have := h i (List.mem_range.2 hi)
      simpa [sAt, List.getD, hi] using this
    · intro h i hi
      have hi' := List.mem_range.1 hi
      have := h L[i] (List.getElem_mem hi')
      simpa [sAt, List.getD, hi'] using this
  exact ⟨fun ⟨t, a, b⟩ => ⟨t, a, (h t).1 b⟩, fun ⟨t, a, b⟩ => ⟨t, a, (h t).2 b⟩⟩
theorem canX_iff (B : Bk) (t : Q4) (x : Sh) : canX B t x = true ↔ ∃ m, x.lo ≤ m ∧ m ≤ x.hi ∧ fitX B t x m = true := by
  unfold canX canK
  rw [List.any_eq_true]
  constructor
  · rintro ⟨i, hi, h⟩
    have := List.mem_range.1 hi
    exact ⟨x.lo + i, by omega, by omega, h⟩
  · rintro ⟨m, h1, h2, h⟩
    refine ⟨(m - x.lo).toNat, List.mem_range.2 (by omega), ?_⟩
    rwa [show x.lo + ((m - x.lo).toNat : Nat) = m by omega]
end Go.Proofs.YtnhdcdhpfgdphaaDoor
