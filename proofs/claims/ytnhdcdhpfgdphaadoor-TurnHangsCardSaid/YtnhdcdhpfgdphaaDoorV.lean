/-
  What a valid book gives; who can have a station. Plain data alone.
-/
import Derived.Test.YtnhdcdhpfgdphaaDoorT0
set_option linter.unusedSimpArgs false
set_option linter.unusedVariables false
namespace Go.Proofs.YtnhdcdhpfgdphaaDoor
open Go

/-- A count of those of the first n that have a property which none has behind one that has it not. -/
theorem count_prefix (p : Nat → Bool) (n : Nat) (hp : ∀ i, i + 1 < n → p (i + 1) = true → p i = true) : ∀ i, i < n → (i < ((List.range n).filter p).length ↔ p i = true) := by
  induction n with
  | zero => intro i hi; omega
  | succ n ih =>
    have ih' := ih (fun i hi h => hp i (by omega) h)
    have hle : ((List.range n).filter p).length ≤ n := by
      have := List.length_filter_le p (List.range n)
      simpa using this
    intro i hi
    by_cases hn : p n = true
    · -- then all have it
      have hall : ∀ d j, j + d = n → p j = true := by
        intro d
        induction d with
        | zero => intro j hj; have : j = n := by omega
                  rw [this]; exact hn
        | succ d ihd => intro j hj; exact hp j (by omega) (ihd (j + 1) (by omega))
      have hpi := hall (n - i) i (by omega)
      have hlen : ((List.range (n + 1)).filter p).length = n + 1 := by
        rw [List.filter_eq_self.2 (by intro a ha; simp at ha; exact hall (n - a) a (by omega))]
        simp
      rw [hlen]
      exact ⟨fun _ => hpi, fun _ => hi⟩
    · have hl : (List.range (n + 1)).filter p = (List.range n).filter p := by
        simp [List.range_succ, hn]
      rw [hl]
      by_cases hin : i = n
      · rw [hin]
        exact ⟨fun h => by omega, fun h => absurd h hn⟩
      · exact ih' i (by omega)

theorem valid_parts {B : Bk} (h : validB B = true) : ok0 B = true ∧ okBounds B.bounds B.bounds.length = true ∧ okRows B.comp B.bounds.length B.orders B.orders.length = true ∧ okShots B B.shots.length = true := by
  simp only [validB, Bool.and_eq_true] at h
  exact ⟨h.1.1.1, h.1.1.2, h.1.2, h.2⟩

theorem valid_sizes {B : Bk} (h : validB B = true) : 1 ≤ B.comp ∧ B.comp ≤ 4 ∧ 1 ≤ B.orders.length ∧ B.orders.length ≤ 3 ∧ B.bounds.length ≤ 4 ∧ B.shots.length ≤ 5 := by
  have := (valid_parts h).1
  simp [ok0, inB] at this
  omega

theorem valid_bound {B : Bk} (h : validB B = true) {i : Nat} (hi : i < B.bounds.length) : 0 ≤ bLo B.bounds i ∧ bLo B.bounds i ≤ bHi B.bounds i ∧ bHi B.bounds i < 1440 ∧ bHi B.bounds i - bLo B.bounds i ≤ 10 := by
  have hb := (valid_parts h).2.1
  simp only [okBounds, List.all_eq_true, List.mem_range, okBound, Bool.and_eq_true] at hb
  have := (hb i hi).1
  simpa [isSpanB] using this
theorem valid_rise {B : Bk} (h : validB B = true) {i : Nat} (hi : i + 1 < B.bounds.length) : bHi B.bounds i < bLo B.bounds (i + 1) := by
  have hb := (valid_parts h).2.1
  simp only [okBounds, List.all_eq_true, List.mem_range, okBound, Bool.and_eq_true] at hb
  have := (hb (i + 1) hi).2
  simpa using this
theorem valid_row {B : Bk} (h : validB B = true) {s : Nat} (hs : s < B.orders.length) : (oAt B.orders s).length = B.bounds.length + 1 ∧ ∀ i, i < (oAt B.orders s).length → 0 ≤ nAt (oAt B.orders s) i ∧ nAt (oAt B.orders s) i < B.comp := by
  have hr := (valid_parts h).2.2.1
  simp only [okRows, List.all_eq_true, List.mem_range, okRow, Bool.and_eq_true, decide_eq_true_eq] at hr
  have := hr s hs
  refine ⟨this.1, fun i hi => ?_⟩
  have hn := this.2
  simp only [okNums, List.all_eq_true, List.mem_range, inB, Bool.and_eq_true, decide_eq_true_eq] at hn
  have := hn i hi
  omega
theorem valid_shot {B : Bk} (h : validB B = true) {k : Nat} (hk : k < B.shots.length) : 0 ≤ (sAt B.shots k).st ∧ (sAt B.shots k).st < B.orders.length ∧ 0 ≤ (sAt B.shots k).co ∧ (sAt B.shots k).co < B.comp ∧
    0 ≤ (sAt B.shots k).lo ∧ (sAt B.shots k).lo ≤ (sAt B.shots k).hi ∧ (sAt B.shots k).hi < 1440 ∧ (sAt B.shots k).hi - (sAt B.shots k).lo ≤ 10 := by
  have hs := (valid_parts h).2.2.2
  simp only [okShots, List.all_eq_true, List.mem_range, okShot, inB, Bool.and_eq_true, decide_eq_true_eq, isSpanB] at hs
  have := hs k hk
  omega

theorem tHi_le {B : Bk} (_h : validB B = true) (m : Int) : tHi B m ≤ B.bounds.length := cLo_le _ _ _
section
variable {B : Bk} (h : validB B = true) (m : Int)
include h
theorem lt_tLo {i : Nat} (hi : i < B.bounds.length) : i < tLo B m ↔ bHi B.bounds i ≤ m := by
  have := count_prefix (fun i => decide (bHi B.bounds i ≤ m)) B.bounds.length (fun i hi hp => by
    simp only [decide_eq_true_eq] at *
    have h1 := valid_rise h hi
    have h2 := valid_bound h hi
    omega) i hi
  simpa [tLo, cHi] using this
theorem lt_tHi {i : Nat} (hi : i < B.bounds.length) : i < tHi B m ↔ bLo B.bounds i ≤ m := by
  have := count_prefix (fun i => decide (bLo B.bounds i ≤ m)) B.bounds.length (fun i hi hp => by
    simp only [decide_eq_true_eq] at *
    have h1 := valid_rise h hi
    have h2 := valid_bound h (i := i) (by omega)
    omega) i hi
  simpa [tHi, cLo] using this
theorem tLo_le_tHi : tLo B m ≤ tHi B m := by
  have hl : tLo B m ≤ B.bounds.length := cHi_le _ _ _
  rcases Nat.eq_zero_or_pos (tLo B m) with h0 | h0
  · omega
  · have hi : tLo B m - 1 < B.bounds.length := by omega
    have h1 := (lt_tLo h m hi).1 (by omega)
    have h2 := valid_bound h hi
    have h3 := (lt_tHi h m hi).2 (by omega)
    omega
theorem tHi_le_succ : tHi B m ≤ tLo B m + 1 := by
  rcases Nat.lt_or_ge (tLo B m + 1) (tHi B m) with hlt | hge
  · have hle := tHi_le h m
    have h1 := (lt_tHi h m (i := tLo B m + 1) (by omega)).1 hlt
    have h2 := valid_rise h (i := tLo B m) (by omega)
    have h3 := (lt_tLo h m (i := tLo B m) (by omega)).2 (by omega)
    omega
  · omega
end

/-! ### Who can have a station -/
/-- The companies of the first so many turns from one on, each once. -/
def dd (xs : List Int) (lo : Nat) : Nat → List Int
  | 0 => []
  | 1 => [nAt xs lo]
  | _ => if nAt xs (lo + 1) = nAt xs lo then [nAt xs lo] else [nAt xs lo, nAt xs (lo + 1)]
def sort2 : List Int → List Int
  | [a, b] => [min a b, max a b]
  | l => l
/-- All companies that can have a station at a minute, increasing. -/
def ownersL (B : Bk) (s : Nat) (m : Int) : List Int := sort2 (dd (oAt B.orders s) (tLo B m) (tHi B m - tLo B m + 1))
theorem dd_cases (xs : List Int) (lo n : Nat) (h1 : 1 ≤ n) (h2 : n ≤ 2) : (dd xs lo n = [nAt xs lo]) ∨ (dd xs lo n = [nAt xs lo, nAt xs (lo + 1)] ∧ nAt xs (lo + 1) ≠ nAt xs lo) := by
  rcases (by omega : n = 1 ∨ n = 2) with rfl | rfl
  · exact .inl rfl
  · unfold dd
    by_cases h : nAt xs (lo + 1) = nAt xs lo
    · rw [if_pos h]; exact .inl rfl
    · rw [if_neg h]; exact .inr ⟨rfl, h⟩
theorem mem_ownersL {B : Bk} (h : validB B = true) (s : Nat) (m c : Int) : c ∈ ownersL B s m ↔ ∃ t, tLo B m ≤ t ∧ t ≤ tHi B m ∧ nAt (oAt B.orders s) t = c := by
  have h1 := tLo_le_tHi h m
  have h2 := tHi_le_succ h m
  unfold ownersL
  rcases (by omega : tHi B m = tLo B m ∨ tHi B m = tLo B m + 1) with e | e
  · rw [e]
    simp only [Nat.sub_self, dd, sort2, List.mem_singleton]
    exact ⟨fun hc => ⟨tLo B m, by omega, by omega, hc.symm⟩, fun ⟨t, a, b, hc⟩ => by rw [← hc, (by omega : t = tLo B m)]⟩
  · rw [e, show tLo B m + 1 - tLo B m + 1 = 2 by omega]
    have key : (c = nAt (oAt B.orders s) (tLo B m) ∨ c = nAt (oAt B.orders s) (tLo B m + 1)) ↔ ∃ t, tLo B m ≤ t ∧ t ≤ tLo B m + 1 ∧ nAt (oAt B.orders s) t = c := by
      constructor
      · rintro (hc | hc)
        · exact ⟨tLo B m, by omega, by omega, hc.symm⟩
        · exact ⟨tLo B m + 1, by omega, by omega, hc.symm⟩
      · rintro ⟨t, a, b, hc⟩
        rcases (by omega : t = tLo B m ∨ t = tLo B m + 1) with rfl | rfl
        · exact .inl hc.symm
        · exact .inr hc.symm
    rw [← key]
    rcases dd_cases (oAt B.orders s) (tLo B m) 2 (by omega) (by omega) with hd | ⟨hd, hne⟩
    · have hq : nAt (oAt B.orders s) (tLo B m + 1) = nAt (oAt B.orders s) (tLo B m) := by
        unfold dd at hd
        by_cases hq : nAt (oAt B.orders s) (tLo B m + 1) = nAt (oAt B.orders s) (tLo B m)
        · exact hq
        · rw [if_neg hq] at hd; simp at hd
      rw [hd, hq]
      simp [sort2]
    · rw [hd]
      simp only [sort2, List.mem_cons, List.not_mem_nil, or_false]
      omega
theorem ownersL_len {B : Bk} (h : validB B = true) (s : Nat) (m : Int) : 1 ≤ (ownersL B s m).length ∧ (ownersL B s m).length ≤ 2 := by
  have h1 := tLo_le_tHi h m
  have h2 := tHi_le_succ h m
  unfold ownersL
  rcases dd_cases (oAt B.orders s) (tLo B m) (tHi B m - tLo B m + 1) (by omega) (by omega) with hd | ⟨hd, hne⟩ <;> rw [hd] <;> simp [sort2]
theorem ownersL_sorted {B : Bk} (h : validB B = true) (s : Nat) (m : Int) : (ownersL B s m).Pairwise (· < ·) := by
  have h1 := tLo_le_tHi h m
  have h2 := tHi_le_succ h m
  unfold ownersL
  rcases dd_cases (oAt B.orders s) (tLo B m) (tHi B m - tLo B m + 1) (by omega) (by omega) with hd | ⟨hd, hne⟩ <;> rw [hd] <;> simp [sort2]
  omega
end Go.Proofs.YtnhdcdhpfgdphaaDoor
