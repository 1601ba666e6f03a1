/-
  On which bound a shot of a known minute hangs.
-/
import Derived.Test.YtnhdcdhpfgdphaaDoorP5
set_option linter.unusedSimpArgs false
set_option linter.unusedVariables false
namespace Go.Proofs.YtnhdcdhpfgdphaaDoor
open Go Go.RowKit

section
variable {B : Bk} (hv : validB B = true)
include hv
theorem truth_set {t : Q4} (ht : t ∈ truthsL B) {k : Nat} (hk : k < B.bounds.length) {v : Int} (h1 : bLo B.bounds k ≤ v) (h2 : v ≤ bHi B.bounds k) : setQ t k v ∈ truthsL B := by
  have h4 := (valid_sizes hv).2.2.2.2.1
  rw [mem_truths hv] at ht ⊢
  refine ⟨fun i hi hn => ?_, fun i hi => ?_⟩
  · rw [nAt_setQ t (by omega), if_neg (by omega)]; exact ht.1 i hi hn
  · rw [nAt_setQ t (by omega)]
    by_cases hik : i = k
    · subst hik; rw [if_pos rfl]; exact ⟨h1, h2⟩
    · rw [if_neg hik]; exact ht.2 i hi
theorem turn_at {t : Q4} (ht : t ∈ truthsL B) (m : Int) : cT (q4L t) m B.bounds.length = if tLo B m = tHi B m then tLo B m else if nAt (q4L t) (tLo B m) ≤ m then tLo B m + 1 else tLo B m := by
  have hb := truth_in hv ht
  obtain ⟨h1, h2⟩ := cT_in hv hb m
  have h3 := tHi_le_succ hv m
  by_cases he : tLo B m = tHi B m
  · rw [if_pos he]; omega
  · rw [if_neg he]
    have hlt : tLo B m < B.bounds.length := by have := tHi_le hv m; omega
    have h4 := lt_cT hv hb m hlt
    by_cases hn : nAt (q4L t) (tLo B m) ≤ m
    · rw [if_pos hn]; have := h4.2 hn; omega
    · rw [if_neg hn]
      have : ¬ (tLo B m < cT (q4L t) m B.bounds.length) := fun hh => hn (h4.1 hh)
      omega
theorem hang_none {x : Sh} {m : Int} (h1 : x.lo = m) (h2 : x.hi = m) (r : Bool) (hr : ∀ t ∈ truthsL B, fitX B t x m = r) : fairN B x ≠ 1 ∧ ∀ k, k < B.bounds.length → hangB B x k = false := by
  constructor
  · cases r with
    | true =>
      have : fairN B x = 2 := (fair_two hv (by omega)).2 fun t ht mm l1 l2 => by rw [show mm = m by omega]; exact hr t ht
      omega
    | false =>
      have : fairN B x = 0 := (fair_zero hv (by omega)).2 fun t ht mm l1 l2 => by rw [show mm = m by omega]; exact hr t ht
      omega
  · intro k hk
    cases hh : hangB B x k with
    | false => rfl
    | true =>
      obtain ⟨t, ht, e, n, hn, j, hj, hf⟩ := (hang_iff B x k).1 hh
      exfalso
      apply hf
      have hn0 : x.lo + (n : Int) = m := by unfold widX at hn; omega
      unfold wid at hj
      rw [hn0, hr t ht, hr _ (truth_set hv ht hk (by omega) (by omega))]
theorem quarrel {x : Sh} {m : Int} (h1 : x.lo = m) (h2 : x.hi = m) :
    (fairN B x ≠ 1 ∧ ∀ k, k < B.bounds.length → hangB B x k = false) ∨
    (fairN B x = 1 ∧ ∃ p, p < B.bounds.length ∧ bLo B.bounds p ≤ m ∧ m < bHi B.bounds p ∧ (∀ k, k < B.bounds.length → (hangB B x k = true ↔ k = p)) ∧
      (∃ r : Bool, ∀ t ∈ truthsL B, fitX B t x m = if nAt (q4L t) p ≤ m then r else !r)) := by
  obtain ⟨row, hrow⟩ : ∃ row, oAt B.orders x.st.toNat = row := ⟨_, rfl⟩
  have hfit : ∀ t, fitX B t x m = decide (nAt row (cT (q4L t) m B.bounds.length) = x.co) := fun t => by
    rw [Bool.eq_iff_iff, fit_iff, hrow, decide_eq_true_iff]
  by_cases he : tLo B m = tHi B m
  · left
    refine hang_none hv h1 h2 (decide (nAt row (tLo B m) = x.co)) fun t ht => ?_
    rw [hfit, turn_at hv ht, if_pos he]
  · obtain ⟨p, hp⟩ : ∃ p, tLo B m = p := ⟨_, rfl⟩
    have hle := tLo_le_tHi hv m
    have h4 := (valid_sizes hv).2.2.2.2.1
    have hpl : p < B.bounds.length := by have := tHi_le hv m; omega
    have hlo : bLo B.bounds p ≤ m := (lt_tHi hv m hpl).1 (by omega)
    have hhi : m < bHi B.bounds p := by
      have : ¬ (bHi B.bounds p ≤ m) := fun h => by have := (lt_tLo hv m hpl).2 h; omega
      omega
    have hturn : ∀ t ∈ truthsL B, fitX B t x m = if nAt (q4L t) p ≤ m then decide (nAt row (p + 1) = x.co) else decide (nAt row p = x.co) := fun t ht => by
      rw [hfit, turn_at hv ht, if_neg he, hp]
      by_cases hn : nAt (q4L t) p ≤ m
      · rw [if_pos hn, if_pos hn]
      · rw [if_neg hn, if_neg hn]
    by_cases hs : decide (nAt row (p + 1) = x.co) = decide (nAt row p = x.co)
    · left
      refine hang_none hv h1 h2 (decide (nAt row p = x.co)) fun t ht => ?_
      rw [hturn t ht, hs]
      split <;> rfl
    · right
      obtain ⟨r, hr⟩ : ∃ r, decide (nAt row (p + 1) = x.co) = r := ⟨_, rfl⟩
      have hr2 : decide (nAt row p = x.co) = !r := by
        rw [hr] at hs
        cases r <;> cases hq : decide (nAt row p = x.co) <;> simp_all
      have hT : ∀ t ∈ truthsL B, fitX B t x m = if nAt (q4L t) p ≤ m then r else !r := fun t ht => by rw [hturn t ht, hr, hr2]
      obtain ⟨t, ht, hte⟩ := truth_of hv (fun i => bLo B.bounds i) (fun i hi => ⟨Int.le_refl _, (valid_bound hv hi).2.1⟩)
      have htp := hte p hpl
      have ht2 : setQ t p (bHi B.bounds p) ∈ truthsL B := truth_set hv ht hpl (by omega) (Int.le_refl _)
      have hn2 : nAt (q4L (setQ t p (bHi B.bounds p))) p = bHi B.bounds p := by rw [nAt_setQ t (by omega), if_pos rfl]
      have hf1 : fitX B t x m = r := by rw [hT t ht, if_pos (by omega)]
      have hf2 : fitX B (setQ t p (bHi B.bounds p)) x m = !r := by rw [hT _ ht2, if_neg (by omega)]
      refine ⟨?_, p, hpl, hlo, hhi, fun k hk => ⟨fun hh => ?_, fun e => ?_⟩, r, hT⟩
      · have hrg := fair_range B x
        have n2 : fairN B x ≠ 2 := fun e => by
          have a := (fair_two hv (by omega)).1 e t ht m (by omega) (by omega)
          have b := (fair_two hv (by omega)).1 e _ ht2 m (by omega) (by omega)
          rw [hf1] at a; rw [hf2, a] at b; cases b
        have n0 : fairN B x ≠ 0 := fun e => by
          have a := (fair_zero hv (by omega)).1 e t ht m (by omega) (by omega)
          have b := (fair_zero hv (by omega)).1 e _ ht2 m (by omega) (by omega)
          rw [hf1] at a; rw [hf2, a] at b; cases b
        omega
      · obtain ⟨t', ht', e, n, hn, j, hj, hf⟩ := (hang_iff B x k).1 hh
        have hn0 : x.lo + (n : Int) = m := by unfold widX at hn; omega
        unfold wid at hj
        rw [hn0, hT t' ht', hT _ (truth_set hv ht' hk (by omega) (by omega)), nAt_setQ t' (by omega)] at hf
        by_cases hkp : k = p
        · exact hkp
        · rw [if_neg (Ne.symm hkp)] at hf
          exact absurd rfl hf
      · subst e
        refine (hang_iff B x k).2 ⟨t, ht, htp, 0, by unfold widX; omega, (bHi B.bounds k - bLo B.bounds k).toNat, by unfold wid; omega, ?_⟩
        have e1 : bLo B.bounds k + ((bHi B.bounds k - bLo B.bounds k).toNat : Int) = bHi B.bounds k := by omega
        have e2 : x.lo + ((0 : Nat) : Int) = m := by simp [h1]
        rw [e1, e2, hf1, hf2]
        cases r <;> simp
end
theorem hangsI_nil {B : Bk} {x : Sh} {n : Nat} (h : ∀ k, k < n → hangB B x k = false) : hangsI B x n = [] := by
  unfold hangsI
  rw [List.map_eq_nil_iff, List.filter_eq_nil_iff]
  intro k hk
  rw [h k (List.mem_range.1 hk)]
  simp
theorem hangsI_one {B : Bk} {x : Sh} {p : Nat} : ∀ n, (∀ k, k < n → (hangB B x k = true ↔ k = p)) → hangsI B x n = if p < n then [(p : Int)] else [] := by
  intro n
  induction n with
  | zero => intro _; rfl
  | succ n ih =>
    intro h
    rw [hangsI_succ, ih (fun k hk => h k (by omega))]
    have hn := h n (by omega)
    by_cases he : n = p
    · subst he
      rw [if_pos (hn.2 rfl), if_neg (by omega), if_pos (by omega)]
      rfl
    · have : hangB B x n = false := by
        cases hh : hangB B x n with
        | false => rfl
        | true => exact absurd (hn.1 hh) he
      rw [this]
      simp only [Bool.false_eq_true, if_false]
      by_cases hp : p < n
      · rw [if_pos hp, if_pos (by omega)]
      · rw [if_neg hp, if_neg (by omega)]

/-- What the law says of a shot of a known minute. -/
theorem hangs_law {B : Bk} (hv : validB B = true) {k : Nat} (hk : k < B.shots.length) {m : Int} (h1 : (sAt B.shots k).lo ≤ m) (h2 : m ≤ (sAt B.shots k).hi) :
    (fairN (onlyB B k m) (atX (sAt B.shots k) m) ≠ 1 ∧ hangsI (onlyB B k m) (atX (sAt B.shots k) m) B.bounds.length = []) ∨
    (fairN (onlyB B k m) (atX (sAt B.shots k) m) = 1 ∧ ∃ p, p < B.bounds.length ∧ bLo B.bounds p ≤ m ∧ m < bHi B.bounds p ∧ hangsI (onlyB B k m) (atX (sAt B.shots k) m) B.bounds.length = [(p : Int)] ∧
      0 ≤ placeL (hangsI B (sAt B.shots k) B.bounds.length) p ∧
      ((fairN (knownB (onlyB B k m) p (bLo B.bounds p)) (atX (sAt B.shots k) m) = 2 ∧ fairN (knownB (onlyB B k m) p (bHi B.bounds p)) (atX (sAt B.shots k) m) = 0) ∨
       (fairN (knownB (onlyB B k m) p (bLo B.bounds p)) (atX (sAt B.shots k) m) = 0 ∧ fairN (knownB (onlyB B k m) p (bHi B.bounds p)) (atX (sAt B.shots k) m) = 2))) := by
  have hX := (only_tight hv hk h1 h2).valid
  have hbo : (onlyB B k m).bounds = B.bounds := rfl
  rcases quarrel hX (x := atX (sAt B.shots k) m) (m := m) rfl rfl with ⟨a, b⟩ | ⟨a, p, hp, b, c, d, r, e⟩
  · exact .inl ⟨a, hangsI_nil b⟩
  · right
    rw [hbo] at hp b c d
    have hpv := valid_bound hv hp
    have hoL : hangsI (onlyB B k m) (atX (sAt B.shots k) m) B.bounds.length = [(p : Int)] := by rw [hangsI_one _ d, if_pos hp]
    refine ⟨a, p, hp, b, c, hoL, ?_, ?_⟩
    · rw [placeL_in]
      unfold hangsI
      refine List.mem_map.2 ⟨p, List.mem_filter.2 ⟨List.mem_range.2 hp, ?_⟩, rfl⟩
      obtain ⟨t, ht, e1, n, hn, j, hj, hf⟩ := (hang_iff _ _ _).1 ((d p hp).2 rfl)
      refine (hang_iff B _ p).2 ⟨t, ht, e1, (m - (sAt B.shots k).lo).toNat, by unfold widX; omega, j, hj, ?_⟩
      have e2 : (sAt B.shots k).lo + ((m - (sAt B.shots k).lo).toNat : Int) = m := by omega
      have e3 : (atX (sAt B.shots k) m).lo + (n : Int) = m := by
        have : (atX (sAt B.shots k) m).lo = m := rfl
        have h3 : (atX (sAt B.shots k) m).hi = m := rfl
        unfold widX at hn
        omega
      rw [e2]
      rw [e3] at hf
      exact hf
    · have hk1 := fun v (l1 : bLo B.bounds p ≤ v) (l2 : v ≤ bHi B.bounds p) => known_truth hX (k := p) hp (m := v) l1 l2
      have hkv := fun v (l1 : bLo B.bounds p ≤ v) (l2 : v ≤ bHi B.bounds p) => known_valid hX (k := p) hp (m := v) l1 l2
      have hfx : ∀ v t, fitX (knownB (onlyB B k m) p v) t (atX (sAt B.shots k) m) m = fitX (onlyB B k m) t (atX (sAt B.shots k) m) m := fun v t => fit_same (X := knownB (onlyB B k m) p v) (B := onlyB B k m) rfl (by simp [knownB]) t _ _ rfl rfl m
      have hlow : ∀ t ∈ truthsL (knownB (onlyB B k m) p (bLo B.bounds p)), fitX (knownB (onlyB B k m) p (bLo B.bounds p)) t (atX (sAt B.shots k) m) m = r := fun t ht => by
        obtain ⟨ht1, ht2⟩ := (hk1 _ (Int.le_refl _) hpv.2.1 t).1 ht
        rw [hfx, e t ht1, if_pos (by omega)]
      have hhigh : ∀ t ∈ truthsL (knownB (onlyB B k m) p (bHi B.bounds p)), fitX (knownB (onlyB B k m) p (bHi B.bounds p)) t (atX (sAt B.shots k) m) m = !r := fun t ht => by
        obtain ⟨ht1, ht2⟩ := (hk1 _ hpv.2.1 (Int.le_refl _) t).1 ht
        rw [hfx, e t ht1, if_neg (by omega)]
      have two : ∀ Y, validB Y = true → (∀ t ∈ truthsL Y, fitX Y t (atX (sAt B.shots k) m) m = true) → fairN Y (atX (sAt B.shots k) m) = 2 := fun Y hy hh => (fair_two hy (Int.le_refl _)).2 fun t ht mm l1 l2 => by
        have : mm = m := Int.le_antisymm l2 l1
        rw [this]; exact hh t ht
      have zero : ∀ Y, validB Y = true → (∀ t ∈ truthsL Y, fitX Y t (atX (sAt B.shots k) m) m = false) → fairN Y (atX (sAt B.shots k) m) = 0 := fun Y hy hh => (fair_zero hy (Int.le_refl _)).2 fun t ht mm l1 l2 => by
        have : mm = m := Int.le_antisymm l2 l1
        rw [this]; exact hh t ht
      have v1 := hkv _ (Int.le_refl _) hpv.2.1
      have v2 := hkv _ hpv.2.1 (Int.le_refl _)
      cases r with
      | true => exact .inl ⟨two _ v1 hlow, zero _ v2 hhigh⟩
      | false => exact .inr ⟨zero _ v1 hlow, two _ v2 hhigh⟩
end Go.Proofs.YtnhdcdhpfgdphaaDoor
