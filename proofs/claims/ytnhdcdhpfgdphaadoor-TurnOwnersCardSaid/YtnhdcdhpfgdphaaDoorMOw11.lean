/-
  The runs of minutes at which a company surely has a station: plain facts.
-/
import Derived.Test.YtnhdcdhpfgdphaaDoorMOw8
import Derived.Test.YtnhdcdhpfgdphaaDoorMOw1
import Derived.Test.YtnhdcdhpfgdphaaDoorMOw10
import Derived.Test.YtnhdcdhpfgdphaaDoorMOw9
set_option linter.unusedSimpArgs false
set_option linter.unusedVariables false
namespace Go.Proofs.YtnhdcdhpfgdphaaDoor
open Go

theorem tLo_mono {B : Bk} (h : validB B = true) {m n : Int} (hmn : m ≤ n) : tLo B m ≤ tLo B n := by
  rcases Nat.lt_or_ge (tLo B n) (tLo B m) with hlt | hge
  · have hl : tLo B m ≤ B.bounds.length := cHi_le _ _ _
    have h1 := (lt_tLo h m (i := tLo B n) (by omega)).1 hlt
    have h2 := (lt_tLo h n (i := tLo B n) (by omega)).2 (by omega)
    omega
  · exact hge
theorem tHi_mono {B : Bk} (h : validB B = true) {m n : Int} (hmn : m ≤ n) : tHi B m ≤ tHi B n := by
  rcases Nat.lt_or_ge (tHi B n) (tHi B m) with hlt | hge
  · have hl : tHi B m ≤ B.bounds.length := cLo_le _ _ _
    have h1 := (lt_tHi h m (i := tHi B n) (by omega)).1 hlt
    have h2 := (lt_tHi h n (i := tHi B n) (by omega)).2 (by omega)
    omega
  · exact hge
theorem sure_iff {B : Bk} (h : validB B = true) (s : Nat) (c m : Int) : sureAt B s c m = true ↔ ∀ t, tLo B m ≤ t → t ≤ tHi B m → nAt (oAt B.orders s) t = c := by
  have hm := mem_ownersL h s m
  have hl := ownersL_len h s m
  have hs := ownersL_sorted h s m
  unfold sureAt
  rw [decide_eq_true_iff]
  constructor
  · intro e t h1 h2
    have := (hm (nAt (oAt B.orders s) t)).2 ⟨t, h1, h2, rfl⟩
    rw [e] at this
    simpa using this
  · intro ha
    have hall : ∀ x ∈ ownersL B s m, x = c := fun x hx => by
      obtain ⟨t, h1, h2, rfl⟩ := (hm x).1 hx
      exact ha t h1 h2
    rcases hq : ownersL B s m with _ | ⟨x, _ | ⟨y, r⟩⟩
    · rw [hq] at hl; simp at hl
    · rw [hq] at hall
      rw [hall x (by simp)]
    · rw [hq] at hall hs
      have h1 := hall x (by simp)
      have h2 := hall y (by simp)
      have h3 := (List.pairwise_cons.1 hs).1 y (by simp)
      omega

theorem bLo_append {L : List (Int × Int)} {p : Int × Int} (i : Nat) : bLo (L ++ [p]) i = if i < L.length then bLo L i else if i = L.length then p.1 else 0 := by
  unfold bLo
  by_cases h : i < L.length
  · simp [List.getD, h, List.getElem?_append_left h]
  · by_cases h2 : i = L.length
    · subst h2; simp [List.getD]
    · rw [if_neg h, if_neg h2]
      have : (L ++ [p])[i]? = none := List.getElem?_eq_none (by simp; omega)
      simp [List.getD, this]
theorem bHi_append {L : List (Int × Int)} {p : Int × Int} (i : Nat) : bHi (L ++ [p]) i = if i < L.length then bHi L i else if i = L.length then p.2 else 0 := by
  unfold bHi
  by_cases h : i < L.length
  · simp [List.getD, h, List.getElem?_append_left h]
  · by_cases h2 : i = L.length
    · subst h2; simp [List.getD]
    · rw [if_neg h, if_neg h2]
      have : (L ++ [p])[i]? = none := List.getElem?_eq_none (by simp; omega)
      simp [List.getD, this]
theorem addLast_length {L : List (Int × Int)} (h : 0 < L.length) (m : Int) : (addLast L m).length = L.length := by simp [addLast]; omega
theorem bLo_addLast {L : List (Int × Int)} (h : 0 < L.length) (m : Int) {i : Nat} (hi : i < L.length) : bLo (addLast L m) i = bLo L i := by
  have hne : L ≠ [] := by intro e; rw [e] at h; simp at h
  have e0 : L = L.dropLast ++ [L.getLast hne] := (List.dropLast_concat_getLast hne).symm
  have hg : L.getLastD (0, 0) = L.getLast hne := by rw [List.getLastD_eq_getLast?, List.getLast?_eq_some_getLast hne]; rfl
  unfold addLast
  rw [hg, bLo_append]
  conv => rhs; rw [e0, bLo_append]
theorem bHi_addLast {L : List (Int × Int)} (h : 0 < L.length) (m : Int) {i : Nat} (hi : i < L.length) : bHi (addLast L m) i = if i = L.length - 1 then m else bHi L i := by
  have hne : L ≠ [] := by intro e; rw [e] at h; simp at h
  have e0 : L = L.dropLast ++ [L.getLast hne] := (List.dropLast_concat_getLast hne).symm
  have hdl : L.dropLast.length = L.length - 1 := by simp
  unfold addLast
  rw [bHi_append, hdl]
  by_cases hq : i = L.length - 1
  · rw [if_neg (by omega), if_pos hq, if_pos hq]
  · rw [if_pos (by omega), if_neg hq]
    conv => rhs; rw [e0, bHi_append, hdl, if_pos (show i < L.length - 1 by omega)]

/-- What holds of the runs of the first k minutes. -/
structure RunsInv (B : Bk) (s : Nat) (c : Int) (k : Nat) (R : List (Int × Int) × Bool) : Prop where
  ends : ∀ i, i < R.1.length → 0 ≤ bLo R.1 i ∧ bLo R.1 i ≤ bHi R.1 i ∧ bHi R.1 i < k
  gaps : ∀ i, i + 1 < R.1.length → bHi R.1 i + 2 ≤ bLo R.1 (i + 1)
  mem : ∀ n : Nat, n < k → (sureAt B s c n = true ↔ ∃ i, i < R.1.length ∧ bLo R.1 i ≤ n ∧ (n : Int) ≤ bHi R.1 i)
  go : R.2 = true → 0 < R.1.length ∧ bHi R.1 (R.1.length - 1) = (k : Int) - 1 ∧ 0 < k
  rest : R.2 = false → ∀ i, i < R.1.length → bHi R.1 i + 1 < k
theorem runs_inv (B : Bk) (s : Nat) (c : Int) (k : Nat) : RunsInv B s c k (runsK B s c k) := by
  induction k with
  | zero => exact ⟨fun i hi => by simp [runsK] at hi, fun i hi => by simp [runsK] at hi, fun n hn => by omega, fun h => by simp [runsK] at h, fun _ i hi => by simp [runsK] at hi⟩
  | succ k ih =>
    rw [runsK_succ]
    obtain ⟨R, hR⟩ : ∃ R, R = runsK B s c k := ⟨_, rfl⟩
    rw [← hR] at ih ⊢
    obtain ⟨L, g⟩ := R
    obtain ⟨h1, h2, h3, h4, h5⟩ := ih
    dsimp only at h1 h2 h3 h4 h5
    unfold runStep
    cases hs : sureAt B s c k with
    | false =>
      simp only [Bool.false_eq_true, if_false]
      refine ⟨fun i hi => ?_, h2, fun n hn => ?_, fun h => (by cases h), fun _ i hi => ?_⟩
      · have := h1 i hi; dsimp only at *; omega
      · rcases (by omega : n < k ∨ n = k) with h | rfl
        · exact h3 n h
        · rw [hs]
          refine ⟨fun h => (by cases h), fun ⟨i, hi, a, b⟩ => ?_⟩
          have := h1 i hi
          dsimp only at *
          omega
      · have := h1 i hi; dsimp only at *; omega
    | true =>
      cases g with
      | false =>
        simp only [if_true, Bool.false_eq_true, if_false]
        have hr := h5 rfl
        have hlen : (L ++ [((k : Int), (k : Int))]).length = L.length + 1 := by simp
        refine ⟨fun i hi => ?_, fun i hi => ?_, fun n hn => ?_, fun _ => ⟨by simp, ?_, by omega⟩, fun h => by cases h⟩
        · dsimp only at *
          rw [bLo_append, bHi_append]
          by_cases hq : i < L.length
          · rw [if_pos hq, if_pos hq]; have := h1 i hq; omega
          · have hq2 : i = L.length := by omega
            simp only [hq2, Nat.lt_irrefl, if_false, if_true]
            omega
        · dsimp only at *
          rw [bLo_append, bHi_append, if_pos (by omega)]
          by_cases hq : i + 1 < L.length
          · rw [if_pos hq]; exact h2 i hq
          · rw [if_neg hq, if_pos (by omega)]; have := hr i (by omega); dsimp only; omega
        · dsimp only at *
          rcases (by omega : n < k ∨ n = k) with h | rfl
          · rw [h3 n h]
            constructor
            · rintro ⟨i, hi, a, b⟩
              exact ⟨i, by omega, by rw [bLo_append, if_pos hi]; exact a, by rw [bHi_append, if_pos hi]; exact b⟩
            · rintro ⟨i, hi, a, b⟩
              rw [bLo_append] at a
              rw [bHi_append] at b
              by_cases hq : i < L.length
              · rw [if_pos hq] at a b; exact ⟨i, hq, a, b⟩
              · rw [if_neg hq, if_pos (by omega)] at a b; dsimp only at a b; omega
          · rw [hs]
            refine ⟨fun _ => ⟨L.length, by omega, ?_, ?_⟩, fun _ => rfl⟩
            · rw [bLo_append, if_neg (by omega), if_pos rfl]; exact Int.le_refl _
            · rw [bHi_append, if_neg (by omega), if_pos rfl]; exact Int.le_refl _
        · dsimp only
          rw [hlen, bHi_append, if_neg (by omega), if_pos (by omega)]
          dsimp only
          omega
      | true =>
        simp only [if_true]
        obtain ⟨g1, g2, g3⟩ := h4 rfl
        have hlen := addLast_length g1 (k : Int)
        refine ⟨fun i hi => ?_, fun i hi => ?_, fun n hn => ?_, fun _ => ⟨by dsimp only; omega, ?_, by omega⟩, fun h => by cases h⟩
        · dsimp only at *
          have hi' : i < L.length := by omega
          rw [bLo_addLast g1 _ hi', bHi_addLast g1 _ hi']
          have := h1 i hi'
          split <;> omega
        · dsimp only at *
          have hi' : i + 1 < L.length := by omega
          rw [bLo_addLast g1 _ hi', bHi_addLast g1 _ (by omega), if_neg (by omega)]
          exact h2 i hi'
        · dsimp only at *
          rcases (by omega : n < k ∨ n = k) with h | rfl
          · rw [h3 n h]
            constructor
            · rintro ⟨i, hi, a, b⟩
              refine ⟨i, by omega, by rw [bLo_addLast g1 _ hi]; exact a, ?_⟩
              rw [bHi_addLast g1 _ hi]
              split <;> omega
            · rintro ⟨i, hi, a, b⟩
              have hi' : i < L.length := by omega
              rw [bLo_addLast g1 _ hi'] at a
              rw [bHi_addLast g1 _ hi'] at b
              refine ⟨i, hi', a, ?_⟩
              split at b
              · rename_i hq; rw [hq, g2]; omega
              · exact b
          · rw [hs]
            refine ⟨fun _ => ⟨L.length - 1, by omega, ?_, ?_⟩, fun _ => rfl⟩
            · rw [bLo_addLast g1 _ (by omega)]
              have := h1 (L.length - 1) (by omega)
              omega
            · rw [bHi_addLast g1 _ (by omega), if_pos rfl]; exact Int.le_refl _
        · dsimp only
          rw [hlen, bHi_addLast g1 _ (by omega), if_pos rfl]
          omega

section
variable {B : Bk} {s : Nat} {c : Int}
theorem run_ends {i : Nat} (hi : i < (runsL B s c).length) : 0 ≤ bLo (runsL B s c) i ∧ bLo (runsL B s c) i ≤ bHi (runsL B s c) i ∧ bHi (runsL B s c) i < 1440 := (runs_inv B s c 1440).ends i hi
theorem run_gap {i : Nat} (hi : i + 1 < (runsL B s c).length) : bHi (runsL B s c) i + 2 ≤ bLo (runsL B s c) (i + 1) := (runs_inv B s c 1440).gaps i hi
theorem run_mem {n : Nat} (hn : n < 1440) : sureAt B s c n = true ↔ ∃ i, i < (runsL B s c).length ∧ bLo (runsL B s c) i ≤ n ∧ (n : Int) ≤ bHi (runsL B s c) i := (runs_inv B s c 1440).mem n hn
theorem run_far {i j : Nat} (hij : i < j) (hj : j < (runsL B s c).length) : bHi (runsL B s c) i + 2 ≤ bLo (runsL B s c) j := by
  induction j with
  | zero => omega
  | succ j ih =>
    have h1 := run_gap (B := B) (s := s) (c := c) hj
    rcases (by omega : i < j ∨ i = j) with h | rfl
    · have h2 := ih h (by omega)
      have h3 := run_ends (B := B) (s := s) (c := c) (i := j) (by omega)
      omega
    · exact h1
/-- At the ends of a run the company surely has the station; just outside of it not. -/
theorem run_edges {i : Nat} (hi : i < (runsL B s c).length) : sureAt B s c (bLo (runsL B s c) i) = true ∧ sureAt B s c (bHi (runsL B s c) i) = true ∧
    (0 ≤ bLo (runsL B s c) i - 1 → sureAt B s c (bLo (runsL B s c) i - 1) = false) ∧ (bHi (runsL B s c) i + 1 ≤ 1439 → sureAt B s c (bHi (runsL B s c) i + 1) = false) := by
  obtain ⟨h1, h2, h3⟩ := run_ends hi
  have key : ∀ n : Int, 0 ≤ n → n < 1440 → (sureAt B s c n = true ↔ ∃ i, i < (runsL B s c).length ∧ bLo (runsL B s c) i ≤ n ∧ n ≤ bHi (runsL B s c) i) := fun n a b => by
    have := run_mem (B := B) (s := s) (c := c) (n := n.toNat) (by omega)
    rwa [show ((n.toNat : Nat) : Int) = n by omega] at this
  refine ⟨(key _ h1 (by omega)).2 ⟨i, hi, Int.le_refl _, h2⟩, (key _ (by omega) h3).2 ⟨i, hi, h2, Int.le_refl _⟩, fun h => ?_, fun h => ?_⟩
  · cases hq : sureAt B s c (bLo (runsL B s c) i - 1) with
    | false => rfl
    | true =>
      obtain ⟨j, hj, a, b⟩ := (key _ h (by omega)).1 hq
      rcases (by omega : j < i ∨ j = i ∨ i < j) with h' | rfl | h'
      · have := run_far (B := B) (s := s) (c := c) h' hi; omega
      · omega
      · have := run_far (B := B) (s := s) (c := c) h' hj; omega
  · cases hq : sureAt B s c (bHi (runsL B s c) i + 1) with
    | false => rfl
    | true =>
      obtain ⟨j, hj, a, b⟩ := (key _ (by omega) (by omega)).1 hq
      rcases (by omega : j < i ∨ j = i ∨ i < j) with h' | rfl | h'
      · have := run_far (B := B) (s := s) (c := c) h' hi; omega
      · omega
      · have := run_far (B := B) (s := s) (c := c) h' hj; omega
/-- There are no more runs than turns. -/
theorem run_count (hv : validB B = true) : (runsL B s c).length ≤ B.bounds.length + 1 := by
  have key : ∀ i, i < (runsL B s c).length → i ≤ tLo B (bLo (runsL B s c) i) := by
    intro i
    induction i with
    | zero => intro _; omega
    | succ i ih =>
      intro hi
      have h0 := ih (by omega)
      obtain ⟨e1, e2, e3⟩ := run_ends (B := B) (s := s) (c := c) (i := i) (by omega)
      obtain ⟨f1, f2, f3⟩ := run_ends (B := B) (s := s) (c := c) (i := i + 1) hi
      have hg := run_gap (B := B) (s := s) (c := c) hi
      obtain ⟨s1, _, _, s4⟩ := run_edges (B := B) (s := s) (c := c) (i := i) (by omega)
      obtain ⟨s5, _, _, _⟩ := run_edges (B := B) (s := s) (c := c) (i := i + 1) hi
      have hno := s4 (by omega)
      rw [sure_iff hv] at s1 s5
      have m1 := tLo_mono hv (m := bLo (runsL B s c) i) (n := bHi (runsL B s c) i + 1) (by omega)
      have m2 := tLo_mono hv (m := bHi (runsL B s c) i + 1) (n := bLo (runsL B s c) (i + 1)) (by omega)
      have m3 := tHi_mono hv (m := bHi (runsL B s c) i + 1) (n := bLo (runsL B s c) (i + 1)) (by omega)
      rcases Nat.lt_or_ge (tLo B (bLo (runsL B s c) i)) (tLo B (bLo (runsL B s c) (i + 1))) with hlt | hge
      · omega
      · exfalso
        have hyes : sureAt B s c (bHi (runsL B s c) i + 1) = true := by
          rw [sure_iff hv]
          intro t h1 h2
          exact s5 t (by omega) (by omega)
        rw [hyes] at hno
        cases hno
  rcases Nat.eq_zero_or_pos (runsL B s c).length with h0 | h0
  · omega
  · have h1 := key ((runsL B s c).length - 1) (by omega)
    have h2 : tLo B (bLo (runsL B s c) ((runsL B s c).length - 1)) ≤ B.bounds.length := cHi_le _ _ _
    omega
end
end Go.Proofs.YtnhdcdhpfgdphaaDoor

/-
  Truths, and the fewest shots that cannot be fair: plain facts.
-/
set_option linter.unusedSimpArgs false
set_option linter.unusedVariables false
namespace Go.Proofs.YtnhdcdhpfgdphaaDoor
open Go

/-! ### Truths -/
theorem nAt_setQ (t : Q4) {k : Nat} (hk : k < 4) (v : Int) (i : Nat) : nAt (q4L (setQ t k v)) i = if i = k then v else nAt (q4L t) i := by
  rcases (by omega : k = 0 ∨ k = 1 ∨ k = 2 ∨ k = 3) with rfl | rfl | rfl | rfl <;> rcases i with _ | _ | _ | _ | i <;> simp [nAt, q4L, setQ]
theorem q4_ext {s t : Q4} (h : ∀ i, i < 4 → nAt (q4L s) i = nAt (q4L t) i) : s = t := by
  obtain ⟨a, b, c, d⟩ := s
  obtain ⟨x, y, z, u⟩ := t
  have h0 := h 0 (by omega)
  have h1 := h 1 (by omega)
  have h2 := h 2 (by omega)
  have h3 := h 3 (by omega)
  simp [nAt, q4L] at h0 h1 h2 h3
  subst h0 h1 h2 h3
  rfl
theorem mem_gen (bs : List (Int × Int)) : ∀ (d k : Nat) (t q : Q4), k + d ≤ 4 → (q ∈ gen bs d k t ↔ (∀ i, i < 4 → (i < k ∨ k + d ≤ i) → nAt (q4L q) i = nAt (q4L t) i) ∧ ∀ i, k ≤ i → i < k + d → bLo bs i ≤ nAt (q4L q) i ∧ nAt (q4L q) i ≤ bHi bs i)
  | 0, k, t, q, _ => by
    simp only [gen, List.mem_singleton]
    constructor
    · rintro rfl
      exact ⟨fun _ _ _ => rfl, fun i a b => by omega⟩
    · rintro ⟨h, _⟩
      exact q4_ext fun i hi => h i hi (by omega)
  | d + 1, k, t, q, hd => by
    simp only [gen, List.mem_flatMap, List.mem_range]
    constructor
    · rintro ⟨n, hn, hq⟩
      obtain ⟨h1, h2⟩ := (mem_gen bs d (k + 1) _ q (by omega)).1 hq
      have hk := h1 k (by omega) (by omega)
      rw [nAt_setQ t (by omega), if_pos rfl] at hk
      refine ⟨fun i hi hik => ?_, fun i a b => ?_⟩
      · have := h1 i hi (by omega)
        rwa [nAt_setQ t (by omega), if_neg (by omega)] at this
      · rcases (by omega : i = k ∨ k + 1 ≤ i) with rfl | h
        · omega
        · exact h2 i h (by omega)
    · rintro ⟨h1, h2⟩
      have hk := h2 k (by omega) (by omega)
      refine ⟨(nAt (q4L q) k - bLo bs k).toNat, by omega, (mem_gen bs d (k + 1) _ q (by omega)).2 ⟨fun i hi hik => ?_, fun i a b => h2 i (by omega) (by omega)⟩⟩
      rw [nAt_setQ t (by omega)]
      split
      · rename_i e; subst e; omega
      · exact h1 i hi (by omega)
theorem mem_truths {B : Bk} (hv : validB B = true) (t : Q4) : t ∈ truthsL B ↔ (∀ i, i < 4 → B.bounds.length ≤ i → nAt (q4L t) i = 0) ∧ ∀ i, i < B.bounds.length → bLo B.bounds i ≤ nAt (q4L t) i ∧ nAt (q4L t) i ≤ bHi B.bounds i := by
  have h4 := (valid_sizes hv).2.2.2.2.1
  unfold truthsL
  rw [mem_gen _ _ _ _ _ (by omega)]
  have hz : ∀ i, nAt (q4L ((0, 0, 0, 0) : Q4)) i = 0 := fun i => by rcases i with _ | _ | _ | _ | i <;> simp [nAt, q4L]
  constructor
  · rintro ⟨h1, h2⟩
    exact ⟨fun i hi hl => by rw [h1 i hi (by omega), hz], fun i hi => h2 i (by omega) (by omega)⟩
  · rintro ⟨h1, h2⟩
    refine ⟨fun i hi hl => by rw [hz, h1 i hi (by omega)], fun i _ hi => h2 i (by omega)⟩
/-- There is a truth with whatever minutes. -/
theorem truth_of {B : Bk} (hv : validB B = true) (f : Nat → Int) (hf : ∀ i, i < B.bounds.length → bLo B.bounds i ≤ f i ∧ f i ≤ bHi B.bounds i) : ∃ t ∈ truthsL B, ∀ i, i < B.bounds.length → nAt (q4L t) i = f i := by
  have h4 := (valid_sizes hv).2.2.2.2.1
  let g : Nat → Int := fun i => if i < B.bounds.length then f i else 0
  refine ⟨(g 0, g 1, g 2, g 3), (mem_truths hv _).2 ⟨fun i hi hl => ?_, fun i hi => ?_⟩, fun i hi => ?_⟩
  · rcases (by omega : i = 0 ∨ i = 1 ∨ i = 2 ∨ i = 3) with rfl | rfl | rfl | rfl <;> simp [nAt, q4L, g] <;> omega
  · have := hf i hi
    rcases (by omega : i = 0 ∨ i = 1 ∨ i = 2 ∨ i = 3) with rfl | rfl | rfl | rfl <;> simp [nAt, q4L, g, hi] <;> omega
  · rcases (by omega : i = 0 ∨ i = 1 ∨ i = 2 ∨ i = 3) with rfl | rfl | rfl | rfl <;> simp [nAt, q4L, g, hi]
/-- The turn, by minutes of the bounds. -/
theorem cT_congr {ts us : List Int} {n : Nat} (m : Int) (h : ∀ i, i < n → nAt ts i = nAt us i) : cT ts m n = cT us m n := by
  unfold cT
  congr 1
  apply List.filter_congr
  intro i hi
  rw [h i (List.mem_range.1 hi)]
theorem lt_cT {B : Bk} (hv : validB B = true) {ts : List Int} (hb : ∀ i, i < B.bounds.length → bLo B.bounds i ≤ nAt ts i ∧ nAt ts i ≤ bHi B.bounds i) (m : Int) {i : Nat} (hi : i < B.bounds.length) : i < cT ts m B.bounds.length ↔ nAt ts i ≤ m := by
  have := count_prefix (fun i => decide (nAt ts i ≤ m)) B.bounds.length (fun i hi hp => by
    simp only [decide_eq_true_eq] at *
    have h1 := valid_rise hv hi
    have h2 := hb i (by omega)
    have h3 := hb (i + 1) hi
    omega) i hi
  simpa [cT] using this
theorem cT_eq {B : Bk} (hv : validB B = true) {ts : List Int} (hb : ∀ i, i < B.bounds.length → bLo B.bounds i ≤ nAt ts i ∧ nAt ts i ≤ bHi B.bounds i) (m : Int) {k : Nat} (hk : k ≤ B.bounds.length) (h1 : ∀ i, i < k → nAt ts i ≤ m) (h2 : k < B.bounds.length → m < nAt ts k) : cT ts m B.bounds.length = k := by
  have hle := cT_le ts m B.bounds.length
  rcases Nat.lt_or_ge k (cT ts m B.bounds.length) with h | h
  · have := (lt_cT hv hb m (i := k) (by omega)).1 h
    have := h2 (by omega)
    omega
  · rcases Nat.lt_or_ge (cT ts m B.bounds.length) k with h' | h'
    · have := (lt_cT hv hb m (i := cT ts m B.bounds.length) (by omega)).2 (h1 _ h')
      omega
    · omega
theorem cT_in {B : Bk} (hv : validB B = true) {ts : List Int} (hb : ∀ i, i < B.bounds.length → bLo B.bounds i ≤ nAt ts i ∧ nAt ts i ≤ bHi B.bounds i) (m : Int) : tLo B m ≤ cT ts m B.bounds.length ∧ cT ts m B.bounds.length ≤ tHi B m := by
  have hle := cT_le ts m B.bounds.length
  have hlo : tLo B m ≤ B.bounds.length := cHi_le _ _ _
  have hhi := tHi_le hv m
  constructor
  · rcases Nat.lt_or_ge (cT ts m B.bounds.length) (tLo B m) with h | h
    · have h1 := (lt_tLo hv m (i := cT ts m B.bounds.length) (by omega)).1 h
      have h2 := hb (cT ts m B.bounds.length) (by omega)
      have := (lt_cT hv hb m (i := cT ts m B.bounds.length) (by omega)).2 (by omega)
      omega
    · exact h
  · rcases Nat.lt_or_ge (tHi B m) (cT ts m B.bounds.length) with h | h
    · have h1 := (lt_cT hv hb m (i := tHi B m) (by omega)).1 h
      have h2 := hb (tHi B m) (by omega)
      have := (lt_tHi hv m (i := tHi B m) (by omega)).2 (by omega)
      omega
    · exact h

/-! ### The order of lists -/
theorem cmpL_lt_trans : ∀ (a b c : List Int), cmpL a b < 0 → cmpL b c < 0 → cmpL a c < 0
  | [], [], _, h, _ => by simp [cmpL] at h
  | [], _ :: _, [], _, h => by simp [cmpL] at h
  | [], _ :: _, _ :: _, _, _ => by simp [cmpL]
  | _ :: _, [], _, h, _ => by simp [cmpL] at h
  | _ :: _, _ :: _, [], _, h => by simp [cmpL] at h
  | x :: a, y :: b, z :: c, h1, h2 => by
    simp only [cmpL] at *
    split at h1 <;> split at h2 <;> (try split) <;> (try split) <;> (try omega)
    all_goals (try split at h1) <;> (try split at h2) <;> (try omega)
    exact cmpL_lt_trans a b c h1 h2
theorem cmpL_self : ∀ a : List Int, cmpL a a = 0
  | [] => rfl
  | x :: a => by simp [cmpL, cmpL_self a]
/-- Better: fewer, or as many and before. -/
def better (a b : List Int) : Prop := a.length < b.length ∨ a.length = b.length ∧ cmpL a b < 0
theorem worse_iff (a b : List Int) : worse a b = true ↔ ¬ better a b := by
  unfold worse better
  simp only [Bool.or_eq_true, Bool.and_eq_true, decide_eq_true_eq]
  omega
theorem better_trans {a b c : List Int} (h1 : better a b) (h2 : better b c) : better a c := by
  unfold better at *
  rcases h1 with h1 | ⟨e1, h1⟩ <;> rcases h2 with h2 | ⟨e2, h2⟩
  · left; omega
  · left; omega
  · left; omega
  · right; exact ⟨by omega, cmpL_lt_trans a b c h1 h2⟩
theorem better_irrefl (a : List Int) : ¬ better a a := by
  unfold better
  rw [cmpL_self]
  omega
theorem wrong_best (B : Bk) (k : Nat) : ((wrongK B k).2 = true → ∃ m, m < k ∧ togB B (restK B.shots m B.shots.length) = true ∧ (wrongK B k).1 = outK m B.shots.length) ∧
    ∀ m, m < k → togB B (restK B.shots m B.shots.length) = true → (wrongK B k).2 = true ∧ ¬ better (outK m B.shots.length) (wrongK B k).1 := by
  induction k with
  | zero => exact ⟨fun h => by simp [wrongK] at h, fun m hm => by omega⟩
  | succ k ih =>
    obtain ⟨ih1, ih2⟩ := ih
    rw [wrongK_succ]
    unfold wrongStep
    by_cases hw : ((wrongK B k).2 && worse (outK k B.shots.length) (wrongK B k).1) = true
    · rw [if_pos hw]
      simp only [Bool.and_eq_true] at hw
      refine ⟨fun h => ?_, fun m hm ht => ?_⟩
      · obtain ⟨m, h1, h2, h3⟩ := ih1 h
        exact ⟨m, by omega, h2, h3⟩
      · rcases (by omega : m < k ∨ m = k) with h | rfl
        · exact ih2 m h ht
        · exact ⟨hw.1, (worse_iff _ _).1 hw.2⟩
    · rw [if_neg hw]
      cases ht : togB B (restK B.shots k B.shots.length) with
      | true =>
        simp only [if_true]
        refine ⟨fun _ => ⟨k, by omega, ht, by simp⟩, fun m hm htm => ⟨by simp, fun hb => ?_⟩⟩
        rcases (by omega : m < k ∨ m = k) with h | rfl
        · obtain ⟨h1, h2⟩ := ih2 m h htm
          have h3 : better (outK k B.shots.length) (wrongK B k).1 := by
            rw [h1, Bool.true_and, worse_iff] at hw
            exact Classical.byContradiction hw
          exact h2 (better_trans hb h3)
        · exact better_irrefl _ hb
      | false =>
        simp only [Bool.false_eq_true, if_false]
        refine ⟨fun h => ?_, fun m hm htm => ?_⟩
        · obtain ⟨m, h1, h2, h3⟩ := ih1 h
          exact ⟨m, by omega, h2, h3⟩
        · rcases (by omega : m < k ∨ m = k) with h | rfl
          · exact ih2 m h htm
          · rw [ht] at htm; cases htm

/-! ### A set, as a number -/
def maskN (p : Nat → Bool) : Nat → Nat
  | 0 => 0
  | n + 1 => maskN p n + if p n then 2 ^ n else 0
theorem maskN_lt (p : Nat → Bool) (n : Nat) : maskN p n < 2 ^ n := by
  induction n with
  | zero => simp [maskN]
  | succ n ih =>
    simp only [maskN, Nat.pow_succ]
    split <;> omega
theorem maskN_bit (p : Nat → Bool) (n : Nat) : ∀ k, k < n → bitB (maskN p n) k = p k := by
  induction n with
  | zero => intro k hk; omega
  | succ n ih =>
    intro k hk
    have hlt := maskN_lt p n
    unfold bitB at *
    simp only [maskN]
    rcases (by omega : k < n ∨ k = n) with h | rfl
    · have hi := ih k h
      by_cases hp : p n = true
      · rw [if_pos hp]
        have : 2 ^ n = 2 ^ k * (2 * 2 ^ (n - k - 1)) := by rw [← Nat.pow_succ', ← Nat.pow_add]; congr 1; omega
        rw [this, Nat.add_mul_div_left _ _ (Nat.two_pow_pos k), Nat.add_mul_mod_self_left]
        exact hi
      · rw [if_neg hp, Nat.add_zero]
        exact hi
    · by_cases hp : p k = true
      · rw [if_pos hp, Nat.add_div_right _ (Nat.two_pow_pos k), Nat.div_eq_of_lt hlt, hp]; rfl
      · rw [if_neg hp, Nat.add_zero, Nat.div_eq_of_lt hlt]
        simp only [Bool.not_eq_true] at hp
        rw [hp]; rfl
theorem outK_mask (p : Nat → Bool) (n : Nat) : outK (maskN p n) n = ((List.range n).filter p).map fun (i : Nat) => (i : Int) := by
  unfold outK
  congr 1
  apply List.filter_congr
  intro i hi
  exact maskN_bit p n i (List.mem_range.1 hi)
theorem restK_mask (ss : List Sh) (p : Nat → Bool) (n : Nat) : restK ss (maskN p n) n = ((List.range n).filter fun i => !p i).map (sAt ss) := by
  unfold restK
  congr 1
  apply List.filter_congr
  intro i hi
  rw [maskN_bit p n i (List.mem_range.1 hi)]
theorem togB_iff (B : Bk) (L : List Sh) : togB B L = true ↔ ∃ t ∈ truthsL B, ∀ x ∈ L, canX B t x = true := by
  unfold togB
  rw [List.any_eq_true]
  have h : ∀ t, allX B t L = true ↔ ∀ x ∈ L, canX B t x = true := by
    intro t
    unfold allX allK
    rw [List.all_eq_true]
    constructor
    · intro h x hx
      obtain ⟨i, hi, rfl⟩ := List.getElem_of_mem hx
      have := h i (List.mem_range.2 hi)
      simpa [sAt, List.getD, hi] using this
    · intro h i hi
      have hi' := List.mem_range.1 hi
      have := h L[i] (List.getElem_mem hi')
      simpa [sAt, List.getD, hi'] using this
  exact ⟨fun ⟨t, a, b⟩ => ⟨t, a, (h t).1 b⟩, fun ⟨t, a, b⟩ => ⟨t, a, (h t).2 b⟩⟩
theorem canX_iff (B : Bk) (t : Q4) (x : Sh) : canX B t x = true ↔ ∃ m, x.lo ≤ m ∧ m ≤ x.hi ∧ fitX B t x m = true := by
  unfold canX canK
  rw [List.any_eq_true]
  constructor
  · rintro ⟨i, hi, h⟩
    have := List.mem_range.1 hi
    exact ⟨x.lo + i, by omega, by omega, h⟩
  · rintro ⟨m, h1, h2, h⟩
    refine ⟨(m - x.lo).toNat, List.mem_range.2 (by omega), ?_⟩
    rwa [show x.lo + ((m - x.lo).toNat : Nat) = m by omega]
end Go.Proofs.YtnhdcdhpfgdphaaDoor

/-
  What 'fair' means, truth by truth; who has the turn in a truth: plain facts.
-/
set_option linter.unusedSimpArgs false
set_option linter.unusedVariables false
namespace Go.Proofs.YtnhdcdhpfgdphaaDoor
open Go

theorem fit_iff (B : Bk) (t : Q4) (x : Sh) (m : Int) : fitX B t x m = true ↔ nAt (oAt B.orders x.st.toNat) (cT (q4L t) m B.bounds.length) = x.co := by simp [fitX, fitB]
theorem fair_range (B : Bk) (x : Sh) : 0 ≤ fairN B x ∧ fairN B x ≤ 2 := by
  have h1 := wh_le (canN B x (x.hi - x.lo + 1).toNat)
  have h2 := wh_le (sureN B x (x.hi - x.lo + 1).toNat)
  unfold fairN
  omega
section
variable {B : Bk} (hv : validB B = true)
include hv
theorem truth_in {t : Q4} (ht : t ∈ truthsL B) : ∀ i, i < B.bounds.length → bLo B.bounds i ≤ nAt (q4L t) i ∧ nAt (q4L t) i ≤ bHi B.bounds i := ((mem_truths hv t).1 ht).2
/-- A company can have a station at a minute just if it has it in a truth. -/
theorem owner_truth (s : Nat) (m c : Int) : c ∈ ownersL B s m ↔ ∃ t ∈ truthsL B, nAt (oAt B.orders s) (cT (q4L t) m B.bounds.length) = c := by
  rw [mem_ownersL hv]
  constructor
  · rintro ⟨t, h1, h2, rfl⟩
    have h3 := tHi_le_succ hv m
    have h4 := tLo_le_tHi hv m
    rcases (by omega : t = tLo B m ∨ t = tHi B m) with e | e
    · obtain ⟨q, hq, hf⟩ := truth_of hv (fun i => bHi B.bounds i) (fun i hi => by have := valid_bound hv hi; omega)
      refine ⟨q, hq, ?_⟩
      congr 1
      rw [e]
      unfold tLo cHi cT
      congr 1
      apply List.filter_congr
      intro i hi
      rw [hf i (List.mem_range.1 hi)]
    · obtain ⟨q, hq, hf⟩ := truth_of hv (fun i => bLo B.bounds i) (fun i hi => by have := valid_bound hv hi; omega)
      refine ⟨q, hq, ?_⟩
      congr 1
      rw [e]
      unfold tHi cLo cT
      congr 1
      apply List.filter_congr
      intro i hi
      rw [hf i (List.mem_range.1 hi)]
  · rintro ⟨t, ht, rfl⟩
    have := cT_in hv (truth_in hv ht) m
    exact ⟨_, this.1, this.2, rfl⟩
theorem owners_one (s : Nat) (m c : Int) : ownersL B s m = [c] ↔ ∀ t ∈ truthsL B, nAt (oAt B.orders s) (cT (q4L t) m B.bounds.length) = c := by
  have hl := ownersL_len hv s m
  have hs := ownersL_sorted hv s m
  constructor
  · intro e t ht
    have := (owner_truth hv s m _).2 ⟨t, ht, rfl⟩
    rw [e] at this
    simpa using this
  · intro ha
    have hall : ∀ x ∈ ownersL B s m, x = c := fun x hx => by
      obtain ⟨t, ht, rfl⟩ := (owner_truth hv s m x).1 hx
      exact ha t ht
    rcases hq : ownersL B s m with _ | ⟨x, _ | ⟨y, r⟩⟩
    · rw [hq] at hl; simp at hl
    · rw [hq] at hall
      rw [hall x (by simp)]
    · rw [hq] at hall hs
      have h1 := hall x (by simp)
      have h2 := hall y (by simp)
      have h3 := (List.pairwise_cons.1 hs).1 y (by simp)
      omega
theorem can_one_iff (x : Sh) (i : Nat) : canOne B x i = true ↔ ∃ t ∈ truthsL B, fitX B t x (x.lo + i) = true := by
  simp only [canOne, isIn, decide_eq_true_eq]
  rw [owner_truth hv]
  exact ⟨fun ⟨t, a, b⟩ => ⟨t, a, (fit_iff B t x _).2 b⟩, fun ⟨t, a, b⟩ => ⟨t, a, (fit_iff B t x _).1 b⟩⟩
theorem sure_one_iff (x : Sh) (i : Nat) : sureOne B x i = true ↔ ∀ t ∈ truthsL B, fitX B t x (x.lo + i) = true := by
  have h : sureOne B x i = true ↔ ownersL B x.st.toNat (x.lo + i) = [x.co] := by
    simp only [sureOne, canOne, isIn, Bool.and_eq_true, decide_eq_true_eq]
    constructor
    · rintro ⟨h1, h2⟩
      obtain ⟨y, hy⟩ := List.length_eq_one_iff.1 h2
      rw [hy] at h1 ⊢
      simp only [List.mem_singleton] at h1
      rw [h1]
    · intro e
      rw [e]
      simp
  rw [h, owners_one hv]
  exact ⟨fun h t ht => (fit_iff B t x _).2 (h t ht), fun h t ht => (fit_iff B t x _).1 (h t ht)⟩
theorem canN_iff (x : Sh) : canN B x (x.hi - x.lo + 1).toNat = true ↔ ∃ t ∈ truthsL B, ∃ m, x.lo ≤ m ∧ m ≤ x.hi ∧ fitX B t x m = true := by
  unfold canN
  rw [List.any_eq_true]
  constructor
  · rintro ⟨i, hi, h⟩
    have := List.mem_range.1 hi
    obtain ⟨t, ht, hf⟩ := (can_one_iff hv x i).1 h
    exact ⟨t, ht, x.lo + i, by omega, by omega, hf⟩
  · rintro ⟨t, ht, m, h1, h2, hf⟩
    refine ⟨(m - x.lo).toNat, List.mem_range.2 (by omega), (can_one_iff hv x _).2 ⟨t, ht, ?_⟩⟩
    rwa [show x.lo + ((m - x.lo).toNat : Nat) = m by omega]
theorem sureN_iff (x : Sh) : sureN B x (x.hi - x.lo + 1).toNat = true ↔ ∀ t ∈ truthsL B, ∀ m, x.lo ≤ m → m ≤ x.hi → fitX B t x m = true := by
  unfold sureN
  rw [List.all_eq_true]
  constructor
  · intro h t ht m h1 h2
    have := (sure_one_iff hv x (m - x.lo).toNat).1 (h _ (List.mem_range.2 (by omega))) t ht
    rwa [show x.lo + ((m - x.lo).toNat : Nat) = m by omega] at this
  · intro h i hi
    have := List.mem_range.1 hi
    exact (sure_one_iff hv x i).2 fun t ht => h t ht _ (by omega) (by omega)
theorem truths_some : ∃ t, t ∈ truthsL B := by
  obtain ⟨t, ht, _⟩ := truth_of hv (fun i => bLo B.bounds i) (fun i hi => by have := valid_bound hv hi; omega)
  exact ⟨t, ht⟩
theorem fair_two {x : Sh} (hx : x.lo ≤ x.hi) : fairN B x = 2 ↔ ∀ t ∈ truthsL B, ∀ m, x.lo ≤ m → m ≤ x.hi → fitX B t x m = true := by
  rw [← sureN_iff hv]
  have hsc : sureN B x (x.hi - x.lo + 1).toNat = true → canN B x (x.hi - x.lo + 1).toNat = true := fun h => by
    obtain ⟨t, ht⟩ := truths_some hv
    exact (canN_iff hv x).2 ⟨t, ht, x.lo, Int.le_refl _, hx, (sureN_iff hv x).1 h t ht _ (Int.le_refl _) hx⟩
  unfold fairN
  cases hs : sureN B x (x.hi - x.lo + 1).toNat with
  | true => rw [hsc hs]; simp [wh]
  | false => cases canN B x (x.hi - x.lo + 1).toNat <;> simp [wh]
theorem fair_zero {x : Sh} (hx : x.lo ≤ x.hi) : fairN B x = 0 ↔ ∀ t ∈ truthsL B, ∀ m, x.lo ≤ m → m ≤ x.hi → fitX B t x m = false := by
  have hc : canN B x (x.hi - x.lo + 1).toNat = false ↔ ∀ t ∈ truthsL B, ∀ m, x.lo ≤ m → m ≤ x.hi → fitX B t x m = false := by
    rw [← Bool.not_eq_true, canN_iff hv]
    constructor
    · intro h t ht m h1 h2
      cases hf : fitX B t x m with
      | false => rfl
      | true => exact absurd ⟨t, ht, m, h1, h2, hf⟩ h
    · rintro h ⟨t, ht, m, h1, h2, hf⟩
      rw [h t ht m h1 h2] at hf
      cases hf
  rw [← hc]
  have hsc : sureN B x (x.hi - x.lo + 1).toNat = true → canN B x (x.hi - x.lo + 1).toNat = true := fun h => by
    obtain ⟨t, ht⟩ := truths_some hv
    exact (canN_iff hv x).2 ⟨t, ht, x.lo, Int.le_refl _, hx, (sureN_iff hv x).1 h t ht _ (Int.le_refl _) hx⟩
  unfold fairN
  cases hs : sureN B x (x.hi - x.lo + 1).toNat with
  | true => rw [hsc hs]; simp [wh]
  | false => cases canN B x (x.hi - x.lo + 1).toNat <;> simp [wh]
end

/-! ### A truth that numbers choose -/
def chosenL (B : Bk) (bits : List Int) : List Int := (List.range B.bounds.length).map fun k => someZ (bLo B.bounds k) (bHi B.bounds k) (pickL bits k)
theorem chosen_at (B : Bk) (bits : List Int) {k : Nat} (hk : k < B.bounds.length) : nAt (chosenL B bits) k = someZ (bLo B.bounds k) (bHi B.bounds k) (pickL bits k) := by simp [chosenL, nAt, List.getD, hk]
/-- The turn, at a minute. -/
def trueN (B : Bk) (bits : List Int) (m : Int) : Nat := cT (chosenL B bits) m B.bounds.length
/-- The minute of a shot. -/
def whenN (B : Bk) (bits : List Int) (k : Nat) : Int := someZ (sAt B.shots k).lo (sAt B.shots k).hi (pickL bits ((k : Int) + 3))
/-- Is a shot unfair in this truth? -/
def unfairB (B : Bk) (bits : List Int) (k : Nat) : Bool := decide (nAt (oAt B.orders (sAt B.shots k).st.toNat) (trueN B bits (whenN B bits k)) ≠ (sAt B.shots k).co)
def unfairN (B : Bk) (bits : List Int) (k : Nat) : Nat := ((List.range k).filter (unfairB B bits)).length
theorem unfairN_succ (B : Bk) (bits : List Int) (k : Nat) : unfairN B bits (k + 1) = unfairN B bits k + if unfairB B bits k then 1 else 0 := by
  unfold unfairN
  rw [List.range_succ, List.filter_append]
  cases h : unfairB B bits k <;> simp [h]
section
variable {B : Bk} (hv : validB B = true) (bits : List Int)
include hv
theorem chosen_in : ∀ i, i < B.bounds.length → bLo B.bounds i ≤ nAt (chosenL B bits) i ∧ nAt (chosenL B bits) i ≤ bHi B.bounds i := fun i hi => by
  rw [chosen_at B bits hi]
  have := valid_bound hv hi
  exact someZ_in _ (by omega)
theorem chosen_truth : ∃ t ∈ truthsL B, ∀ m, trueN B bits m = cT (q4L t) m B.bounds.length := by
  obtain ⟨t, ht, hf⟩ := truth_of hv (nAt (chosenL B bits)) (chosen_in hv bits)
  exact ⟨t, ht, fun m => cT_congr m fun i hi => (hf i hi).symm⟩
theorem true_in (m : Int) : tLo B m ≤ trueN B bits m ∧ trueN B bits m ≤ tHi B m := cT_in hv (chosen_in hv bits) m
theorem true_owner (s : Nat) (m : Int) : nAt (oAt B.orders s) (trueN B bits m) ∈ ownersL B s m := by
  obtain ⟨t, ht, he⟩ := chosen_truth hv bits
  exact (owner_truth hv s m _).2 ⟨t, ht, by rw [he]⟩
theorem when_in {k : Nat} (hk : k < B.shots.length) : (sAt B.shots k).lo ≤ whenN B bits k ∧ whenN B bits k ≤ (sAt B.shots k).hi := by
  have := valid_shot hv hk
  exact someZ_in _ (by omega)
theorem unfair_two {k : Nat} (hk : k < B.shots.length) (h : fairN B (sAt B.shots k) = 2) : unfairB B bits k = false := by
  have hs := valid_shot hv hk
  obtain ⟨t, ht, he⟩ := chosen_truth hv bits
  have hw := when_in hv bits hk
  have := (fit_iff B t _ _).1 ((fair_two hv (by omega)).1 h t ht _ hw.1 hw.2)
  simp [unfairB, he, this]
theorem unfair_zero {k : Nat} (hk : k < B.shots.length) (h : fairN B (sAt B.shots k) = 0) : unfairB B bits k = true := by
  have hs := valid_shot hv hk
  obtain ⟨t, ht, he⟩ := chosen_truth hv bits
  have hw := when_in hv bits hk
  have := (fair_zero hv (by omega)).1 h t ht _ hw.1 hw.2
  have h2 : ¬ nAt (oAt B.orders (sAt B.shots k).st.toNat) (cT (q4L t) (whenN B bits k) B.bounds.length) = (sAt B.shots k).co := fun e => by
    rw [(fit_iff B t _ _).2 e] at this
    cases this
  simp [unfairB, he, h2]
/-- No fewer shots are unfair than must be. -/
theorem wrong_le : (wrongL B).length ≤ unfairN B bits B.shots.length := by
  obtain ⟨t, ht, he⟩ := chosen_truth hv bits
  have htog : togB B (restK B.shots (maskN (unfairB B bits) B.shots.length) B.shots.length) = true := by
    rw [togB_iff]
    refine ⟨t, ht, fun x hx => ?_⟩
    rw [restK_mask] at hx
    obtain ⟨k, hk, rfl⟩ := List.mem_map.1 hx
    obtain ⟨hk1, hk2⟩ := List.mem_filter.1 hk
    have hk3 := List.mem_range.1 hk1
    have hw := when_in hv bits hk3
    refine (canX_iff B t _).2 ⟨whenN B bits k, hw.1, hw.2, (fit_iff B t _ _).2 ?_⟩
    rw [← he]
    simpa [unfairB] using hk2
  have h := (wrong_best B (2 ^ B.shots.length)).2 _ (maskN_lt _ _) htog
  have hnb := h.2
  rw [outK_mask] at hnb
  unfold better at hnb
  simp only [List.length_map] at hnb
  unfold unfairN
  have : wrongL B = (wrongK B (2 ^ B.shots.length)).1 := rfl
  rw [this]
  omega
end
end Go.Proofs.YtnhdcdhpfgdphaaDoor
