/-
  The runs of minutes at which a company surely has a station: plain facts.
-/
import Derived.Test.YtnhdcdhpfgdphaaDoorA5
import Derived.Test.YtnhdcdhpfgdphaaDoorV
set_option linter.unusedSimpArgs false
set_option linter.unusedVariables false
namespace Go.Proofs.YtnhdcdhpfgdphaaDoor
open Go

theorem tLo_mono {B : Bk} (h : validB B = true) {m n : Int} (hmn : m ≤ n) : tLo B m ≤ tLo B n := by
  rcases Nat.lt_or_ge (tLo B n) (tLo B m) with hlt | hge
  · have hl : tLo B m ≤ B.bounds.length := cHi_le _ _ _
    have h1 := (lt_tLo h m (i := tLo B n) (by omega)).1 hlt
    have h2 := (lt_tLo h n (i := tLo B n) (by omega)).2 (by omega)
    omega
  · exact hge
theorem tHi_mono {B : Bk} (h : validB B = true) {m n : Int} (hmn : m ≤ n) : tHi B m ≤ tHi B n := by
  rcases Nat.lt_or_ge (tHi B n) (tHi B m) with hlt | hge
  · have hl : tHi B m ≤ B.bounds.length := cLo_le _ _ _
    have h1 := (lt_tHi h m (i := tHi B n) (by omega)).1 hlt
    have h2 := (lt_tHi h n (i := tHi B n) (by omega)).2 (by omega)
    omega
  · exact hge
theorem sure_iff {B : Bk} (h : validB B = true) (s : Nat) (c m : Int) : sureAt B s c m = true ↔ ∀ t, tLo B m ≤ t → t ≤ tHi B m → nAt (oAt B.orders s) t = c := by
  have hm := mem_ownersL h s m
  have hl := ownersL_len h s m
  have hs := ownersL_sorted h s m
  unfold sureAt
  rw [decide_eq_true_iff]
  constructor
  · intro e t h1 h2
    have := (hm (nAt (oAt B.orders s) t)).2 ⟨t, h1, h2, rfl⟩
    rw [e] at this
    simpa using this
  · intro ha
    have hall : ∀ x ∈ ownersL B s m, x = c := fun x hx => by
      obtain ⟨t, h1, h2, rfl⟩ := (hm x).1 hx
      exact ha t h1 h2
    rcases hq : ownersL B s m with _ | ⟨x, _ | ⟨y, r⟩⟩
    · rw [hq] at hl; simp at hl
    · rw [hq] at hall
      rw [hall x (by simp)]
    · rw [hq] at hall hs
      have h1 := hall x (by simp)
      have h2 := hall y (by simp)
      have h3 := (List.pairwise_cons.1 hs).1 y (by simp)
      omega

theorem bLo_append {L : List (Int × Int)} {p : Int × Int} (i : Nat) : bLo (L ++ [p]) i = if i < L.length then bLo L i else if i = L.length then p.1 else 0 := by
  unfold bLo
  by_cases h : i < L.length
  · simp [List.getD, h, List.getElem?_append_left h]
  · by_cases h2 : i = L.length
    · subst h2; simp [List.getD]
    · rw [if_neg h, if_neg h2]
      have : (L ++ [p])[i]? = none := List.getElem?_eq_none (by simp; omega)
      simp [List.getD, this]
theorem bHi_append {L : List (Int × Int)} {p : Int × Int} (i : Nat) : bHi (L ++ [p]) i = if i < L.length then bHi L i else if i = L.length then p.2 else 0 := by
  unfold bHi
  by_cases h : i < L.length
  · simp [List.getD, h, List.getElem?_append_left h]
  · by_cases h2 : i = L.length
    · subst h2; simp [List.getD]
    · rw [if_neg h, if_neg h2]
      have : (L ++ [p])[i]? = none := List.getElem?_eq_none (by simp; omega)
      simp [List.getD, this]
theorem addLast_length {L : List (Int × Int)} (h : 0 < L.length) (m : Int) : (addLast L m).length = L.length := by simp [addLast]; omega
theorem bLo_addLast {L : List (Int × Int)} (h : 0 < L.length) (m : Int) {i : Nat} (hi : i < L.length) : bLo (addLast L m) i = bLo L i := by
  have hne : L ≠ [] := by intro e; rw [e] at h; simp at h
  have e0 : L = L.dropLast ++ [L.getLast hne] := (List.dropLast_concat_getLast hne).symm
  have hg : L.getLastD (0, 0) = L.getLast hne := by rw [List.getLastD_eq_getLast?, List.getLast?_eq_some_getLast hne]; rfl
  unfold addLast
  rw [hg, bLo_append]
  conv => rhs; rw [e0, bLo_append]
theorem bHi_addLast {L : List (Int × Int)} (h : 0 < L.length) (m : Int) {i : Nat} (hi : i < L.length) : bHi (addLast L m) i = if i = L.length - 1 then m else bHi L i := by
  have hne : L ≠ [] := by intro e; rw [e] at h; simp at h
  have e0 : L = L.dropLast ++ [L.getLast hne] := (List.dropLast_concat_getLast hne).symm
  have hdl : L.dropLast.length = L.length - 1 := by simp
  unfold addLast
  rw [bHi_append, hdl]
  by_cases hq : i = L.length - 1
  · rw [if_neg (by omega), if_pos hq, if_pos hq]
  · rw [if_pos (by omega), if_neg hq]
    conv => rhs; rw [e0, bHi_append, hdl, if_pos (show i < L.length - 1 by omega)]

/-- What holds of the runs of the first k minutes. -/
structure RunsInv (B : Bk) (s : Nat) (c : Int) (k : Nat) (R : List (Int × Int) × Bool) : Prop where
  ends : ∀ i, i < R.1.length → 0 ≤ bLo R.1 i ∧ bLo R.1 i ≤ bHi R.1 i ∧ bHi R.1 i < k
  gaps : ∀ i, i + 1 < R.1.length → bHi R.1 i + 2 ≤ bLo R.1 (i + 1)
  mem : ∀ n : Nat, n < k → (sureAt B s c n = true ↔ ∃ i, i < R.1.length ∧ bLo R.1 i ≤ n ∧ (n : Int) ≤ bHi R.1 i)
  go : R.2 = true → 0 < R.1.length ∧ bHi R.1 (R.1.length - 1) = (k : Int) - 1 ∧ 0 < k
  rest : R.2 = false → ∀ i, i < R.1.length → bHi R.1 i + 1 < k
theorem runs_inv (B : Bk) (s : Nat) (c : Int) (k : Nat) : RunsInv B s c k (runsK B s c k) := by
  induction k with
  | zero => exact ⟨fun i hi => by simp [runsK] at hi, fun i hi => by simp [runsK] at hi, fun n hn => by omega, fun h => by simp [runsK] at h, fun _ i hi => by simp [runsK] at hi⟩
  | succ k ih =>
    rw [runsK_succ]
    obtain ⟨R, hR⟩ : ∃ R, R = runsK B s c k := ⟨_, rfl⟩
    rw [← hR] at ih ⊢
    obtain ⟨L, g⟩ := R
    obtain ⟨h1, h2, h3, h4, h5⟩ := ih
    dsimp only at h1 h2 h3 h4 h5
    unfold runStep
    cases hs : sureAt B s c k with
    | false =>
      simp only [Bool.false_eq_true, if_false]
      refine ⟨fun i hi => ?_, h2, fun n hn => ?_, fun h => (by cases h), fun _ i hi => ?_⟩
      · have := h1 i hi; dsimp only at *; omega
      · rcases (by omega : n < k ∨ n = k) with h | rfl
        · exact h3 n h
        · rw [hs]
          refine ⟨fun h => (by cases h), fun ⟨i, hi, a, b⟩ => ?_⟩
          have := h1 i hi
          dsimp only at *
          omega
      · have := h1 i hi; dsimp only at *; omega
    | true =>
      cases g with
      | false =>
        simp only [if_true, Bool.false_eq_true, if_false]
        have hr := h5 rfl
        have hlen : (L ++ [((k : Int), (k : Int))]).length = L.length + 1 := by simp
        refine ⟨fun i hi => ?_, fun i hi => ?_, fun n hn => ?_, fun _ => ⟨by simp, ?_, by omega⟩, fun h => by cases h⟩
        · dsimp only at *
          rw [bLo_append, bHi_append]
          by_cases hq : i < L.length
          · rw [if_pos hq, if_pos hq]; have := h1 i hq; omega
          · have hq2 : i = L.length := by omega
            simp only [hq2, Nat.lt_irrefl, if_false, if_true]
            omega
        · dsimp only at *
          rw [bLo_append, bHi_append, if_pos (by omega)]
          by_cases hq : i + 1 < L.length
          · rw [if_pos hq]; exact h2 i hq
          · rw [if_neg hq, if_pos (by omega)]; have := hr i (by omega); dsimp only; omega
        · dsimp only at *
          rcases (by omega : n < k ∨ n = k) with h | rfl
          · rw [h3 n h]
            constructor
            · rintro ⟨i, hi, a, b⟩
              exact ⟨i, by omega, by rw [bLo_append, if_pos hi]; exact a, by rw [bHi_append, if_pos hi]; exact b⟩
            · rintro ⟨i, hi, a, b⟩
              rw [bLo_append] at a
              rw [bHi_append] at b
              by_cases hq : i < L.length
              · rw [if_pos hq] at a b; exact ⟨i, hq, a, b⟩
              · rw [if_neg hq, if_pos (by omega)] at a b; dsimp only at a b; omega
          · rw [hs]
            refine ⟨fun _ => ⟨L.length, by omega, ?_, ?_⟩, fun _ => rfl⟩
            · rw [bLo_append, if_neg (by omega), if_pos rfl]; exact Int.le_refl _
            · rw [bHi_append, if_neg (by omega), if_pos rfl]; exact Int.le_refl _
        · dsimp only
          rw [hlen, bHi_append, if_neg (by omega), if_pos (by omega)]
          dsimp only
          omega
      | true =>
        simp only [if_true]
        obtain ⟨g1, g2, g3⟩ := h4 rfl
        have hlen := addLast_length g1 (k : Int)
        refine ⟨fun i hi => ?_, fun i hi => ?_, fun n hn => ?_, fun _ => ⟨by dsimp only; omega, ?_, by omega⟩, fun h => by cases h⟩
        · dsimp only at *
          have hi' : i < L.length := by omega
          rw [bLo_addLast g1 _ hi', bHi_addLast g1 _ hi']
          have := h1 i hi'
          split <;> omega
        · dsimp only at *
          have hi' : i + 1 < L.length := by omega
          rw [bLo_addLast g1 _ hi', bHi_addLast g1 _ (by omega), if_neg (by omega)]
          exact h2 i hi'
        · dsimp only at *
          rcases (by omega : n < k ∨ n = k) with h | rfl
          · rw [h3 n h]
            constructor
            · rintro ⟨i, hi, a, b⟩
              refine ⟨i, by omega, by rw [bLo_addLast g1 _ hi]; exact a, ?_⟩
              rw [bHi_addLast g1 _ hi]
              split <;> omega
            · rintro ⟨i, hi, a, b⟩
              have hi' : i < L.length := by omega
              rw [bLo_addLast g1 _ hi'] at a
              rw [bHi_addLast g1 _ hi'] at b
              refine ⟨i, hi', a, ?_⟩
              split at b
              · rename_i hq; rw [hq, g2]; omega
              · exact b
          · rw [hs]
            refine ⟨fun _ => ⟨L.length - 1, by omega, ?_, ?_⟩, fun _ => rfl⟩
            · rw [bLo_addLast g1 _ (by omega)]
              have := h1 (L.length - 1) (by omega)
              omega
            · rw [bHi_addLast g1 _ (by omega), if_pos rfl]; exact Int.le_refl _
        · dsimp only
          rw [hlen, bHi_addLast g1 _ (by omega), if_pos rfl]
          omega

section
variable {B : Bk} {s : Nat} {c : Int}
theorem run_ends {i : Nat} (hi : i < (runsL B s c).length) : 0 ≤ bLo (runsL B s c) i ∧ bLo (runsL B s c) i ≤ bHi (runsL B s c) i ∧ bHi (runsL B s c) i < 1440 := (runs_inv B s c 1440).ends i hi
theorem run_gap {i : Nat} (hi : i + 1 < (runsL B s c).length) : bHi (runsL B s c) i + 2 ≤ bLo (runsL B s c) (i + 1) := (runs_inv B s c 1440).gaps i hi
theorem run_mem {n : Nat} (hn : n < 1440) : sureAt B s c n = true ↔ ∃ i, i < (runsL B s c).length ∧ bLo (runsL B s c) i ≤ n ∧ (n : Int) ≤ bHi (runsL B s c) i := (runs_inv B s c 1440).mem n hn
theorem run_far {i j : Nat} (hij : i < j) (hj : j < (runsL B s c).length) : bHi (runsL B s c) i + 2 ≤ bLo (runsL B s c) j := by
  induction j with
  | zero => omega
  | succ j ih =>
    have h1 := run_gap (B := B) (s := s) (c := c) hj
    rcases (by omega : i < j ∨ i = j) with h | rfl
    · have h2 := ih h (by omega)
      have h3 := run_ends (B := B) (s := s) (c := c) (i := j) (by omega)
      omega
    · exact h1
/-- At the ends of a run the company surely has the station; just outside of it not. -/
theorem run_edges {i : Nat} (hi : i < (runsL B s c).length) : sureAt B s c (bLo (runsL B s c) i) = true ∧ sureAt B s c (bHi (runsL B s c) i) = true ∧
    (0 ≤ bLo (runsL B s c) i - 1 → sureAt B s c (bLo (runsL B s c) i - 1) = false) ∧ (bHi (runsL B s c) i + 1 ≤ 1439 → sureAt B s c (bHi (runsL B s c) i + 1) = false) := by
  obtain ⟨h1, h2, h3⟩ := run_ends hi
  have key : ∀ n : Int, 0 ≤ n → n < 1440 → (sureAt B s c n = true ↔ ∃ i, i < (runsL B s c).length ∧ bLo (runsL B s c) i ≤ n ∧ n ≤ bHi (runsL B s c) i) := fun n a b => by
    have := run_mem (B := B) (s := s) (c := c) (n := n.toNat) (by omega)
    rwa [show ((n.toNat : Nat) : Int) = n by omega] at this
  refine ⟨(key _ h1 (by omega)).2 ⟨i, hi, Int.le_refl _, h2⟩, (key _ (by omega) h3).2 ⟨i, hi, h2, Int.le_refl _⟩, fun h => ?_, fun h => ?_⟩
  · cases hq : sureAt B s c (bLo (runsL B s c) i - 1) with
    | false => rfl
    | true =>
      obtain ⟨j, hj, a, b⟩ := (key _ h (by omega)).1 hq
      rcases (by omega : j < i ∨ j = i ∨ i < j) with h' | rfl | h'
      · have := run_far (B := B) (s := s) (c := c) h' hi; omega
      · omega
      · have := run_far (B := B) (s := s) (c := c) h' hj; omega
  · cases hq : sureAt B s c (bHi (runsL B s c) i + 1) with
    | false => rfl
    | true =>
      obtain ⟨j, hj, a, b⟩ := (key _ (by omega) (by omega)).1 hq
      rcases (by omega : j < i ∨ j = i ∨ i < j) with h' | rfl | h'
      · have := run_far (B := B) (s := s) (c := c) h' hi; omega
      · omega
      · have := run_far (B := B) (s := s) (c := c) h' hj; omega
/-- There are no more runs than turns. -/
theorem run_count (hv : validB B = true) : (runsL B s c).length ≤ B.bounds.length + 1 := by
  have key : ∀ i, i < (runsL B s c).length → i ≤ tLo B (bLo (runsL B s c) i) := by
    intro i
    induction i with
    | zero => intro _; omega
    | succ i ih =>
      intro hi
      have h0 := ih (by omega)
      obtain ⟨e1, e2, e3⟩ := run_ends (B := B) (s := s) (c := c) (i := i) (by omega)
      obtain ⟨f1, f2, f3⟩ := run_ends (B := B) (s := s) (c := c) (i := i + 1) hi
      have hg := run_gap (B := B) (s := s) (c := c) hi
      obtain ⟨s1, _, _, s4⟩ := run_edges (B := B) (s := s) (c := c) (i := i) (by omega)
      obtain ⟨s5, _, _, _⟩ := run_edges (B := B) (s := s) (c := c) (i := i + 1) hi
      have hno := s4 (by omega)
      rw [sure_iff hv] at s1 s5
      have m1 := tLo_mono hv (m := bLo (runsL B s c) i) (n := bHi (runsL B s c) i + 1) (by omega)
      have m2 := tLo_mono hv (m := bHi (runsL B s c) i + 1) (n := bLo (runsL B s c) (i + 1)) (by omega)
      have m3 := tHi_mono hv (m := bHi (runsL B s c) i + 1) (n := bLo (runsL B s c) (i + 1)) (by omega)
      rcases Nat.lt_or_ge (tLo B (bLo (runsL B s c) i)) (tLo B (bLo (runsL B s c) (i + 1))) with hlt | hge
      · omega
      · exfalso
        have hyes : sureAt B s c (bHi (runsL B s c) i + 1) = true := by
          rw [sure_iff hv]
          intro t h1 h2
          exact s5 t (by omega) (by omega)
        rw [hyes] at hno
        cases hno
  rcases Nat.eq_zero_or_pos (runsL B s c).length with h0 | h0
  · omega
  · have h1 := key ((runsL B s c).length - 1) (by omega)
    have h2 : tLo B (bLo (runsL B s c) ((runsL B s c).length - 1)) ≤ B.bounds.length := cHi_le _ _ _
    omega
end
end Go.Proofs.YtnhdcdhpfgdphaaDoor
