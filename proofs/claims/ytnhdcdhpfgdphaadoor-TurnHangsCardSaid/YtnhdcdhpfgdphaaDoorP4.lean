/-
  What Wrong answers, and what it answers without some shots.
-/
import Derived.Test.YtnhdcdhpfgdphaaDoorP3
import Derived.Test.YtnhdcdhpfgdphaaDoorLW
import Derived.Test.YtnhdcdhpfgdphaaDoorL8
set_option linter.unusedSimpArgs false
set_option linter.unusedVariables false
namespace Go.Proofs.YtnhdcdhpfgdphaaDoor
open Go Go.RowKit

theorem placeL_in {xs : List Int} {n : Int} : 0 ≤ placeL xs n ↔ n ∈ xs := by
  unfold placeL
  cases hq : xs.findIdx? (· == n) with
  | some k =>
    simp only [Int.natCast_nonneg, true_iff]
    obtain ⟨h1, h2, _⟩ := List.findIdx?_eq_some_iff_getElem.1 hq
    have : xs[k] = n := by simpa using h2
    exact this ▸ List.getElem_mem h1
  | none =>
    rw [List.findIdx?_eq_none_iff] at hq
    constructor
    · intro h; simp at h
    · intro h; have := hq n h; simp at this
theorem mem_outK {m n k : Nat} : (k : Int) ∈ outK m n ↔ k < n ∧ bitB m k = true := by
  unfold outK
  rw [List.mem_map]
  constructor
  · rintro ⟨i, hi, he⟩
    obtain rfl : i = k := by omega
    obtain ⟨h1, h2⟩ := List.mem_filter.1 hi
    exact ⟨List.mem_range.1 h1, h2⟩
  · rintro ⟨h1, h2⟩
    exact ⟨k, List.mem_filter.2 ⟨List.mem_range.2 h1, h2⟩, rfl⟩
theorem outK_rises (m n : Nat) : (outK m n).Pairwise (· < ·) := by
  unfold outK
  rw [List.pairwise_map]
  refine (List.Pairwise.filter _ List.pairwise_lt_range).imp ?_
  intro a b h
  omega
theorem outK_in (m n : Nat) : ∀ x ∈ outK m n, 0 ≤ x ∧ x < n := by
  intro x hx
  unfold outK at hx
  obtain ⟨i, hi, rfl⟩ := List.mem_map.1 hx
  have := List.mem_range.1 (List.mem_filter.1 hi).1
  omega
theorem keptL_out (ss : List Sh) (m n : Nat) : keptL ss (outK m n) n = restK ss m n := by
  unfold keptL restK
  congr 1
  apply List.filter_congr
  intro i hi
  have hi' := List.mem_range.1 hi
  have h := @placeL_in (outK m n) i
  rw [mem_outK] at h
  cases hb : bitB m i with
  | true => have := h.2 ⟨hi', hb⟩; simp; omega
  | false =>
    have h2 : ¬ (0 ≤ placeL (outK m n) i) := fun hh => by have := (h.1 hh).2; rw [hb] at this; cases this
    simp; omega
theorem tog_without (B : Bk) (l : List Int) (L : List Sh) : togB (withoutB B l) L = togB B L := rfl
theorem sAt_mem (ss : List Sh) {i : Nat} (hi : i < ss.length) : sAt ss i ∈ ss := by
  simp only [sAt, List.getD_eq_getElem?_getD, List.getElem?_eq_getElem hi, Option.getD_some]
  exact List.getElem_mem hi
theorem mem_sAt {ss : List Sh} {x : Sh} (h : x ∈ ss) : ∃ i, i < ss.length ∧ sAt ss i = x := by
  obtain ⟨i, hi, rfl⟩ := List.getElem_of_mem h
  exact ⟨i, hi, by simp [sAt, List.getD, hi]⟩
theorem keptL_mem {ss : List Sh} {l : List Int} {k : Nat} {x : Sh} (h : x ∈ keptL ss l k) : ∃ i, i < k ∧ x = sAt ss i := by
  unfold keptL at h
  obtain ⟨i, hi, rfl⟩ := List.mem_map.1 h
  exact ⟨i, List.mem_range.1 (List.mem_filter.1 hi).1, rfl⟩
theorem without_valid {B : Bk} (hv : validB B = true) (l : List Int) : validB (withoutB B l) = true := by
  obtain ⟨p1, p2, p3, p4⟩ := valid_parts hv
  have hl := keptL_len B.shots l B.shots.length
  have q1 : ok0 (withoutB B l) = true := by
    have hs := valid_sizes hv
    have e : (withoutB B l).shots.length = (keptL B.shots l B.shots.length).length := rfl
    simp only [ok0, inB, Bool.and_eq_true, decide_eq_true_eq, e] at p1 ⊢
    have e2 : (withoutB B l).comp = B.comp := rfl
    have e3 : (withoutB B l).bounds.length = B.bounds.length := rfl
    have e4 : (withoutB B l).orders.length = B.orders.length := rfl
    rw [e2, e3, e4]
    omega
  have q4 : okShots (withoutB B l) (keptL B.shots l B.shots.length).length = true := by
    simp only [okShots, List.all_eq_true, List.mem_range] at p4 ⊢
    intro i hi
    obtain ⟨j, hj, e⟩ := keptL_mem (sAt_mem (keptL B.shots l B.shots.length) hi)
    show okShot (withoutB B l) (sAt (keptL B.shots l B.shots.length) i) = true
    rw [e]
    exact p4 j hj
  show (ok0 (withoutB B l) && okBounds B.bounds B.bounds.length && okRows B.comp B.bounds.length B.orders B.orders.length && okShots (withoutB B l) (keptL B.shots l B.shots.length).length) = true
  rw [q1, p2, p3, q4]
  rfl
theorem restK_none (ss : List Sh) {m n : Nat} (h : outK m n = []) (hn : n = ss.length) : restK ss m n = ss := by
  have h2 : ∀ i, i < n → bitB m i = false := fun i hi => by
    cases hb : bitB m i with
    | true => have := (mem_outK (m := m) (n := n) (k := i)).2 ⟨hi, hb⟩; rw [h] at this; cases this
    | false => rfl
  unfold restK
  rw [List.filter_eq_self.2 (fun i hi => by rw [h2 i (List.mem_range.1 hi)]; rfl)]
  apply List.ext_getElem
  · simp [hn]
  · intro i h3 h4
    simp [sAt, List.getD, h4]
theorem outK_zero (n : Nat) : outK 0 n = [] := by
  unfold outK
  rw [List.map_eq_nil_iff, List.filter_eq_nil_iff]
  intro i _
  simp [bitB]

section
variable {B : Bk} (hv : validB B = true)
include hv
theorem wrong_is : ∃ m, m < 2 ^ B.shots.length ∧ togB B (restK B.shots m B.shots.length) = true ∧ wrongL B = outK m B.shots.length := by
  obtain ⟨t, ht⟩ := truths_some hv
  have htog : togB B (restK B.shots (maskN (fun _ => true) B.shots.length) B.shots.length) = true := by
    rw [togB_iff]
    refine ⟨t, ht, fun x hx => ?_⟩
    rw [restK_mask] at hx
    simp at hx
  have hf := ((wrong_best B (2 ^ B.shots.length)).2 _ (maskN_lt _ _) htog).1
  obtain ⟨m, h1, h2, h3⟩ := (wrong_best B (2 ^ B.shots.length)).1 hf
  exact ⟨m, h1, h2, h3⟩
theorem wrong_none : wrongL B = [] ↔ togB B B.shots = true := by
  obtain ⟨m, h1, h2, h3⟩ := wrong_is hv
  constructor
  · intro h
    rw [h3] at h
    rw [restK_none B.shots h rfl] at h2
    exact h2
  · intro h
    rw [← restK_none B.shots (outK_zero B.shots.length) rfl] at h
    have := ((wrong_best B (2 ^ B.shots.length)).2 0 (Nat.two_pow_pos _) h).2
    rw [outK_zero] at this
    have e : wrongL B = (wrongK B (2 ^ B.shots.length)).1 := rfl
    rw [← e] at this
    unfold better at this
    refine List.eq_nil_of_length_eq_zero ?_
    rcases Nat.eq_zero_or_pos (wrongL B).length with h0 | h0
    · exact h0
    · exact absurd (Or.inl (by simpa using h0)) this
/-- Without what is told, all can be fair together. -/
theorem wrong_rest : wrongL (withoutB B (wrongL B)) = [] := by
  obtain ⟨m, h1, h2, h3⟩ := wrong_is hv
  rw [wrong_none (without_valid hv _), tog_without]
  show togB B (keptL B.shots (wrongL B) B.shots.length) = true
  rw [h3, keptL_out]
  exact h2
/-- Without others that are fewer, or as many and before, they cannot. -/
theorem wrong_less {m : Nat} (hm : m < 2 ^ B.shots.length) (hb : fewerB (outK m B.shots.length) (wrongL B) = true) : wrongL (withoutB B (outK m B.shots.length)) ≠ [] := by
  rw [fewer_better] at hb
  intro h
  rw [wrong_none (without_valid hv _), tog_without] at h
  have h' : togB B (keptL B.shots (outK m B.shots.length) B.shots.length) = true := h
  rw [keptL_out] at h'
  exact ((wrong_best B (2 ^ B.shots.length)).2 m hm h').2 hb
theorem wrong_zero {k : Nat} (hk : k < B.shots.length) (h : fairN B (sAt B.shots k) = 0) : 0 ≤ placeL (wrongL B) k := by
  obtain ⟨m, h1, h2, h3⟩ := wrong_is hv
  rw [placeL_in, h3, mem_outK]
  refine ⟨hk, ?_⟩
  cases hb : bitB m k with
  | true => rfl
  | false =>
    obtain ⟨t, ht, hx⟩ := (togB_iff B _).1 h2
    have hmem : sAt B.shots k ∈ restK B.shots m B.shots.length := List.mem_map.2 ⟨k, List.mem_filter.2 ⟨List.mem_range.2 hk, by simp [hb]⟩, rfl⟩
    obtain ⟨mm, l1, l2, l3⟩ := (canX_iff B t _).1 (hx _ hmem)
    have := (fair_zero hv (valid_shot hv hk).2.2.2.2.2.1).1 h t ht mm l1 l2
    rw [this] at l3
    cases l3
theorem wrong_rises : risesF B.shots.length 0 (wrongL B) = true := by
  obtain ⟨m, h1, h2, h3⟩ := wrong_is hv
  rw [h3]
  exact rises_yes _ _ (outK_rises _ _) (outK_in _ _)
end
theorem wrong_len (B : Bk) : (wrongL B).length ≤ B.shots.length := wrongK_len B _
end Go.Proofs.YtnhdcdhpfgdphaaDoor
