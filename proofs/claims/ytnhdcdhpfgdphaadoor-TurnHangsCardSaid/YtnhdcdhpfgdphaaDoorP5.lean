/-
  Of whom more is known: books of fewer truths.
-/
import Derived.Test.YtnhdcdhpfgdphaaDoorP4
import Derived.Test.YtnhdcdhpfgdphaaDoorLO
import Derived.Test.YtnhdcdhpfgdphaaDoorA3
set_option linter.unusedSimpArgs false
set_option linter.unusedVariables false
namespace Go.Proofs.YtnhdcdhpfgdphaaDoor
open Go Go.RowKit

/-- A book of which more is known than of another one. -/
structure Tight (X B : Bk) : Prop where
  valid : validB X = true
  comp : X.comp = B.comp
  orders : X.orders = B.orders
  bounds : X.bounds.length = B.bounds.length
  shots : X.shots.length = B.shots.length
  truths : ∀ t ∈ truthsL X, t ∈ truthsL B
  shot : ∀ i, i < B.shots.length → (sAt X.shots i).st = (sAt B.shots i).st ∧ (sAt X.shots i).co = (sAt B.shots i).co ∧ (sAt B.shots i).lo ≤ (sAt X.shots i).lo ∧ (sAt X.shots i).lo ≤ (sAt X.shots i).hi ∧ (sAt X.shots i).hi ≤ (sAt B.shots i).hi
theorem tight_refl {B : Bk} (hv : validB B = true) : Tight B B :=
  ⟨hv, rfl, rfl, rfl, rfl, fun _ h => h, fun i hi => ⟨rfl, rfl, Int.le_refl _, (valid_shot hv hi).2.2.2.2.2.1, Int.le_refl _⟩⟩
theorem Tight.trans {X Y Z : Bk} (h : Tight X Y) (k : Tight Y Z) : Tight X Z :=
  ⟨h.valid, h.comp.trans k.comp, h.orders.trans k.orders, h.bounds.trans k.bounds, h.shots.trans k.shots, fun t ht => k.truths t (h.truths t ht), fun i hi => by
    have h1 := h.shot i (by rw [k.shots]; exact hi)
    have h2 := k.shot i hi
    exact ⟨h1.1.trans h2.1, h1.2.1.trans h2.2.1, by omega, h1.2.2.2.1, by omega⟩⟩
theorem fit_same {X B : Bk} (ho : X.orders = B.orders) (hb : X.bounds.length = B.bounds.length) (t : Q4) (x y : Sh) (h1 : x.st = y.st) (h2 : x.co = y.co) (m : Int) : fitX X t x m = fitX B t y m := by
  rw [Bool.eq_iff_iff, fit_iff, fit_iff, ho, hb, h1, h2]
theorem Tight.fair {X B : Bk} (h : Tight X B) (hv : validB B = true) {i : Nat} (hi : i < B.shots.length) (h1 : fairN B (sAt B.shots i) ≠ 1) : fairN X (sAt X.shots i) = fairN B (sAt B.shots i) := by
  obtain ⟨s1, s2, s3, s4, s5⟩ := h.shot i hi
  have hr := fair_range B (sAt B.shots i)
  rcases (by omega : fairN B (sAt B.shots i) = 2 ∨ fairN B (sAt B.shots i) = 0) with e | e
  · rw [e, fair_two h.valid s4]
    intro t ht m l1 l2
    rw [fit_same h.orders h.bounds t _ _ s1 s2]
    exact (fair_two hv (by omega)).1 e t (h.truths t ht) m (by omega) (by omega)
  · rw [e, fair_zero h.valid s4]
    intro t ht m l1 l2
    rw [fit_same h.orders h.bounds t _ _ s1 s2]
    exact (fair_zero hv (by omega)).1 e t (h.truths t ht) m (by omega) (by omega)
theorem Tight.wrong {X B : Bk} (h : Tight X B) (hv : validB B = true) : (wrongL B).length ≤ (wrongL X).length := by
  obtain ⟨m, h1, h2, h3⟩ := wrong_is h.valid
  have h4 : togB B (restK B.shots m B.shots.length) = true := by
    obtain ⟨t, ht, hx⟩ := (togB_iff X _).1 h2
    refine (togB_iff B _).2 ⟨t, h.truths t ht, fun x hx' => ?_⟩
    unfold restK at hx'
    obtain ⟨i, hi, rfl⟩ := List.mem_map.1 hx'
    obtain ⟨hi1, hi2⟩ := List.mem_filter.1 hi
    have hi3 := List.mem_range.1 hi1
    obtain ⟨s1, s2, s3, s4, s5⟩ := h.shot i hi3
    have hin : sAt X.shots i ∈ restK X.shots m X.shots.length := List.mem_map.2 ⟨i, List.mem_filter.2 ⟨List.mem_range.2 (by rw [h.shots]; exact hi3), hi2⟩, rfl⟩
    obtain ⟨mm, l1, l2, l3⟩ := (canX_iff X t _).1 (hx _ hin)
    refine (canX_iff B t _).2 ⟨mm, by omega, by omega, ?_⟩
    rw [← fit_same h.orders h.bounds t _ _ s1 s2]
    exact l3
  have h5 := ((wrong_best B (2 ^ B.shots.length)).2 m (by rw [← h.shots]; exact h1) h4).2
  have e : wrongL B = (wrongK B (2 ^ B.shots.length)).1 := rfl
  rw [← e, ← h.shots, ← h3] at h5
  unfold better at h5
  omega

/-! ### A bound -/
section
variable {B : Bk} (hv : validB B = true) {k : Nat} (hk : k < B.bounds.length) {m : Int} (h1 : bLo B.bounds k ≤ m) (h2 : m ≤ bHi B.bounds k)
include hv hk h1 h2
theorem known_truth (t : Q4) : t ∈ truthsL (knownB B k m) ↔ t ∈ truthsL B ∧ nAt (q4L t) k = m := by
  have hx := known_valid hv hk h1 h2
  rw [mem_truths hx, mem_truths hv]
  have e : (knownB B k m).bounds.length = B.bounds.length := by simp [knownB]
  have el : ∀ i, bLo (knownB B k m).bounds i = if i = k then m else bLo B.bounds i := fun i => bLo_set m hk i
  have eh : ∀ i, bHi (knownB B k m).bounds i = if i = k then m else bHi B.bounds i := fun i => bHi_set m hk i
  rw [e]
  constructor
  · rintro ⟨a, b⟩
    have hq := b k hk
    rw [el, eh, if_pos rfl] at hq
    refine ⟨⟨a, fun i hi => ?_⟩, by omega⟩
    have := b i hi
    rw [el, eh] at this
    by_cases hik : i = k
    · subst hik; omega
    · rwa [if_neg hik, if_neg hik] at this
  · rintro ⟨⟨a, b⟩, c⟩
    refine ⟨a, fun i hi => ?_⟩
    rw [el, eh]
    by_cases hik : i = k
    · subst hik; rw [if_pos rfl]; simp only [if_true]; omega
    · rw [if_neg hik, if_neg hik]; exact b i hi
theorem known_tight : Tight (knownB B k m) B :=
  ⟨known_valid hv hk h1 h2, rfl, rfl, by simp [knownB], rfl, fun t ht => ((known_truth hv hk h1 h2 t).1 ht).1, fun i hi => ⟨rfl, rfl, Int.le_refl _, (valid_shot hv hi).2.2.2.2.2.1, Int.le_refl _⟩⟩
end
theorem hang_iff (B : Bk) (x : Sh) (k : Nat) : hangB B x k = true ↔ ∃ t ∈ truthsL B, nAt (q4L t) k = bLo B.bounds k ∧ ∃ n, n < widX x ∧ ∃ j, j < wid B.bounds k ∧ fitX B (setQ t k (bLo B.bounds k + j)) x (x.lo + n) ≠ fitX B t x (x.lo + n) := by
  simp only [hangB, hangT, hangN, hangM, List.any_eq_true, Bool.and_eq_true, decide_eq_true_eq, List.mem_range, bne_iff_ne]
section
variable {B : Bk} (hv : validB B = true) {k : Nat} (hk : k < B.bounds.length) {m : Int} (h1 : bLo B.bounds k ≤ m) (h2 : m ≤ bHi B.bounds k)
include hv hk h1 h2
theorem known_hang (x : Sh) (j : Nat) (h : hangB (knownB B k m) x j = true) : j ≠ k ∧ hangB B x j = true := by
  obtain ⟨t, ht, e, n, hn, i, hi, hf⟩ := (hang_iff _ _ _).1 h
  obtain ⟨ht1, ht2⟩ := (known_truth hv hk h1 h2 t).1 ht
  have el : bLo (knownB B k m).bounds j = if j = k then m else bLo B.bounds j := bLo_set m hk j
  have eh : bHi (knownB B k m).bounds j = if j = k then m else bHi B.bounds j := bHi_set m hk j
  have hfs : ∀ t x m', fitX (knownB B k m) t x m' = fitX B t x m' := fun t x m' => fit_same (X := knownB B k m) (B := B) rfl (by simp [knownB]) t x x rfl rfl m'
  rw [hfs, hfs] at hf
  unfold wid at hi
  rw [el, eh] at hi
  rw [el] at e hf
  by_cases hjk : j = k
  · subst hjk
    simp only [if_true] at hi hf
    have hi0 : i = 0 := by omega
    subst hi0
    exfalso
    apply hf
    congr 1
    apply q4_ext
    intro q hq
    rw [nAt_setQ t (by have := (valid_sizes hv).2.2.2.2.1; omega)]
    by_cases hqj : q = j
    · subst hqj; rw [if_pos rfl, ht2]; simp
    · rw [if_neg hqj]
  · rw [if_neg hjk] at hi hf e
    rw [if_neg hjk] at hi
    exact ⟨hjk, (hang_iff _ _ _).2 ⟨t, ht1, e, n, hn, i, by unfold wid; exact hi, hf⟩⟩
theorem known_hangs (x : Sh) (n : Nat) : (∀ y ∈ hangsI (knownB B k m) x n, y ∈ hangsI B x n) ∧ placeL (hangsI (knownB B k m) x n) k < 0 := by
  constructor
  · intro y hy
    unfold hangsI at hy ⊢
    obtain ⟨j, hj, rfl⟩ := List.mem_map.1 hy
    obtain ⟨hj1, hj2⟩ := List.mem_filter.1 hj
    exact List.mem_map.2 ⟨j, List.mem_filter.2 ⟨hj1, (known_hang hv hk h1 h2 x j hj2).2⟩, rfl⟩
  · have h : ¬ (0 ≤ placeL (hangsI (knownB B k m) x n) k) := fun hp => by
      have hm := placeL_in.1 hp
      unfold hangsI at hm
      obtain ⟨j, hj, e⟩ := List.mem_map.1 hm
      obtain ⟨hj1, hj2⟩ := List.mem_filter.1 hj
      have := (known_hang hv hk h1 h2 x j hj2).1
      omega
    omega
end

/-! ### A shot -/
theorem only_tight {B : Bk} (hv : validB B = true) {k : Nat} (hk : k < B.shots.length) {m : Int} (h1 : (sAt B.shots k).lo ≤ m) (h2 : m ≤ (sAt B.shots k).hi) : Tight (onlyB B k m) B := by
  obtain ⟨p1, p2, p3, p4⟩ := valid_parts hv
  have el : (onlyB B k m).shots.length = B.shots.length := by simp [onlyB]
  have hs := valid_sizes hv
  have hsh := valid_shot hv hk
  have q1 : ok0 (onlyB B k m) = true := by
    have e2 : (onlyB B k m).comp = B.comp := rfl
    have e3 : (onlyB B k m).bounds.length = B.bounds.length := rfl
    have e4 : (onlyB B k m).orders.length = B.orders.length := rfl
    simp only [ok0, inB, Bool.and_eq_true, decide_eq_true_eq] at p1 ⊢
    rw [el, e2, e3, e4]
    exact p1
  have q4 : okShots (onlyB B k m) (onlyB B k m).shots.length = true := by
    rw [el]
    simp only [okShots, List.all_eq_true, List.mem_range] at p4 ⊢
    intro i hi
    have h := p4 i hi
    have e : sAt (onlyB B k m).shots i = if i = k then atX (sAt B.shots k) m else sAt B.shots i := sAt_set _ hk i
    rw [e]
    by_cases hik : i = k
    · subst hik
      rw [if_pos rfl]
      have h0 : okShot (onlyB B i m) (sAt B.shots i) = true := h
      have e0 : okShot (onlyB B i m) (atX (sAt B.shots i) m) = (inB (sAt B.shots i).st 0 ((onlyB B i m).orders.length - 1) && inB (sAt B.shots i).co 0 ((onlyB B i m).comp - 1) && isSpanB m m) := rfl
      rw [e0, Bool.and_eq_true]
      unfold okShot at h0
      rw [Bool.and_eq_true] at h0
      refine ⟨h0.1, ?_⟩
      simp [isSpanB]
      omega
    · rw [if_neg hik]; exact h
  have hval : validB (onlyB B k m) = true := by
    show (ok0 (onlyB B k m) && okBounds B.bounds B.bounds.length && okRows B.comp B.bounds.length B.orders B.orders.length && okShots (onlyB B k m) (onlyB B k m).shots.length) = true
    rw [q1, p2, p3, q4]
    rfl
  refine ⟨hval, rfl, rfl, rfl, el, fun t ht => ht, fun i hi => ?_⟩
  have e : sAt (onlyB B k m).shots i = if i = k then atX (sAt B.shots k) m else sAt B.shots i := sAt_set _ hk i
  rw [e]
  by_cases hik : i = k
  · subst hik
    rw [if_pos rfl]
    exact ⟨rfl, rfl, h1, Int.le_refl _, h2⟩
  · rw [if_neg hik]
    exact ⟨rfl, rfl, Int.le_refl _, (valid_shot hv hi).2.2.2.2.2.1, Int.le_refl _⟩

/-! ### Sets of bounds -/
theorem setN_bit (xs : List Int) (i : Nat) : ∀ s, (xs.foldl (fun s x => s ||| (1 <<< x.toNat)) s).testBit i = (s.testBit i || xs.any fun x => x.toNat == i) := by
  induction xs with
  | nil => intro s; simp
  | cons x xs ih =>
    intro s
    rw [List.foldl_cons, ih, Nat.testBit_or, List.any_cons, Bool.or_assoc]
    congr 2
    rw [Nat.one_shiftLeft, Nat.testBit_two_pow]
    by_cases h : x.toNat = i <;> simp [h]
theorem setN_sub {l m : List Int} (h : ∀ x ∈ l, x ∈ m) : setN l ||| setN m = setN m := by
  apply Nat.eq_of_testBit_eq
  intro i
  unfold setN
  rw [Nat.testBit_or, setN_bit, setN_bit]
  simp only [Nat.zero_testBit, Bool.false_or]
  cases hl : l.any fun x => x.toNat == i with
  | false => simp
  | true =>
    obtain ⟨x, hx, hi⟩ := List.any_eq_true.1 hl
    have : (m.any fun x => x.toNat == i) = true := List.any_eq_true.2 ⟨x, h x hx, hi⟩
    rw [this]; rfl
theorem or_two_all : ((List.range 16).all fun a => (List.range 16).all fun b => bits BinOp.or IntKind.i64 (a : Int) (b : Int) == ((a ||| b : Nat) : Int)) = true := by kernel_rfl
theorem or_two {a b : Nat} (ha : a < 16) (hb : b < 16) : bits BinOp.or IntKind.i64 (a : Int) (b : Int) = ((a ||| b : Nat) : Int) := by
  have h := or_two_all
  simp only [List.all_eq_true, List.mem_range, beq_iff_eq] at h
  exact h a ha b hb
theorem hangsI_in (B : Bk) (x : Sh) (n : Nat) : ∀ y ∈ hangsI B x n, 0 ≤ y ∧ y < n := by
  intro y hy
  unfold hangsI at hy
  obtain ⟨j, hj, rfl⟩ := List.mem_map.1 hy
  have := List.mem_range.1 (List.mem_filter.1 hj).1
  omega
theorem hangsI_rises (B : Bk) (x : Sh) (n : Nat) : risesF n 0 (hangsI B x n) = true := by
  refine rises_yes _ _ ?_ (hangsI_in B x n)
  unfold hangsI
  rw [List.pairwise_map]
  refine (List.Pairwise.filter _ List.pairwise_lt_range).imp ?_
  intro a b h
  omega
end Go.Proofs.YtnhdcdhpfgdphaaDoor
