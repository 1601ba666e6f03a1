/-
  The exported function Learn.
-/
import Derived.Test.YtnhdcdhpfgdphaaDoorAA
import Derived.Test.YtnhdcdhpfgdphaaDoorA4
import Derived.Test.YtnhdcdhpfgdphaaDoorX
import Derived.Test.YtnhdcdhpfgdphaaDoorA7
set_option linter.unusedSimpArgs false
set_option linter.unusedVariables false
namespace Go.Proofs.YtnhdcdhpfgdphaaDoor
open Go Go.RowKit

/-- A book of which the minute of a bound is known. -/
def knownB (B : Bk) (k : Nat) (m : Int) : Bk := { B with bounds := B.bounds.set k (m, m) }
/-- How many shots are undecided at the worst, over the first n minutes of a bound. -/
def worstN (B : Bk) (k : Nat) : Nat → Int
  | 0 => 0
  | n + 1 => max (worstN B k n) (openN (knownB B k (bLo B.bounds k + n)))
def worstB (B : Bk) (k : Nat) : Int := worstN B k (wid B.bounds k)
def learnStep (R : Int × Int) (k : Nat) (x : Int) : Int × Int := if R.1 < 0 ∨ x < R.2 then ((k : Int), x) else R
/-- The best of the first k bounds, and its worst. -/
def learnK (B : Bk) : Nat → Int × Int
  | 0 => (-1, 0)
  | k + 1 => learnStep (learnK B k) k (worstB B k)
def learnV (B : Bk) : Int := if B.bounds.length = 0 then 0 else (learnK B B.bounds.length).1
def learnE (B : Bk) : Int := if B.bounds.length = 0 then 4 else 0
theorem learnK_in (B : Bk) (k : Nat) : (k = 0 → (learnK B k).1 = -1) ∧ (0 < k → 0 ≤ (learnK B k).1 ∧ (learnK B k).1 < k) := by
  induction k with
  | zero => simp [learnK]
  | succ k ih =>
    refine ⟨by omega, fun _ => ?_⟩
    simp only [learnK, learnStep]
    split
    · simp; omega
    · rename_i h
      simp only [not_or] at h
      rcases Nat.eq_zero_or_pos k with h0 | h0
      · have := ih.1 h0; omega
      · have := ih.2 h0; omega
theorem worstN_in (B : Bk) (k n : Nat) : 0 ≤ worstN B k n ∧ worstN B k n ≤ B.shots.length := by
  induction n with
  | zero => simp [worstN]
  | succ n ih =>
    have h := openK_le (knownB B k (bLo B.bounds k + n)) (knownB B k (bLo B.bounds k + n)).shots.length
    simp only [worstN]
    have e : (knownB B k (bLo B.bounds k + n)).shots.length = B.shots.length := rfl
    simp only [openN] at *
    rw [e] at h
    rw [e]
    omega
theorem bLo_set {L : List (Int × Int)} {k : Nat} (m : Int) (hk : k < L.length) (i : Nat) : bLo (L.set k (m, m)) i = if i = k then m else bLo L i := by
  unfold bLo
  by_cases h : i = k
  · subst h; simp [List.getD, hk]
  · simp [List.getD, List.getElem?_set, h, Ne.symm h]
theorem bHi_set {L : List (Int × Int)} {k : Nat} (m : Int) (hk : k < L.length) (i : Nat) : bHi (L.set k (m, m)) i = if i = k then m else bHi L i := by
  unfold bHi
  by_cases h : i = k
  · subst h; simp [List.getD, hk]
  · simp [List.getD, List.getElem?_set, h, Ne.symm h]
theorem known_valid {B : Bk} (hv : validB B = true) {k : Nat} (hk : k < B.bounds.length) {m : Int} (h1 : bLo B.bounds k ≤ m) (h2 : m ≤ bHi B.bounds k) : validB (knownB B k m) = true := by
  obtain ⟨p0, p1, p2, p3⟩ := valid_parts hv
  have hb := valid_bound hv hk
  simp only [validB, Bool.and_eq_true]
  refine ⟨⟨⟨?_, ?_⟩, ?_⟩, ?_⟩
  · have e : ok0 (knownB B k m) = ok0 B := by unfold ok0 knownB; simp only [List.length_set]
    rw [e]; exact p0
  · simp only [okBounds, List.all_eq_true, List.mem_range, okBound, Bool.and_eq_true, knownB, List.length_set]
    intro i hi
    have hbi := valid_bound hv hi
    rw [bLo_set m hk, bHi_set m hk, bHi_set m hk]
    refine ⟨?_, ?_⟩
    · by_cases e : i = k
      · simp [e, isSpanB]; omega
      · simp [e, isSpanB]; omega
    · rcases i with _ | i
      · simp
      · have hr := valid_rise hv hi
        by_cases e : i + 1 = k
        · subst e
          simp
          omega
        · by_cases e2 : i = k
          · subst e2
            simp
            omega
          · simp [e, e2]
            omega
  · simpa [okRows, okRow, okNums, knownB] using p2
  · simpa [okShots, okShot, knownB] using p3
/-- One span of a row of the call's own gets other ends. -/
theorem own_span_set {w : World} {base n g cap : Nat} {L : List (Int × Int)} (h : w.ownsRow base 29 2 (.slice (some ⟨g, 0, none⟩) n cap) n (flatS L)) {k : Nat} (hk : k < L.length) (m : Int) :
    base ≤ g ∧ g < w.heap.size ∧ (w.cell? ⟨g, k * 2, none⟩).isSome = true ∧ (w.cell? ⟨g, k * 2 + 1, none⟩).isSome = true ∧ (∀ i, w.frozen? ⟨g, i, none⟩ = false) ∧
      ∀ W : World, W.heap[g]? = w.heap[g]? → SpanA ((W.setCell ⟨g, k * 2, none⟩ (.int .i64 m)).setCell ⟨g, k * 2 + 1, none⟩ (.int .i64 m)) (some ⟨g, 0, none⟩) (L.set k (m, m)) := by
  have hl : n = L.length := by have := h.1; rw [flatS_len] at this; omega
  rcases h.2 with ⟨e, _⟩ | ⟨g', cap', cur, e, hg, hh, h1, h2, h3, h4⟩
  · cases e
  · simp only [Value.slice.injEq, Option.some.injEq, Addr.mk.injEq] at e
    obtain ⟨⟨rfl, -, -⟩, -, rfl⟩ := e
    have hb : Blk w g 29 cur := hh
    have hcell : ∀ i, i < L.length → cur[i * 2]? = some (.int .i64 (bLo L i)) ∧ cur[i * 2 + 1]? = some (.int .i64 (bHi L i)) := by
      intro i hi
      obtain ⟨f1, f2⟩ := flatS_at L i hi
      rw [← h4, List.getElem?_take, if_pos (by omega)] at f1 f2
      exact ⟨by simpa using f1, by simpa using f2⟩
    refine ⟨hg, hb.lt, by rw [hb.cell (hcell k hk).1]; rfl, by rw [hb.cell (hcell k hk).2]; rfl, fun i => hb.frozen i, fun W hW _ => ⟨g, 0, rfl, ?_, fun i hi => ?_⟩⟩
    · have hbW : Blk W g 29 cur := hW.trans hh
      exact ((hbW.put _ _).put _ _).lt
    · have hbW : Blk W g 29 cur := hW.trans hh
      have hb2 := (hbW.put (k * 2) (.int .i64 m)).put (k * 2 + 1) (.int .i64 m)
      rw [List.length_set] at hi
      have hc := hcell i hi
      have hck := hcell k hk
      have hs1 := (Array.getElem?_eq_some_iff.1 hck.1).1
      have hs2 := (Array.getElem?_eq_some_iff.1 hck.2).1
      rw [bLo_set m hk, bHi_set m hk]
      refine ⟨hb2.cell ?_, hb2.cell ?_⟩
      · by_cases e : i = k
        · subst e
          simp [Array.getElem?_setIfInBounds, hs1]
        · have e1 : k * 2 ≠ 0 + i * 2 := by omega
          have e2 : k * 2 + 1 ≠ 0 + i * 2 := by omega
          rw [Array.getElem?_setIfInBounds_ne e2, Array.getElem?_setIfInBounds_ne e1, if_neg e]
          simpa using hc.1
      · by_cases e : i = k
        · subst e
          rw [if_pos rfl, Nat.zero_add, Array.getElem?_setIfInBounds_self_of_lt (by simpa using hs2)]
        · have e1 : k * 2 ≠ 0 + i * 2 + 1 := by omega
          have e2 : k * 2 + 1 ≠ 0 + i * 2 + 1 := by omega
          rw [Array.getElem?_setIfInBounds_ne e2, Array.getElem?_setIfInBounds_ne e1, if_neg e]
          simpa using hc.2

set_option maxRecDepth 100000 in
set_option maxHeartbeats 4000000 in
theorem learn_no (B : Bk) (a1 a2 a3 : Option Addr) (c1 c2 c3 : Nat)  (w : World) (h : BookA w B a1 a2 a3) (hG : Glob w) (hv : validB B = false) :
    Calls Tryd.prog 34 #[.agg #[.int .i64 B.comp, .slice a1 B.bounds.length c1, .slice a2 B.orders.length c2, .slice a3 B.shots.length c3]] w
      fun e w' => e = .returned (.tuple #[.int .i64 0, .int .i64 20]) ∧ Ext w w' := by
  have HB := Lib.hid h
  have HG := Lib.hid hG
  have l2 := h.l2
  have l3 := h.l3
  clear h hG
  go_enter Tryd.func34, Tryd.ntmps34
  go_upto_region 1 with (fail)
  obtain ⟨W0, hW0⟩ : ∃ W0, W0 = w.alloc (.cells #[.int .i64 B.comp, .slice a1 B.bounds.length c1, .slice a2 B.orders.length c2, .slice a3 B.shots.length c3] 26) := ⟨_, rfl⟩
  have b0 : Blk W0 w.heap.size 26 #[.int .i64 B.comp, .slice a1 B.bounds.length c1, .slice a2 B.orders.length c2, .slice a3 B.shots.length c3] := by rw [hW0]; exact Blk.new _ _ _
  have E0 : Ext w W0 := by rw [hW0]; exact Ext.alloc _ _
  rw [← hW0]
  clear hW0
  obtain ⟨x0, x1, x2, x3⟩ := b0.c4
  go_wp2_with (go_at_call 58; refine (asked_no B a1 a2 a3 c1 c2 c3 true _ (HB.out.ext E0) (HG.out.ext E0) hv).mono ?_; rintro e w1 ⟨rfl, hE1⟩)
  go_ret2
  exact ⟨rfl, E0.trans (Ext.trans hE1 (Ext.alloc _ _))⟩

set_option maxRecDepth 100000 in
set_option maxHeartbeats 4000000 in
theorem learn_yes (B : Bk) (a1 a2 a3 : Option Addr) (c1 c2 c3 : Nat)  (w : World) (h : BookA w B a1 a2 a3) (hG : Glob w) (hv : validB B = true) :
    Calls Tryd.prog 34 #[.agg #[.int .i64 B.comp, .slice a1 B.bounds.length c1, .slice a2 B.orders.length c2, .slice a3 B.shots.length c3]] w
      fun e w' => e = .returned (.tuple #[.int .i64 (learnV B), .int .i64 (learnE B)]) ∧ Ext w w' := by
  have HB := Lib.hid h
  have HG := Lib.hid hG
  have l2 := h.l2
  have l3 := h.l3
  clear h hG
  go_enter Tryd.func34, Tryd.ntmps34
  go_upto_region 1 with (fail)
  obtain ⟨W0, hW0⟩ : ∃ W0, W0 = w.alloc (.cells #[.int .i64 B.comp, .slice a1 B.bounds.length c1, .slice a2 B.orders.length c2, .slice a3 B.shots.length c3] 26) := ⟨_, rfl⟩
  have b0 : Blk W0 w.heap.size 26 #[.int .i64 B.comp, .slice a1 B.bounds.length c1, .slice a2 B.orders.length c2, .slice a3 B.shots.length c3] := by rw [hW0]; exact Blk.new _ _ _
  have E0 : Ext w W0 := by rw [hW0]; exact Ext.alloc _ _
  rw [← hW0]
  clear hW0
  have hnb := (valid_sizes hv).2.2.2.2.1
  have hns := (valid_sizes hv).2.2.2.2.2
  obtain ⟨x0, x1, x2, x3⟩ := b0.c4
  go_upto_region 2 with (go_at_call 58; refine (asked_yes B a1 a2 a3 c1 c2 c3 _ (HB.out.ext E0) (HG.out.ext E0) hv).mono ?_; rintro e w1 ⟨⟨mp, rfl, hM, hmp⟩, hE1⟩)
  obtain ⟨W2, hW2⟩ : ∃ W2, W2 = w1.alloc (.cells #[.int .i64 B.comp, .slice a1 B.bounds.length c1, .slice a2 B.orders.length c2, .slice a3 B.shots.length c3, .map (some mp)] 81) := ⟨_, rfl⟩
  have E2 : Ext W0 W2 := by rw [hW2]; exact Ext.trans hE1 (Ext.alloc _ _)
  rw [← hW2]
  clear hW2 x0 x1 x2 x3 hM hE1 hmp
  obtain ⟨x0, x1, x2, x3⟩ := (b0.ext E2).c4
  go_wp2_with (fail)
  clear x0 x1 x2 x3
  go_loopw [6, 7, 24] (fun b l i wr => ∃ k : Nat, k ≤ B.bounds.length ∧ i = .int .i64 k ∧ b = .int .i64 (learnK B k).1 ∧ l = .int .i64 (learnK B k).2 ∧ Ext W2 wr) (fun _ _ i _ => B.bounds.length - (intOf i).toNat)
  case atStart => exact ⟨0, Nat.zero_le _, rfl, rfl, rfl, Ext.refl _⟩
  case round =>
    obtain ⟨k, hk, rfl, rfl, rfl, hE⟩ := hrel
    have hin := learnK_in B k
    have hsucc : learnK B (k + 1) = learnStep (learnK B k) k (worstB B k) := rfl
    have hval : k = B.bounds.length → 0 < k → learnV B = (learnK B k).1 ∧ learnE B = 0 := fun e h0 => by subst e; simp [learnV, learnE, show ¬ B.bounds.length = 0 by omega]
    have hval0 : k = B.bounds.length → k = 0 → learnV B = 0 ∧ learnE B = 4 := fun e h0 => by subst e; simp [learnV, learnE, h0]
    obtain ⟨R, hR⟩ : ∃ R, R = learnK B k := ⟨_, rfl⟩
    rw [← hR] at hin hsucc hval ⊢
    obtain ⟨best, least⟩ := R
    dsimp only at hin hval ⊢
    have Hsucc := Lib.hid hsucc
    have Hval := Lib.hid hval
    have Hval0 := Lib.hid hval0
    have Hin := Lib.hid hin
    clear hR hsucc hval hval0 hin
    by_cases hlt : k < B.bounds.length
    · obtain ⟨h1, h2, h3, h4⟩ := valid_bound hv hlt
      have HBr := Lib.hid ((HB.out.ext E0).ext (Ext.trans E2 hE))
      obtain ⟨b, o, e1, hbl, hc⟩ := HBr.out.bounds (by omega)
      obtain ⟨q0, q1⟩ := hc k hlt
      obtain ⟨x0, x1, x2, x3⟩ := (b0.ext (Ext.trans E2 hE)).c4
      have hwid : Hid (wid B.bounds k = (bHi B.bounds k - bLo B.bounds k + 1).toNat) := Lib.hid rfl
      have Hwb : Hid (worstB B k = worstN B k (wid B.bounds k)) := Lib.hid rfl
      have Hkv := Lib.hid (fun (m : Int) (hm1 : bLo B.bounds k ≤ m) (hm2 : m ≤ bHi B.bounds k) => known_valid hv hlt hm1 hm2)
      obtain ⟨lo, hlo⟩ : ∃ lo, lo = bLo B.bounds k := ⟨_, rfl⟩
      obtain ⟨hi, hhi⟩ : ∃ hi, hi = bHi B.bounds k := ⟨_, rfl⟩
      rw [← hlo, ← hhi] at hwid Hkv
      rw [← hlo] at h1 h2 h4 q0
      rw [← hhi] at h2 h3 h4 q1
      have Hlo := Lib.hid hlo
      clear hc hlo hhi
      subst e1
      go_upto_region 8 with (fail)
      obtain ⟨W5, hW5⟩ : ∃ W5, W5 = wr.alloc (.cells #[.int .i64 lo, .int .i64 hi] 29) := ⟨_, rfl⟩
      have X5 : Ext wr W5 := by rw [hW5]; exact Ext.alloc _ _
      have s5 : Blk W5 wr.heap.size 29 #[.int .i64 lo, .int .i64 hi] := by rw [hW5]; exact Blk.new _ _ _
      rw [← hW5]
      clear hW5 q0 q1 x0 x1 x2 x3
      obtain ⟨gs, hgs⟩ : ∃ gs, gs = wr.heap.size := ⟨_, rfl⟩
      rw [← hgs] at s5 ⊢
      clear hgs
      have E5 := Ext.trans hE X5
      obtain ⟨y0, y1⟩ := s5.c2
      go_wp2_with (fail)
      clear y0 y1
      go_loopw [10, 35] (fun x i wx => ∃ n : Nat, (n : Int) ≤ hi - lo + 1 ∧ i = .int .i64 n ∧ x = .int .i64 (worstN B k n) ∧ Ext W5 wx) (fun _ i _ => (hi - lo + 1).toNat - (intOf i).toNat)
      case atStart => exact ⟨0, by omega, rfl, rfl, Ext.refl _⟩
      case round =>
        obtain ⟨n, hn, rfl, rfl, hE3⟩ := hrel
        have hwn := worstN_in B k n
        have hws : worstN B k (n + 1) = max (worstN B k n) (openN (knownB B k (bLo B.bounds k + n))) := rfl
        rw [← Hlo.out] at hws
        by_cases hltn : (n : Int) < hi - lo + 1
        · have EA := Ext.trans (Ext.trans E2 E5) hE3
          obtain ⟨x0, x1, x2, x3⟩ := (b0.ext EA).c4
          obtain ⟨y0, y1⟩ := (s5.ext hE3).c2
          have hkv := Hkv.out (lo + n) (by omega) (by omega)
          have hop := openK_le (knownB B k (lo + n)) (knownB B k (lo + n)).shots.length
          obtain ⟨B', hB'⟩ : ∃ B', B' = knownB B k (lo + n) := ⟨_, rfl⟩
          have Hws := Lib.hid hws
          have HB' := Lib.hid hB'
          clear hws hB'
          go_upto_region 13 with (fail)
          obtain ⟨W6, hW6⟩ : ∃ W6, W6 = wr.alloc (.cells #[.int .i64 B.comp, .slice (some ⟨b, o, none⟩) B.bounds.length c1, .slice a2 B.orders.length c2, .slice a3 B.shots.length c3] 26) := ⟨_, rfl⟩
          have X6 : Ext wr W6 := by rw [hW6]; exact Ext.alloc _ _
          have t6 : Blk W6 wr.heap.size 26 #[.int .i64 B.comp, .slice (some ⟨b, o, none⟩) B.bounds.length c1, .slice a2 B.orders.length c2, .slice a3 B.shots.length c3] := by rw [hW6]; exact Blk.new _ _ _
          rw [← hW6]
          clear hW6 x0 x1 x2 x3 y0 y1
          obtain ⟨gy, hgy⟩ : ∃ gy, gy = wr.heap.size := ⟨_, rfl⟩
          rw [← hgy] at t6 ⊢
          have Hgy := Lib.hid hgy
          clear hgy
          obtain ⟨x0, x1, x2, x3⟩ := (b0.ext (EA.trans X6)).c4
          have Hcl := Lib.hid (clone_any b o B.bounds c1 W6 (((HB.out.ext E0).ext EA).ext X6).bounds (by omega) (by omega))
          go_upto_region 14 with (go_at_call 84; go_must (refine Hcl.out.mono ?_; rintro e w7 ⟨⟨v, rfl, hown⟩, hE7⟩; obtain ⟨g, cap, rfl, g2, g3⟩ := own_s_open hown (by omega); unfold maxLen at g3; have f1 := (t6.ext hE7).frozen 1; obtain ⟨z0, z1, z2, z3⟩ := (t6.ext hE7).c4))
          obtain ⟨W8, hW8⟩ : ∃ W8, W8 = w7.setCell ⟨gy, 1, none⟩ (.slice (some ⟨g, 0, none⟩) B.bounds.length cap) := ⟨_, rfl⟩
          obtain ⟨l1, l2g, l3g, l4g, l5g, l6g⟩ := own_span_set hown hlt (lo + n)
          have hgyl := t6.lt
          have hne : g ≠ gy := by omega
          have t8 : Blk W8 gy 26 #[.int .i64 B.comp, .slice (some ⟨g, 0, none⟩) B.bounds.length cap, .slice a2 B.orders.length c2, .slice a3 B.shots.length c3] := by rw [hW8]; simpa using (t6.ext hE7).put 1 (.slice (some ⟨g, 0, none⟩) B.bounds.length cap)
          have X8 : Ext wr W8 := by rw [hW8]; exact Below.setCell (Ext.trans X6 hE7) (by rw [← Hgy.out]; exact Nat.le_refl _) _
          have hg8 : W8.heap[g]? = w7.heap[g]? := by rw [hW8]; exact Below.heap_setCell w7 ⟨gy, 1, none⟩ _ g hne
          have c8 : ∀ i, W8.cell? ⟨g, i, none⟩ = w7.cell? ⟨g, i, none⟩ := fun i => by unfold World.cell?; rw [hg8]
          have fz8 : ∀ i, W8.frozen? ⟨g, i, none⟩ = false := fun i => by rw [← l5g i]; unfold World.frozen?; rw [hg8]
          obtain ⟨u0, k0⟩ := Option.isSome_iff_exists.1 l3g
          obtain ⟨u1, k1⟩ := Option.isSome_iff_exists.1 l4g
          rw [← c8] at k0 k1
          have f0 := fz8 (k * 2)
          have f1' := fz8 (k * 2 + 1)
          have hsz : g < W8.heap.size := by have := Option.isSome_iff_exists.2 ⟨_, k0⟩; exact lt_of_cell k0
          have hspan := l6g W8 hg8
          rw [← hW8]
          have hX8s := X8.size
          have Hspan := Lib.hid hspan
          have hwg : wr.heap.size ≤ g := by have := X6.size; omega
          clear hW8 x0 x1 x2 x3 z0 z1 z2 z3 f1 c8 fz8 l3g l4g l5g l6g hg8 hspan hown l1 l2g Hcl
          obtain ⟨y0, y1⟩ := (s5.ext (hE3.trans X8)).c2
          obtain ⟨x0, x1, x2, x3⟩ := t8.c4
          go_upto_region 15 with (fail)
          obtain ⟨W9, hW9⟩ : ∃ W9, W9 = (W8.setCell ⟨g, k * 2, none⟩ (.int .i64 (lo + n))).setCell ⟨g, k * 2 + 1, none⟩ (.int .i64 (lo + n)) := ⟨_, rfl⟩
          have t9 : Blk W9 gy 26 #[.int .i64 B.comp, .slice (some ⟨g, 0, none⟩) B.bounds.length cap, .slice a2 B.orders.length c2, .slice a3 B.shots.length c3] := by rw [hW9]; exact (t8.far (Ne.symm hne) _).far (Ne.symm hne) _
          have X9 : Ext wr W9 := by rw [hW9]; exact Below.setCell (Below.setCell X8 hwg _) hwg _
          have hsp9 : SpanA W9 (some ⟨g, 0, none⟩) (B.bounds.set k (lo + n, lo + n)) := by rw [hW9]; exact Hspan.out
          rw [← hW9]
          clear hW9 x0 x1 x2 x3 y0 y1 f0 f1' k0 k1
          have ER := EA.trans X9
          have hBr := (HB.out.ext E0).ext ER
          have hBA : BookA W9 (knownB B k (lo + n)) (some ⟨g, 0, none⟩) a2 a3 := ⟨hsp9, hBr.orders, hBr.shots, by simp only [knownB, List.length_set]; exact hBr.l1, hBr.l2, hBr.l3⟩
          have hle : (knownB B k (lo + n)).bounds.length = B.bounds.length := by simp [knownB]
          have hopd := opened_any (knownB B k (lo + n)) (some ⟨g, 0, none⟩) a2 a3 cap c2 c3 W9 hBA ((HG.out.ext E0).ext ER)
          have hopn := fun mp w' (hE' : Ext W9 w') hM => open_any (knownB B k (lo + n)) (some ⟨g, 0, none⟩) a2 a3 cap c2 c3 mp w' (hBA.ext hE') (((HG.out.ext E0).ext ER).ext hE') hM hkv
          rw [hle] at hopd hopn
          rw [show (knownB B k (lo + n)).comp = B.comp from rfl, show (knownB B k (lo + n)).orders = B.orders from rfl, show (knownB B k (lo + n)).shots = B.shots from rfl] at hopd hopn
          have hon : 0 ≤ openN (knownB B k (lo + n)) ∧ openN (knownB B k (lo + n)) ≤ B.shots.length := hop
          have Hopd := Lib.hid hopd
          have Hopn := Lib.hid hopn
          have hws := Hws.out
          obtain ⟨on, hon'⟩ : ∃ on, on = openN (knownB B k (lo + n)) := ⟨_, rfl⟩
          obtain ⟨wn, hwn'⟩ : ∃ wn, wn = worstN B k n := ⟨_, rfl⟩
          rw [← hon'] at hon hws Hopn
          rw [← hwn'] at hws hwn ⊢
          have Hws2 := Lib.hid hws
          clear hopd hopn hBr hBA hle hkv hop hsp9 Hspan t6 t8 hon' hwn' hws
          obtain ⟨x0, x1, x2, x3⟩ := t9.c4
          go_wp2_with (first | (go_at_call 85; refine Hopd.out.mono ?_; rintro e wa ⟨⟨mq, rfl, hMq, hmq⟩, hEa⟩) | (go_at_call 86; refine (Hopn.out _ _ hEa hMq).mono ?_; rintro e wb ⟨rfl, hEb⟩))
          refine ⟨⟨n + 1, by omega, by go_num, by rw [Hws2.out]; congr 1; split <;> omega, hE3.trans (X9.trans (Ext.trans hEa hEb))⟩, by simp [intOf]; omega⟩
        · have hw1 : worstB B k = worstN B k n := by rw [Hwb.out, hwid.out]; congr 1; omega
          obtain ⟨wn, hwn'⟩ : ∃ wn, wn = worstN B k n := ⟨_, rfl⟩
          rw [← hwn'] at hw1 hwn ⊢
          have hsucc := Hsucc.out
          rw [hw1] at hsucc
          have EF := Ext.trans E5 hE3
          clear hwn' hw1 hws
          by_cases hb0 : best < 0
          · have hs : Hid (learnK B (k + 1) = ((k : Int), wn)) := Lib.hid (by rw [hsucc]; simp [learnStep, hb0])
            clear hsucc
            go_wp2_with (fail)
            go_roundw
            case rel => exact ⟨k + 1, by omega, by go_num, by rw [hs.out], by rw [hs.out], EF⟩
            case measure => simp [intOf]; omega
          · have hs : Hid (learnK B (k + 1) = if wn < least then ((k : Int), wn) else (best, least)) := Lib.hid (by rw [hsucc]; simp only [learnStep, hb0, false_or])
            clear hsucc
            have hfld : ∀ W : World, (Instr.field 102 (.agg #[.func (.func 100) #[] #[]]) 0).run Tryd.prog W = .ok (.func (.func 100) #[] #[]) W := fun W => rfl
            by_cases hwl : wn < least
            · have hs2 : Hid (learnK B (k + 1) = ((k : Int), wn)) := Lib.hid (by rw [hs.out, if_pos hwl])
              go_wp2_with (first | (go_at_call 87; refine (fewer_any _).mono ?_; rintro e wa ⟨rfl, hEa⟩) | (go_at_call 100; refine (lesser_any _ _ _).mono ?_; rintro e wb ⟨rfl, rfl⟩))
              go_roundw
              case rel => exact ⟨k + 1, by omega, by go_num, by rw [hs2.out], by rw [hs2.out], EF.trans hEa⟩
              case measure => simp [intOf]; omega
            · have hs2 : Hid (learnK B (k + 1) = (best, least)) := Lib.hid (by rw [hs.out, if_neg hwl])
              go_wp2_with (first | (go_at_call 87; refine (fewer_any _).mono ?_; rintro e wa ⟨rfl, hEa⟩) | (go_at_call 100; refine (lesser_any _ _ _).mono ?_; rintro e wb ⟨rfl, rfl⟩))
              go_roundw
              case rel => exact ⟨k + 1, by omega, by go_num, by rw [hs2.out], by rw [hs2.out], EF.trans hEa⟩
              case measure => simp [intOf]; omega
    · obtain rfl : k = B.bounds.length := by omega
      rcases Nat.eq_zero_or_pos B.bounds.length with h0 | h0
      · obtain ⟨e1, e2⟩ := Hval0.out rfl h0
        have Hb := Lib.hid (Hin.out.1 h0)
        have He := Lib.hid (And.intro e1 e2)
        clear e1 e2
        have hb1 : best = -1 := Hb.out
        subst hb1
        go_wp2
        go_ret2
        exact ⟨by rw [He.out.1, He.out.2]; rfl, E0.trans (Ext.trans E2 hE)⟩
      · obtain ⟨e1, e2⟩ := Hval.out rfl h0
        obtain ⟨g1, g2⟩ := Hin.out.2 h0
        have He := Lib.hid (And.intro e1 e2)
        clear e1 e2
        go_wp2
        go_ret2
        exact ⟨by rw [He.out.1, He.out.2]; rfl, E0.trans (Ext.trans E2 hE)⟩
end Go.Proofs.YtnhdcdhpfgdphaaDoor
