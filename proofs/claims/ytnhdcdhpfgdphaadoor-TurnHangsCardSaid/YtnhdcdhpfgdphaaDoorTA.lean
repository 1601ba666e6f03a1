/-
  whether, sum of two, fair.
-/
import Derived.Test.YtnhdcdhpfgdphaaDoorT9
set_option linter.unusedSimpArgs false
set_option linter.unusedVariables false
namespace Go.Proofs.YtnhdcdhpfgdphaaDoor
open Go Go.RowKit

theorem intA_two (w : World) (p q : Int) (t : TypeId) : IntA (w.alloc (.cells #[.int .i64 p, .int .i64 q] t)) (some ⟨w.heap.size, 0, none⟩) [p, q] := fun _ =>
  ⟨w.heap.size, 0, rfl, (Blk.new w t _).lt, fun i hi => by
    rcases (by simp at hi; omega : i = 0 ∨ i = 1) with rfl | rfl
    · exact (Blk.new w t #[.int .i64 p, .int .i64 q]).c2.1
    · exact (Blk.new w t #[.int .i64 p, .int .i64 q]).c2.2⟩

def wh (b : Bool) : Int := if b then 1 else 0
theorem wh_le (b : Bool) : 0 ≤ wh b ∧ wh b ≤ 1 := by cases b <;> simp [wh]

set_option maxHeartbeats 1000000 in
theorem whether_any (b : Bool) (w : World) : Calls Tryd.prog 80 #[.bool b] w fun e w' => e = .returned (.int .i64 (wh b)) ∧ w = w' := by
  cases b <;>
  · go_enter Tryd.func80, Tryd.ntmps80
    go_wp2
    go_ret
    exact ⟨rfl, rfl⟩

set_option maxHeartbeats 1000000 in
theorem sum_two (a : Option Addr) (cp : Nat) (p q : Int) (w : World) (h : IntA w a [p, q]) (hp : 0 ≤ p ∧ p ≤ 1) (hq : 0 ≤ q ∧ q ≤ 1) :
    Calls Tryd.prog 95 #[.slice a 2 cp] w fun e w' => e = .returned (.int .i64 (p + q)) ∧ w = w' := by
  obtain ⟨b, o, rfl, hbl, hc⟩ := h (by simp)
  have q0 : w.cell? ⟨b, o, none⟩ = some (.int .i64 p) := hc 0 (by simp)
  have q1 : w.cell? ⟨b, o + 1, none⟩ = some (.int .i64 q) := hc 1 (by simp)
  clear hc h
  go_enter Tryd.func95, Tryd.ntmps95
  go_wp2_with (fail)
  go_loop [3, 8] (fun s i => ∃ k : Nat, k ≤ 2 ∧ i = .int .i64 k ∧ s = .int .i64 ((if 1 ≤ k then p else 0) + (if 2 ≤ k then q else 0))) (fun _ i => 2 - (intOf i).toNat)
  case atStart => exact ⟨0, by omega, rfl, rfl⟩
  case round =>
    obtain ⟨k, hk, rfl, rfl⟩ := hrel
    rcases (by omega : k = 0 ∨ k = 1 ∨ k = 2) with rfl | rfl | rfl
    · rw [show ((0 : Nat) : Int) = 0 from rfl]
      simp only [show ¬ (1 ≤ 0) by omega, show ¬ (2 ≤ 0) by omega, if_false, Int.add_zero]
      go_wp2
      go_round
      case rel => exact ⟨1, by omega, rfl, by simp⟩
      case measure => simp [intOf]
    · rw [show ((1 : Nat) : Int) = 1 from rfl]
      simp only [Nat.le_refl, if_true, show ¬ (2 ≤ 1) by omega, if_false, Int.add_zero]
      go_wp2
      go_round
      case rel => exact ⟨2, by omega, rfl, by simp⟩
      case measure => simp [intOf]
    · rw [show ((2 : Nat) : Int) = 2 from rfl]
      go_wp2
      go_ret
      exact ⟨by simp, rfl⟩

def canOne (B : Bk) (x : Sh) (i : Nat) : Bool := isIn x.co (ownersL B x.st.toNat (x.lo + i))
def sureOne (B : Bk) (x : Sh) (i : Nat) : Bool := canOne B x i && decide ((ownersL B x.st.toNat (x.lo + i)).length = 1)
def canN (B : Bk) (x : Sh) (k : Nat) : Bool := (List.range k).any (canOne B x)
def sureN (B : Bk) (x : Sh) (k : Nat) : Bool := (List.range k).all (sureOne B x)
/-- 2 if a shot is fair in each truth, 1 if in some, and 0 if in none. -/
def fairN (B : Bk) (x : Sh) : Int := wh (canN B x (x.hi - x.lo + 1).toNat) + wh (sureN B x (x.hi - x.lo + 1).toNat)
theorem canN_succ (B : Bk) (x : Sh) (k : Nat) : canN B x (k + 1) = (canN B x k || canOne B x k) := by simp [canN, List.range_succ]
theorem sureN_succ (B : Bk) (x : Sh) (k : Nat) : sureN B x (k + 1) = (sureN B x k && sureOne B x k) := by simp [sureN, List.range_succ]

set_option maxRecDepth 100000 in
set_option maxHeartbeats 4000000 in
theorem fair_st (B : Bk) (a1 a2 a3 : Option Addr) (c1 c2 c3 mp : Nat) (st : Nat) (co lo hi : Int) (w : World) (h : BookA w B a1 a2 a3) (hG : Glob w) (hM : MapA w mp (ownL B.orders B.orders.length)) (hv : validB B = true) (hs : st < B.orders.length) (h0 : 0 ≤ lo) (h1 : lo ≤ hi) (h2 : hi < 1440) :
    Calls Tryd.prog 75 #[.agg #[.int .i64 B.comp, .slice a1 B.bounds.length c1, .slice a2 B.orders.length c2, .slice a3 B.shots.length c3, .map (some mp)], .agg #[.int .i64 st, .int .i64 co, .int .i64 lo, .int .i64 hi]] w
      fun e w' => e = .returned (.int .i64 (fairN B ⟨st, co, lo, hi⟩)) ∧ Ext w w' := by
  have HB := Lib.hid h
  have HG := Lib.hid hG
  have Hv := Lib.hid hv
  clear h hG hv
  obtain ⟨x, hx⟩ : ∃ x : Sh, x = ⟨st, co, lo, hi⟩ := ⟨_, rfl⟩
  go_enter Tryd.func75, Tryd.ntmps75
  go_wp2_with (fail)
  obtain ⟨W0, hW0⟩ : ∃ W0, W0 = (w.alloc (.cells #[.int .i64 B.comp, .slice a1 B.bounds.length c1, .slice a2 B.orders.length c2, .slice a3 B.shots.length c3, .map (some mp)] 81)).alloc (.cells #[.int .i64 st, .int .i64 co, .int .i64 lo, .int .i64 hi] 59) := ⟨_, rfl⟩
  have E0 : Ext w W0 := by rw [hW0]; exact (Ext.alloc _ _).trans (Ext.alloc _ _)
  have b0 : Blk W0 w.heap.size 81 #[.int .i64 B.comp, .slice a1 B.bounds.length c1, .slice a2 B.orders.length c2, .slice a3 B.shots.length c3, .map (some mp)] := by rw [hW0]; exact (Blk.new _ _ _).alloc _
  have s0 : Blk W0 (w.heap.size + 1) 59 #[.int .i64 st, .int .i64 co, .int .i64 lo, .int .i64 hi] := by rw [hW0]; have := Blk.new (w.alloc (.cells #[.int .i64 B.comp, .slice a1 B.bounds.length c1, .slice a2 B.orders.length c2, .slice a3 B.shots.length c3, .map (some mp)] 81)) 59 #[.int .i64 st, .int .i64 co, .int .i64 lo, .int .i64 hi]; simpa using this
  rw [← hW0]
  clear hW0
  go_loopw [5, 6, 18] (fun p q i wr => ∃ k : Nat, k ≤ (hi - lo + 1).toNat ∧ i = .int .i64 k ∧ p = .bool (sureN B x k) ∧ q = .bool (canN B x k) ∧ Ext W0 wr) (fun _ _ i _ => (hi - lo + 1).toNat - (intOf i).toNat)
  case atStart => exact ⟨0, Nat.zero_le _, rfl, rfl, rfl, Ext.refl _⟩
  case round =>
    obtain ⟨k, hk, rfl, rfl, rfl, hE⟩ := hrel
    obtain ⟨x0, x1, x2, x3, x4⟩ := (b0.ext hE).c5
    obtain ⟨y0, y1, y2, y3⟩ := (s0.ext hE).c4
    by_cases hlt : k < (hi - lo + 1).toNat
    · go_wp2_with (fail)
      refine (owners_any B a1 a2 a3 c1 c2 c3 mp st (lo + k) wr (HB.out.ext (E0.trans hE)) (HG.out.ext (E0.trans hE)) (hM.ext (E0.trans hE)) Hv.out hs).mono ?_
      rintro e w' ⟨⟨av, cpv, rfl, hI⟩, hE2⟩
      have s1 := s0.ext (hE.trans hE2)
      obtain ⟨z0, z1, z2, z3⟩ := s1.c4
      have hlen := ownersL_len Hv.out st (lo + k)
      have hcon := contains_any av _ cpv co w' hI (by omega)
      clear x0 x1 x2 x3 x4 y0 y1 y2 y3 hI
      obtain ⟨p, hp⟩ : ∃ p, p = sureN B x k := ⟨_, rfl⟩
      obtain ⟨q, hq⟩ : ∃ q, q = canN B x k := ⟨_, rfl⟩
      obtain ⟨r, hr⟩ : ∃ r, r = isIn co (ownersL B st (lo + k)) := ⟨_, rfl⟩
      obtain ⟨n, hn⟩ : ∃ n, n = (ownersL B st (lo + k)).length := ⟨_, rfl⟩
      have e1 : canOne B x k = r := by rw [hr, hx]; rfl
      have e2 : sureOne B x k = (r && decide (n = 1)) := by rw [hr, hn, hx]; rfl
      have e3 := canN_succ B x k
      have e4 := sureN_succ B x k
      rw [e1, ← hq] at e3
      rw [e2, ← hp] at e4
      rw [← hp, ← hq]
      rw [← hn] at hlen hcon ⊢
      rw [← hr] at hcon
      have H3 := Lib.hid e3
      have H4 := Lib.hid e4
      have Hc := Lib.hid hcon
      clear e1 e2 e3 e4 hp hq hn hr hcon
      rcases (by omega : n = 1 ∨ n = 2) with rfl | rfl <;> cases p <;> cases q <;> cases r <;>
      · go_wp2_with (go_at_call 93; refine Hc.out.mono ?_; rintro e w' ⟨rfl, rfl⟩)
        go_roundw
        case rel => exact ⟨k + 1, by omega, by go_num, by rw [H4.out]; rfl, by rw [H3.out]; rfl, hE.trans hE2⟩
        case measure => simp [intOf]; omega
    · obtain rfl : k = (hi - lo + 1).toNat := by omega
      go_wp2_with (first | (go_at_call 80; refine (whether_any _ _).mono ?_; rintro e w' ⟨rfl, rfl⟩) | fail)
      refine (sum_two _ _ (wh (canN B ⟨st, co, lo, hi⟩ (hi - lo + 1).toNat)) (wh (sureN B ⟨st, co, lo, hi⟩ (hi - lo + 1).toNat)) _ (intA_two _ _ _ _) (wh_le _) (wh_le _)).mono ?_
      rintro e w' ⟨rfl, rfl⟩
      have E9 := (E0.trans hE).trans (Ext.alloc wr (.cells #[.int .i64 (wh (canN B ⟨st, co, lo, hi⟩ (hi - lo + 1).toNat)), .int .i64 (wh (sureN B ⟨st, co, lo, hi⟩ (hi - lo + 1).toNat))] 3))
      go_wp2
      go_ret
      exact ⟨rfl, E9⟩

theorem fair_any (B : Bk) (a1 a2 a3 : Option Addr) (c1 c2 c3 mp : Nat) (x : Sh) (w : World) (h : BookA w B a1 a2 a3) (hG : Glob w) (hM : MapA w mp (ownL B.orders B.orders.length)) (hv : validB B = true) (hs : 0 ≤ x.st ∧ x.st < B.orders.length) (h0 : 0 ≤ x.lo) (h1 : x.lo ≤ x.hi) (h2 : x.hi < 1440) :
    Calls Tryd.prog 75 #[.agg #[.int .i64 B.comp, .slice a1 B.bounds.length c1, .slice a2 B.orders.length c2, .slice a3 B.shots.length c3, .map (some mp)], .agg #[.int .i64 x.st, .int .i64 x.co, .int .i64 x.lo, .int .i64 x.hi]] w
      fun e w' => e = .returned (.int .i64 (fairN B x)) ∧ Ext w w' := by
  obtain ⟨st, co, lo, hi⟩ := x
  obtain ⟨s, rfl⟩ : ∃ s : Nat, st = s := ⟨st.toNat, by simp at hs; omega⟩
  exact fair_st B a1 a2 a3 c1 c2 c3 mp s co lo hi w h hG hM hv (by simpa using hs.2) h0 h1 h2
end Go.Proofs.YtnhdcdhpfgdphaaDoor
