/-
  turn: who can have a station at a minute.
-/
import Derived.Test.YtnhdcdhpfgdphaaDoorMOw1
import Derived.Test.YtnhdcdhpfgdphaaDoorMOw3
import Derived.Test.YtnhdcdhpfgdphaaDoorMOw4
import Derived.Maps.AppendAt
import Derived.Deep.RegionHeld3
import Derived.Deep.RegionWith
set_option linter.unusedSimpArgs false
set_option linter.unusedVariables false
namespace Go.Proofs.YtnhdcdhpfgdphaaDoor
open Go Go.RowKit

def ints (xs : List Int) : List Value := xs.map (Value.int .i64)
theorem own_int {w : World} {base n : Nat} {v : Value} {xs : List Int} (h : w.ownsRow base 3 1 v n (ints xs)) : n = xs.length ∧ ∃ a cp, v = .slice a n cp ∧ IntA w a xs := by
  have hl : n = xs.length := by have := h.1; simp [ints] at this; omega
  refine ⟨hl, ?_⟩
  rcases Nat.eq_zero_or_pos n with h0 | h0
  · rcases h.2 with ⟨rfl, _⟩ | ⟨g, cap, cur, rfl, _⟩
    · exact ⟨none, 0, by rw [h0], fun hp => by omega⟩
    · exact ⟨_, cap, rfl, fun hp => by omega⟩
  · rcases h.2 with ⟨_, h1⟩ | ⟨g, cap, cur, rfl, hg, hh, h1, h2, h3, h4⟩
    · omega
    · refine ⟨_, cap, rfl, fun _ => ⟨g, 0, rfl, (Array.getElem?_eq_some_iff.1 hh).1, fun i hi => ?_⟩⟩
      have hb : Blk w g 3 cur := hh
      refine hb.cell ?_
      have h5 : (cur.toList.take (n * 1))[i]? = some (.int .i64 (nAt xs i)) := by rw [h4]; simp [ints, nAt, List.getElem?_eq_getElem hi]
      rw [List.getElem?_take] at h5
      rw [if_pos (by omega)] at h5
      simpa using h5
/-- A row of the call's own that is not nil, laid open. -/
theorem own_open {w : World} {base n : Nat} {v : Value} {xs : List Value} (h : w.ownsRow base 3 1 v n xs) (hn : 0 < n) : ∃ g cap cur, v = .slice (some ⟨g, 0, none⟩) n cap ∧ base ≤ g ∧ n ≤ cap ∧ cap ≤ maxLen ∧ Blk w g 3 cur ∧ cur.toList.take n = xs := by
  rcases h.2 with ⟨_, h1⟩ | ⟨g, cap, cur, rfl, hg, hh, h1, h2, h3, h4⟩
  · omega
  · exact ⟨g, cap, cur, rfl, hg, h1, h2, hh, by simpa using h4⟩

theorem own_base {w : World} {base n : Nat} {v : Value} {xs : List Value} (h : w.ownsRow base 3 1 v n xs) : ∀ k, v.ownBlock = some k → base ≤ k := by
  intro k hk
  rcases h.2 with ⟨rfl, _⟩ | ⟨g, cap, cur, rfl, hb, _⟩
  · simp [Value.ownBlock] at hk
  · have : g = k := by simpa [Value.ownBlock] using hk
    omega
theorem int_info : (Tryd.prog.info? 3).map (fun i => (i.zero, i.size, i.bytes)) = some (some (.int .i64 0), 1, 8) := by kernel_rfl

theorem dd_same {xs : List Int} {lo k : Nat} (h1 : lo ≤ k) (h2 : k ≤ lo + 1) (hq : isIn (nAt xs k) (dd xs lo (k - lo)) = true) : dd xs lo (k + 1 - lo) = dd xs lo (k - lo) := by
  rcases (by omega : k = lo ∨ k = lo + 1) with rfl | rfl
  · simp [isIn, dd] at hq
  · rw [show lo + 1 - lo = 1 by omega] at hq
    rw [show lo + 1 - lo = 1 by omega, show lo + 1 + 1 - lo = 2 by omega]
    simp only [isIn, dd, List.mem_singleton, decide_eq_true_eq] at hq ⊢
    rw [if_pos hq]
theorem dd_more {xs : List Int} {lo k : Nat} (h1 : lo ≤ k) (h2 : k ≤ lo + 1) (hq : isIn (nAt xs k) (dd xs lo (k - lo)) = false) : dd xs lo (k + 1 - lo) = dd xs lo (k - lo) ++ [nAt xs k] := by
  rcases (by omega : k = lo ∨ k = lo + 1) with rfl | rfl
  · rw [show k + 1 - k = 1 by omega, Nat.sub_self]; rfl
  · rw [show lo + 1 - lo = 1 by omega] at hq
    rw [show lo + 1 - lo = 1 by omega, show lo + 1 + 1 - lo = 2 by omega]
    simp only [isIn, dd, List.mem_singleton, decide_eq_false_iff_not] at hq ⊢
    rw [if_neg hq]; rfl

set_option maxRecDepth 100000 in
set_option maxHeartbeats 4000000 in
theorem owners_any (B : Bk) (a1 a2 a3 : Option Addr) (c1 c2 c3 mp : Nat) (s : Nat) (m : Int) (w : World) (h : BookA w B a1 a2 a3) (hG : Glob w) (hM : MapA w mp (ownL B.orders B.orders.length)) (hv : validB B = true) (hs : s < B.orders.length) :
    Calls Tryd.prog 70 #[.agg #[.int .i64 B.comp, .slice a1 B.bounds.length c1, .slice a2 B.orders.length c2, .slice a3 B.shots.length c3, .map (some mp)], .int .i64 s, .int .i64 m] w
      fun e w' => (∃ a cp, e = .returned (.slice a (ownersL B s m).length cp) ∧ IntA w' a (ownersL B s m)) ∧ Ext w w' := by
  have t1 := tLo_le_tHi hv m
  have t2 := tHi_le_succ hv m
  have t3 := tHi_le hv m
  have t4 := (valid_row hv hs).1
  have t5 := (valid_sizes hv).2.2.2.2.1
  obtain ⟨i0, hi, hz0, hz1, hz2⟩ := info_parts int_info
  have HB := Lib.hid h
  have HG := Lib.hid hG
  have Hv := Lib.hid hv
  clear h hG hv
  go_enter Tryd.func70, Tryd.ntmps70
  go_wp2_with (fail)
  refine (turns_any B a1 a2 a3 c1 c2 c3 (some mp) m _ (HB.out.ext (Ext.alloc _ _)) (HG.out.ext (Ext.alloc _ _))).mono ?_
  rintro e w1 ⟨rfl, hE1⟩
  have b1 := (Blk.new w 81 #[.int .i64 B.comp, .slice a1 B.bounds.length c1, .slice a2 B.orders.length c2, .slice a3 B.shots.length c3, .map (some mp)]).ext hE1
  have E1 := Ext.trans (Ext.alloc w _) hE1
  have M1 := hM.ext E1
  clear hE1 hM
  go_wp2_with (fail)
  obtain ⟨W0, hW0⟩ : ∃ W0, W0 = w1.alloc (.cells #[.int .i64 (tLo B m), .int .i64 (tHi B m)] 29) := ⟨_, rfl⟩
  have s0 : Blk W0 w1.heap.size 29 #[.int .i64 (tLo B m), .int .i64 (tHi B m)] := by rw [hW0]; exact Blk.new _ _ _
  have b0 := b1.ext (by rw [hW0]; exact Ext.alloc _ _ : Ext w1 W0)
  have E0 : Ext w W0 := Ext.trans E1 (by rw [hW0]; exact Ext.alloc _ _)
  have M0 : MapA W0 mp (ownL B.orders B.orders.length) := M1.ext (by rw [hW0]; exact Ext.alloc _ _)
  rw [← hW0]
  clear hW0 b1 E1 M1
  go_loopw [8, 9] (fun v t wr => ∃ k : Nat, tLo B m ≤ k ∧ k ≤ tHi B m + 1 ∧ t = .int .i64 k ∧ wr.ownsRow W0.heap.size 3 1 v (dd (oAt B.orders s) (tLo B m) (k - tLo B m)).length (ints (dd (oAt B.orders s) (tLo B m) (k - tLo B m))) ∧ Ext W0 wr) (fun _ t _ => tHi B m + 1 - (intOf t).toNat)
  case atStart => exact ⟨tLo B m, Nat.le_refl _, by omega, rfl, by rw [Nat.sub_self]; exact World.ownsRow_nil _ _ _ _, Ext.refl _⟩
  case round =>
    obtain ⟨k, hk1, hk2, rfl, hown, hE⟩ := hrel
    obtain ⟨hn, av, cpv, rfl, hI⟩ := own_int hown
    obtain ⟨x0, x1, x2, x3, x4⟩ := (b0.ext hE).c5
    obtain ⟨y0, y1⟩ := (s0.ext hE).c2
    by_cases hle : k ≤ tHi B m
    · have hlk := run_lookup placeKey mapTy (M0.ext hE) (s : Int) (k : Int) _ (seek_ownL s k B.orders hs (by omega))
      have hlen : (dd (oAt B.orders s) (tLo B m) (k - tLo B m)).length ≤ 2 := by
        rcases (by omega : k - tLo B m = 0 ∨ k - tLo B m = 1) with e | e <;> rw [e] <;> simp [dd]
      have hcon := contains_any av _ cpv (nAt (oAt B.orders s) k) wr hI (by omega)
      obtain ⟨q, hq⟩ : ∃ q, q = isIn (nAt (oAt B.orders s) k) (dd (oAt B.orders s) (tLo B m) (k - tLo B m)) := ⟨_, rfl⟩
      rw [← hq] at hcon
      have Hq := Lib.hid hq
      have Hcon := Lib.hid hcon
      clear hq hcon
      cases q with
      | true =>
        go_wp2_with (go_at_call 93; refine Hcon.out.mono ?_; rintro e w' ⟨rfl, rfl⟩)
        go_roundw
        case rel => exact ⟨k + 1, by omega, by omega, by go_num, by rw [dd_same hk1 (by omega) Hq.out.symm]; exact hown, hE⟩
        case measure => simp [intOf]; omega
      | false =>
        go_wp2_with (first | (go_at_call 93; refine Hcon.out.mono ?_; rintro e w' ⟨rfl, rfl⟩) | (at_builtin; refine wpList_append_own _ rfl _ _ 34 rfl W0.heap.size 3 i0 (.int .i64 0) 1 8 Tryd.underlying34 hi hz0 hz1 hz2 rfl (by decide) _ _ _ rfl (hown.alloc _) ⟨wr.heap.size, 0, none⟩ 1 1 [.int .i64 (nAt (oAt B.orders s) k)] rfl rfl (cell_one_new _ _ _) (by simp [Value.oneCell']) (by unfold maxLen; omega) (by omega) (by have := hE.size; simp; omega) ?_))
        intro v' w2 hown' hgrow _
        have hE2 : Ext W0 w2 := (Ext.trans hE (Ext.alloc wr _)).grown hgrow (by have := hE.size; simp; omega) ?_
        · go_wp2
          go_roundw
          case rel => exact ⟨k + 1, by omega, by omega, by go_num, by rw [dd_more hk1 (by omega) Hq.out.symm]; simpa [ints] using hown', hE2⟩
          case measure => simp [intOf]; omega
        · exact own_base hown
    · obtain rfl : k = tHi B m + 1 := by omega
      rw [show tHi B m + 1 - tLo B m = tHi B m - tLo B m + 1 by omega] at hown hI
      rw [show tHi B m + 1 - tLo B m = tHi B m - tLo B m + 1 by omega]
      rcases dd_cases (oAt B.orders s) (tLo B m) (tHi B m - tLo B m + 1) (by omega) (by omega) with hd | ⟨hd, hne⟩
      · have hL : ownersL B s m = [nAt (oAt B.orders s) (tLo B m)] := by unfold ownersL; rw [hd]; rfl
        rw [hd] at hown ⊢
        obtain ⟨g, cap, cur, e1, g1, g2, g3, hb, ht⟩ := own_open hown (by simp)
        simp only [Value.slice.injEq] at e1
        obtain ⟨rfl, -, rfl⟩ := e1
        have HL := Lib.hid hL
        have g4 : 1 ≤ cpv := by simpa using g2
        rw [hd] at hI
        clear hL hd g2
        unfold maxLen at g3
        go_wp2_with (first | (go_at_call 94; refine (sort_1 _ _ _).mono ?_; rintro e w' ⟨rfl, rfl⟩))
        go_ret
        exact ⟨⟨_, _, by rw [HL.out]; rfl, by rw [HL.out]; exact hI⟩, Ext.trans E0 hE⟩
      · have hL : ownersL B s m = [min (nAt (oAt B.orders s) (tLo B m)) (nAt (oAt B.orders s) (tLo B m + 1)), max (nAt (oAt B.orders s) (tLo B m)) (nAt (oAt B.orders s) (tLo B m + 1))] := by unfold ownersL; rw [hd]; rfl
        rw [hd] at hown ⊢
        obtain ⟨g, cap, cur, e1, g1, g2, g3, hb, ht⟩ := own_open hown (by simp)
        simp only [Value.slice.injEq] at e1
        obtain ⟨rfl, -, rfl⟩ := e1
        have HL := Lib.hid hL
        have g4 : 2 ≤ cpv := by simpa using g2
        have k0 : wr.cell? ⟨g, 0, none⟩ = some (.int .i64 (nAt (oAt B.orders s) (tLo B m))) := by
          refine hb.cell ?_
          have := congrArg (·[0]?) ht
          simpa [ints, List.getElem?_take] using this
        have k1 : wr.cell? ⟨g, 1, none⟩ = some (.int .i64 (nAt (oAt B.orders s) (tLo B m + 1))) := by
          refine hb.cell ?_
          have := congrArg (·[1]?) ht
          simpa [ints, List.getElem?_take] using this
        have f0 := hb.frozen 0
        have f1 := hb.frozen 1
        clear hL hd g2 hne hI ht
        unfold maxLen at g3
        go_wp2_with (first | (go_at_call 94; refine (sort_2 _ _ _ _ _ k0 k1 f0 f1).mono ?_; rintro e w' ⟨rfl, hT, z0, z1⟩))
        go_ret
        refine ⟨⟨_, _, by rw [HL.out]; rfl, ?_⟩, Ext.trans E0 (hE.grown hT hE.size (fun k e => by cases e; exact g1))⟩
        rw [HL.out]
        exact fun _ => ⟨g, 0, rfl, lt_of_cell z0, fun i hi => by
          rcases (by simp at hi; omega : i = 0 ∨ i = 1) with rfl | rfl
          · exact z0
          · exact z1⟩
end Go.Proofs.YtnhdcdhpfgdphaaDoor

/-
  whether, sum of two, fair.
-/
set_option linter.unusedSimpArgs false
set_option linter.unusedVariables false
namespace Go.Proofs.YtnhdcdhpfgdphaaDoor
open Go Go.RowKit

theorem intA_two (w : World) (p q : Int) (t : TypeId) : IntA (w.alloc (.cells #[.int .i64 p, .int .i64 q] t)) (some ⟨w.heap.size, 0, none⟩) [p, q] := fun _ =>
  ⟨w.heap.size, 0, rfl, (Blk.new w t _).lt, fun i hi => by
    rcases (by simp at hi; omega : i = 0 ∨ i = 1) with rfl | rfl
    · exact (Blk.new w t #[.int .i64 p, .int .i64 q]).c2.1
    · exact (Blk.new w t #[.int .i64 p, .int .i64 q]).c2.2⟩

def wh (b : Bool) : Int := if b then 1 else 0
theorem wh_le (b : Bool) : 0 ≤ wh b ∧ wh b ≤ 1 := by cases b <;> simp [wh]

set_option maxHeartbeats 1000000 in
theorem whether_any (b : Bool) (w : World) : Calls Tryd.prog 80 #[.bool b] w fun e w' => e = .returned (.int .i64 (wh b)) ∧ w = w' := by
  cases b <;>
  · go_enter Tryd.func80, Tryd.ntmps80
    go_wp2
    go_ret
    exact ⟨rfl, rfl⟩

set_option maxHeartbeats 1000000 in
theorem sum_two (a : Option Addr) (cp : Nat) (p q : Int) (w : World) (h : IntA w a [p, q]) (hp : 0 ≤ p ∧ p ≤ 1) (hq : 0 ≤ q ∧ q ≤ 1) :
    Calls Tryd.prog 95 #[.slice a 2 cp] w fun e w' => e = .returned (.int .i64 (p + q)) ∧ w = w' := by
  obtain ⟨b, o, rfl, hbl, hc⟩ := h (by simp)
  have q0 : w.cell? ⟨b, o, none⟩ = some (.int .i64 p) := hc 0 (by simp)
  have q1 : w.cell? ⟨b, o + 1, none⟩ = some (.int .i64 q) := hc 1 (by simp)
  clear hc h
  go_enter Tryd.func95, Tryd.ntmps95
  go_wp2_with (fail)
  go_loop [3, 8] (fun s i => ∃ k : Nat, k ≤ 2 ∧ i = .int .i64 k ∧ s = .int .i64 ((if 1 ≤ k then p else 0) + (if 2 ≤ k then q else 0))) (fun _ i => 2 - (intOf i).toNat)
  case atStart => exact ⟨0, by omega, rfl, rfl⟩
  case round =>
    obtain ⟨k, hk, rfl, rfl⟩ := hrel
    rcases (by omega : k = 0 ∨ k = 1 ∨ k = 2) with rfl | rfl | rfl
    · rw [show ((0 : Nat) : Int) = 0 from rfl]
      simp only [show ¬ (1 ≤ 0) by omega, show ¬ (2 ≤ 0) by omega, if_false, Int.add_zero]
      go_wp2
      go_round
      case rel => exact ⟨1, by omega, rfl, by simp⟩
      case measure => simp [intOf]
    · rw [show ((1 : Nat) : Int) = 1 from rfl]
      simp only [Nat.le_refl, if_true, show ¬ (2 ≤ 1) by omega, if_false, Int.add_zero]
      go_wp2
      go_round
      case rel => exact ⟨2, by omega, rfl, by simp⟩
      case measure => simp [intOf]
    · rw [show ((2 : Nat) : Int) = 2 from rfl]
      go_wp2
      go_ret
      exact ⟨by simp, rfl⟩

def canOne (B : Bk) (x : Sh) (i : Nat) : Bool := isIn x.co (ownersL B x.st.toNat (x.lo + i))
def sureOne (B : Bk) (x : Sh) (i : Nat) : Bool := canOne B x i && decide ((ownersL B x.st.toNat (x.lo + i)).length = 1)
def canN (B : Bk) (x : Sh) (k : Nat) : Bool := (List.range k).any (canOne B x)
def sureN (B : Bk) (x : Sh) (k : Nat) : Bool := (List.range k).all (sureOne B x)
/-- 2 if a shot is fair in each truth, 1 if in some, and 0 if in none. -/
def fairN (B : Bk) (x : Sh) : Int := wh (canN B x (x.hi - x.lo + 1).toNat) + wh (sureN B x (x.hi - x.lo + 1).toNat)
theorem canN_succ (B : Bk) (x : Sh) (k : Nat) : canN B x (k + 1) = (canN B x k || canOne B x k) := by simp [canN, List.range_succ]
theorem sureN_succ (B : Bk) (x : Sh) (k : Nat) : sureN B x (k + 1) = (sureN B x k && sureOne B x k) := by simp [sureN, List.range_succ]

set_option maxRecDepth 100000 in
set_option maxHeartbeats 4000000 in
theorem fair_st (B : Bk) (a1 a2 a3 : Option Addr) (c1 c2 c3 mp : Nat) (st : Nat) (co lo hi : Int) (w : World) (h : BookA w B a1 a2 a3) (hG : Glob w) (hM : MapA w mp (ownL B.orders B.orders.length)) (hv : validB B = true) (hs : st < B.orders.length) (h0 : 0 ≤ lo) (h1 : lo ≤ hi) (h2 : hi < 1440) :
    Calls Tryd.prog 75 #[.agg #[.int .i64 B.comp, .slice a1 B.bounds.length c1, .slice a2 B.orders.length c2, .slice a3 B.shots.length c3, .map (some mp)], .agg #[.int .i64 st, .int .i64 co, .int .i64 lo, .int .i64 hi]] w
      fun e w' => e = .returned (.int .i64 (fairN B ⟨st, co, lo, hi⟩)) ∧ Ext w w' := by
  have HB := Lib.hid h
  have HG := Lib.hid hG
  have Hv := Lib.hid hv
  clear h hG hv
  obtain ⟨x, hx⟩ : ∃ x : Sh, x = ⟨st, co, lo, hi⟩ := ⟨_, rfl⟩
  go_enter Tryd.func75, Tryd.ntmps75
  go_wp2_with (fail)
  obtain ⟨W0, hW0⟩ : ∃ W0, W0 = (w.alloc (.cells #[.int .i64 B.comp, .slice a1 B.bounds.length c1, .slice a2 B.orders.length c2, .slice a3 B.shots.length c3, .map (some mp)] 81)).alloc (.cells #[.int .i64 st, .int .i64 co, .int .i64 lo, .int .i64 hi] 59) := ⟨_, rfl⟩
  have E0 : Ext w W0 := by rw [hW0]; exact (Ext.alloc _ _).trans (Ext.alloc _ _)
  have b0 : Blk W0 w.heap.size 81 #[.int .i64 B.comp, .slice a1 B.bounds.length c1, .slice a2 B.orders.length c2, .slice a3 B.shots.length c3, .map (some mp)] := by rw [hW0]; exact (Blk.new _ _ _).alloc _
  have s0 : Blk W0 (w.heap.size + 1) 59 #[.int .i64 st, .int .i64 co, .int .i64 lo, .int .i64 hi] := by rw [hW0]; have := Blk.new (w.alloc (.cells #[.int .i64 B.comp, .slice a1 B.bounds.length c1, .slice a2 B.orders.length c2, .slice a3 B.shots.length c3, .map (some mp)] 81)) 59 #[.int .i64 st, .int .i64 co, .int .i64 lo, .int .i64 hi]; simpa using this
  rw [← hW0]
  clear hW0
  go_loopw [5, 6, 18] (fun p q i wr => ∃ k : Nat, k ≤ (hi - lo + 1).toNat ∧ i = .int .i64 k ∧ p = .bool (sureN B x k) ∧ q = .bool (canN B x k) ∧ Ext W0 wr) (fun _ _ i _ => (hi - lo + 1).toNat - (intOf i).toNat)
  case atStart => exact ⟨0, Nat.zero_le _, rfl, rfl, rfl, Ext.refl _⟩
  case round =>
    obtain ⟨k, hk, rfl, rfl, rfl, hE⟩ := hrel
    obtain ⟨x0, x1, x2, x3, x4⟩ := (b0.ext hE).c5
    obtain ⟨y0, y1, y2, y3⟩ := (s0.ext hE).c4
    by_cases hlt : k < (hi - lo + 1).toNat
    · go_wp2_with (fail)
      refine (owners_any B a1 a2 a3 c1 c2 c3 mp st (lo + k) wr (HB.out.ext (E0.trans hE)) (HG.out.ext (E0.trans hE)) (hM.ext (E0.trans hE)) Hv.out hs).mono ?_
      rintro e w' ⟨⟨av, cpv, rfl, hI⟩, hE2⟩
      have s1 := s0.ext (hE.trans hE2)
      obtain ⟨z0, z1, z2, z3⟩ := s1.c4
      have hlen := ownersL_len Hv.out st (lo + k)
      have hcon := contains_any av _ cpv co w' hI (by omega)
      clear x0 x1 x2 x3 x4 y0 y1 y2 y3 hI
      obtain ⟨p, hp⟩ : ∃ p, p = sureN B x k := ⟨_, rfl⟩
      obtain ⟨q, hq⟩ : ∃ q, q = canN B x k := ⟨_, rfl⟩
      obtain ⟨r, hr⟩ : ∃ r, r = isIn co (ownersL B st (lo + k)) := ⟨_, rfl⟩
      obtain ⟨n, hn⟩ : ∃ n, n = (ownersL B st (lo + k)).length := ⟨_, rfl⟩
      have e1 : canOne B x k = r := by rw [hr, hx]; rfl
      have e2 : sureOne B x k = (r && decide (n = 1)) := by rw [hr, hn, hx]; rfl
      have e3 := canN_succ B x k
      have e4 := sureN_succ B x k
      rw [e1, ← hq] at e3
      rw [e2, ← hp] at e4
      rw [← hp, ← hq]
      rw [← hn] at hlen hcon ⊢
      rw [← hr] at hcon
      have H3 := Lib.hid e3
      have H4 := Lib.hid e4
      have Hc := Lib.hid hcon
      clear e1 e2 e3 e4 hp hq hn hr hcon
      rcases (by omega : n = 1 ∨ n = 2) with rfl | rfl <;> cases p <;> cases q <;> cases r <;>
      · go_wp2_with (go_at_call 93; refine Hc.out.mono ?_; rintro e w' ⟨rfl, rfl⟩)
        go_roundw
        case rel => exact ⟨k + 1, by omega, by go_num, by rw [H4.out]; rfl, by rw [H3.out]; rfl, hE.trans hE2⟩
        case measure => simp [intOf]; omega
    · obtain rfl : k = (hi - lo + 1).toNat := by omega
      go_wp2_with (first | (go_at_call 80; refine (whether_any _ _).mono ?_; rintro e w' ⟨rfl, rfl⟩) | fail)
      refine (sum_two _ _ (wh (canN B ⟨st, co, lo, hi⟩ (hi - lo + 1).toNat)) (wh (sureN B ⟨st, co, lo, hi⟩ (hi - lo + 1).toNat)) _ (intA_two _ _ _ _) (wh_le _) (wh_le _)).mono ?_
      rintro e w' ⟨rfl, rfl⟩
      have E9 := (E0.trans hE).trans (Ext.alloc wr (.cells #[.int .i64 (wh (canN B ⟨st, co, lo, hi⟩ (hi - lo + 1).toNat)), .int .i64 (wh (sureN B ⟨st, co, lo, hi⟩ (hi - lo + 1).toNat))] 3))
      go_wp2
      go_ret
      exact ⟨rfl, E9⟩

theorem fair_any (B : Bk) (a1 a2 a3 : Option Addr) (c1 c2 c3 mp : Nat) (x : Sh) (w : World) (h : BookA w B a1 a2 a3) (hG : Glob w) (hM : MapA w mp (ownL B.orders B.orders.length)) (hv : validB B = true) (hs : 0 ≤ x.st ∧ x.st < B.orders.length) (h0 : 0 ≤ x.lo) (h1 : x.lo ≤ x.hi) (h2 : x.hi < 1440) :
    Calls Tryd.prog 75 #[.agg #[.int .i64 B.comp, .slice a1 B.bounds.length c1, .slice a2 B.orders.length c2, .slice a3 B.shots.length c3, .map (some mp)], .agg #[.int .i64 x.st, .int .i64 x.co, .int .i64 x.lo, .int .i64 x.hi]] w
      fun e w' => e = .returned (.int .i64 (fairN B x)) ∧ Ext w w' := by
  obtain ⟨st, co, lo, hi⟩ := x
  obtain ⟨s, rfl⟩ : ∃ s : Nat, st = s := ⟨st.toNat, by simp at hs; omega⟩
  exact fair_st B a1 a2 a3 c1 c2 c3 mp s co lo hi w h hG hM hv (by simpa using hs.2) h0 h1 h2
end Go.Proofs.YtnhdcdhpfgdphaaDoor

/-
  The turn at a minute in a truth; does a shot at a minute fit a truth?
-/
set_option linter.unusedSimpArgs false
set_option linter.unusedVariables false
namespace Go.Proofs.YtnhdcdhpfgdphaaDoor
open Go Go.RowKit

theorem unbounded_any (w : World) : Calls Tryd.prog 107 #[] w fun e w' => e = .returned (.agg #[.int .i64 0, .int .i64 0, .int .i64 0, .int .i64 0]) ∧ Ext w w' := by
  go_enter Tryd.func107, Tryd.ntmps107
  go_wp2_with (fail)
  have r0 : Blk ((w.alloc (.cells #[.int .i64 0, .int .i64 0, .int .i64 0, .int .i64 0] 117)).alloc (.cells #[.int .i64 0, .int .i64 0, .int .i64 0, .int .i64 0] 117)) w.heap.size 117 #[.int .i64 0, .int .i64 0, .int .i64 0, .int .i64 0] := (Blk.new _ _ _).alloc _
  obtain ⟨W0, hW0⟩ : ∃ W0, W0 = (w.alloc (.cells #[.int .i64 0, .int .i64 0, .int .i64 0, .int .i64 0] 117)).alloc (.cells #[.int .i64 0, .int .i64 0, .int .i64 0, .int .i64 0] 117) := ⟨_, rfl⟩
  have E0 : Below w.heap.size w W0 := by rw [hW0]; exact (Ext.alloc _ _).trans (Ext.alloc _ _)
  rw [← hW0] at r0
  rw [← hW0]
  clear hW0
  obtain ⟨k0, k1, k2, k3⟩ := r0.c4
  refine bodyPost_ret (v := .agg #[.int .i64 0, .int .i64 0, .int .i64 0, .int .i64 0]) ?_ rfl ⟨rfl, ?_⟩
  · simp [results, Tryd.results107, go_sem, k0, k1, k2, k3]
  · exact E0

/-- How many of the first k bounds were at or ahead of a minute, in a truth. -/
def cT (ts : List Int) (m : Int) (k : Nat) : Nat := ((List.range k).filter fun i => decide (nAt ts i ≤ m)).length
theorem cT_succ (ts : List Int) (m : Int) (k : Nat) : cT ts m (k + 1) = cT ts m k + if nAt ts k ≤ m then 1 else 0 := by
  by_cases h : nAt ts k ≤ m <;> simp [cT, List.range_succ, h]
theorem cT_le (ts : List Int) (m : Int) (k : Nat) : cT ts m k ≤ k := by
  have := List.length_filter_le (fun i => decide (nAt ts i ≤ m)) (List.range k)
  simpa [cT] using this
theorem cT_zero (m : Int) (hm : 0 ≤ m) (k : Nat) : cT [0, 0, 0, 0] m k = k := by
  unfold cT
  rw [List.filter_eq_self.2]
  · simp
  · intro i _
    have : nAt [0, 0, 0, 0] i = 0 := by
      unfold nAt
      rcases i with _ | _ | _ | _ | i <;> simp
    simpa [this] using hm

theorem eq_bounds (a b c d x y z u : Int) (w : World) : (Op.equalIn 10000 117 (.agg #[.int .i64 a, .int .i64 b, .int .i64 c, .int .i64 d]) (.agg #[.int .i64 x, .int .i64 y, .int .i64 z, .int .i64 u])).run Tryd.prog w = .ok (a == x && b == y && c == z && d == u) w := by
  have u3 := Tryd.underlying3
  have a3 := Tryd.isAgg3
  have z3 := Tryd.sizeOf3
  rw [show (10000 : Nat) = 9999 + 1 from rfl, Op.equalIn]
  simp only [Sem.run_bind, run_underlying Tryd.underlying117, Result.andThen_ok]
  simp only [Std.Legacy.Range.forIn_eq_forIn_range', Std.Legacy.Range.size, Nat.sub_zero, Nat.add_sub_cancel, Nat.div_one, List.range'_succ, List.range'_zero, List.forIn_cons, List.forIn_nil]
  go_simp
  by_cases h1 : a = x <;> by_cases h2 : b = y <;> by_cases h3 : c = z <;> by_cases h4 : d = u <;> simp [h1, h2, h3, h4]

set_option maxRecDepth 100000 in
set_option maxHeartbeats 4000000 in
theorem turn_any (B : Bk) (a1 a2 a3 : Option Addr) (c1 c2 c3 mp : Nat) (t0 t1 t2 t3 m : Int) (w : World) (hb : B.bounds.length ≤ 4) (hm : 0 ≤ m) :
    Calls Tryd.prog 104 #[.agg #[.int .i64 B.comp, .slice a1 B.bounds.length c1, .slice a2 B.orders.length c2, .slice a3 B.shots.length c3, .map (some mp)], .agg #[.int .i64 t0, .int .i64 t1, .int .i64 t2, .int .i64 t3], .int .i64 m] w
      fun e w' => e = .returned (.int .i64 (cT [t0, t1, t2, t3] m B.bounds.length)) ∧ Ext w w' := by
  go_enter Tryd.func104, Tryd.ntmps104
  go_upto_region 1 with (fail)
  obtain ⟨W0, hW0⟩ : ∃ W0, W0 = (w.alloc (.cells #[.int .i64 B.comp, .slice a1 B.bounds.length c1, .slice a2 B.orders.length c2, .slice a3 B.shots.length c3, .map (some mp)] 81)).alloc (.cells #[.int .i64 t0, .int .i64 t1, .int .i64 t2, .int .i64 t3] 117) := ⟨_, rfl⟩
  have E0 : Ext w W0 := by rw [hW0]; exact (Ext.alloc _ _).trans (Ext.alloc _ _)
  have b0 : Blk W0 w.heap.size 81 #[.int .i64 B.comp, .slice a1 B.bounds.length c1, .slice a2 B.orders.length c2, .slice a3 B.shots.length c3, .map (some mp)] := by rw [hW0]; exact (Blk.new _ _ _).alloc _
  have s0 : Blk W0 (w.heap.size + 1) 117 #[.int .i64 t0, .int .i64 t1, .int .i64 t2, .int .i64 t3] := by rw [hW0]; have := Blk.new (w.alloc (.cells #[.int .i64 B.comp, .slice a1 B.bounds.length c1, .slice a2 B.orders.length c2, .slice a3 B.shots.length c3, .map (some mp)] 81)) 117 #[.int .i64 t0, .int .i64 t1, .int .i64 t2, .int .i64 t3]; simpa using this
  rw [← hW0]
  clear hW0
  refine wp_plan (fun W => W.cell? ⟨w.heap.size + 1, 0, none⟩ = some (.int .i64 t0) ∧ W.cell? ⟨w.heap.size + 1, 1, none⟩ = some (.int .i64 t1) ∧ W.cell? ⟨w.heap.size + 1, 2, none⟩ = some (.int .i64 t2) ∧ W.cell? ⟨w.heap.size + 1, 3, none⟩ = some (.int .i64 t3) ∧ Ext W0 W) (.tames [0] (.one 1 (.tames [2] (.done)))) (by kernel_rfl) (by kernel_rfl) (by kernel_rfl) (fun c a d v w h => by cases d <;> exact h) ?_ ?_
  · exact ⟨s0.c4.1, s0.c4.2.1, s0.c4.2.2.1, s0.c4.2.2.2, Ext.drew _⟩
  refine pl_tames ?_
  (try simp only [Act.put, List.setIfInBounds_toArray, List.set_cons_zero, List.set_cons_succ])
  repeat (first
    | (refine pl_run (v := ?_) rfl ?_ (fun W hW => ?_) ?_; rotate_left; rfl; ((try dsimp only at hW); go_simp; try with_reducible rfl); (try simp only [Act.put, List.setIfInBounds_toArray, List.set_cons_zero, List.set_cons_succ]))
    | (refine pl_skip rfl ?_ ?_; rfl; (try simp only [Act.put, List.setIfInBounds_toArray, List.set_cons_zero, List.set_cons_succ])))
  refine pl_end ?_
  have hq := fun W => eq_bounds t0 t1 t2 t3 0 0 0 0 W
  refine pl_one rfl (by rfl) (fun K hK => ?_)
  go_simp
  go_at_call 107; refine (unbounded_any _).mono ?_; rintro e w' ⟨rfl, hE⟩
  refine hK.out _ _ (by have s1 := s0.ext ((Ext.drew _).trans hE); exact ⟨s1.c4.1, s1.c4.2.1, s1.c4.2.2.1, s1.c4.2.2.2, (Ext.drew _).trans hE⟩) ?_
  clear hK K
  (try refine pl_tames ?_)
  (try simp only [Act.put, List.setIfInBounds_toArray, List.set_cons_zero, List.set_cons_succ])
  try ((repeat (first   | (refine pl_run (v := ?_) rfl ?_ (fun W hW => ?_) ?_; rotate_left; rfl; ((try dsimp only at hW); go_simp; try with_reducible rfl); (try simp only [Act.put, List.setIfInBounds_toArray, List.set_cons_zero, List.set_cons_succ]))   | (refine pl_skip rfl ?_ ?_; rfl; (try simp only [Act.put, List.setIfInBounds_toArray, List.set_cons_zero, List.set_cons_succ])))); refine pl_end ?_)
  repeat (first
    | (refine pl_run (v := ?_) rfl ?_ (fun W hW => ?_) ?_; rotate_left; rfl; ((try dsimp only at hW); go_simp; try with_reducible rfl); (try simp only [Act.put, List.setIfInBounds_toArray, List.set_cons_zero, List.set_cons_succ]))
    | (refine pl_skip rfl ?_ ?_; rfl; (try simp only [Act.put, List.setIfInBounds_toArray, List.set_cons_zero, List.set_cons_succ])))
  refine pl_end ?_
  refine pl_done ?_
  have E1 : Ext W0 w' := (Ext.drew _).trans hE
  clear hq
  obtain ⟨x0, x1, x2, x3, x4⟩ := (b0.ext E1).c5
  obtain ⟨y0, y1, y2, y3⟩ := (s0.ext E1).c4
  have E2 : Ext w w' := E0.trans E1
  clear hE
  by_cases hz : t0 = 0 ∧ t1 = 0 ∧ t2 = 0 ∧ t3 = 0
  · obtain ⟨rfl, rfl, rfl, rfl⟩ := hz
    have hc := Lib.hid (cT_zero m hm B.bounds.length)
    go_wp2
    go_ret
    exact ⟨by rw [hc.out]; rfl, E2⟩
  · have hz' : (t0 == 0 && t1 == 0 && t2 == 0 && t3 == 0) = false := by
      simp; omega
    obtain ⟨q, hq⟩ : ∃ q, q = (t0 == 0 && t1 == 0 && t2 == 0 && t3 == 0) := ⟨_, rfl⟩
    rw [← hq]
    rw [← hq] at hz'
    subst hz'
    clear hz hq
    go_wp2_with (fail)
    go_loop [7, 20] (fun n i => ∃ k : Nat, k ≤ B.bounds.length ∧ i = .int .i64 k ∧ n = .int .i64 (cT [t0, t1, t2, t3] m k)) (fun _ i => B.bounds.length - (intOf i).toNat)
    case atStart => exact ⟨0, Nat.zero_le _, rfl, rfl⟩
    case round =>
      obtain ⟨k, hk, rfl, rfl⟩ := hrel
      have hle := cT_le [t0, t1, t2, t3] m k
      by_cases hlt : k < B.bounds.length
      · have hw : IntKind.i64.wrap ((cT [t0, t1, t2, t3] m k : Int) + 1) = (cT [t0, t1, t2, t3] m k : Int) + 1 := wr64 _ (by omega)
        rcases (by omega : k = 0 ∨ k = 1 ∨ k = 2 ∨ k = 3) with rfl | rfl | rfl | rfl
        · rw [show ((0 : Nat) : Int) = 0 from rfl]
          by_cases hle : t0 ≤ m
          · go_wp2
            go_round
            case rel => exact ⟨0 + 1, by omega, rfl, by rw [cT_succ _ _ 0, if_pos (show nAt [t0, t1, t2, t3] 0 ≤ m from hle)]; rfl⟩
            case measure => simp [intOf]; omega
          · go_wp2
            go_round
            case rel => exact ⟨0 + 1, by omega, rfl, by rw [cT_succ _ _ 0, if_neg (show ¬ nAt [t0, t1, t2, t3] 0 ≤ m from hle)]; rfl⟩
            case measure => simp [intOf]; omega
        · rw [show ((1 : Nat) : Int) = 1 from rfl]
          by_cases hle : t1 ≤ m
          · go_wp2
            go_round
            case rel => exact ⟨1 + 1, by omega, rfl, by rw [cT_succ _ _ 1, if_pos (show nAt [t0, t1, t2, t3] 1 ≤ m from hle)]; rfl⟩
            case measure => simp [intOf]; omega
          · go_wp2
            go_round
            case rel => exact ⟨1 + 1, by omega, rfl, by rw [cT_succ _ _ 1, if_neg (show ¬ nAt [t0, t1, t2, t3] 1 ≤ m from hle)]; rfl⟩
            case measure => simp [intOf]; omega
        · rw [show ((2 : Nat) : Int) = 2 from rfl]
          by_cases hle : t2 ≤ m
          · go_wp2
            go_round
            case rel => exact ⟨2 + 1, by omega, rfl, by rw [cT_succ _ _ 2, if_pos (show nAt [t0, t1, t2, t3] 2 ≤ m from hle)]; rfl⟩
            case measure => simp [intOf]; omega
          · go_wp2
            go_round
            case rel => exact ⟨2 + 1, by omega, rfl, by rw [cT_succ _ _ 2, if_neg (show ¬ nAt [t0, t1, t2, t3] 2 ≤ m from hle)]; rfl⟩
            case measure => simp [intOf]; omega
        · rw [show ((3 : Nat) : Int) = 3 from rfl]
          by_cases hle : t3 ≤ m
          · go_wp2
            go_round
            case rel => exact ⟨3 + 1, by omega, rfl, by rw [cT_succ _ _ 3, if_pos (show nAt [t0, t1, t2, t3] 3 ≤ m from hle)]; rfl⟩
            case measure => simp [intOf]; omega
          · go_wp2
            go_round
            case rel => exact ⟨3 + 1, by omega, rfl, by rw [cT_succ _ _ 3, if_neg (show ¬ nAt [t0, t1, t2, t3] 3 ≤ m from hle)]; rfl⟩
            case measure => simp [intOf]; omega
      · obtain rfl : k = B.bounds.length := by omega
        go_wp2
        go_ret
        exact ⟨rfl, E2⟩

theorem puts2 {w : World} {g : Nat} {t : TypeId} {a b : Value} (h : Blk w g t #[a, b]) (u v : Value) : Blk ((w.setCell ⟨g, 0, none⟩ u).setCell ⟨g, 1, none⟩ v) g t #[u, v] := by
  simpa using (h.put 0 u).put 1 v
theorem below2 {n : Nat} {w w' : World} {g : Nat} (h : Below n w w') (hg : n ≤ g) (u v : Value) : Below n w ((w'.setCell ⟨g, 0, none⟩ u).setCell ⟨g, 1, none⟩ v) :=
  (h.setCell (by simpa using hg) _).setCell (by simpa using hg) _
/-- Is a shot at a minute fair in a truth? -/
def fitB (B : Bk) (ts : List Int) (st : Nat) (co m : Int) : Bool := decide (nAt (oAt B.orders st) (cT ts m B.bounds.length) = co)

theorem eq_place (a b x y : Int) (w : World) : (Op.equalIn 10000 110 (.agg #[.int .i64 a, .int .i64 b]) (.agg #[.int .i64 x, .int .i64 y])).run Tryd.prog w = .ok (a == x && b == y) w := placeKey.eq a b x y w

set_option maxRecDepth 100000 in
set_option maxHeartbeats 4000000 in
theorem fits_st (B : Bk) (a1 a2 a3 : Option Addr) (c1 c2 c3 mp : Nat) (t0 t1 t2 t3 : Int) (st : Nat) (co lo hi m : Int) (w : World) (hG : Glob w) (hM : MapA w mp (ownL B.orders B.orders.length)) (hv : validB B = true) (hs : st < B.orders.length) (hm : 0 ≤ m) :
    Calls Tryd.prog 97 #[.agg #[.int .i64 B.comp, .slice a1 B.bounds.length c1, .slice a2 B.orders.length c2, .slice a3 B.shots.length c3, .map (some mp)], .agg #[.int .i64 t0, .int .i64 t1, .int .i64 t2, .int .i64 t3], .agg #[.int .i64 st, .int .i64 co, .int .i64 lo, .int .i64 hi], .int .i64 m] w
      fun e w' => e = .returned (.bool (fitB B [t0, t1, t2, t3] st co m)) ∧ Ext w w' := by
  have hb := (valid_sizes hv).2.2.2.2.1
  have hrow := (valid_row hv hs).1
  have hle := cT_le [t0, t1, t2, t3] m B.bounds.length
  have HG := Lib.hid hG
  have Hv := Lib.hid hv
  clear hG hv
  go_enter Tryd.func97, Tryd.ntmps97
  go_upto_region 1 with (fail)
  obtain ⟨W0, hW0⟩ : ∃ W0, W0 = ((w.alloc (.cells #[.int .i64 B.comp, .slice a1 B.bounds.length c1, .slice a2 B.orders.length c2, .slice a3 B.shots.length c3, .map (some mp)] 81)).alloc (.cells #[.int .i64 t0, .int .i64 t1, .int .i64 t2, .int .i64 t3] 117)).alloc (.cells #[.int .i64 st, .int .i64 co, .int .i64 lo, .int .i64 hi] 59) := ⟨_, rfl⟩
  have E0 : Ext w W0 := by rw [hW0]; exact ((Ext.alloc _ _).trans (Ext.alloc _ _)).trans (Ext.alloc _ _)
  have b0 : Blk W0 w.heap.size 81 #[.int .i64 B.comp, .slice a1 B.bounds.length c1, .slice a2 B.orders.length c2, .slice a3 B.shots.length c3, .map (some mp)] := by rw [hW0]; exact ((Blk.new _ _ _).alloc _).alloc _
  have s0 : Blk W0 (w.heap.size + 1) 117 #[.int .i64 t0, .int .i64 t1, .int .i64 t2, .int .i64 t3] := by rw [hW0]; have := Blk.new (w.alloc (.cells #[.int .i64 B.comp, .slice a1 B.bounds.length c1, .slice a2 B.orders.length c2, .slice a3 B.shots.length c3, .map (some mp)] 81)) 117 #[.int .i64 t0, .int .i64 t1, .int .i64 t2, .int .i64 t3]; simpa using this.alloc _
  have x0 : Blk W0 (w.heap.size + 1 + 1) 59 #[.int .i64 st, .int .i64 co, .int .i64 lo, .int .i64 hi] := by rw [hW0]; have := Blk.new ((w.alloc (.cells #[.int .i64 B.comp, .slice a1 B.bounds.length c1, .slice a2 B.orders.length c2, .slice a3 B.shots.length c3, .map (some mp)] 81)).alloc (.cells #[.int .i64 t0, .int .i64 t1, .int .i64 t2, .int .i64 t3] 117)) 59 #[.int .i64 st, .int .i64 co, .int .i64 lo, .int .i64 hi]; simpa using this
  rw [← hW0]
  clear hW0
  obtain ⟨p0, p1, p2, p3, p4⟩ := b0.c5
  obtain ⟨q0, q1, q2, q3⟩ := s0.c4
  obtain ⟨r0, r1, r2, r3⟩ := x0.c4
  have HS : ∀ W, Ext W0 W → (W.cell? ⟨w.heap.size, 0, none⟩ = some (.int .i64 B.comp) ∧ W.cell? ⟨w.heap.size, 1, none⟩ = some (.slice a1 B.bounds.length c1) ∧ W.cell? ⟨w.heap.size, 2, none⟩ = some (.slice a2 B.orders.length c2) ∧ W.cell? ⟨w.heap.size, 3, none⟩ = some (.slice a3 B.shots.length c3) ∧ W.cell? ⟨w.heap.size, 4, none⟩ = some (.map (some mp)) ∧ W.cell? ⟨w.heap.size + 1, 0, none⟩ = some (.int .i64 t0) ∧ W.cell? ⟨w.heap.size + 1, 1, none⟩ = some (.int .i64 t1) ∧ W.cell? ⟨w.heap.size + 1, 2, none⟩ = some (.int .i64 t2) ∧ W.cell? ⟨w.heap.size + 1, 3, none⟩ = some (.int .i64 t3) ∧ W.cell? ⟨w.heap.size + 1 + 1, 0, none⟩ = some (.int .i64 st)) :=
    fun W e => ⟨e.keep p0, e.keep p1, e.keep p2, e.keep p3, e.keep p4, e.keep q0, e.keep q1, e.keep q2, e.keep q3, e.keep r0⟩
  go_cut [9] (fun s wx => ∃ g, s = .pointer (some ⟨g, 0, none⟩) ∧ Blk wx g 110 #[.int .i64 st, .int .i64 (cT [t0, t1, t2, t3] m B.bounds.length)] ∧ Ext W0 wx)
  case first =>
    have HH := Lib.hid HS
    have ht := turn_any B a1 a2 a3 c1 c2 c3 mp t0 t1 t2 t3 m
    clear HS p0 p1 p2 p3 p4 q0 q1 q2 q3 r0 r1 r2 r3
    refine wp_plan (fun W => W.cell? ⟨w.heap.size, 0, none⟩ = some (.int .i64 B.comp) ∧ W.cell? ⟨w.heap.size, 1, none⟩ = some (.slice a1 B.bounds.length c1) ∧ W.cell? ⟨w.heap.size, 2, none⟩ = some (.slice a2 B.orders.length c2) ∧ W.cell? ⟨w.heap.size, 3, none⟩ = some (.slice a3 B.shots.length c3) ∧ W.cell? ⟨w.heap.size, 4, none⟩ = some (.map (some mp)) ∧ W.cell? ⟨w.heap.size + 1, 0, none⟩ = some (.int .i64 t0) ∧ W.cell? ⟨w.heap.size + 1, 1, none⟩ = some (.int .i64 t1) ∧ W.cell? ⟨w.heap.size + 1, 2, none⟩ = some (.int .i64 t2) ∧ W.cell? ⟨w.heap.size + 1, 3, none⟩ = some (.int .i64 t3) ∧ W.cell? ⟨w.heap.size + 1 + 1, 0, none⟩ = some (.int .i64 st)) (.tames [0, 1, 2, 3, 4] (.two 5 7 (.tames [6] (.one 7 (.one 8 (.done)))) (.one 5 (.tames [6] (.one 8 (.done)))))) (by kernel_rfl) (by kernel_rfl) (by kernel_rfl) (fun c a d v w h => by cases d <;> exact h) ?_ ?_
    · exact HH.out _ (Ext.drew _)
    refine pl_tames ?_
    (try simp only [Act.put, List.setIfInBounds_toArray, List.set_cons_zero, List.set_cons_succ])
    repeat (first
      | (refine pl_run (v := ?_) rfl ?_ (fun W hW => ?_) ?_; rotate_left; rfl; ((try dsimp only at hW); go_simp; try with_reducible rfl); (try simp only [Act.put, List.setIfInBounds_toArray, List.set_cons_zero, List.set_cons_succ]))
      | (refine pl_skip rfl ?_ ?_; rfl; (try simp only [Act.put, List.setIfInBounds_toArray, List.set_cons_zero, List.set_cons_succ])))
    refine pl_end ?_
    refine pl_two ?_ ?_
    · refine pl_one rfl (by rfl) (fun K hK => ?_)
      go_simp
      go_at_call 104
      refine (ht _ hb hm).mono ?_
      rintro e w1 ⟨rfl, hE⟩
      have X1 : Ext W0 w1 := (Ext.drew _).trans hE
      refine hK.out _ _ (HH.out _ X1) (pl_tames ?_)
      clear hK K
      (try simp only [Act.put, List.setIfInBounds_toArray, List.set_cons_zero, List.set_cons_succ])
      repeat (first
        | (refine pl_run (v := ?_) rfl ?_ (fun W hW => ?_) ?_; rotate_left; rfl; ((try dsimp only at hW); go_simp; try with_reducible rfl); (try simp only [Act.put, List.setIfInBounds_toArray, List.set_cons_zero, List.set_cons_succ]))
        | (refine pl_skip rfl ?_ ?_; rfl; (try simp only [Act.put, List.setIfInBounds_toArray, List.set_cons_zero, List.set_cons_succ])))
      refine pl_end ?_
      refine pl_one rfl (by rfl) (fun K hK => ?_)
      go_simp
      refine hK.out _ _ (HH.out _ (X1.trans (Ext.alloc _ _))) ?_
      clear hK K
      have B3 : Blk (w1.alloc (.cells #[.int .i64 0, .int .i64 0] 110)) w1.heap.size 110 #[.int .i64 0, .int .i64 0] := Blk.new w1 _ _
      have X3 : Ext W0 (w1.alloc (.cells #[.int .i64 0, .int .i64 0] 110)) := X1.trans (Ext.alloc _ _)
      have g1 : W0.heap.size ≤ w1.heap.size := X1.size
      generalize (w1.alloc (.cells #[.int .i64 0, .int .i64 0] 110)) = W3 at B3 X3 ⊢
      obtain ⟨k0, k1⟩ := B3.c2
      have f0 := B3.frozen 0
      have f1 := B3.frozen 1
      refine pl_one rfl (by rfl) (fun K hK => ?_)
      go_simp
      refine hK.out _ _ (HH.out _ (below2 X3 g1 _ _)) (pl_done ?_)
      clear hK K
      (try simp only [Act.put])
      go_wp2
      go_meet
      case rel => exact ⟨w1.heap.size, rfl, puts2 B3 _ _, below2 X3 g1 _ _⟩
    · refine pl_one rfl (by rfl) (fun K hK => ?_)
      go_simp
      have X1 : Ext W0 (W0.alloc (.cells #[.int .i64 0, .int .i64 0] 110)).drew := (Ext.alloc _ _).trans (Ext.drew _)
      refine hK.out _ _ (HH.out _ X1) ?_
      clear hK K
      refine pl_one rfl (by rfl) (fun K hK => ?_)
      go_simp
      go_at_call 104
      refine (ht _ hb hm).mono ?_
      rintro e w1 ⟨rfl, hE⟩
      have B1 : Blk w1 W0.heap.size 110 #[.int .i64 0, .int .i64 0] := (Blk.new W0 _ _).drew.ext hE
      have X2 : Ext W0 w1 := X1.trans hE
      refine hK.out _ _ (HH.out _ X2) (pl_tames ?_)
      clear hK K
      (try simp only [Act.put, List.setIfInBounds_toArray, List.set_cons_zero, List.set_cons_succ])
      repeat (first
        | (refine pl_run (v := ?_) rfl ?_ (fun W hW => ?_) ?_; rotate_left; rfl; ((try dsimp only at hW); go_simp; try with_reducible rfl); (try simp only [Act.put, List.setIfInBounds_toArray, List.set_cons_zero, List.set_cons_succ]))
        | (refine pl_skip rfl ?_ ?_; rfl; (try simp only [Act.put, List.setIfInBounds_toArray, List.set_cons_zero, List.set_cons_succ])))
      refine pl_end ?_
      have B3 : Blk w1 W0.heap.size 110 #[.int .i64 0, .int .i64 0] := B1
      have X3 : Ext W0 w1 := X2
      have g1 : W0.heap.size ≤ W0.heap.size := Nat.le_refl _
      generalize w1 = W3 at B3 X3 ⊢
      obtain ⟨k0, k1⟩ := B3.c2
      have f0 := B3.frozen 0
      have f1 := B3.frozen 1
      refine pl_one rfl (by rfl) (fun K hK => ?_)
      go_simp
      refine hK.out _ _ (HH.out _ (below2 X3 g1 _ _)) (pl_done ?_)
      clear hK K
      (try simp only [Act.put])
      go_wp2
      go_meet
      case rel => exact ⟨W0.heap.size, rfl, puts2 B3 _ _, below2 X3 g1 _ _⟩
  case rest =>
    clear HS
    obtain ⟨g, rfl, hp, hE⟩ := hcut
    obtain ⟨e0, e1, n0, n1⟩ := HG.out.ext (E0.trans hE)
    obtain ⟨k0, k1⟩ := hp.c2
    clear p0 p1 p2 p3 p4 q0 q1 q2 q3 r0 r1 r2 r3 e0 e1
    obtain ⟨p0, p1, p2, p3, p4⟩ := (b0.ext hE).c5
    obtain ⟨r0, r1, r2, r3⟩ := (x0.ext hE).c4
    have hne : ((st : Int) == -1 && ((cT [t0, t1, t2, t3] m B.bounds.length : Nat) : Int) == -1) = false := by
      have : ((st : Int) == -1) = false := by rw [beq_eq_false_iff_ne]; omega
      rw [this]; rfl
    have hq := fun W => eq_place (st : Int) (cT [t0, t1, t2, t3] m B.bounds.length : Nat) (-1) (-1) W
    rw [hne] at hq
    have hlk := fun n => run_lookup placeKey mapTy ((hM.ext (E0.trans hE)).ext (Ext.drewN _ n)) (st : Int) (cT [t0, t1, t2, t3] m B.bounds.length : Nat) _ (seek_ownL st (cT [t0, t1, t2, t3] m B.bounds.length) B.orders hs (by omega))
    clear hne
    go_upto_region 2 with (fail)
    go_quiet (fail)
    go_wp2
    go_ret
    exact ⟨rfl, E0.trans (hE.trans (Ext.drewN _ _))⟩
end Go.Proofs.YtnhdcdhpfgdphaaDoor
