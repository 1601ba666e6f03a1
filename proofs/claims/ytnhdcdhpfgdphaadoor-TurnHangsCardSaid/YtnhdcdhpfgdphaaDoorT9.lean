/-
  turn: who can have a station at a minute.
-/
import Derived.Test.YtnhdcdhpfgdphaaDoorV
import Derived.Test.YtnhdcdhpfgdphaaDoorT5
import Derived.Test.YtnhdcdhpfgdphaaDoorT8
import Derived.Maps.AppendAt
set_option linter.unusedSimpArgs false
set_option linter.unusedVariables false
namespace Go.Proofs.YtnhdcdhpfgdphaaDoor
open Go Go.RowKit

def ints (xs : List Int) : List Value := xs.map (Value.int .i64)
theorem own_int {w : World} {base n : Nat} {v : Value} {xs : List Int} (h : w.ownsRow base 3 1 v n (ints xs)) : n = xs.length ∧ ∃ a cp, v = .slice a n cp ∧ IntA w a xs := by
  have hl : n = xs.length := by have := h.1; simp [ints] at this; omega
  refine ⟨hl, ?_⟩
  rcases Nat.eq_zero_or_pos n with h0 | h0
  · rcases h.2 with ⟨rfl, _⟩ | ⟨g, cap, cur, rfl, _⟩
    · exact ⟨none, 0, by rw [h0], fun hp => by omega⟩
    · exact ⟨_, cap, rfl, fun hp => by omega⟩
  · rcases h.2 with ⟨_, h1⟩ | ⟨g, cap, cur, rfl, hg, hh, h1, h2, h3, h4⟩
    · omega
    · refine ⟨_, cap, rfl, fun _ => ⟨g, 0, rfl, (Array.getElem?_eq_some_iff.1 hh).1, fun i hi => ?_⟩⟩
      have hb : Blk w g 3 cur := hh
      refine hb.cell ?_
      have h5 : (cur.toList.take (n * 1))[i]? = some (.int .i64 (nAt xs i)) := by rw [h4]; simp [ints, nAt, List.getElem?_eq_getElem hi]
      rw [List.getElem?_take] at h5
      rw [if_pos (by omega)] at h5
      simpa using h5
/-- A row of the call's own that is not nil, laid open. -/
theorem own_open {w : World} {base n : Nat} {v : Value} {xs : List Value} (h : w.ownsRow base 3 1 v n xs) (hn : 0 < n) : ∃ g cap cur, v = .slice (some ⟨g, 0, none⟩) n cap ∧ base ≤ g ∧ n ≤ cap ∧ cap ≤ maxLen ∧ Blk w g 3 cur ∧ cur.toList.take n = xs := by
  rcases h.2 with ⟨_, h1⟩ | ⟨g, cap, cur, rfl, hg, hh, h1, h2, h3, h4⟩
  · omega
  · exact ⟨g, cap, cur, rfl, hg, h1, h2, hh, by simpa using h4⟩

theorem own_base {w : World} {base n : Nat} {v : Value} {xs : List Value} (h : w.ownsRow base 3 1 v n xs) : ∀ k, v.ownBlock = some k → base ≤ k := by
  intro k hk
  rcases h.2 with ⟨rfl, _⟩ | ⟨g, cap, cur, rfl, hb, _⟩
  · simp [Value.ownBlock] at hk
  · have : g = k := by simpa [Value.ownBlock] using hk
    omega
theorem int_info : (Tryd.prog.info? 3).map (fun i => (i.zero, i.size, i.bytes)) = some (some (.int .i64 0), 1, 8) := by kernel_rfl

theorem dd_same {xs : List Int} {lo k : Nat} (h1 : lo ≤ k) (h2 : k ≤ lo + 1) (hq : isIn (nAt xs k) (dd xs lo (k - lo)) = true) : dd xs lo (k + 1 - lo) = dd xs lo (k - lo) := by
  rcases (by omega : k = lo ∨ k = lo + 1) with rfl | rfl
  · simp [isIn, dd] at hq
  · rw [show lo + 1 - lo = 1 by omega] at hq
    rw [show lo + 1 - lo = 1 by omega, show lo + 1 + 1 - lo = 2 by omega]
    simp only [isIn, dd, List.mem_singleton, decide_eq_true_eq] at hq ⊢
    rw [if_pos hq]
theorem dd_more {xs : List Int} {lo k : Nat} (h1 : lo ≤ k) (h2 : k ≤ lo + 1) (hq : isIn (nAt xs k) (dd xs lo (k - lo)) = false) : dd xs lo (k + 1 - lo) = dd xs lo (k - lo) ++ [nAt xs k] := by
  rcases (by omega : k = lo ∨ k = lo + 1) with rfl | rfl
  · rw [show k + 1 - k = 1 by omega, Nat.sub_self]; rfl
  · rw [show lo + 1 - lo = 1 by omega] at hq
    rw [show lo + 1 - lo = 1 by omega, show lo + 1 + 1 - lo = 2 by omega]
    simp only [isIn, dd, List.mem_singleton, decide_eq_false_iff_not] at hq ⊢
    rw [if_neg hq]; rfl

set_option maxRecDepth 100000 in
set_option maxHeartbeats 4000000 in
theorem owners_any (B : Bk) (a1 a2 a3 : Option Addr) (c1 c2 c3 mp : Nat) (s : Nat) (m : Int) (w : World) (h : BookA w B a1 a2 a3) (hG : Glob w) (hM : MapA w mp (ownL B.orders B.orders.length)) (hv : validB B = true) (hs : s < B.orders.length) :
    Calls Tryd.prog 70 #[.agg #[.int .i64 B.comp, .slice a1 B.bounds.length c1, .slice a2 B.orders.length c2, .slice a3 B.shots.length c3, .map (some mp)], .int .i64 s, .int .i64 m] w
      fun e w' => (∃ a cp, e = .returned (.slice a (ownersL B s m).length cp) ∧ IntA w' a (ownersL B s m)) ∧ Ext w w' := by
  have t1 := tLo_le_tHi hv m
  have t2 := tHi_le_succ hv m
  have t3 := tHi_le hv m
  have t4 := (valid_row hv hs).1
  have t5 := (valid_sizes hv).2.2.2.2.1
  obtain ⟨i0, hi, hz0, hz1, hz2⟩ := info_parts int_info
  have HB := Lib.hid h
  have HG := Lib.hid hG
  have Hv := Lib.hid hv
  clear h hG hv
  go_enter Tryd.func70, Tryd.ntmps70
  go_wp2_with (fail)
  refine (turns_any B a1 a2 a3 c1 c2 c3 (some mp) m _ (HB.out.ext (Ext.alloc _ _)) (HG.out.ext (Ext.alloc _ _))).mono ?_
  rintro e w1 ⟨rfl, hE1⟩
  have b1 := (Blk.new w 81 #[.int .i64 B.comp, .slice a1 B.bounds.length c1, .slice a2 B.orders.length c2, .slice a3 B.shots.length c3, .map (some mp)]).ext hE1
  have E1 := Ext.trans (Ext.alloc w _) hE1
  have M1 := hM.ext E1
  clear hE1 hM
  go_wp2_with (fail)
  obtain ⟨W0, hW0⟩ : ∃ W0, W0 = w1.alloc (.cells #[.int .i64 (tLo B m), .int .i64 (tHi B m)] 29) := ⟨_, rfl⟩
  have s0 : Blk W0 w1.heap.size 29 #[.int .i64 (tLo B m), .int .i64 (tHi B m)] := by rw [hW0]; exact Blk.new _ _ _
  have b0 := b1.ext (by rw [hW0]; exact Ext.alloc _ _ : Ext w1 W0)
  have E0 : Ext w W0 := Ext.trans E1 (by rw [hW0]; exact Ext.alloc _ _)
  have M0 : MapA W0 mp (ownL B.orders B.orders.length) := M1.ext (by rw [hW0]; exact Ext.alloc _ _)
  rw [← hW0]
  clear hW0 b1 E1 M1
  go_loopw [8, 9] (fun v t wr => ∃ k : Nat, tLo B m ≤ k ∧ k ≤ tHi B m + 1 ∧ t = .int .i64 k ∧ wr.ownsRow W0.heap.size 3 1 v (dd (oAt B.orders s) (tLo B m) (k - tLo B m)).length (ints (dd (oAt B.orders s) (tLo B m) (k - tLo B m))) ∧ Ext W0 wr) (fun _ t _ => tHi B m + 1 - (intOf t).toNat)
  case atStart => exact ⟨tLo B m, Nat.le_refl _, by omega, rfl, by rw [Nat.sub_self]; exact World.ownsRow_nil _ _ _ _, Ext.refl _⟩
  case round =>
    obtain ⟨k, hk1, hk2, rfl, hown, hE⟩ := hrel
    obtain ⟨hn, av, cpv, rfl, hI⟩ := own_int hown
    obtain ⟨x0, x1, x2, x3, x4⟩ := (b0.ext hE).c5
    obtain ⟨y0, y1⟩ := (s0.ext hE).c2
    by_cases hle : k ≤ tHi B m
    · have hlk := run_lookup placeKey mapTy (M0.ext hE) (s : Int) (k : Int) _ (seek_ownL s k B.orders hs (by omega))
      have hlen : (dd (oAt B.orders s) (tLo B m) (k - tLo B m)).length ≤ 2 := by
        rcases (by omega : k - tLo B m = 0 ∨ k - tLo B m = 1) with e | e <;> rw [e] <;> simp [dd]
      have hcon := contains_any av _ cpv (nAt (oAt B.orders s) k) wr hI (by omega)
      obtain ⟨q, hq⟩ : ∃ q, q = isIn (nAt (oAt B.orders s) k) (dd (oAt B.orders s) (tLo B m) (k - tLo B m)) := ⟨_, rfl⟩
      rw [← hq] at hcon
      have Hq := Lib.hid hq
      have Hcon := Lib.hid hcon
      clear hq hcon
      cases q with
      | true =>
        go_wp2_with (go_at_call 93; refine Hcon.out.mono ?_; rintro e w' ⟨rfl, rfl⟩)
        go_roundw
        case rel => exact ⟨k + 1, by omega, by omega, by go_num, by rw [dd_same hk1 (by omega) Hq.out.symm]; exact hown, hE⟩
        case measure => simp [intOf]; omega
      | false =>
        go_wp2_with (first | (go_at_call 93; refine Hcon.out.mono ?_; rintro e w' ⟨rfl, rfl⟩) | (at_builtin; refine wpList_append_own _ rfl _ _ 34 rfl W0.heap.size 3 i0 (.int .i64 0) 1 8 Tryd.underlying34 hi hz0 hz1 hz2 rfl (by decide) _ _ _ rfl (hown.alloc _) ⟨wr.heap.size, 0, none⟩ 1 1 [.int .i64 (nAt (oAt B.orders s) k)] rfl rfl (cell_one_new _ _ _) (by simp [Value.oneCell']) (by unfold maxLen; omega) (by omega) (by have := hE.size; simp; omega) ?_))
        intro v' w2 hown' hgrow _
        have hE2 : Ext W0 w2 := (Ext.trans hE (Ext.alloc wr _)).grown hgrow (by have := hE.size; simp; omega) ?_
        · go_wp2
          go_roundw
          case rel => exact ⟨k + 1, by omega, by omega, by go_num, by rw [dd_more hk1 (by omega) Hq.out.symm]; simpa [ints] using hown', hE2⟩
          case measure => simp [intOf]; omega
        · exact own_base hown
    · obtain rfl : k = tHi B m + 1 := by omega
      rw [show tHi B m + 1 - tLo B m = tHi B m - tLo B m + 1 by omega] at hown hI
      rw [show tHi B m + 1 - tLo B m = tHi B m - tLo B m + 1 by omega]
      rcases dd_cases (oAt B.orders s) (tLo B m) (tHi B m - tLo B m + 1) (by omega) (by omega) with hd | ⟨hd, hne⟩
      · have hL : ownersL B s m = [nAt (oAt B.orders s) (tLo B m)] := by unfold ownersL; rw [hd]; rfl
        rw [hd] at hown ⊢
        obtain ⟨g, cap, cur, e1, g1, g2, g3, hb, ht⟩ := own_open hown (by simp)
        simp only [Value.slice.injEq] at e1
        obtain ⟨rfl, -, rfl⟩ := e1
        have HL := Lib.hid hL
        have g4 : 1 ≤ cpv := by simpa using g2
        rw [hd] at hI
        clear hL hd g2
        unfold maxLen at g3
        go_wp2_with (first | (go_at_call 94; refine (sort_1 _ _ _).mono ?_; rintro e w' ⟨rfl, rfl⟩))
        go_ret
        exact ⟨⟨_, _, by rw [HL.out]; rfl, by rw [HL.out]; exact hI⟩, Ext.trans E0 hE⟩
      · have hL : ownersL B s m = [min (nAt (oAt B.orders s) (tLo B m)) (nAt (oAt B.orders s) (tLo B m + 1)), max (nAt (oAt B.orders s) (tLo B m)) (nAt (oAt B.orders s) (tLo B m + 1))] := by unfold ownersL; rw [hd]; rfl
        rw [hd] at hown ⊢
        obtain ⟨g, cap, cur, e1, g1, g2, g3, hb, ht⟩ := own_open hown (by simp)
        simp only [Value.slice.injEq] at e1
        obtain ⟨rfl, -, rfl⟩ := e1
        have HL := Lib.hid hL
        have g4 : 2 ≤ cpv := by simpa using g2
        have k0 : wr.cell? ⟨g, 0, none⟩ = some (.int .i64 (nAt (oAt B.orders s) (tLo B m))) := by
          refine hb.cell ?_
          have := congrArg (·[0]?) ht
          simpa [ints, List.getElem?_take] using this
        have k1 : wr.cell? ⟨g, 1, none⟩ = some (.int .i64 (nAt (oAt B.orders s) (tLo B m + 1))) := by
          refine hb.cell ?_
          have := congrArg (·[1]?) ht
          simpa [ints, List.getElem?_take] using this
        have f0 := hb.frozen 0
        have f1 := hb.frozen 1
        clear hL hd g2 hne hI ht
        unfold maxLen at g3
        go_wp2_with (first | (go_at_call 94; refine (sort_2 _ _ _ _ _ k0 k1 f0 f1).mono ?_; rintro e w' ⟨rfl, hT, z0, z1⟩))
        go_ret
        refine ⟨⟨_, _, by rw [HL.out]; rfl, ?_⟩, Ext.trans E0 (hE.grown hT hE.size (fun k e => by cases e; exact g1))⟩
        rw [HL.out]
        exact fun _ => ⟨g, 0, rfl, lt_of_cell z0, fun i hi => by
          rcases (by simp at hi; omega : i = 0 ∨ i = 1) with rfl | rfl
          · exact z0
          · exact z1⟩
end Go.Proofs.YtnhdcdhpfgdphaaDoor
