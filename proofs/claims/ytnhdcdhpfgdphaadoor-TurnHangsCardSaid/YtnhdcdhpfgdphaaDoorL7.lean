/-
  sound: is there a book?
-/
import Derived.Test.YtnhdcdhpfgdphaaDoorL1
import Derived.Test.YtnhdcdhpfgdphaaDoorT5
set_option linter.unusedSimpArgs false
set_option linter.unusedVariables false
namespace Go.Proofs.YtnhdcdhpfgdphaaDoor
open Go Go.RowKit

theorem between_yes {n lo hi : Int} (h : inB n lo hi = true) (w : World) : Calls Tryd.prog 44 #[.int .i64 n, .int .i64 lo, .int .i64 hi] w fun e w' => e = .returned (.bool true) ∧ w = w' := by
  have := between_any n lo hi w
  rwa [h] at this
theorem sane_yes {lo hi a b : Int} (h : a ≤ lo ∧ hi ≤ b ∧ lo ≤ hi) (w : World) : Calls Tryd.prog 52 #[.agg #[.int .i64 lo, .int .i64 hi], .int .i64 a, .int .i64 b] w fun e w' => e = .returned (.bool true) ∧ Ext w w' := by
  have := sane_any lo hi a b w
  rwa [decide_eq_true h] at this

set_option maxRecDepth 100000 in
set_option maxHeartbeats 4000000 in
theorem sound_no (B : Bk) (a1 a2 a3 : Option Addr) (c1 c2 c3 : Nat) (w : World) (h : BookA w B a1 a2 a3) (hv : validB B = false) :
    Calls Tryd.prog 36 #[.agg #[.int .i64 B.comp, .slice a1 B.bounds.length c1, .slice a2 B.orders.length c2, .slice a3 B.shots.length c3]] w
      fun e w' => e = .returned (.bool false) ∧ Ext w w' := by
  have HB := Lib.hid h
  clear h
  go_enter Tryd.func36, Tryd.ntmps36
  go_upto_region 1 with (fail)
  obtain ⟨W0, hW0⟩ : ∃ W0, W0 = w.alloc (.cells #[.int .i64 B.comp, .slice a1 B.bounds.length c1, .slice a2 B.orders.length c2, .slice a3 B.shots.length c3] 26) := ⟨_, rfl⟩
  have b0 : Blk W0 w.heap.size 26 #[.int .i64 B.comp, .slice a1 B.bounds.length c1, .slice a2 B.orders.length c2, .slice a3 B.shots.length c3] := by rw [hW0]; exact Blk.new _ _ _
  have E0 : Ext w W0 := by rw [hW0]; exact Ext.alloc _ _
  rw [← hW0]
  clear hW0
  obtain ⟨x0, x1, x2, x3⟩ := b0.c4
  go_upto_region 3 with (go_at_call 17; refine (check_no B a1 a2 a3 c1 c2 c3 _ (HB.out.ext E0) hv).mono ?_; rintro e w1 ⟨rfl, hE1⟩)
  clear x0 x1 x2 x3
  go_loopw [3, 4] (fun s i wr => s = .bool false ∧ Ext w wr) (fun _ i _ => 0)
  case atStart => exact ⟨rfl, E0.trans hE1⟩
  case round =>
    obtain ⟨rfl, hE⟩ := hrel
    go_upto_region 7 with (fail)
    go_loopw [3, 5] (fun s i wx => s = .bool false ∧ Ext w wx) (fun _ i _ => 0)
    case atStart => exact ⟨rfl, hE⟩
    case round =>
      obtain ⟨rfl, hE2⟩ := hrel
      go_upto_region 11 with (fail)
      go_loopw [3, 6] (fun s i wy => s = .bool false ∧ Ext w wy) (fun _ i _ => 0)
      case atStart => exact ⟨rfl, hE2⟩
      case round =>
        obtain ⟨rfl, hE3⟩ := hrel
        go_wp2
        go_ret
        exact ⟨rfl, hE3⟩

set_option maxRecDepth 100000 in
set_option maxHeartbeats 4000000 in
theorem sound_yes (B : Bk) (a1 a2 a3 : Option Addr) (c1 c2 c3 : Nat) (w : World) (h : BookA w B a1 a2 a3) (hv : validB B = true) :
    Calls Tryd.prog 36 #[.agg #[.int .i64 B.comp, .slice a1 B.bounds.length c1, .slice a2 B.orders.length c2, .slice a3 B.shots.length c3]] w
      fun e w' => e = .returned (.bool true) ∧ Ext w w' := by
  have HB := Lib.hid h
  have hsz := valid_sizes hv
  clear h
  go_enter Tryd.func36, Tryd.ntmps36
  go_upto_region 1 with (fail)
  obtain ⟨W0, hW0⟩ : ∃ W0, W0 = w.alloc (.cells #[.int .i64 B.comp, .slice a1 B.bounds.length c1, .slice a2 B.orders.length c2, .slice a3 B.shots.length c3] 26) := ⟨_, rfl⟩
  have b0 : Blk W0 w.heap.size 26 #[.int .i64 B.comp, .slice a1 B.bounds.length c1, .slice a2 B.orders.length c2, .slice a3 B.shots.length c3] := by rw [hW0]; exact Blk.new _ _ _
  have E0 : Ext w W0 := by rw [hW0]; exact Ext.alloc _ _
  rw [← hW0]
  clear hW0
  obtain ⟨x0, x1, x2, x3⟩ := b0.c4
  have g1 := (show inB B.comp 1 4 = true by simp [inB]; omega)
  have g2 := (show inB B.orders.length 1 3 = true by simp [inB]; omega)
  go_upto_region 3 with (first | (go_at_call 17; refine (check_yes B a1 a2 a3 c1 c2 c3 _ (HB.out.ext E0) hv).mono ?_; rintro e w1 ⟨rfl, hE1⟩; obtain ⟨z0, z1, z2, z3⟩ := (b0.ext hE1).c4) | (go_at_call 44; refine (between_any _ _ _ _).mono ?_; rintro e w2 ⟨rfl, rfl⟩))
  clear x0 x1 x2 x3 z0 z1 z2 z3 g1 g2
  have hok : decide ((B.shots.length : Int) ≤ 5) = true := by simp; omega
  rw [hok]
  clear hok
  go_loopw [3, 4] (fun s i wr => ∃ k : Nat, k ≤ B.bounds.length ∧ s = .bool true ∧ i = .int .i64 k ∧ Ext W0 wr) (fun _ i _ => B.bounds.length - (intOf i).toNat)
  case atStart => exact ⟨0, Nat.zero_le _, rfl, rfl, hE1⟩
  case round =>
    obtain ⟨k, hk, rfl, rfl, hE⟩ := hrel
    obtain ⟨x0, x1, x2, x3⟩ := (b0.ext hE).c4
    by_cases hlt : k < B.bounds.length
    · obtain ⟨h1, h2, h3, h4⟩ := valid_bound hv hlt
      have HBr := (HB.out.ext E0).ext hE
      obtain ⟨b, o, rfl, hbl, hc⟩ := HBr.bounds (by omega)
      obtain ⟨q0, q1⟩ := hc k hlt
      have hs := Lib.hid (⟨h1, by omega, h2⟩ : 0 ≤ bLo B.bounds k ∧ bHi B.bounds k ≤ 1439 ∧ bLo B.bounds k ≤ bHi B.bounds k)
      clear hc HBr
      go_wp2_with (go_at_call 52; refine (sane_yes hs.out _).mono ?_; rintro e w2 ⟨rfl, hE2⟩)
      go_roundw
      case rel => exact ⟨k + 1, by omega, rfl, by go_num, hE.trans hE2⟩
      case measure => simp [intOf]; omega
    · obtain rfl : k = B.bounds.length := by omega
      go_upto_region 7 with (fail)
      clear x0 x1 x2 x3
      go_loopw [3, 5] (fun s i wx => ∃ k : Nat, k ≤ B.orders.length ∧ s = .bool true ∧ i = .int .i64 k ∧ Ext W0 wx) (fun _ i _ => B.orders.length - (intOf i).toNat)
      case atStart => exact ⟨0, Nat.zero_le _, rfl, rfl, hE⟩
      case round =>
        obtain ⟨k, hk2, rfl, rfl, hE2⟩ := hrel
        obtain ⟨x0, x1, x2, x3⟩ := (b0.ext hE2).c4
        by_cases hlt2 : k < B.orders.length
        · have hr := (valid_row hv hlt2).1
          have HBr := (HB.out.ext E0).ext hE2
          obtain ⟨b, o, rfl, hbl, hc⟩ := HBr.orders (by omega)
          obtain ⟨ra, rc, q0, q1, _⟩ := hc k hlt2
          have hq : (((oAt B.orders k).length : Int) == (B.bounds.length : Int) + 1) = true := by rw [hr]; simp
          clear hc HBr hr
          go_upto_region 9 with (fail)
          go_quiet (fail)
          go_wp2
          go_roundw
          case rel => exact ⟨k + 1, by omega, rfl, by go_num, hE2.trans (Ext.drewN _ _)⟩
          case measure => simp [intOf]; omega
        · obtain rfl : k = B.orders.length := by omega
          go_upto_region 11 with (fail)
          clear x0 x1 x2 x3
          go_loopw [3, 6] (fun s i wy => ∃ k : Nat, k ≤ B.shots.length ∧ s = .bool true ∧ i = .int .i64 k ∧ Ext W0 wy) (fun _ i _ => B.shots.length - (intOf i).toNat)
          case atStart => exact ⟨0, Nat.zero_le _, rfl, rfl, hE2⟩
          case round =>
            obtain ⟨k, hk3, rfl, rfl, hE3⟩ := hrel
            obtain ⟨x0, x1, x2, x3⟩ := (b0.ext hE3).c4
            by_cases hlt3 : k < B.shots.length
            · obtain ⟨h1, h2, h3, h4, h5, h6, h7, h8⟩ := valid_shot hv hlt3
              have HBr := (HB.out.ext E0).ext hE3
              obtain ⟨b, o, rfl, hbl, hc⟩ := HBr.shots (by omega)
              obtain ⟨q0, q1, q2, q3⟩ := hc k hlt3
              clear hc HBr
              go_upto_region 14 with (fail)
              obtain ⟨W5, hW5⟩ : ∃ W5, W5 = wr.alloc (.cells #[.int .i64 (sAt B.shots k).st, .int .i64 (sAt B.shots k).co, .int .i64 (sAt B.shots k).lo, .int .i64 (sAt B.shots k).hi] 59) := ⟨_, rfl⟩
              have X5 : Ext wr W5 := by rw [hW5]; exact Ext.alloc _ _
              have s5 : Blk W5 wr.heap.size 59 #[.int .i64 (sAt B.shots k).st, .int .i64 (sAt B.shots k).co, .int .i64 (sAt B.shots k).lo, .int .i64 (sAt B.shots k).hi] := by rw [hW5]; exact Blk.new _ _ _
              rw [← hW5]
              have E5 := hE3.trans X5
              clear hW5 q0 q1 q2 q3 x0 x1 x2 x3
              obtain ⟨x0, x1, x2, x3⟩ := (b0.ext E5).c4
              obtain ⟨y0, y1, y2, y3⟩ := s5.c4
              have i1 : inB (sAt B.shots k).st 0 ((B.orders.length : Int) - 1) = true := by simp [inB]; omega
              have i2 : inB (sAt B.shots k).co 0 (B.comp - 1) = true := by simp [inB]; omega
              have i3 : decide ((sAt B.shots k).hi - (sAt B.shots k).lo ≤ 10) = true := by simp; omega
              have hs := Lib.hid (⟨h5, by omega, h6⟩ : 0 ≤ (sAt B.shots k).lo ∧ (sAt B.shots k).hi ≤ 1439 ∧ (sAt B.shots k).lo ≤ (sAt B.shots k).hi)
              go_wp2_with (first | (go_at_call 44; refine (between_any _ _ _ _).mono ?_; rintro e w2 ⟨rfl, rfl⟩) | (go_at_call 52; refine (sane_yes hs.out _).mono ?_; rintro e w3 ⟨rfl, hE4⟩; obtain ⟨z0, z1, z2, z3⟩ := (s5.ext hE4).c4))
              go_roundw
              case rel => exact ⟨k + 1, by omega, by first | rfl | exact congrArg _ i3, by go_num, E5.trans hE4⟩
              case measure => simp [intOf]; omega
            · obtain rfl : k = B.shots.length := by omega
              go_wp2
              go_ret
              exact ⟨rfl, E0.trans hE3⟩
end Go.Proofs.YtnhdcdhpfgdphaaDoor
