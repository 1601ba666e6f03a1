/-
  open: how many shots are fair in some truths, and in others not; the lesser of two numbers.
-/
import Derived.Test.YtnhdcdhpfgdphaaDoorTA
set_option linter.unusedSimpArgs false
set_option linter.unusedVariables false
namespace Go.Proofs.YtnhdcdhpfgdphaaDoor
open Go Go.RowKit

def openK (B : Bk) (k : Nat) : Int := ((List.range k).map fun i => wh (fairN B (sAt B.shots i) == 1)).sum
theorem openK_succ (B : Bk) (k : Nat) : openK B (k + 1) = openK B k + wh (fairN B (sAt B.shots k) == 1) := by simp [openK, List.range_succ]
theorem openK_le (B : Bk) (k : Nat) : 0 ≤ openK B k ∧ openK B k ≤ k := by
  induction k with
  | zero => simp [openK]
  | succ k ih => rw [openK_succ]; have := wh_le (fairN B (sAt B.shots k) == 1); omega
/-- How many shots are undecided. -/
def openN (B : Bk) : Int := openK B B.shots.length

set_option maxRecDepth 100000 in
set_option maxHeartbeats 4000000 in
theorem open_any (B : Bk) (a1 a2 a3 : Option Addr) (c1 c2 c3 mp : Nat) (w : World) (h : BookA w B a1 a2 a3) (hG : Glob w) (hM : MapA w mp (ownL B.orders B.orders.length)) (hv : validB B = true) :
    Calls Tryd.prog 86 #[.agg #[.int .i64 B.comp, .slice a1 B.bounds.length c1, .slice a2 B.orders.length c2, .slice a3 B.shots.length c3, .map (some mp)]] w
      fun e w' => e = .returned (.int .i64 (openN B)) ∧ Ext w w' := by
  have hn5 := (valid_sizes hv).2.2.2.2.2
  have HB := Lib.hid h
  have HG := Lib.hid hG
  clear h hG
  go_enter Tryd.func86, Tryd.ntmps86
  go_upto_region 2 with (fail)
  obtain ⟨W0, hW0⟩ : ∃ W0, W0 = w.alloc (.cells #[.int .i64 B.comp, .slice a1 B.bounds.length c1, .slice a2 B.orders.length c2, .slice a3 B.shots.length c3, .map (some mp)] 81) := ⟨_, rfl⟩
  have E0 : Ext w W0 := by rw [hW0]; exact Ext.alloc _ _
  have b0 : Blk W0 w.heap.size 81 #[.int .i64 B.comp, .slice a1 B.bounds.length c1, .slice a2 B.orders.length c2, .slice a3 B.shots.length c3, .map (some mp)] := by rw [hW0]; exact Blk.new _ _ _
  rw [← hW0]
  clear hW0
  obtain ⟨x0, x1, x2, x3, x4⟩ := b0.c5
  go_wp2_with (fail)
  clear x0 x1 x2 x3 x4
  go_loopw [3, 10] (fun n i wr => ∃ k : Nat, k ≤ B.shots.length ∧ i = .int .i64 k ∧ n = .int .i64 (openK B k) ∧ Ext W0 wr) (fun _ i _ => B.shots.length - (intOf i).toNat)
  case atStart => exact ⟨0, Nat.zero_le _, rfl, rfl, Ext.refl _⟩
  case round =>
    obtain ⟨k, hk, rfl, rfl, hE⟩ := hrel
    have HBr := Lib.hid ((HB.out.ext E0).ext hE)
    by_cases hlt : k < B.shots.length
    · obtain ⟨h1, h2, h3, h4, h5, h6, h7, h8⟩ := valid_shot hv hlt
      obtain ⟨b, o, rfl, hbl, hc⟩ := HBr.out.shots (by omega)
      obtain ⟨q0, q1, q2, q3⟩ := hc k hlt
      have hop := openK_le B k
      have hwl := wh_le (fairN B (sAt B.shots k) == 1)
      have hsucc := Lib.hid (openK_succ B k)
      clear hc
      go_upto_region 5 with (fail)
      obtain ⟨W5, hW5⟩ : ∃ W5, W5 = wr.alloc (.cells #[.int .i64 (sAt B.shots k).st, .int .i64 (sAt B.shots k).co, .int .i64 (sAt B.shots k).lo, .int .i64 (sAt B.shots k).hi] 59) := ⟨_, rfl⟩
      have X5 : Ext wr W5 := by rw [hW5]; exact Ext.alloc _ _
      have s5 : Blk W5 wr.heap.size 59 #[.int .i64 (sAt B.shots k).st, .int .i64 (sAt B.shots k).co, .int .i64 (sAt B.shots k).lo, .int .i64 (sAt B.shots k).hi] := by rw [hW5]; exact Blk.new _ _ _
      rw [← hW5]
      clear hW5 q0 q1 q2 q3
      have E5 := Ext.trans hE X5
      obtain ⟨x0, x1, x2, x3, x4⟩ := (b0.ext E5).c5
      obtain ⟨y0, y1, y2, y3⟩ := s5.c4
      go_wp2_with (first | (go_at_call 75; refine (fair_any B a1 a2 _ c1 c2 c3 mp (sAt B.shots k) _ (HBr.out.ext X5) ((HG.out.ext E0).ext E5) ((hM.ext E0).ext E5) hv ⟨h1, h2⟩ h5 h6 h7).mono ?_; rintro e w6 ⟨rfl, hE6⟩) | (go_at_call 80; refine (whether_any _ _).mono ?_; rintro e w' ⟨rfl, rfl⟩))
      go_roundw
      case rel => exact ⟨k + 1, by omega, by go_num, by rw [hsucc.out], Ext.trans E5 hE6⟩
      case measure => simp [intOf]; omega
    · obtain rfl : k = B.shots.length := by omega
      go_wp2
      go_ret
      exact ⟨rfl, Ext.trans E0 hE⟩

set_option maxHeartbeats 1000000 in
theorem lesser_any (a b : Int) (w : World) : Calls Tryd.prog 100 #[.int .i64 a, .int .i64 b] w fun e w' => e = .returned (.bool (decide (a < b))) ∧ w = w' := by
  go_enter Tryd.func100, Tryd.ntmps100
  go_wp2
  go_ret
  exact ⟨rfl, rfl⟩
end Go.Proofs.YtnhdcdhpfgdphaaDoor
