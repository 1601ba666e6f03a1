/-
  The small functions of package turn: contracts.
-/
import Derived.Test.YtnhdcdhpfgdphaaDoorProg
import Derived.WalkKit
import Derived.WalkLawsBesides
import Derived.WalkSpells
import Derived.Outline
import Derived.BigQuiet
import Derived.Deep.QuietTactic
import Derived.Lib.Hide
import Derived.Test.YtnhdcdhpfgdphaaDoorT0
namespace Go.Proofs.YtnhdcdhpfgdphaaDoor
open Go Go.RowKit

set_option maxHeartbeats 400000 in
theorem on_any (n lo hi : Int) (w : World) :
    Calls Tryd.prog 64 #[.int .i64 n, .int .i64 lo, .int .i64 hi] w fun e w' => e = .returned (.bool (decide (lo ≤ n) && decide (n ≤ hi))) ∧ w = w' := by
  go_enter Tryd.func64, Tryd.ntmps64
  go_wp2
  all_goals
    go_ret
    refine ⟨?_, rfl⟩
    first | rfl | (congr 2; simp; omega)

set_option maxHeartbeats 400000 in
theorem isMinute_any (n : Int) (w : World) :
    Calls Tryd.prog 59 #[.int .i64 n] w fun e w' => e = .returned (.bool (decide (0 ≤ n) && decide (n ≤ 1439))) ∧ w = w' := by
  go_enter Tryd.func59, Tryd.ntmps59
  go_wp2_with (go_at_call 64; refine (on_any _ _ _ _).mono ?_; rintro e w' ⟨rfl, rfl⟩)
  go_ret
  exact ⟨rfl, rfl⟩




set_option maxHeartbeats 400000 in
theorem isSpan_any (l h : Int) (w : World) :
    Calls Tryd.prog 65 #[.agg #[.int .i64 l, .int .i64 h]] w fun e w' => e = .returned (.bool (isSpanB l h)) ∧ w' = w.alloc (.cells #[.int .i64 l, .int .i64 h] 29) := by
  by_cases h1 : 0 ≤ l ∧ l ≤ h
  · have hb : isSpanB l h = (decide (h < 1440) && decide (h - l ≤ 10)) := by simp [isSpanB, h1]
    have Hb := Lib.hid hb
    clear hb
    go_enter Tryd.func65, Tryd.ntmps65
    go_wp2_with (go_at_call 64; refine (on_any _ _ _ _).mono ?_; rintro e w' ⟨rfl, rfl⟩)
    all_goals
      go_ret
      refine ⟨?_, rfl⟩
      rw [Hb.out]
      first | (congr 2; simp; omega) | (congr 2; simp [*])
  · have h3 : (decide (0 ≤ l) && decide (l ≤ h)) = false := by simp; omega
    have hb : isSpanB l h = false := by simp [isSpanB]; omega
    have Hb := Lib.hid hb
    clear hb
    go_enter Tryd.func65, Tryd.ntmps65
    go_wp2_with (go_at_call 64; refine (on_any _ _ _ _).mono ?_; rintro e w' ⟨rfl, rfl⟩)
    go_ret
    exact ⟨by rw [Hb.out]; rfl, rfl⟩
/-- The same, the answer under a name. -/
theorem isSpan_is (l h : Int) (sp : Bool) (hs : isSpanB l h = sp) (w : World) :
    Calls Tryd.prog 65 #[.agg #[.int .i64 l, .int .i64 h]] w fun e w' => e = .returned (.bool sp) ∧ w' = w.alloc (.cells #[.int .i64 l, .int .i64 h] 29) := by
  subst hs
  exact isSpan_any l h w
/-- The package's variables hold what its text lays in them. -/
structure Glob (w : World) : Prop where
  e0 : w.cell? ⟨0, 0, none⟩ = some (.func (.func 141) #[] #[])
  e1 : w.cell? ⟨0, 1, none⟩ = some (.func (.func 143) #[] #[])
  n0 : w.cell? ⟨1, 0, none⟩ = some (.int .i64 (-1))
  n1 : w.cell? ⟨1, 1, none⟩ = some (.int .i64 (-1))
theorem Glob.ext {w w' : World} (h : Glob w) (hb : Ext w w') : Glob w' := ⟨hb.keep h.e0, hb.keep h.e1, hb.keep h.n0, hb.keep h.n1⟩

set_option maxHeartbeats 400000 in
theorem low_any (l h : Int) (w : World) :
    Calls Tryd.prog 144 #[.agg #[.int .i64 l, .int .i64 h]] w fun e w' => e = .returned (.int .i64 l) ∧ w' = w.alloc (.cells #[.int .i64 l, .int .i64 h] 107) := by
  go_enter Tryd.func144, Tryd.ntmps144
  go_wp2
  go_ret
  exact ⟨rfl, rfl⟩
set_option maxHeartbeats 400000 in
theorem high_any (l h : Int) (w : World) :
    Calls Tryd.prog 145 #[.agg #[.int .i64 l, .int .i64 h]] w fun e w' => e = .returned (.int .i64 h) ∧ w' = w.alloc (.cells #[.int .i64 l, .int .i64 h] 107) := by
  go_enter Tryd.func145, Tryd.ntmps145
  go_wp2
  go_ret
  exact ⟨rfl, rfl⟩
set_option maxHeartbeats 400000 in
theorem first_any (l h : Int) (w : World) :
    Calls Tryd.prog 141 #[.agg #[.int .i64 l, .int .i64 h]] w fun e w' => e = .returned (.int .i64 l) ∧ Ext w w' := by
  go_enter Tryd.func141, Tryd.ntmps141
  go_wp2_with (go_at_call 144; refine (low_any _ _ _).mono ?_; rintro e w' ⟨rfl, rfl⟩)
  go_ret
  exact ⟨rfl, (Ext.alloc _ _).trans (Ext.alloc _ _)⟩
set_option maxHeartbeats 400000 in
theorem last_any (l h : Int) (w : World) :
    Calls Tryd.prog 143 #[.agg #[.int .i64 l, .int .i64 h]] w fun e w' => e = .returned (.int .i64 h) ∧ Ext w w' := by
  go_enter Tryd.func143, Tryd.ntmps143
  go_wp2_with (go_at_call 145; refine (high_any _ _ _).mono ?_; rintro e w' ⟨rfl, rfl⟩)
  go_ret
  exact ⟨rfl, (Ext.alloc _ _).trans (Ext.alloc _ _)⟩
end Go.Proofs.YtnhdcdhpfgdphaaDoor
