/-
  Contracts of a book of which more is known than of another one, whose lengths it has.
-/
import Derived.Test.YtnhdcdhpfgdphaaDoorP5
import Derived.Test.YtnhdcdhpfgdphaaDoorA1
set_option linter.unusedSimpArgs false
set_option linter.unusedVariables false
namespace Go.Proofs.YtnhdcdhpfgdphaaDoor
open Go Go.RowKit

theorem hangs_as {X B : Bk} (t : Tight X B) (a1 a2 a3 : Option Addr) (c1 c2 c3 : Nat) (k : Nat) (w : World) (h : BookA w X a1 a2 a3) (hG : Glob w) (hk : k < B.shots.length) :
    Calls Tryd.prog 28 #[.agg #[.int .i64 B.comp, .slice a1 B.bounds.length c1, .slice a2 B.orders.length c2, .slice a3 B.shots.length c3], .int .i64 k] w
      fun e w' => (∃ a cp, e = .returned (.tuple #[.slice a (hangsI X (sAt X.shots k) B.bounds.length).length cp, .int .i64 0]) ∧ IntA w' a (hangsI X (sAt X.shots k) B.bounds.length)) ∧ Ext w w' := by
  have := hangs_yes X a1 a2 a3 c1 c2 c3 k w h hG t.valid (by rw [t.shots]; exact hk)
  rwa [t.comp, t.orders, t.bounds, t.shots] at this
theorem fair_as {X B : Bk} (t : Tight X B) (a1 a2 a3 : Option Addr) (c1 c2 c3 : Nat) (k : Nat) (w : World) (h : BookA w X a1 a2 a3) (hG : Glob w) (hk : k < B.shots.length) :
    Calls Tryd.prog 26 #[.agg #[.int .i64 B.comp, .slice a1 B.bounds.length c1, .slice a2 B.orders.length c2, .slice a3 B.shots.length c3], .int .i64 k] w
      fun e w' => e = .returned (.tuple #[.int .i64 (fairN X (sAt X.shots k)), .int .i64 0]) ∧ Ext w w' := by
  have := fair_yes X a1 a2 a3 c1 c2 c3 k w h hG t.valid (by rw [t.shots]; exact hk)
  rwa [t.comp, t.orders, t.bounds, t.shots] at this
theorem known_as {X B : Bk} (t : Tight X B) (a1 a2 a3 : Option Addr) (c1 c2 c3 : Nat) (k : Nat) (m : Int) (w : World) (h : BookA w X a1 a2 a3) (hk : k < B.bounds.length) (h5 : B.bounds.length ≤ 1000) :
    Calls Tryd.prog 48 #[.agg #[.int .i64 B.comp, .slice a1 B.bounds.length c1, .slice a2 B.orders.length c2, .slice a3 B.shots.length c3], .int .i64 k, .int .i64 m] w
      fun e w' => (∃ a cp, e = .returned (.agg #[.int .i64 B.comp, .slice a B.bounds.length cp, .slice a2 B.orders.length c2, .slice a3 B.shots.length c3]) ∧ BookA w' (knownB X k m) a a2 a3) ∧ Ext w w' := by
  have := known_any X a1 a2 a3 c1 c2 c3 k m w h (by rw [t.bounds]; exact hk) (by rw [t.bounds]; exact h5)
  rwa [t.comp, t.orders, t.bounds, t.shots] at this
end Go.Proofs.YtnhdcdhpfgdphaaDoor
