/-
  The library's functions on slices of whole numbers, as far as they are used here: Index, Contains, Sort of one number or two.
-/
import Derived.Test.YtnhdcdhpfgdphaaDoorMOw1
import Derived.Test.YtnhdcdhpfgdphaaDoorMOw2
import Derived.Deep.LoopGhost
import Derived.Deep.DeepCutAuto
import Derived.WalkLawsBesides
import Derived.BigQuiet
import Derived.Deep.QuietTactic
set_option linter.unusedSimpArgs false
set_option linter.unusedVariables false
namespace Go.Proofs.YtnhdcdhpfgdphaaDoor
open Go Go.RowKit

def isIn (v : Int) (xs : List Int) : Bool := decide (v ∈ xs)
theorem isIn_take_succ (v : Int) (xs : List Int) (k : Nat) (h : k < xs.length) (h0 : isIn v (xs.take k) = false) (hne : v ≠ nAt xs k) : isIn v (xs.take (k + 1)) = false := by
  simp only [isIn, decide_eq_false_iff_not] at *
  rw [List.take_succ_eq_append_getElem h]
  intro hm
  rcases List.mem_append.1 hm with h1 | h1
  · exact h0 h1
  · simp at h1
    exact hne (by rw [h1, nAt]; simp [h])
theorem isIn_at (v : Int) (xs : List Int) (k : Nat) (h : k < xs.length) (he : v = nAt xs k) : isIn v xs = true := by
  simp only [isIn, decide_eq_true_eq]
  have : nAt xs k = xs[k] := by simp [nAt, h]
  rw [he, this]
  exact List.getElem_mem h

set_option maxHeartbeats 1000000 in
theorem index_any (a : Option Addr) (xs : List Int) (cp : Nat) (v : Int) (w : World) (h : IntA w a xs) (hm : xs.length ≤ 9223372036854775807) :
    Calls Tryd.prog 101 #[.slice a xs.length cp, .int .i64 v] w fun e w' => (∃ r : Int, e = .returned (.int .i64 r) ∧ decide (0 ≤ r) = isIn v xs) ∧ w = w' := by
  go_enter Tryd.func101, Tryd.ntmps101
  go_wp2_with (fail)
  go_loop [8] (fun i => ∃ k : Nat, k ≤ xs.length ∧ i = .int .i64 k ∧ isIn v (xs.take k) = false) (fun i => xs.length - (intOf i).toNat)
  case atStart => exact ⟨0, Nat.zero_le _, rfl, by simp [isIn]⟩
  case round =>
    obtain ⟨k, hk, rfl, hn⟩ := hrel
    have Hn := Lib.hid hn
    clear hn
    by_cases hlt : k < xs.length
    · obtain ⟨b, o, rfl, hbl, hc⟩ := h (by omega)
      have q := hc k hlt
      by_cases he : v = nAt xs k
      · have he' : (v == nAt xs k) = true := by rw [he]; simp
        have Hi := Lib.hid (isIn_at v xs k hlt he)
        clear he hc
        go_wp2
        go_ret
        exact ⟨⟨k, rfl, by rw [Hi.out]; simp⟩, rfl⟩
      · have he' : (v == nAt xs k) = false := by simp [he]
        have Hi := Lib.hid (isIn_take_succ v xs k hlt Hn.out he)
        clear he hc
        go_wp2
        go_round
        case rel => exact ⟨k + 1, by omega, by go_num, Hi.out⟩
        case measure => simp [intOf]; omega
    · obtain rfl : k = xs.length := by omega
      go_wp2
      go_ret
      exact ⟨⟨-1, rfl, by have := Hn.out; rw [List.take_length] at this; rw [this]; rfl⟩, rfl⟩

set_option maxHeartbeats 1000000 in
theorem contains_any (a : Option Addr) (xs : List Int) (cp : Nat) (v : Int) (w : World) (h : IntA w a xs) (hm : xs.length ≤ 9223372036854775807) :
    Calls Tryd.prog 93 #[.slice a xs.length cp, .int .i64 v] w fun e w' => e = .returned (.bool (isIn v xs)) ∧ w = w' := by
  go_enter Tryd.func93, Tryd.ntmps93
  go_wp2_with (fail)
  refine (index_any a xs cp v _ h hm).mono ?_
  rintro e w' ⟨⟨r, rfl, hr⟩, rfl⟩
  have Hr := Lib.hid hr
  clear hr
  go_wp2
  go_ret
  exact ⟨by rw [← Hr.out]; rfl, rfl⟩
end Go.Proofs.YtnhdcdhpfgdphaaDoor

/-
  slices.Sort of one number, or of two.
-/
set_option linter.unusedSimpArgs false
set_option linter.unusedVariables false
namespace Go.Proofs.YtnhdcdhpfgdphaaDoor
open Go Go.RowKit

set_option maxRecDepth 100000 in
set_option maxHeartbeats 4000000 in
theorem len_1 (w : World) : Calls Tryd.prog 103 #[.int .u64 1] w fun e w' => (∃ r : Int, e = .returned (.int .i64 r)) ∧ w = w' := by
  go_enter Tryd.func103, Tryd.ntmps103
  go_wp2
  go_ret
  exact ⟨⟨_, rfl⟩, rfl⟩
set_option maxRecDepth 100000 in
set_option maxHeartbeats 4000000 in
theorem len_2 (w : World) : Calls Tryd.prog 103 #[.int .u64 2] w fun e w' => (∃ r : Int, e = .returned (.int .i64 r)) ∧ w = w' := by
  go_enter Tryd.func103, Tryd.ntmps103
  go_wp2
  go_ret
  exact ⟨⟨_, rfl⟩, rfl⟩

set_option maxHeartbeats 1000000 in
theorem less_any (x y : Int) (w : World) : Calls Tryd.prog 115 #[.int .i64 x, .int .i64 y] w fun e w' => e = .returned (.bool (decide (x < y))) ∧ w = w' := by
  go_enter Tryd.func115, Tryd.ntmps115
  go_wp2
  go_ret
  exact ⟨rfl, rfl⟩

set_option maxHeartbeats 1000000 in
theorem ins_1 (a : Option Addr) (cp : Nat) (w : World) : Calls Tryd.prog 109 #[.slice a 1 cp, .int .i64 0, .int .i64 1] w fun e w' => e = .returned (.tuple #[]) ∧ w = w' := by
  go_enter Tryd.func109, Tryd.ntmps109
  go_wp2_with (fail)
  refine wp_loop_rounds 1 ?_
  rw [rounds_succ]
  go_wp2
  go_end0
  exact ⟨rfl, rfl⟩

set_option maxRecDepth 100000 in
set_option maxHeartbeats 1000000 in
theorem pdq_1 (a : Option Addr) (cp : Nat) (r : Int) (w : World) : Calls Tryd.prog 102 #[.slice a 1 cp, .int .i64 0, .int .i64 1, .int .i64 r] w fun e w' => e = .returned (.tuple #[]) ∧ w = w' := by
  go_enter Tryd.func102, Tryd.ntmps102
  go_wp2_with (fail)
  refine wp_loop_rounds 1 ?_
  rw [rounds_succ]
  go_wp2_with (go_at_call 109; refine (ins_1 _ _ _).mono ?_; rintro e w' ⟨rfl, rfl⟩)
  go_outline
  refine bodyPost_ret (results_none rfl _ _ _) rfl ?_
  exact ⟨rfl, rfl⟩

set_option maxHeartbeats 1000000 in
theorem sort_1 (a : Option Addr) (cp : Nat) (w : World) : Calls Tryd.prog 94 #[.slice a 1 cp] w fun e w' => e = .returned (.tuple #[]) ∧ w = w' := by
  go_enter Tryd.func94, Tryd.ntmps94
  go_wp2_with (first | (go_at_call 103; refine (len_1 _).mono ?_; rintro e w' ⟨⟨r, rfl⟩, rfl⟩) | (go_at_call 102; refine (pdq_1 _ _ _ _).mono ?_; rintro e w' ⟨rfl, rfl⟩))
  go_end0
  exact ⟨rfl, rfl⟩
end Go.Proofs.YtnhdcdhpfgdphaaDoor

/-
  slices.Sort of two numbers.
-/
set_option linter.unusedSimpArgs false
set_option linter.unusedVariables false
namespace Go.Proofs.YtnhdcdhpfgdphaaDoor
open Go Go.RowKit

theorem less_q (x y : Int) (w : World) (n : Nat) (r : Bool) (hr : decide (x < y) = r) : Calls Tryd.prog 115 #[.int .i64 x, .int .i64 y] (w.drewN n) fun e w'' => e = .returned (.bool r) ∧ ∃ m, w'' = w.drewN m :=
  (less_any x y _).mono fun e w' h => ⟨by rw [h.1, hr], n, h.2.symm⟩

/-- What a sort of two numbers leaves. -/
def Two (w w' : World) (g : Nat) (x y : Int) : Prop := w.grownBy w' (some g) ∧ w'.cell? ⟨g, 0, none⟩ = some (.int .i64 x) ∧ w'.cell? ⟨g, 1, none⟩ = some (.int .i64 y)

theorem grown_drewN (w : World) (n : Nat) (row : Option Nat) : w.grownBy (w.drewN n) row := ⟨rfl, rfl, rfl, Nat.le_refl _, fun _ _ _ => rfl⟩

theorem two_swap {w : World} {g : Nat} {x y : Int} (h0 : w.cell? ⟨g, 0, none⟩ = some (.int .i64 x)) (h1 : w.cell? ⟨g, 1, none⟩ = some (.int .i64 y)) (n m : Nat) :
    Two w ((((w.drewN n).setCell ⟨g, 1, none⟩ (.int .i64 x)).setCell ⟨g, 0, none⟩ (.int .i64 y)).drewN m) g y x := by
  have hg := lt_of_cell h0
  refine ⟨⟨rfl, rfl, rfl, by simp [World.setCell, World.drewN], fun k hk hne => ?_⟩, ?_, ?_⟩
  · have hne' : k ≠ g := fun e => hne (by rw [e])
    show (((w.drewN n).setCell ⟨g, 1, none⟩ (.int .i64 x)).setCell ⟨g, 0, none⟩ (.int .i64 y)).heap[k]? = _
    rw [Below.heap_setCell _ _ _ _ hne', Below.heap_setCell _ _ _ _ hne']
    rfl
  · have hc : ((w.drewN n).setCell ⟨g, 1, none⟩ (.int .i64 x)).cell? ⟨g, 0, none⟩ = some (.int .i64 x) := (World.cell?_setCell_other _ _ _ _ (by simp)).trans h0
    exact World.cell?_setCell_same' _ _ _ (by rw [hc]; rfl)
  · refine (World.cell?_setCell_other _ _ _ _ (by simp)).trans ?_
    exact World.cell?_setCell_same' _ _ _ (by show (w.cell? ⟨g, 1, none⟩).isSome = true; rw [h1]; rfl)

set_option maxRecDepth 100000 in
set_option maxHeartbeats 2000000 in
theorem ins_2 (g cp : Nat) (x y : Int) (w : World) (h0 : w.cell? ⟨g, 0, none⟩ = some (.int .i64 x)) (h1 : w.cell? ⟨g, 1, none⟩ = some (.int .i64 y)) (f0 : w.frozen? ⟨g, 0, none⟩ = false) (f1 : w.frozen? ⟨g, 1, none⟩ = false) :
    Calls Tryd.prog 109 #[.slice (some ⟨g, 0, none⟩) 2 cp, .int .i64 0, .int .i64 2] w fun e w' => e = .returned (.tuple #[]) ∧ Two w w' g (min x y) (max x y) := by
  by_cases hlt : y < x
  · have hd : decide (y < x) = true := by simp [hlt]
    have hmin : min x y = y := by omega
    have hmax : max x y = x := by omega
    rw [hmin, hmax]
    clear hmin hmax
    go_enter Tryd.func109, Tryd.ntmps109
    go_wp2_with (fail)
    refine wp_loop_rounds 2 ?_
    rw [rounds_succ]
    go_wp2_with (fail)
    refine wp_loop_rounds 2 ?_
    rw [rounds_succ]
    go_upto_region 4 with (fail)
    go_quiet ((go_at_call 115; exact less_q _ _ _ _ true hd))
    go_upto_region 6 with (fail)
    have hw0 : IntKind.i64.wrap 0 = 0 := rfl
    have hw1 : IntKind.i64.wrap 1 = 1 := rfl
    refine wp_plan (fun W => True) (.tames [0, 1, 2, 3, 4, 5, 6, 7, 8, 10, 11, 12] (.two 9 13 (.one 13 (.tames [14] (.one 15 (.tames [16] (.one 17 (.done)))))) (.one 9 (.tames [14] (.one 15 (.tames [16] (.one 17 (.done)))))))) (by kernel_rfl) (by kernel_rfl) (by kernel_rfl) (fun c a d v w h => by cases d <;> exact h) ?_ ?_
    · trivial
    refine pl_tames ?_
    (try simp only [Act.put, List.setIfInBounds_toArray, List.set_cons_zero, List.set_cons_succ])
    repeat (first
      | (refine pl_run (v := ?_) rfl ?_ (fun W hW => ?_) ?_; rotate_left; rfl; ((try dsimp only at hW); go_simp; try with_reducible rfl); (try simp only [Act.put, List.setIfInBounds_toArray, List.set_cons_zero, List.set_cons_succ]))
      | (refine pl_skip rfl ?_ ?_; rfl; (try simp only [Act.put, List.setIfInBounds_toArray, List.set_cons_zero, List.set_cons_succ])))
    refine pl_end ?_
    refine pl_two ?_ ?_
    all_goals
      refine pl_one rfl (by rfl) (fun K hK => ?_)
      go_simp
      skip
      refine hK.out _ _ (trivial) ?_
      clear hK K
      (try refine pl_tames ?_)
      (try simp only [Act.put, List.setIfInBounds_toArray, List.set_cons_zero, List.set_cons_succ])
      try ((repeat (first   | (refine pl_run (v := ?_) rfl ?_ (fun W hW => ?_) ?_; rotate_left; rfl; ((try dsimp only at hW); go_simp; try with_reducible rfl); (try simp only [Act.put, List.setIfInBounds_toArray, List.set_cons_zero, List.set_cons_succ]))   | (refine pl_skip rfl ?_ ?_; rfl; (try simp only [Act.put, List.setIfInBounds_toArray, List.set_cons_zero, List.set_cons_succ])))); refine pl_end ?_)
      refine pl_one rfl (by rfl) (fun K hK => ?_)
      go_simp
      skip
      refine hK.out _ _ (trivial) ?_
      clear hK K
      (try refine pl_tames ?_)
      (try simp only [Act.put, List.setIfInBounds_toArray, List.set_cons_zero, List.set_cons_succ])
      try ((repeat (first   | (refine pl_run (v := ?_) rfl ?_ (fun W hW => ?_) ?_; rotate_left; rfl; ((try dsimp only at hW); go_simp; try with_reducible rfl); (try simp only [Act.put, List.setIfInBounds_toArray, List.set_cons_zero, List.set_cons_succ]))   | (refine pl_skip rfl ?_ ?_; rfl; (try simp only [Act.put, List.setIfInBounds_toArray, List.set_cons_zero, List.set_cons_succ])))); refine pl_end ?_)
      refine pl_one rfl (by rfl) (fun K hK => ?_)
      go_simp
      skip
      refine hK.out _ _ (trivial) ?_
      clear hK K
      (try refine pl_tames ?_)
      (try simp only [Act.put, List.setIfInBounds_toArray, List.set_cons_zero, List.set_cons_succ])
      try ((repeat (first   | (refine pl_run (v := ?_) rfl ?_ (fun W hW => ?_) ?_; rotate_left; rfl; ((try dsimp only at hW); go_simp; try with_reducible rfl); (try simp only [Act.put, List.setIfInBounds_toArray, List.set_cons_zero, List.set_cons_succ]))   | (refine pl_skip rfl ?_ ?_; rfl; (try simp only [Act.put, List.setIfInBounds_toArray, List.set_cons_zero, List.set_cons_succ])))); refine pl_end ?_)
      refine pl_one rfl (by rfl) (fun K hK => ?_)
      go_simp
      skip
      refine hK.out _ _ (trivial) ?_
      clear hK K
      (try refine pl_tames ?_)
      (try simp only [Act.put, List.setIfInBounds_toArray, List.set_cons_zero, List.set_cons_succ])
      try ((repeat (first   | (refine pl_run (v := ?_) rfl ?_ (fun W hW => ?_) ?_; rotate_left; rfl; ((try dsimp only at hW); go_simp; try with_reducible rfl); (try simp only [Act.put, List.setIfInBounds_toArray, List.set_cons_zero, List.set_cons_succ]))   | (refine pl_skip rfl ?_ ?_; rfl; (try simp only [Act.put, List.setIfInBounds_toArray, List.set_cons_zero, List.set_cons_succ])))); refine pl_end ?_)
      refine pl_done ?_
      go_wp2_with (fail)
      rw [rounds_succ]
      go_upto_region 4 with (fail)
      go_quiet (fail)
      go_wp2
      rw [rounds_succ]
      go_wp2
      go_end0
      exact ⟨rfl, two_swap h0 h1 _ _⟩
  · have hd : decide (y < x) = false := by simp; omega
    have hmin : min x y = x := by omega
    have hmax : max x y = y := by omega
    rw [hmin, hmax]
    clear hmin hmax
    go_enter Tryd.func109, Tryd.ntmps109
    go_wp2_with (fail)
    refine wp_loop_rounds 2 ?_
    rw [rounds_succ]
    go_wp2_with (fail)
    refine wp_loop_rounds 2 ?_
    rw [rounds_succ]
    go_upto_region 4 with (fail)
    go_quiet ((go_at_call 115; exact less_q _ _ _ _ false hd))
    go_wp2
    rw [rounds_succ]
    go_wp2
    go_end0
    exact ⟨rfl, grown_drewN _ _ _, h0, h1⟩

set_option maxRecDepth 100000 in
set_option maxHeartbeats 1000000 in
theorem pdq_2 (g cp : Nat) (x y : Int) (r : Int) (w : World) (h0 : w.cell? ⟨g, 0, none⟩ = some (.int .i64 x)) (h1 : w.cell? ⟨g, 1, none⟩ = some (.int .i64 y)) (f0 : w.frozen? ⟨g, 0, none⟩ = false) (f1 : w.frozen? ⟨g, 1, none⟩ = false) :
    Calls Tryd.prog 102 #[.slice (some ⟨g, 0, none⟩) 2 cp, .int .i64 0, .int .i64 2, .int .i64 r] w fun e w' => e = .returned (.tuple #[]) ∧ Two w w' g (min x y) (max x y) := by
  go_enter Tryd.func102, Tryd.ntmps102
  go_wp2_with (fail)
  refine wp_loop_rounds 1 ?_
  rw [rounds_succ]
  go_wp2_with (go_at_call 109; refine (ins_2 _ _ _ _ _ h0 h1 f0 f1).mono ?_; rintro e w' ⟨rfl, hT⟩)
  refine bodyPost_ret (results_none rfl _ _ _) rfl ?_
  exact ⟨rfl, hT⟩

set_option maxHeartbeats 1000000 in
theorem sort_2 (g cp : Nat) (x y : Int) (w : World) (h0 : w.cell? ⟨g, 0, none⟩ = some (.int .i64 x)) (h1 : w.cell? ⟨g, 1, none⟩ = some (.int .i64 y)) (f0 : w.frozen? ⟨g, 0, none⟩ = false) (f1 : w.frozen? ⟨g, 1, none⟩ = false) :
    Calls Tryd.prog 94 #[.slice (some ⟨g, 0, none⟩) 2 cp] w fun e w' => e = .returned (.tuple #[]) ∧ Two w w' g (min x y) (max x y) := by
  go_enter Tryd.func94, Tryd.ntmps94
  go_wp2_with (first | (go_at_call 103; refine (len_2 _).mono ?_; rintro e w' ⟨⟨r, rfl⟩, rfl⟩) | (go_at_call 102; refine (pdq_2 _ _ _ _ _ _ h0 h1 f0 f1).mono ?_; rintro e w' ⟨rfl, hT⟩))
  go_end0
  exact ⟨rfl, hT⟩
end Go.Proofs.YtnhdcdhpfgdphaaDoor
