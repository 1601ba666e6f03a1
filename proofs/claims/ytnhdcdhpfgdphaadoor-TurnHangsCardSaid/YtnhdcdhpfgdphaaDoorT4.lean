/-
  turn.opened: the book and the map of who has which place.
-/
import Derived.Test.YtnhdcdhpfgdphaaDoorT3
import Derived.Test.YtnhdcdhpfgdphaaDoorM
set_option linter.unusedSimpArgs false
set_option linter.unusedVariables false
namespace Go.Proofs.YtnhdcdhpfgdphaaDoor
open Go Go.RowKit

theorem chkInt (n : Nat) (e : Bool) (a : Int) (w : World) : (Instr.checkKey e (n + 1) 3 (.int .i64 a)).run Tryd.prog w = .ok () w := by
  simp [Instr.checkKey, run_underlying Tryd.underlying3]
theorem chkPlace (n : Nat) (e : Bool) (a b : Int) (w : World) : (Instr.checkKey e (n + 2) 110 (.agg #[.int .i64 a, .int .i64 b])).run Tryd.prog w = .ok () w := by
  have a3 := Tryd.isAgg3
  have z3 := Tryd.sizeOf3
  have c := chkInt n e
  rw [Instr.checkKey]
  simp only [Sem.run_bind, run_underlying Tryd.underlying110, Result.andThen_ok]
  rw [← Array.forIn_toList]
  simp only [List.forIn_cons, List.forIn_nil]
  go_simp
theorem placeKey : PairKey Tryd.prog 110 where
  under := ⟨_, Tryd.underlying110⟩
  eq a b c d w := by
    have hS : Tryd.prog.underlying 110 = some (.struct (Tryd.prog.fieldsOf 110)) := by kernel_rfl
    have hp : Tryd.prog.stoodInHeld 110 = false := by kernel_rfl
    have u3 := Tryd.underlying3
    have a3 := Tryd.isAgg3
    have z3 := Tryd.sizeOf3
    rw [show Op.equal 110 (.agg #[.int .i64 a, .int .i64 b]) (.agg #[.int .i64 c, .int .i64 d]) = Op.equalIn (9999 + 1) 110 (.agg #[.int .i64 a, .int .i64 b]) (.agg #[.int .i64 c, .int .i64 d]) from rfl, run_equalIn_struct w 9999 _ _ _ hS hp]
    simp only [Program.fieldsOf, Tryd.underlying110]
    go_simp
    by_cases h1 : a = c <;> by_cases h2 : b = d <;> simp [h1, h2]
  chk e a b w := chkPlace 9998 e a b w

theorem mapTy : Tryd.prog.underlying 79 = some (.map 110 3) := Tryd.underlying79

set_option maxRecDepth 100000 in
set_option maxHeartbeats 4000000 in
theorem opened_any (B : Bk) (a1 a2 a3 : Option Addr) (c1 c2 c3 : Nat) (w : World) (h : BookA w B a1 a2 a3) (hG : Glob w) :
    Calls Tryd.prog 85 #[.agg #[.int .i64 B.comp, .slice a1 B.bounds.length c1, .slice a2 B.orders.length c2, .slice a3 B.shots.length c3]] w
      fun e w' => (∃ mp, e = .returned (.agg #[.int .i64 B.comp, .slice a1 B.bounds.length c1, .slice a2 B.orders.length c2, .slice a3 B.shots.length c3, .map (some mp)]) ∧ MapA w' mp (ownL B.orders B.orders.length) ∧ w.heap.size ≤ mp) ∧ Ext w w' := by
  have l2 := h.l2
  have hmm := @run_makeMap Tryd.prog
  obtain ⟨e0, e1, n0, n1⟩ := hG
  go_enter Tryd.func85, Tryd.ntmps85
  go_wp2_with (fail)
  go_upto_region 1 with (fail)
  obtain ⟨W0, hW0⟩ : ∃ W0, W0 = (w.alloc (.cells #[.int .i64 B.comp, .slice a1 B.bounds.length c1, .slice a2 B.orders.length c2, .slice a3 B.shots.length c3] 26)).alloc (.cells #[.int .i64 0, .slice none 0 0, .slice none 0 0, .slice none 0 0, .map none] 81) := ⟨_, rfl⟩
  have b0 : Blk W0 w.heap.size 26 #[.int .i64 B.comp, .slice a1 B.bounds.length c1, .slice a2 B.orders.length c2, .slice a3 B.shots.length c3] := by rw [hW0]; exact (Blk.new _ _ _).alloc _
  have r0 : Blk W0 (w.heap.size + 1) 81 #[.int .i64 0, .slice none 0 0, .slice none 0 0, .slice none 0 0, .map none] := by rw [hW0]; have := Blk.new (w.alloc (.cells #[.int .i64 B.comp, .slice a1 B.bounds.length c1, .slice a2 B.orders.length c2, .slice a3 B.shots.length c3] 26)) 81 #[.int .i64 0, .slice none 0 0, .slice none 0 0, .slice none 0 0, .map none]; simpa using this
  have E0 : Ext w W0 := by rw [hW0]; exact (Ext.alloc _ _).trans (Ext.alloc _ _)
  rw [← hW0]
  have s0 : W0.heap.size = w.heap.size + 2 := by rw [hW0]; simp
  have S0 : w.heap.size + 1 < W0.heap.size := by omega
  clear hW0 s0
  obtain ⟨x0, x1, x2, x3⟩ := b0.c4
  have m0 := E0.keep n0
  have m1 := E0.keep n1
  clear e0 e1 n0 n1
  have HS : ∀ W, Ext W0 W → (W.cell? ⟨w.heap.size, 0, none⟩ = some (.int .i64 B.comp) ∧ W.cell? ⟨w.heap.size, 1, none⟩ = some (.slice a1 B.bounds.length c1) ∧ W.cell? ⟨w.heap.size, 2, none⟩ = some (.slice a2 B.orders.length c2) ∧ W.cell? ⟨w.heap.size, 3, none⟩ = some (.slice a3 B.shots.length c3) ∧ W.cell? ⟨1, 0, none⟩ = some (.int .i64 (-1)) ∧ W.cell? ⟨1, 1, none⟩ = some (.int .i64 (-1))) :=
    fun W e => ⟨e.keep x0, e.keep x1, e.keep x2, e.keep x3, e.keep m0, e.keep m1⟩
  go_cut [3] (fun s wx => ∃ g mp, s = .pointer (some ⟨g, 0, none⟩) ∧ Blk wx g 81 #[.int .i64 B.comp, .slice a1 B.bounds.length c1, .slice a2 B.orders.length c2, .slice a3 B.shots.length c3, .map (some mp)] ∧ MapA wx mp (ownL B.orders 0) ∧ W0.heap.size ≤ g ∧ W0.heap.size ≤ mp ∧ g ≠ mp ∧ Ext W0 wx)
  case first =>
    have HH := Lib.hid HS
    clear HS x0 x1 x2 x3 m0 m1
    refine wp_plan (fun W => W.cell? ⟨w.heap.size, 0, none⟩ = some (.int .i64 B.comp) ∧ W.cell? ⟨w.heap.size, 1, none⟩ = some (.slice a1 B.bounds.length c1) ∧ W.cell? ⟨w.heap.size, 2, none⟩ = some (.slice a2 B.orders.length c2) ∧ W.cell? ⟨w.heap.size, 3, none⟩ = some (.slice a3 B.shots.length c3) ∧ W.cell? ⟨1, 0, none⟩ = some (.int .i64 (-1)) ∧ W.cell? ⟨1, 1, none⟩ = some (.int .i64 (-1))) (.tames [0, 2] (.two 1 6 (.two 3 6 (.tames [4, 5] (.one 6 (.one 7 (.done)))) (.one 3 (.tames [4, 5] (.one 7 (.done))))) (.one 1 (.one 3 (.tames [4, 5] (.one 7 (.done))))))) (by kernel_rfl) (by kernel_rfl) (by kernel_rfl) (fun c a d v w h => by cases d <;> exact h) ?_ ?_
    · exact HH.out _ (Ext.drew _)
    refine pl_tames ?_
    (try simp only [Act.put, List.setIfInBounds_toArray, List.set_cons_zero, List.set_cons_succ])
    repeat (first
      | (refine pl_run (v := ?_) rfl ?_ (fun W hW => ?_) ?_; rotate_left; rfl; ((try dsimp only at hW); go_simp; try with_reducible rfl); (try simp only [Act.put, List.setIfInBounds_toArray, List.set_cons_zero, List.set_cons_succ]))
      | (refine pl_skip rfl ?_ ?_; rfl; (try simp only [Act.put, List.setIfInBounds_toArray, List.set_cons_zero, List.set_cons_succ])))
    refine pl_end ?_
    refine pl_two ?_ ?_
    · -- the map first
      refine pl_one rfl (by rfl) (fun K hK => ?_)
      go_simp
      have M1 : MapA (W0.alloc (.map #[] 0)).drew W0.heap.size [] := MapA.new W0
      have X1 : Ext W0 (W0.alloc (.map #[] 0)).drew := (Ext.alloc _ _).trans (Ext.drew _)
      have Z1 : (W0.alloc (.map #[] 0)).drew.heap.size = W0.heap.size + 1 := by simp
      refine hK.out _ _ (HH.out _ X1) ?_
      clear hK K
      refine pl_two ?_ ?_
      · -- then what is laid in it, then the box
        refine pl_one rfl (by rfl) (fun K hK => ?_)
        refine wp_pairInsert placeKey mapTy _ _ _ _ rfl M1 (-1) (-1) (.int .i64 (-1)) rfl rfl rfl rfl ?_
        intro W2 M2 G2
        have X2 : Ext W0 W2 := X1.grown G2 (by omega) (fun k e => by cases e; exact Nat.le_refl _)
        refine hK.out _ _ (HH.out _ X2) (pl_tames ?_)
        clear hK K
        (try simp only [Act.put, List.setIfInBounds_toArray, List.set_cons_zero, List.set_cons_succ])
        repeat (first
          | (refine pl_run (v := ?_) rfl ?_ (fun W hW => ?_) ?_; rotate_left; rfl; ((try dsimp only at hW); go_simp; try with_reducible rfl); (try simp only [Act.put, List.setIfInBounds_toArray, List.set_cons_zero, List.set_cons_succ]))
          | (refine pl_skip rfl ?_ ?_; rfl; (try simp only [Act.put, List.setIfInBounds_toArray, List.set_cons_zero, List.set_cons_succ])))
        refine pl_end ?_
        refine pl_one rfl (by rfl) (fun K hK => ?_)
        go_simp
        refine hK.out _ _ (HH.out _ (Ext.trans X2 (Ext.alloc _ _))) ?_
        clear hK K
        have z2 := M2.lt
        have B3 : Blk (W2.alloc (.cells #[.int .i64 0, .slice none 0 0, .slice none 0 0, .slice none 0 0, .map none] 81)) W2.heap.size 81 #[.int .i64 0, .slice none 0 0, .slice none 0 0, .slice none 0 0, .map none] := (Blk.new W2 _ _)
        have M3 : MapA (W2.alloc (.cells #[.int .i64 0, .slice none 0 0, .slice none 0 0, .slice none 0 0, .map none] 81)) W0.heap.size (ownL B.orders 0) := (M2.ext (Ext.alloc _ _))
        have X3 : Ext W0 (W2.alloc (.cells #[.int .i64 0, .slice none 0 0, .slice none 0 0, .slice none 0 0, .map none] 81)) := (Ext.trans X2 (Ext.alloc _ _))
        have g1 : W0.heap.size ≤ W2.heap.size := X2.size
        have g2 : W0.heap.size ≤ W0.heap.size := (Nat.le_refl _)
        have g3 : W0.heap.size ≠ W2.heap.size := (by omega)
        generalize (W2.alloc (.cells #[.int .i64 0, .slice none 0 0, .slice none 0 0, .slice none 0 0, .map none] 81)) = W3 at B3 M3 X3 ⊢
        obtain ⟨k0, k1, k2, k3, k4⟩ := B3.c5
        have f0 := B3.frozen 0
        have f1 := B3.frozen 1
        have f2 := B3.frozen 2
        have f3 := B3.frozen 3
        have f4 := B3.frozen 4
        refine pl_one rfl (by rfl) (fun K hK => ?_)
        go_simp
        refine hK.out _ _ (HH.out _ (below5 X3 g1 _ _ _ _ _)) (pl_done ?_)
        clear hK K
        (try simp only [Act.put])
        go_wp2
        go_meet
        case rel => exact ⟨W2.heap.size, _, rfl, puts5 B3 _ _ _ _ _, M3.puts5 g3 _ _ _ _ _, g1, g2, Ne.symm g3, below5 X3 g1 _ _ _ _ _⟩
      · -- the box, then what is laid in the map
        refine pl_one rfl (by rfl) (fun K hK => ?_)
        go_simp
        have X2 : Ext W0 ((W0.alloc (.map #[] 0)).alloc (.cells #[.int .i64 0, .slice none 0 0, .slice none 0 0, .slice none 0 0, .map none] 81)).drew := Ext.trans (Ext.trans (Ext.alloc _ _) (Ext.alloc _ _)) (Ext.drew _)
        refine hK.out _ _ (HH.out _ X2) ?_
        clear hK K
        have M2 : MapA ((W0.alloc (.map #[] 0)).alloc (.cells #[.int .i64 0, .slice none 0 0, .slice none 0 0, .slice none 0 0, .map none] 81)).drew W0.heap.size [] := (MapA.new W0).ext (Ext.trans (Ext.alloc _ _) (Ext.drew _))
        have B2 : Blk ((W0.alloc (.map #[] 0)).alloc (.cells #[.int .i64 0, .slice none 0 0, .slice none 0 0, .slice none 0 0, .map none] 81)).drew (W0.heap.size + 1) 81 #[.int .i64 0, .slice none 0 0, .slice none 0 0, .slice none 0 0, .map none] := by
          have := Blk.new (W0.alloc (.map #[] 0)) 81 #[.int .i64 0, .slice none 0 0, .slice none 0 0, .slice none 0 0, .map none]
          rw [World.size_alloc] at this
          exact this.drew
        refine pl_one rfl (by rfl) (fun K hK => ?_)
        refine wp_pairInsert placeKey mapTy _ _ _ _ rfl M2 (-1) (-1) (.int .i64 (-1)) rfl rfl rfl rfl ?_
        intro W2 M3 G2
        have X3 : Ext W0 W2 := X2.grown G2 X2.size (fun k e => by cases e; exact Nat.le_refl _)
        have B3 := B2.grown G2 (by simp)
        refine hK.out _ _ (HH.out _ X3) (pl_tames ?_)
        clear hK K
        (try simp only [Act.put, List.setIfInBounds_toArray, List.set_cons_zero, List.set_cons_succ])
        repeat (first
          | (refine pl_run (v := ?_) rfl ?_ (fun W hW => ?_) ?_; rotate_left; rfl; ((try dsimp only at hW); go_simp; try with_reducible rfl); (try simp only [Act.put, List.setIfInBounds_toArray, List.set_cons_zero, List.set_cons_succ]))
          | (refine pl_skip rfl ?_ ?_; rfl; (try simp only [Act.put, List.setIfInBounds_toArray, List.set_cons_zero, List.set_cons_succ])))
        refine pl_end ?_
        have B3 : Blk W2 (W0.heap.size + 1) 81 #[.int .i64 0, .slice none 0 0, .slice none 0 0, .slice none 0 0, .map none] := B3
        have M3 : MapA W2 W0.heap.size (ownL B.orders 0) := M3
        have X3 : Ext W0 W2 := X3
        have g1 : W0.heap.size ≤ (W0.heap.size + 1) := (by omega)
        have g2 : W0.heap.size ≤ W0.heap.size := (Nat.le_refl _)
        have g3 : W0.heap.size ≠ (W0.heap.size + 1) := (by omega)
        generalize W2 = W3 at B3 M3 X3 ⊢
        obtain ⟨k0, k1, k2, k3, k4⟩ := B3.c5
        have f0 := B3.frozen 0
        have f1 := B3.frozen 1
        have f2 := B3.frozen 2
        have f3 := B3.frozen 3
        have f4 := B3.frozen 4
        refine pl_one rfl (by rfl) (fun K hK => ?_)
        go_simp
        refine hK.out _ _ (HH.out _ (below5 X3 g1 _ _ _ _ _)) (pl_done ?_)
        clear hK K
        (try simp only [Act.put])
        go_wp2
        go_meet
        case rel => exact ⟨(W0.heap.size + 1), _, rfl, puts5 B3 _ _ _ _ _, M3.puts5 g3 _ _ _ _ _, g1, g2, Ne.symm g3, below5 X3 g1 _ _ _ _ _⟩
    · -- the box first
      refine pl_one rfl (by rfl) (fun K hK => ?_)
      go_simp
      have X1 : Ext W0 (W0.alloc (.cells #[.int .i64 0, .slice none 0 0, .slice none 0 0, .slice none 0 0, .map none] 81)).drew := (Ext.alloc _ _).trans (Ext.drew _)
      refine hK.out _ _ (HH.out _ X1) ?_
      clear hK K
      refine pl_one rfl (by rfl) (fun K hK => ?_)
      go_simp
      have X2 : Ext W0 ((W0.alloc (.cells #[.int .i64 0, .slice none 0 0, .slice none 0 0, .slice none 0 0, .map none] 81)).alloc (.map #[] 0)).drew := Ext.trans (Ext.trans (Ext.alloc _ _) (Ext.alloc _ _)) (Ext.drew _)
      refine hK.out _ _ (HH.out _ X2) ?_
      clear hK K
      have M2 : MapA ((W0.alloc (.cells #[.int .i64 0, .slice none 0 0, .slice none 0 0, .slice none 0 0, .map none] 81)).alloc (.map #[] 0)).drew (W0.heap.size + 1) [] := by
        have := MapA.new (W0.alloc (.cells #[.int .i64 0, .slice none 0 0, .slice none 0 0, .slice none 0 0, .map none] 81))
        rw [World.size_alloc] at this
        exact this.ext (Ext.drew _)
      have B2 : Blk ((W0.alloc (.cells #[.int .i64 0, .slice none 0 0, .slice none 0 0, .slice none 0 0, .map none] 81)).alloc (.map #[] 0)).drew W0.heap.size 81 #[.int .i64 0, .slice none 0 0, .slice none 0 0, .slice none 0 0, .map none] := (Blk.new W0 _ _).alloc _
      refine pl_one rfl (by rfl) (fun K hK => ?_)
      refine wp_pairInsert placeKey mapTy _ _ _ _ rfl M2 (-1) (-1) (.int .i64 (-1)) rfl rfl rfl rfl ?_
      intro W2 M3 G2
      have X3 : Ext W0 W2 := X2.grown G2 X2.size (fun k e => by cases e; omega)
      have B3 := B2.grown G2 (by simp)
      refine hK.out _ _ (HH.out _ X3) (pl_tames ?_)
      clear hK K
      (try simp only [Act.put, List.setIfInBounds_toArray, List.set_cons_zero, List.set_cons_succ])
      repeat (first
        | (refine pl_run (v := ?_) rfl ?_ (fun W hW => ?_) ?_; rotate_left; rfl; ((try dsimp only at hW); go_simp; try with_reducible rfl); (try simp only [Act.put, List.setIfInBounds_toArray, List.set_cons_zero, List.set_cons_succ]))
        | (refine pl_skip rfl ?_ ?_; rfl; (try simp only [Act.put, List.setIfInBounds_toArray, List.set_cons_zero, List.set_cons_succ])))
      refine pl_end ?_
      have B3 : Blk W2 W0.heap.size 81 #[.int .i64 0, .slice none 0 0, .slice none 0 0, .slice none 0 0, .map none] := B3
      have M3 : MapA W2 (W0.heap.size + 1) (ownL B.orders 0) := M3
      have X3 : Ext W0 W2 := X3
      have g1 : W0.heap.size ≤ W0.heap.size := (Nat.le_refl _)
      have g2 : W0.heap.size ≤ (W0.heap.size + 1) := (by omega)
      have g3 : (W0.heap.size + 1) ≠ W0.heap.size := (by omega)
      generalize W2 = W3 at B3 M3 X3 ⊢
      obtain ⟨k0, k1, k2, k3, k4⟩ := B3.c5
      have f0 := B3.frozen 0
      have f1 := B3.frozen 1
      have f2 := B3.frozen 2
      have f3 := B3.frozen 3
      have f4 := B3.frozen 4
      refine pl_one rfl (by rfl) (fun K hK => ?_)
      go_simp
      refine hK.out _ _ (HH.out _ (below5 X3 g1 _ _ _ _ _)) (pl_done ?_)
      clear hK K
      (try simp only [Act.put])
      go_wp2
      go_meet
      case rel => exact ⟨W0.heap.size, _, rfl, puts5 B3 _ _ _ _ _, M3.puts5 g3 _ _ _ _ _, g1, g2, Ne.symm g3, below5 X3 g1 _ _ _ _ _⟩
  case rest =>
    obtain ⟨g, mp, rfl, Bg, Mp, g1, g2, g3, X1⟩ := hcut
    have EE := Ext.trans E0 X1
    obtain ⟨y0, y1, y2, y3⟩ := (b0.ext X1).c4
    clear x0 x1 x2 x3 m0 m1 HS
    go_wp2_with (fail)
    clear y0 y1 y2 y3
    go_loopw [16] (fun i wr => ∃ k : Nat, k ≤ B.orders.length ∧ i = .int .i64 k ∧ Blk wr g 81 #[.int .i64 B.comp, .slice a1 B.bounds.length c1, .slice a2 B.orders.length c2, .slice a3 B.shots.length c3, .map (some mp)] ∧ MapA wr mp (ownL B.orders k) ∧ Ext W0 wr) (fun i _ => B.orders.length - (intOf i).toNat)
    case atStart => exact ⟨0, Nat.zero_le _, rfl, Bg, Mp, X1⟩
    case round =>
      clear Bg Mp X1 EE
      obtain ⟨k, hk, rfl, Bg, Mp, X1⟩ := hrel
      have EE := Ext.trans E0 X1
      by_cases hlt : k < B.orders.length
      · obtain ⟨b, o, rfl, hbl, hc⟩ := h.orders (by omega)
        obtain ⟨ra, rc, q0, ql, qi⟩ := hc k hlt
        have q1 := EE.keep q0
        go_wp2_with (fail)
        have Mp' : MapA wr mp (ownL B.orders k ++ rowL k (oAt B.orders k) 0) := by simpa [rowL] using Mp
        clear Mp q1 q0 hc
        go_loopw [23] (fun i wr => ∃ j : Nat, j ≤ (oAt B.orders k).length ∧ i = .int .i64 j ∧ Blk wr g 81 #[.int .i64 B.comp, .slice a1 B.bounds.length c1, .slice (some ⟨b, o, none⟩) B.orders.length c2, .slice a3 B.shots.length c3, .map (some mp)] ∧ MapA wr mp (ownL B.orders k ++ rowL k (oAt B.orders k) j) ∧ Ext W0 wr) (fun i _ => (oAt B.orders k).length - (intOf i).toNat)
        case atStart => exact ⟨0, Nat.zero_le _, rfl, Bg, Mp', X1⟩
        case round =>
          clear Bg Mp' X1 EE
          obtain ⟨j, hj, rfl, Bg, Mp, X1⟩ := hrel
          have EE := Ext.trans E0 X1
          by_cases hjl : j < (oAt B.orders k).length
          · obtain ⟨b', o', rfl, hbl', hc⟩ := qi.ext EE (by omega)
            have q1 := hc j hjl
            obtain ⟨y0, y1, y2, y3, y4⟩ := Bg.c5
            clear hc y0 y1 y2 y3
            go_wp2_with (at_mapUpdate; refine wpList_pairUpdate placeKey mapTy _ rfl _ _ _ rfl Mp (k : Int) (j : Int) (.int .i64 (nAt (oAt B.orders k) j)) rfl rfl rfl (seek_new _ _ _) ?_)
            intro w1 M1 G1
            have zz := Mp.lt
            have B1 := Bg.grown G1 (by simp; omega)
            have X2 : Ext W0 w1 := X1.grown G1 X1.size (fun k e => by cases e; exact g2)
            go_wp2
            go_roundw
            case rel => exact ⟨j + 1, by omega, by go_num, B1, by rw [rowL_succ, ← List.append_assoc]; simpa using M1, X2⟩
            case measure => simp [intOf]; omega
          · obtain rfl : j = (oAt B.orders k).length := by omega
            go_wp2_with (fail)
            go_roundw
            case rel => exact ⟨k + 1, by omega, by go_num, Bg, by simpa [ownL, rowsL_succ] using Mp, X1⟩
            case measure => simp [intOf]; omega
      · obtain rfl : k = B.orders.length := by omega
        obtain ⟨y0, y1, y2, y3, y4⟩ := Bg.c5
        have r1 := r0.ext X1
        obtain ⟨r2, r3, r4, r5, r6⟩ := r1.c5
        have f0 := r1.frozen 0
        have f1 := r1.frozen 1
        have f2 := r1.frozen 2
        have f3 := r1.frozen 3
        have f4 := r1.frozen 4
        go_wp2
        have rb := puts5 r1 (.int .i64 B.comp) (.slice a1 B.bounds.length c1) (.slice a2 B.orders.length c2) (.slice a3 B.shots.length c3) (.map (some mp))
        obtain ⟨t0, t1, t2, t3, t4⟩ := rb.c5
        refine bodyPost_ret (v := .agg #[.int .i64 B.comp, .slice a1 B.bounds.length c1, .slice a2 B.orders.length c2, .slice a3 B.shots.length c3, .map (some mp)]) ?_ rfl ⟨⟨mp, rfl, Mp.puts5 (by omega) _ _ _ _ _, by omega⟩, ?_⟩
        · simp [results, Tryd.results85, go_sem, t0, t1, t2, t3, t4]
        · have e1 : Below w.heap.size w wr := EE
          exact below5 e1 (by simp) _ _ _ _ _
end Go.Proofs.YtnhdcdhpfgdphaaDoor
