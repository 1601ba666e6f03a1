/-
  The exported function Sure, where it answers.
-/
import Derived.Test.YtnhdcdhpfgdphaaDoorA5
import Derived.Test.YtnhdcdhpfgdphaaDoorA3
set_option linter.unusedSimpArgs false
set_option linter.unusedVariables false
namespace Go.Proofs.YtnhdcdhpfgdphaaDoor
open Go Go.RowKit


theorem sureAt_one {B : Bk} {s : Nat} {c n x : Int} (h : ownersL B s n = [x]) : sureAt B s c n = (x == c) := by
  simp [sureAt, h, Bool.beq_eq_decide_eq]
theorem sureAt_two {B : Bk} {s : Nat} {c n x y : Int} (h : ownersL B s n = [x, y]) : sureAt B s c n = false := by
  simp [sureAt, h]
theorem addLast_len {L : List (Int × Int)} (h : 0 < L.length) (m : Int) : (addLast L m).length = L.length := by simp [addLast]; omega
theorem addLast_snoc (L : List (Int × Int)) (a b m : Int) : addLast (L ++ [(a, b)]) m = L ++ [(a, m)] := by simp [addLast]
theorem own_s_open {w : World} {base n : Nat} {v : Value} {xs : List Value} (h : w.ownsRow base 29 2 v n xs) (hn : 0 < n) : ∃ g cap, v = .slice (some ⟨g, 0, none⟩) n cap ∧ n ≤ cap ∧ cap ≤ maxLen := by
  rcases h.2 with ⟨_, h1⟩ | ⟨g, cap, cur, rfl, hg, hh, h1, h2, h3, h4⟩
  · omega
  · exact ⟨g, cap, rfl, h1, h2⟩
theorem own_s_base {w : World} {base n : Nat} {v : Value} {xs : List Value} (h : w.ownsRow base 29 2 v n xs) : ∀ k, v.ownBlock = some k → base ≤ k := by
  intro k hk
  rcases h.2 with ⟨rfl, _⟩ | ⟨g, cap, cur, rfl, hb, _⟩
  · simp [Value.ownBlock] at hk
  · have : g = k := by simpa [Value.ownBlock] using hk
    omega

set_option maxRecDepth 100000 in
set_option maxHeartbeats 4000000 in
theorem sure_yes (B : Bk) (a1 a2 a3 : Option Addr) (c1 c2 c3 : Nat) (s : Nat) (co : Int) (w : World) (h : BookA w B a1 a2 a3) (hG : Glob w) (hv : validB B = true) (hs : s < B.orders.length) (hc0 : 0 ≤ co) (hc1 : co < B.comp) :
    Calls Tryd.prog 22 #[.agg #[.int .i64 B.comp, .slice a1 B.bounds.length c1, .slice a2 B.orders.length c2, .slice a3 B.shots.length c3], .int .i64 s, .int .i64 co] w
      fun e w' => (∃ a cp, e = .returned (.tuple #[.slice a (runsL B s co).length cp, .int .i64 0]) ∧ SpanA w' a (runsL B s co)) ∧ Ext w w' := by
  have hst := Lib.hid (show isStB B s = true by simp [isStB]; omega)
  have hcc := (valid_sizes hv).2.1
  obtain ⟨cw, hw⟩ : ∃ cw, IntKind.i64.wrap (B.comp - 1) = cw := ⟨_, rfl⟩
  have hon := Lib.hid (show (decide (0 ≤ co) && decide (co ≤ cw)) = true by rw [wr64 _ (by omega)] at hw; simp; omega)
  clear hcc hc0 hc1
  have HB := Lib.hid h
  have HG := Lib.hid hG
  have l2 := h.l2
  have l3 := h.l3
  clear h hG
  go_enter Tryd.func22, Tryd.ntmps22
  go_upto_region 1 with (fail)
  obtain ⟨W0, hW0⟩ : ∃ W0, W0 = w.alloc (.cells #[.int .i64 B.comp, .slice a1 B.bounds.length c1, .slice a2 B.orders.length c2, .slice a3 B.shots.length c3] 26) := ⟨_, rfl⟩
  have b0 : Blk W0 w.heap.size 26 #[.int .i64 B.comp, .slice a1 B.bounds.length c1, .slice a2 B.orders.length c2, .slice a3 B.shots.length c3] := by rw [hW0]; exact Blk.new _ _ _
  have E0 : Ext w W0 := by rw [hW0]; exact Ext.alloc _ _
  rw [← hW0]
  clear hW0
  have HH : Hid (∀ W, Ext W0 W → (W.cell? ⟨w.heap.size, 0, none⟩ = some (.int .i64 B.comp) ∧ W.cell? ⟨w.heap.size, 1, none⟩ = some (.slice a1 B.bounds.length c1) ∧ W.cell? ⟨w.heap.size, 2, none⟩ = some (.slice a2 B.orders.length c2) ∧ W.cell? ⟨w.heap.size, 3, none⟩ = some (.slice a3 B.shots.length c3))) := Lib.hid fun W e => (b0.ext e).c4
  go_cut [8, 9] (fun p e wx => ∃ g mp, p = .pointer (some ⟨g, 0, none⟩) ∧ e = .int .i64 0 ∧ Blk wx g 81 #[.int .i64 B.comp, .slice a1 B.bounds.length c1, .slice a2 B.orders.length c2, .slice a3 B.shots.length c3, .map (some mp)] ∧ MapA wx mp (ownL B.orders B.orders.length) ∧ w.heap.size < g ∧ Ext W0 wx)
  case first =>
    refine wp_plan (fun W => W.cell? ⟨w.heap.size, 0, none⟩ = some (.int .i64 B.comp) ∧ W.cell? ⟨w.heap.size, 1, none⟩ = some (.slice a1 B.bounds.length c1) ∧ W.cell? ⟨w.heap.size, 2, none⟩ = some (.slice a2 B.orders.length c2) ∧ W.cell? ⟨w.heap.size, 3, none⟩ = some (.slice a3 B.shots.length c3)) (.tames [0, 1, 2] (.two 3 15 (.tames [4, 5, 6, 7, 8] (.two 9 15 (.tames [10] (.two 11 15 (.tames [12, 13, 14] (.one 15 (.one 16 (.tames [17] (.done))))) (.one 11 (.tames [12, 13, 14] (.one 16 (.tames [17] (.done))))))) (.one 9 (.tames [10] (.one 11 (.tames [12, 13, 14] (.one 16 (.tames [17] (.done))))))))) (.one 3 (.tames [4, 5, 6, 7, 8] (.one 9 (.tames [10] (.one 11 (.tames [12, 13, 14] (.one 16 (.tames [17] (.done))))))))))) (by kernel_rfl) (by kernel_rfl) (by kernel_rfl) (fun c a d v w h => by cases d <;> exact h) ?_ ?_
    · exact HH.out _ (Ext.drew _)
    refine pl_tames ?_
    (try simp only [Act.put, List.setIfInBounds_toArray, List.set_cons_zero, List.set_cons_succ])
    repeat (first
      | (refine pl_run (v := ?_) rfl ?_ (fun W hW => ?_) ?_; rotate_left; rfl; ((try dsimp only at hW); go_simp; try with_reducible rfl); (try simp only [Act.put, List.setIfInBounds_toArray, List.set_cons_zero, List.set_cons_succ]))
      | (refine pl_skip rfl ?_ ?_; rfl; (try simp only [Act.put, List.setIfInBounds_toArray, List.set_cons_zero, List.set_cons_succ])))
    refine pl_end ?_
    refine pl_two ?_ ?_
    · refine pl_one rfl (by rfl) (fun K hK => ?_)
      go_simp
      go_at_call 69
      refine (isSt_yes B hst.out a1 a2 a3 c1 c2 c3 _ l2).mono ?_
      rintro e w1 ⟨rfl, hE1⟩
      have X1 : Ext W0 w1 := Ext.trans (Ext.drew W0) hE1
      have hz1 := hE1.size
      refine hK.out _ _ (HH.out _ (X1)) ?_
      clear hK K
      (try simp only [Act.put, List.setIfInBounds_toArray, List.set_cons_zero, List.set_cons_succ])
      refine pl_tames ?_
      (try simp only [Act.put, List.setIfInBounds_toArray, List.set_cons_zero, List.set_cons_succ])
      repeat (first
        | (refine pl_run (v := ?_) rfl ?_ (fun W hW => ?_) ?_; rotate_left; rfl; ((try dsimp only at hW); go_simp; try with_reducible rfl); (try simp only [Act.put, List.setIfInBounds_toArray, List.set_cons_zero, List.set_cons_succ]))
        | (refine pl_skip rfl ?_ ?_; rfl; (try simp only [Act.put, List.setIfInBounds_toArray, List.set_cons_zero, List.set_cons_succ])))
      refine pl_end ?_
      refine pl_two ?_ ?_
      · refine pl_one rfl (by rfl) (fun K hK => ?_)
        go_simp
        go_at_call 64
        refine ((on_any _ _ _ _).mono (fun e w' q => (⟨by rw [q.1, hon.out], q.2⟩ : e = .returned (.bool true) ∧ _))).mono ?_
        rintro e w2 ⟨rfl, rfl⟩
        refine hK.out _ _ (HH.out _ (X1)) ?_
        clear hK K
        (try simp only [Act.put, List.setIfInBounds_toArray, List.set_cons_zero, List.set_cons_succ])
        refine pl_tames ?_
        (try simp only [Act.put, List.setIfInBounds_toArray, List.set_cons_zero, List.set_cons_succ])
        repeat (first
          | (refine pl_run (v := ?_) rfl ?_ (fun W hW => ?_) ?_; rotate_left; rfl; ((try dsimp only at hW); go_simp; try with_reducible rfl); (try simp only [Act.put, List.setIfInBounds_toArray, List.set_cons_zero, List.set_cons_succ]))
          | (refine pl_skip rfl ?_ ?_; rfl; (try simp only [Act.put, List.setIfInBounds_toArray, List.set_cons_zero, List.set_cons_succ])))
        refine pl_end ?_
        refine pl_two ?_ ?_
        · refine pl_one rfl (by rfl) (fun K hK => ?_)
          go_simp
          go_at_call 58
          refine (asked_yes B a1 a2 a3 c1 c2 c3 _ ((HB.out.ext E0).ext (X1)) ((HG.out.ext E0).ext (X1)) hv).mono ?_
          rintro e w3 ⟨⟨mp, rfl, hM3, hmp3⟩, hE3⟩
          have X3 : Ext W0 w3 := Ext.trans (X1) hE3
          have hz3 := hE3.size
          refine hK.out _ _ (HH.out _ (X3)) ?_
          clear hK K
          (try simp only [Act.put, List.setIfInBounds_toArray, List.set_cons_zero, List.set_cons_succ])
          refine pl_tames ?_
          (try simp only [Act.put, List.setIfInBounds_toArray, List.set_cons_zero, List.set_cons_succ])
          repeat (first
            | (refine pl_run (v := ?_) rfl ?_ (fun W hW => ?_) ?_; rotate_left; rfl; ((try dsimp only at hW); go_simp; try with_reducible rfl); (try simp only [Act.put, List.setIfInBounds_toArray, List.set_cons_zero, List.set_cons_succ]))
            | (refine pl_skip rfl ?_ ?_; rfl; (try simp only [Act.put, List.setIfInBounds_toArray, List.set_cons_zero, List.set_cons_succ])))
          refine pl_end ?_
          refine pl_one rfl (by rfl) (fun K hK => ?_)
          go_simp
          have X4 : Ext W0 (w3.alloc (.cells #[.int .i64 0, .slice none 0 0, .slice none 0 0, .slice none 0 0, .map none] 81)) := Ext.trans (X3) (Ext.alloc _ _)
          have B4 : Blk (w3.alloc (.cells #[.int .i64 0, .slice none 0 0, .slice none 0 0, .slice none 0 0, .map none] 81)) w3.heap.size 81 #[.int .i64 0, .slice none 0 0, .slice none 0 0, .slice none 0 0, .map none] := Blk.new _ _ _
          have hg4 : W0.heap.size ≤ w3.heap.size := Below.size (X3)
          have hl4 := MapA.lt (hM3)
          have M4 := MapA.ext (hM3) (Ext.alloc w3 (.cells #[.int .i64 0, .slice none 0 0, .slice none 0 0, .slice none 0 0, .map none] 81))
          have ha4 : (w3.alloc (.cells #[.int .i64 0, .slice none 0 0, .slice none 0 0, .slice none 0 0, .map none] 81)).heap.size = w3.heap.size + 1 := by simp
          refine hK.out _ _ (HH.out _ (X4)) ?_
          clear hK K
          (try simp only [Act.put, List.setIfInBounds_toArray, List.set_cons_zero, List.set_cons_succ])
          have BS : Blk (w3.alloc (.cells #[.int .i64 0, .slice none 0 0, .slice none 0 0, .slice none 0 0, .map none] 81)) w3.heap.size 81 #[.int .i64 0, .slice none 0 0, .slice none 0 0, .slice none 0 0, .map none] := B4
          have XS : Ext W0 (w3.alloc (.cells #[.int .i64 0, .slice none 0 0, .slice none 0 0, .slice none 0 0, .map none] 81)) := X4
          have gS : W0.heap.size ≤ w3.heap.size := by omega
          have MS : MapA (w3.alloc (.cells #[.int .i64 0, .slice none 0 0, .slice none 0 0, .slice none 0 0, .map none] 81)) mp (ownL B.orders B.orders.length) := M4
          have nS : mp ≠ w3.heap.size := by (first | omega | (simp at *; omega))
          generalize (w3.alloc (.cells #[.int .i64 0, .slice none 0 0, .slice none 0 0, .slice none 0 0, .map none] 81)) = WS at BS XS MS ⊢
          obtain ⟨kS0, kS1, kS2, kS3, kS4⟩ := BS.c5
          have fS0 := BS.frozen 0
          have fS1 := BS.frozen 1
          have fS2 := BS.frozen 2
          have fS3 := BS.frozen 3
          have fS4 := BS.frozen 4
          refine pl_one rfl (by rfl) (fun K hK => ?_)
          go_simp
          refine hK.out _ _ (HH.out _ (below5 XS gS (.int .i64 B.comp) (.slice a1 B.bounds.length c1) (.slice a2 B.orders.length c2) (.slice a3 B.shots.length c3) (.map (some mp)))) ?_
          clear hK K
          (try simp only [Act.put, List.setIfInBounds_toArray, List.set_cons_zero, List.set_cons_succ])
          refine pl_tames ?_
          (try simp only [Act.put, List.setIfInBounds_toArray, List.set_cons_zero, List.set_cons_succ])
          repeat (first
            | (refine pl_run (v := ?_) rfl ?_ (fun W hW => ?_) ?_; rotate_left; rfl; ((try dsimp only at hW); go_simp; try with_reducible rfl); (try simp only [Act.put, List.setIfInBounds_toArray, List.set_cons_zero, List.set_cons_succ]))
            | (refine pl_skip rfl ?_ ?_; rfl; (try simp only [Act.put, List.setIfInBounds_toArray, List.set_cons_zero, List.set_cons_succ])))
          refine pl_end ?_
          refine pl_done ?_
          (try simp only [Act.put])
          go_wp2
          go_meet
          case rel => exact ⟨w3.heap.size, mp, rfl, rfl, (puts5 BS (.int .i64 B.comp) (.slice a1 B.bounds.length c1) (.slice a2 B.orders.length c2) (.slice a3 B.shots.length c3) (.map (some mp))), (MS.puts5 nS (.int .i64 B.comp) (.slice a1 B.bounds.length c1) (.slice a2 B.orders.length c2) (.slice a3 B.shots.length c3) (.map (some mp))), by have := b0.lt; omega, (below5 XS gS (.int .i64 B.comp) (.slice a1 B.bounds.length c1) (.slice a2 B.orders.length c2) (.slice a3 B.shots.length c3) (.map (some mp)))⟩
        · refine pl_one rfl (by rfl) (fun K hK => ?_)
          go_simp
          have X3 : Ext W0 (w1.alloc (.cells #[.int .i64 0, .slice none 0 0, .slice none 0 0, .slice none 0 0, .map none] 81)) := Ext.trans (X1) (Ext.alloc _ _)
          have B3 : Blk (w1.alloc (.cells #[.int .i64 0, .slice none 0 0, .slice none 0 0, .slice none 0 0, .map none] 81)) w1.heap.size 81 #[.int .i64 0, .slice none 0 0, .slice none 0 0, .slice none 0 0, .map none] := Blk.new _ _ _
          have hg3 : W0.heap.size ≤ w1.heap.size := Below.size (X1)
          have ha3 : (w1.alloc (.cells #[.int .i64 0, .slice none 0 0, .slice none 0 0, .slice none 0 0, .map none] 81)).heap.size = w1.heap.size + 1 := by simp
          refine hK.out _ _ (HH.out _ (X3)) ?_
          clear hK K
          (try simp only [Act.put, List.setIfInBounds_toArray, List.set_cons_zero, List.set_cons_succ])
          refine pl_one rfl (by rfl) (fun K hK => ?_)
          go_simp
          go_at_call 58
          refine (asked_yes B a1 a2 a3 c1 c2 c3 _ ((HB.out.ext E0).ext (X3)) ((HG.out.ext E0).ext (X3)) hv).mono ?_
          rintro e w4 ⟨⟨mp, rfl, hM4, hmp4⟩, hE4⟩
          have X4 : Ext W0 w4 := Ext.trans (X3) hE4
          have hz4 := hE4.size
          have B4 := Blk.ext (B3) hE4
          refine hK.out _ _ (HH.out _ (X4)) ?_
          clear hK K
          (try simp only [Act.put, List.setIfInBounds_toArray, List.set_cons_zero, List.set_cons_succ])
          refine pl_tames ?_
          (try simp only [Act.put, List.setIfInBounds_toArray, List.set_cons_zero, List.set_cons_succ])
          repeat (first
            | (refine pl_run (v := ?_) rfl ?_ (fun W hW => ?_) ?_; rotate_left; rfl; ((try dsimp only at hW); go_simp; try with_reducible rfl); (try simp only [Act.put, List.setIfInBounds_toArray, List.set_cons_zero, List.set_cons_succ]))
            | (refine pl_skip rfl ?_ ?_; rfl; (try simp only [Act.put, List.setIfInBounds_toArray, List.set_cons_zero, List.set_cons_succ])))
          refine pl_end ?_
          have BS : Blk w4 w1.heap.size 81 #[.int .i64 0, .slice none 0 0, .slice none 0 0, .slice none 0 0, .map none] := B4
          have XS : Ext W0 w4 := X4
          have gS : W0.heap.size ≤ w1.heap.size := by omega
          have MS : MapA w4 mp (ownL B.orders B.orders.length) := hM4
          have nS : mp ≠ w1.heap.size := by (first | omega | (simp at *; omega))
          generalize w4 = WS at BS XS MS ⊢
          obtain ⟨kS0, kS1, kS2, kS3, kS4⟩ := BS.c5
          have fS0 := BS.frozen 0
          have fS1 := BS.frozen 1
          have fS2 := BS.frozen 2
          have fS3 := BS.frozen 3
          have fS4 := BS.frozen 4
          refine pl_one rfl (by rfl) (fun K hK => ?_)
          go_simp
          refine hK.out _ _ (HH.out _ (below5 XS gS (.int .i64 B.comp) (.slice a1 B.bounds.length c1) (.slice a2 B.orders.length c2) (.slice a3 B.shots.length c3) (.map (some mp)))) ?_
          clear hK K
          (try simp only [Act.put, List.setIfInBounds_toArray, List.set_cons_zero, List.set_cons_succ])
          refine pl_tames ?_
          (try simp only [Act.put, List.setIfInBounds_toArray, List.set_cons_zero, List.set_cons_succ])
          repeat (first
            | (refine pl_run (v := ?_) rfl ?_ (fun W hW => ?_) ?_; rotate_left; rfl; ((try dsimp only at hW); go_simp; try with_reducible rfl); (try simp only [Act.put, List.setIfInBounds_toArray, List.set_cons_zero, List.set_cons_succ]))
            | (refine pl_skip rfl ?_ ?_; rfl; (try simp only [Act.put, List.setIfInBounds_toArray, List.set_cons_zero, List.set_cons_succ])))
          refine pl_end ?_
          refine pl_done ?_
          (try simp only [Act.put])
          go_wp2
          go_meet
          case rel => exact ⟨w1.heap.size, mp, rfl, rfl, (puts5 BS (.int .i64 B.comp) (.slice a1 B.bounds.length c1) (.slice a2 B.orders.length c2) (.slice a3 B.shots.length c3) (.map (some mp))), (MS.puts5 nS (.int .i64 B.comp) (.slice a1 B.bounds.length c1) (.slice a2 B.orders.length c2) (.slice a3 B.shots.length c3) (.map (some mp))), by have := b0.lt; omega, (below5 XS gS (.int .i64 B.comp) (.slice a1 B.bounds.length c1) (.slice a2 B.orders.length c2) (.slice a3 B.shots.length c3) (.map (some mp)))⟩
      · refine pl_one rfl (by rfl) (fun K hK => ?_)
        go_simp
        have X2 : Ext W0 (w1.alloc (.cells #[.int .i64 0, .slice none 0 0, .slice none 0 0, .slice none 0 0, .map none] 81)) := Ext.trans (X1) (Ext.alloc _ _)
        have B2 : Blk (w1.alloc (.cells #[.int .i64 0, .slice none 0 0, .slice none 0 0, .slice none 0 0, .map none] 81)) w1.heap.size 81 #[.int .i64 0, .slice none 0 0, .slice none 0 0, .slice none 0 0, .map none] := Blk.new _ _ _
        have hg2 : W0.heap.size ≤ w1.heap.size := Below.size (X1)
        have ha2 : (w1.alloc (.cells #[.int .i64 0, .slice none 0 0, .slice none 0 0, .slice none 0 0, .map none] 81)).heap.size = w1.heap.size + 1 := by simp
        refine hK.out _ _ (HH.out _ (X2)) ?_
        clear hK K
        (try simp only [Act.put, List.setIfInBounds_toArray, List.set_cons_zero, List.set_cons_succ])
        refine pl_one rfl (by rfl) (fun K hK => ?_)
        go_simp
        go_at_call 64
        refine ((on_any _ _ _ _).mono (fun e w' q => (⟨by rw [q.1, hon.out], q.2⟩ : e = .returned (.bool true) ∧ _))).mono ?_
        rintro e w3 ⟨rfl, rfl⟩
        refine hK.out _ _ (HH.out _ (X2)) ?_
        clear hK K
        (try simp only [Act.put, List.setIfInBounds_toArray, List.set_cons_zero, List.set_cons_succ])
        refine pl_tames ?_
        (try simp only [Act.put, List.setIfInBounds_toArray, List.set_cons_zero, List.set_cons_succ])
        repeat (first
          | (refine pl_run (v := ?_) rfl ?_ (fun W hW => ?_) ?_; rotate_left; rfl; ((try dsimp only at hW); go_simp; try with_reducible rfl); (try simp only [Act.put, List.setIfInBounds_toArray, List.set_cons_zero, List.set_cons_succ]))
          | (refine pl_skip rfl ?_ ?_; rfl; (try simp only [Act.put, List.setIfInBounds_toArray, List.set_cons_zero, List.set_cons_succ])))
        refine pl_end ?_
        refine pl_one rfl (by rfl) (fun K hK => ?_)
        go_simp
        go_at_call 58
        refine (asked_yes B a1 a2 a3 c1 c2 c3 _ ((HB.out.ext E0).ext (X2)) ((HG.out.ext E0).ext (X2)) hv).mono ?_
        rintro e w4 ⟨⟨mp, rfl, hM4, hmp4⟩, hE4⟩
        have X4 : Ext W0 w4 := Ext.trans (X2) hE4
        have hz4 := hE4.size
        have B4 := Blk.ext (B2) hE4
        refine hK.out _ _ (HH.out _ (X4)) ?_
        clear hK K
        (try simp only [Act.put, List.setIfInBounds_toArray, List.set_cons_zero, List.set_cons_succ])
        refine pl_tames ?_
        (try simp only [Act.put, List.setIfInBounds_toArray, List.set_cons_zero, List.set_cons_succ])
        repeat (first
          | (refine pl_run (v := ?_) rfl ?_ (fun W hW => ?_) ?_; rotate_left; rfl; ((try dsimp only at hW); go_simp; try with_reducible rfl); (try simp only [Act.put, List.setIfInBounds_toArray, List.set_cons_zero, List.set_cons_succ]))
          | (refine pl_skip rfl ?_ ?_; rfl; (try simp only [Act.put, List.setIfInBounds_toArray, List.set_cons_zero, List.set_cons_succ])))
        refine pl_end ?_
        have BS : Blk w4 w1.heap.size 81 #[.int .i64 0, .slice none 0 0, .slice none 0 0, .slice none 0 0, .map none] := B4
        have XS : Ext W0 w4 := X4
        have gS : W0.heap.size ≤ w1.heap.size := by omega
        have MS : MapA w4 mp (ownL B.orders B.orders.length) := hM4
        have nS : mp ≠ w1.heap.size := by (first | omega | (simp at *; omega))
        generalize w4 = WS at BS XS MS ⊢
        obtain ⟨kS0, kS1, kS2, kS3, kS4⟩ := BS.c5
        have fS0 := BS.frozen 0
        have fS1 := BS.frozen 1
        have fS2 := BS.frozen 2
        have fS3 := BS.frozen 3
        have fS4 := BS.frozen 4
        refine pl_one rfl (by rfl) (fun K hK => ?_)
        go_simp
        refine hK.out _ _ (HH.out _ (below5 XS gS (.int .i64 B.comp) (.slice a1 B.bounds.length c1) (.slice a2 B.orders.length c2) (.slice a3 B.shots.length c3) (.map (some mp)))) ?_
        clear hK K
        (try simp only [Act.put, List.setIfInBounds_toArray, List.set_cons_zero, List.set_cons_succ])
        refine pl_tames ?_
        (try simp only [Act.put, List.setIfInBounds_toArray, List.set_cons_zero, List.set_cons_succ])
        repeat (first
          | (refine pl_run (v := ?_) rfl ?_ (fun W hW => ?_) ?_; rotate_left; rfl; ((try dsimp only at hW); go_simp; try with_reducible rfl); (try simp only [Act.put, List.setIfInBounds_toArray, List.set_cons_zero, List.set_cons_succ]))
          | (refine pl_skip rfl ?_ ?_; rfl; (try simp only [Act.put, List.setIfInBounds_toArray, List.set_cons_zero, List.set_cons_succ])))
        refine pl_end ?_
        refine pl_done ?_
        (try simp only [Act.put])
        go_wp2
        go_meet
        case rel => exact ⟨w1.heap.size, mp, rfl, rfl, (puts5 BS (.int .i64 B.comp) (.slice a1 B.bounds.length c1) (.slice a2 B.orders.length c2) (.slice a3 B.shots.length c3) (.map (some mp))), (MS.puts5 nS (.int .i64 B.comp) (.slice a1 B.bounds.length c1) (.slice a2 B.orders.length c2) (.slice a3 B.shots.length c3) (.map (some mp))), by have := b0.lt; omega, (below5 XS gS (.int .i64 B.comp) (.slice a1 B.bounds.length c1) (.slice a2 B.orders.length c2) (.slice a3 B.shots.length c3) (.map (some mp)))⟩
    · refine pl_one rfl (by rfl) (fun K hK => ?_)
      go_simp
      have X1 : Ext W0 (W0.alloc (.cells #[.int .i64 0, .slice none 0 0, .slice none 0 0, .slice none 0 0, .map none] 81)).drew := Ext.trans (Ext.alloc _ _) (Ext.drew _)
      have B1 : Blk (W0.alloc (.cells #[.int .i64 0, .slice none 0 0, .slice none 0 0, .slice none 0 0, .map none] 81)).drew W0.heap.size 81 #[.int .i64 0, .slice none 0 0, .slice none 0 0, .slice none 0 0, .map none] := (Blk.new _ _ _).drew
      have ha1 : (W0.alloc (.cells #[.int .i64 0, .slice none 0 0, .slice none 0 0, .slice none 0 0, .map none] 81)).drew.heap.size = W0.heap.size + 1 := by simp
      refine hK.out _ _ (HH.out _ (X1)) ?_
      clear hK K
      (try simp only [Act.put, List.setIfInBounds_toArray, List.set_cons_zero, List.set_cons_succ])
      refine pl_one rfl (by rfl) (fun K hK => ?_)
      go_simp
      go_at_call 69
      refine (isSt_yes B hst.out a1 a2 a3 c1 c2 c3 _ l2).mono ?_
      rintro e w2 ⟨rfl, hE2⟩
      have X2 : Ext W0 w2 := Ext.trans (X1) hE2
      have hz2 := hE2.size
      have B2 := Blk.ext (B1) hE2
      refine hK.out _ _ (HH.out _ (X2)) ?_
      clear hK K
      (try simp only [Act.put, List.setIfInBounds_toArray, List.set_cons_zero, List.set_cons_succ])
      refine pl_tames ?_
      (try simp only [Act.put, List.setIfInBounds_toArray, List.set_cons_zero, List.set_cons_succ])
      repeat (first
        | (refine pl_run (v := ?_) rfl ?_ (fun W hW => ?_) ?_; rotate_left; rfl; ((try dsimp only at hW); go_simp; try with_reducible rfl); (try simp only [Act.put, List.setIfInBounds_toArray, List.set_cons_zero, List.set_cons_succ]))
        | (refine pl_skip rfl ?_ ?_; rfl; (try simp only [Act.put, List.setIfInBounds_toArray, List.set_cons_zero, List.set_cons_succ])))
      refine pl_end ?_
      refine pl_one rfl (by rfl) (fun K hK => ?_)
      go_simp
      go_at_call 64
      refine ((on_any _ _ _ _).mono (fun e w' q => (⟨by rw [q.1, hon.out], q.2⟩ : e = .returned (.bool true) ∧ _))).mono ?_
      rintro e w3 ⟨rfl, rfl⟩
      refine hK.out _ _ (HH.out _ (X2)) ?_
      clear hK K
      (try simp only [Act.put, List.setIfInBounds_toArray, List.set_cons_zero, List.set_cons_succ])
      refine pl_tames ?_
      (try simp only [Act.put, List.setIfInBounds_toArray, List.set_cons_zero, List.set_cons_succ])
      repeat (first
        | (refine pl_run (v := ?_) rfl ?_ (fun W hW => ?_) ?_; rotate_left; rfl; ((try dsimp only at hW); go_simp; try with_reducible rfl); (try simp only [Act.put, List.setIfInBounds_toArray, List.set_cons_zero, List.set_cons_succ]))
        | (refine pl_skip rfl ?_ ?_; rfl; (try simp only [Act.put, List.setIfInBounds_toArray, List.set_cons_zero, List.set_cons_succ])))
      refine pl_end ?_
      refine pl_one rfl (by rfl) (fun K hK => ?_)
      go_simp
      go_at_call 58
      refine (asked_yes B a1 a2 a3 c1 c2 c3 _ ((HB.out.ext E0).ext (X2)) ((HG.out.ext E0).ext (X2)) hv).mono ?_
      rintro e w4 ⟨⟨mp, rfl, hM4, hmp4⟩, hE4⟩
      have X4 : Ext W0 w4 := Ext.trans (X2) hE4
      have hz4 := hE4.size
      have B4 := Blk.ext (B2) hE4
      refine hK.out _ _ (HH.out _ (X4)) ?_
      clear hK K
      (try simp only [Act.put, List.setIfInBounds_toArray, List.set_cons_zero, List.set_cons_succ])
      refine pl_tames ?_
      (try simp only [Act.put, List.setIfInBounds_toArray, List.set_cons_zero, List.set_cons_succ])
      repeat (first
        | (refine pl_run (v := ?_) rfl ?_ (fun W hW => ?_) ?_; rotate_left; rfl; ((try dsimp only at hW); go_simp; try with_reducible rfl); (try simp only [Act.put, List.setIfInBounds_toArray, List.set_cons_zero, List.set_cons_succ]))
        | (refine pl_skip rfl ?_ ?_; rfl; (try simp only [Act.put, List.setIfInBounds_toArray, List.set_cons_zero, List.set_cons_succ])))
      refine pl_end ?_
      have BS : Blk w4 W0.heap.size 81 #[.int .i64 0, .slice none 0 0, .slice none 0 0, .slice none 0 0, .map none] := B4
      have XS : Ext W0 w4 := X4
      have gS : W0.heap.size ≤ W0.heap.size := by omega
      have MS : MapA w4 mp (ownL B.orders B.orders.length) := hM4
      have nS : mp ≠ W0.heap.size := by (first | omega | (simp at *; omega))
      generalize w4 = WS at BS XS MS ⊢
      obtain ⟨kS0, kS1, kS2, kS3, kS4⟩ := BS.c5
      have fS0 := BS.frozen 0
      have fS1 := BS.frozen 1
      have fS2 := BS.frozen 2
      have fS3 := BS.frozen 3
      have fS4 := BS.frozen 4
      refine pl_one rfl (by rfl) (fun K hK => ?_)
      go_simp
      refine hK.out _ _ (HH.out _ (below5 XS gS (.int .i64 B.comp) (.slice a1 B.bounds.length c1) (.slice a2 B.orders.length c2) (.slice a3 B.shots.length c3) (.map (some mp)))) ?_
      clear hK K
      (try simp only [Act.put, List.setIfInBounds_toArray, List.set_cons_zero, List.set_cons_succ])
      refine pl_tames ?_
      (try simp only [Act.put, List.setIfInBounds_toArray, List.set_cons_zero, List.set_cons_succ])
      repeat (first
        | (refine pl_run (v := ?_) rfl ?_ (fun W hW => ?_) ?_; rotate_left; rfl; ((try dsimp only at hW); go_simp; try with_reducible rfl); (try simp only [Act.put, List.setIfInBounds_toArray, List.set_cons_zero, List.set_cons_succ]))
        | (refine pl_skip rfl ?_ ?_; rfl; (try simp only [Act.put, List.setIfInBounds_toArray, List.set_cons_zero, List.set_cons_succ])))
      refine pl_end ?_
      refine pl_done ?_
      (try simp only [Act.put])
      go_wp2
      go_meet
      case rel => exact ⟨W0.heap.size, mp, rfl, rfl, (puts5 BS (.int .i64 B.comp) (.slice a1 B.bounds.length c1) (.slice a2 B.orders.length c2) (.slice a3 B.shots.length c3) (.map (some mp))), (MS.puts5 nS (.int .i64 B.comp) (.slice a1 B.bounds.length c1) (.slice a2 B.orders.length c2) (.slice a3 B.shots.length c3) (.map (some mp))), by have := b0.lt; omega, (below5 XS gS (.int .i64 B.comp) (.slice a1 B.bounds.length c1) (.slice a2 B.orders.length c2) (.slice a3 B.shots.length c3) (.map (some mp)))⟩
  case rest =>
    obtain ⟨g, mp, rfl, rfl, hb, hM, hg, hX⟩ := hcut
    obtain ⟨W9, hW9⟩ : ∃ W9, W9 = wc := ⟨_, rfl⟩
    subst hW9
    obtain ⟨i0, hi, hz0, hz1, hz2⟩ := info_parts span_info
    have HB2 := Lib.hid ((HB.out.ext E0).ext hX)
    have HG2 := Lib.hid ((HG.out.ext E0).ext hX)
    go_wp2_with (fail)
    go_loopw [10, 11, 33] (fun v p i wr => ∃ k : Nat, k ≤ 1440 ∧ i = .int .i64 k ∧ p = .bool (runsK B s co k).2 ∧ wr.ownsRow W9.heap.size 29 2 v (runsK B s co k).1.length (flatS (runsK B s co k).1) ∧ Ext W9 wr) (fun _ _ i _ => 1440 - (intOf i).toNat)
    case atStart => exact ⟨0, Nat.zero_le _, rfl, rfl, World.ownsRow_nil _ _ _ _, Ext.refl _⟩
    case round =>
      obtain ⟨k, hk, rfl, rfl, hown, hE⟩ := hrel
      obtain ⟨hlen, hgo⟩ := runsK_inv B s co k
      have hsucc := runsK_succ B s co k
      have hfin : k = 1440 → runsL B s co = (runsK B s co k).1 := fun e => by rw [e]; rfl
      obtain ⟨R, hR⟩ : ∃ R, R = runsK B s co k := ⟨_, rfl⟩
      rw [← hR] at hlen hgo hsucc hown hfin ⊢
      obtain ⟨out, going⟩ := R
      dsimp only at hlen hgo hsucc hown hfin ⊢
      have Hgo := Lib.hid hgo
      have Hsucc := Lib.hid hsucc
      have Hfin := Lib.hid hfin
      clear hR hgo hsucc hfin
      by_cases hlt : k < 1440
      · obtain ⟨x0, x1, x2, x3, x4⟩ := (hb.ext hE).c5
        obtain ⟨hn0, av0, cpv0, rfl, hI0⟩ := own_span hown
        have HI0 := Lib.hid hI0
        have Hown := Lib.hid hown
        clear hI0 hown hn0
        go_upto_region 10 with (go_at_call 70; refine (owners_any B a1 a2 a3 c1 c2 c3 mp s k wr (HB2.out.ext hE) (HG2.out.ext hE) (hM.ext hE) hv hs).mono ?_; rintro e w5 ⟨⟨a, cp, rfl, hI⟩, hE5⟩)
        clear x0 x1 x2 x3 x4
        have hl1 := ownersL_len hv s (k : Int)
        have hs1 : ∀ x, ownersL B s k = [x] → sureAt B s co k = (x == co) := fun x hx => sureAt_one hx
        have hs2 : ∀ x y, ownersL B s k = [x, y] → sureAt B s co k = false := fun x y hx => sureAt_two hx
        obtain ⟨L, hL⟩ : ∃ L, L = ownersL B s k := ⟨_, rfl⟩
        rw [← hL] at hl1 hs1 hs2 hI ⊢
        have Hs1 := Lib.hid hs1
        have Hs2 := Lib.hid hs2
        clear hs1 hs2 hL
        go_cut [14] (fun p wx => p = .bool (sureAt B s co k) ∧ wx = w5)
        case first =>
          rcases L with _ | ⟨x, _ | ⟨y, _ | ⟨z, rest⟩⟩⟩
          · simp at hl1
          · obtain ⟨b, o, rfl, hbl, hc⟩ := hI (by simp)
            have q0 : w5.cell? ⟨b, o, none⟩ = some (.int .i64 x) := hc 0 (by simp)
            clear hc hI
            go_wp2
            go_meet
            case rel => exact ⟨by rw [Hs1.out x rfl], rfl⟩
          · clear hI
            go_wp2
            go_meet
            case rel => exact ⟨by rw [Hs2.out x y rfl], rfl⟩
          · simp at hl1
        case rest =>
          obtain ⟨rfl, rfl⟩ := hcut
          have hown5 := ownsRow_ext Hown.out hE5
          have E5 := hE.trans hE5
          clear hI Hs1 Hs2 hl1
          rw [show (↑k : Int) = (k : Int) from rfl] at *
          obtain ⟨is, his⟩ : ∃ is, is = sureAt B s co k := ⟨_, rfl⟩
          have hsucc := Hsucc.out
          unfold runStep at hsucc
          rw [← his] at hsucc ⊢
          dsimp only at hsucc
          have Hsuc := Lib.hid hsucc
          clear his hsucc
          cases is with
          | false =>
            go_wp2_with (fail)
            go_roundw
            case rel => exact ⟨k + 1, by omega, by go_num, by rw [Hsuc.out], by rw [Hsuc.out]; exact hown5, E5⟩
            case measure => simp [intOf]; omega
          | true =>
            cases going with
            | true =>
              have hpos := Hgo.out rfl
              obtain ⟨gg, cap, e9, g2, g3⟩ := own_s_open hown5 hpos
              simp only [Value.slice.injEq] at e9
              obtain ⟨rfl, -, rfl⟩ := e9
              unfold maxLen at g3
              obtain ⟨l1, ⟨lu, l2'⟩, l3', l4⟩ := own_last hown5 hpos (k : Int)
              go_wp2_with (fail)
              refine ⟨⟨k + 1, by omega, rfl, by rw [Hsuc.out], ?_, Below.setCell E5 l1 _⟩, by simp [intOf]; omega⟩
              rw [Hsuc.out]
              simp only [if_true]
              rw [addLast_len hpos]
              exact l4
            | false =>
              go_upto_region 13 with (at_builtin; refine wpList_append_own _ rfl _ _ 22 rfl W9.heap.size 29 i0 (.agg #[.int .i64 0, .int .i64 0]) 2 16 Tryd.underlying22 hi hz0 hz1 hz2 rfl (by decide) _ _ _ rfl (hown5.alloc _) ⟨wc.heap.size, 0, none⟩ 1 1 [.int .i64 k, .int .i64 0] rfl rfl (cell_two_new _ _ _ _) (by simp [Value.oneCell']) (by unfold maxLen; omega) (by omega) (by have := E5.size; simp; omega) ?_; intro v' w7 hown' hgrow _)
              have hE7 : Ext W9 w7 := Below.grown (Ext.trans E5 (Ext.alloc wc _)) hgrow (by have := E5.size; simp; omega) (own_s_base hown5)
              rw [show flatS out ++ [.int .i64 (k : Int), .int .i64 0] = flatS (out ++ [((k : Int), 0)]) from (flatS_snoc out ((k : Int), (0 : Int))).symm] at hown'
              obtain ⟨gg, cap, rfl, g2, g3⟩ := own_s_open hown' (by omega)
              unfold maxLen at g3
              obtain ⟨l1, ⟨lu, l2'⟩, l3', l4⟩ := own_last hown' (by omega) (k : Int)
              rw [addLast_snoc] at l4
              simp only [Nat.add_sub_cancel] at l2' l3' l4
              clear hown'
              go_wp2_with (fail)
              refine ⟨⟨k + 1, by omega, rfl, by rw [Hsuc.out], ?_, Below.setCell hE7 l1 _⟩, by simp [intOf]; omega⟩
              rw [Hsuc.out]
              simpa using l4
      · obtain rfl : k = 1440 := by omega
        have hf := Hfin.out rfl
        have hI0 := own_span hown
        subst hf
        rcases Nat.eq_zero_or_pos (runsL B s co).length with h0 | h0
        · have Hh := Lib.hid h0
          rw [h0] at hown
          rcases hown.2 with ⟨rfl, _⟩ | ⟨gg, cap, cur, rfl, g1, g2, g3, g4, _⟩
          · clear h0
            go_wp2
            refine bodyPost_ret (v := .tuple #[.slice none 0 0, .int .i64 0]) ?_ rfl ⟨⟨_, ⟨0, by rw [Hh.out]⟩, fun hp => absurd hp (by rw [Hh.out]; omega)⟩, E0.trans (Ext.trans hX hE)⟩
            simp [results, Tryd.results22, go_sem]
          · unfold maxLen at g4
            clear h0
            go_wp2
            refine bodyPost_ret (v := .tuple #[.slice (some ⟨gg, 0, none⟩) 0 0, .int .i64 0]) ?_ rfl ⟨⟨_, ⟨0, by rw [Hh.out]⟩, fun hp => absurd hp (by rw [Hh.out]; omega)⟩, E0.trans (Ext.trans hX hE)⟩
            simp [results, Tryd.results22, go_sem]
        · obtain ⟨gg, cap, rfl, g2, g3⟩ := own_s_open hown h0
          obtain ⟨hn, av, cpv, e1, hI⟩ := hI0
          unfold maxLen at g3
          simp only [Value.slice.injEq] at e1
          obtain ⟨rfl, -, rfl⟩ := e1
          go_wp2
          refine bodyPost_ret (v := .tuple #[.slice (some ⟨gg, 0, none⟩) (runsL B s co).length (runsL B s co).length, .int .i64 0]) ?_ rfl ⟨⟨_, ⟨_, rfl⟩, hI⟩, E0.trans (Ext.trans hX hE)⟩
          simp [results, Tryd.results22, go_sem]
end Go.Proofs.YtnhdcdhpfgdphaaDoor
