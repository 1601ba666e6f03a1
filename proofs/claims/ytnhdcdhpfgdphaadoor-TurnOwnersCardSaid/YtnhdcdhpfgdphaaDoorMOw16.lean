/-
  The exported function Sure, where it answers.
-/
import Derived.Test.YtnhdcdhpfgdphaaDoorMOw8
import Derived.Test.YtnhdcdhpfgdphaaDoorMOw9
import Derived.Test.YtnhdcdhpfgdphaaDoorMOw10
import Derived.Test.YtnhdcdhpfgdphaaDoorMOw15
import Derived.Test.YtnhdcdhpfgdphaaDoorMOw7
import Derived.Test.YtnhdcdhpfgdphaaDoorMOw2
import Derived.Test.YtnhdcdhpfgdphaaDoorMOw1
set_option linter.unusedSimpArgs false
set_option linter.unusedVariables false
namespace Go.Proofs.YtnhdcdhpfgdphaaDoor
open Go Go.RowKit


theorem sureAt_one {B : Bk} {s : Nat} {c n x : Int} (h : ownersL B s n = [x]) : sureAt B s c n = (x == c) := by
  simp [sureAt, h, Bool.beq_eq_decide_eq]
theorem sureAt_two {B : Bk} {s : Nat} {c n x y : Int} (h : ownersL B s n = [x, y]) : sureAt B s c n = false := by
  simp [sureAt, h]
theorem addLast_len {L : List (Int × Int)} (h : 0 < L.length) (m : Int) : (addLast L m).length = L.length := by simp [addLast]; omega
theorem addLast_snoc (L : List (Int × Int)) (a b m : Int) : addLast (L ++ [(a, b)]) m = L ++ [(a, m)] := by simp [addLast]
theorem own_s_open {w : World} {base n : Nat} {v : Value} {xs : List Value} (h : w.ownsRow base 29 2 v n xs) (hn : 0 < n) : ∃ g cap, v = .slice (some ⟨g, 0, none⟩) n cap ∧ n ≤ cap ∧ cap ≤ maxLen := by
  rcases h.2 with ⟨_, h1⟩ | ⟨g, cap, cur, rfl, hg, hh, h1, h2, h3, h4⟩
  · omega
  · exact ⟨g, cap, rfl, h1, h2⟩
theorem own_s_base {w : World} {base n : Nat} {v : Value} {xs : List Value} (h : w.ownsRow base 29 2 v n xs) : ∀ k, v.ownBlock = some k → base ≤ k := by
  intro k hk
  rcases h.2 with ⟨rfl, _⟩ | ⟨g, cap, cur, rfl, hb, _⟩
  · simp [Value.ownBlock] at hk
  · have : g = k := by simpa [Value.ownBlock] using hk
    omega

set_option maxRecDepth 100000 in
set_option maxHeartbeats 4000000 in
theorem sure_yes (B : Bk) (a1 a2 a3 : Option Addr) (c1 c2 c3 : Nat) (s : Nat) (co : Int) (w : World) (h : BookA w B a1 a2 a3) (hG : Glob w) (hv : validB B = true) (hs : s < B.orders.length) (hc0 : 0 ≤ co) (hc1 : co < B.comp) :
    Calls Tryd.prog 22 #[.agg #[.int .i64 B.comp, .slice a1 B.bounds.length c1, .slice a2 B.orders.length c2, .slice a3 B.shots.length c3], .int .i64 s, .int .i64 co] w
      fun e w' => (∃ a cp, e = .returned (.tuple #[.slice a (runsL B s co).length cp, .int .i64 0]) ∧ SpanA w' a (runsL B s co)) ∧ Ext w w' := by
  have hst := Lib.hid (show isStB B s = true by simp [isStB]; omega)
  have hcc := (valid_sizes hv).2.1
  obtain ⟨cw, hw⟩ : ∃ cw, IntKind.i64.wrap (B.comp - 1) = cw := ⟨_, rfl⟩
  have hon := Lib.hid (show (decide (0 ≤ co) && decide (co ≤ cw)) = true by rw [wr64 _ (by omega)] at hw; simp; omega)
  clear hcc hc0 hc1
  have HB := Lib.hid h
  have HG := Lib.hid hG
  have l2 := h.l2
  have l3 := h.l3
  clear h hG
  go_enter Tryd.func22, Tryd.ntmps22
  go_upto_region 1 with (fail)
  obtain ⟨W0, hW0⟩ : ∃ W0, W0 = w.alloc (.cells #[.int .i64 B.comp, .slice a1 B.bounds.length c1, .slice a2 B.orders.length c2, .slice a3 B.shots.length c3] 26) := ⟨_, rfl⟩
  have b0 : Blk W0 w.heap.size 26 #[.int .i64 B.comp, .slice a1 B.bounds.length c1, .slice a2 B.orders.length c2, .slice a3 B.shots.length c3] := by rw [hW0]; exact Blk.new _ _ _
  have E0 : Ext w W0 := by rw [hW0]; exact Ext.alloc _ _
  rw [← hW0]
  clear hW0
  have HH : Hid (∀ W, Ext W0 W → (W.cell? ⟨w.heap.size, 0, none⟩ = some (.int .i64 B.comp) ∧ W.cell? ⟨w.heap.size, 1, none⟩ = some (.slice a1 B.bounds.length c1) ∧ W.cell? ⟨w.heap.size, 2, none⟩ = some (.slice a2 B.orders.length c2) ∧ W.cell? ⟨w.heap.size, 3, none⟩ = some (.slice a3 B.shots.length c3))) := Lib.hid fun W e => (b0.ext e).c4
  go_cut [8, 9] (fun p e wx => ∃ g mp, p = .pointer (some ⟨g, 0, none⟩) ∧ e = .int .i64 0 ∧ Blk wx g 81 #[.int .i64 B.comp, .slice a1 B.bounds.length c1, .slice a2 B.orders.length c2, .slice a3 B.shots.length c3, .map (some mp)] ∧ MapA wx mp (ownL B.orders B.orders.length) ∧ w.heap.size < g ∧ Ext W0 wx)
  case first =>
    refine wp_plan (fun W => W.cell? ⟨w.heap.size, 0, none⟩ = some (.int .i64 B.comp) ∧ W.cell? ⟨w.heap.size, 1, none⟩ = some (.slice a1 B.bounds.length c1) ∧ W.cell? ⟨w.heap.size, 2, none⟩ = some (.slice a2 B.orders.length c2) ∧ W.cell? ⟨w.heap.size, 3, none⟩ = some (.slice a3 B.shots.length c3)) (.tames [0, 1, 2] (.two 3 15 (.tames [4, 5, 6, 7, 8] (.two 9 15 (.tames [10] (.two 11 15 (.tames [12, 13, 14] (.one 15 (.one 16 (.tames [17] (.done))))) (.one 11 (.tames [12, 13, 14] (.one 16 (.tames [17] (.done))))))) (.one 9 (.tames [10] (.one 11 (.tames [12, 13, 14] (.one 16 (.tames [17] (.done))))))))) (.one 3 (.tames [4, 5, 6, 7, 8] (.one 9 (.tames [10] (.one 11 (.tames [12, 13, 14] (.one 16 (.tames [17] (.done))))))))))) (by kernel_rfl) (by kernel_rfl) (by kernel_rfl) (fun c a d v w h => by cases d <;> exact h) ?_ ?_
    · exact HH.out _ (Ext.drew _)
    refine pl_tames ?_
    (try simp only [Act.put, List.setIfInBounds_toArray, List.set_cons_zero, List.set_cons_succ])
    repeat (first
      | (refine pl_run (v := ?_) rfl ?_ (fun W hW => ?_) ?_; rotate_left; rfl; ((try dsimp only at hW); go_simp; try with_reducible rfl); (try simp only [Act.put, List.setIfInBounds_toArray, List.set_cons_zero, List.set_cons_succ]))
      | (refine pl_skip rfl ?_ ?_; rfl; (try simp only [Act.put, List.setIfInBounds_toArray, List.set_cons_zero, List.set_cons_succ])))
    refine pl_end ?_
    refine pl_two ?_ ?_
    · refine pl_one rfl (by rfl) (fun K hK => ?_)
      go_simp
      go_at_call 69
      refine (isSt_yes B hst.out a1 a2 a3 c1 c2 c3 _ l2).mono ?_
      rintro e w1 ⟨rfl, hE1⟩
      have X1 : Ext W0 w1 := Ext.trans (Ext.drew W0) hE1
      have hz1 := hE1.size
      refine hK.out _ _ (HH.out _ (X1)) ?_
      clear hK K
      (try simp only [Act.put, List.setIfInBounds_toArray, List.set_cons_zero, List.set_cons_succ])
      refine pl_tames ?_
      (try simp only [Act.put, List.setIfInBounds_toArray, List.set_cons_zero, List.set_cons_succ])
      repeat (first
        | (refine pl_run (v := ?_) rfl ?_ (fun W hW => ?_) ?_; rotate_left; rfl; ((try dsimp only at hW); go_simp; try with_reducible rfl); (try simp only [Act.put, List.setIfInBounds_toArray, List.set_cons_zero, List.set_cons_succ]))
        | (refine pl_skip rfl ?_ ?_; rfl; (try simp only [Act.put, List.setIfInBounds_toArray, List.set_cons_zero, List.set_cons_succ])))
      refine pl_end ?_
      refine pl_two ?_ ?_
      · refine pl_one rfl (by rfl) (fun K hK => ?_)
        go_simp
        go_at_call 64
        refine ((on_any _ _ _ _).mono (fun e w' q => (⟨by rw [q.1, hon.out], q.2⟩ : e = .returned (.bool true) ∧ _))).mono ?_
        rintro e w2 ⟨rfl, rfl⟩
        refine hK.out _ _ (HH.out _ (X1)) ?_
        clear hK K
        (try simp only [Act.put, List.setIfInBounds_toArray, List.set_cons_zero, List.set_cons_succ])
        refine pl_tames ?_
        (try simp only [Act.put, List.setIfInBounds_toArray, List.set_cons_zero, List.set_cons_succ])
        repeat (first
          | (refine pl_run (v := ?_) rfl ?_ (fun W hW => ?_) ?_; rotate_left; rfl; ((try dsimp only at hW); go_simp; try with_reducible rfl); (try simp only [Act.put, List.setIfInBounds_toArray, List.set_cons_zero, List.set_cons_succ]))
          | (refine pl_skip rfl ?_ ?_; rfl; (try simp only [Act.put, List.setIfInBounds_toArray, List.set_cons_zero, List.set_cons_succ])))
        refine pl_end ?_
        refine pl_two ?_ ?_
        · refine pl_one rfl (by rfl) (fun K hK => ?_)
          go_simp
          go_at_call 58
          refine (asked_yes B a1 a2 a3 c1 c2 c3 _ ((HB.out.ext E0).ext (X1)) ((HG.out.ext E0).ext (X1)) hv).mono ?_
          rintro e w3 ⟨⟨mp, rfl, hM3, hmp3⟩, hE3⟩
          have X3 : Ext W0 w3 := Ext.trans (X1) hE3
          have hz3 := hE3.size
          refine hK.out _ _ (HH.out _ (X3)) ?_
          clear hK K
          (try simp only [Act.put, List.setIfInBounds_toArray, List.set_cons_zero, List.set_cons_succ])
          refine pl_tames ?_
          (try simp only [Act.put, List.setIfInBounds_toArray, List.set_cons_zero, List.set_cons_succ])
          repeat (first
            | (refine pl_run (v := ?_) rfl ?_ (fun W hW => ?_) ?_; rotate_left; rfl; ((try dsimp only at hW); go_simp; try with_reducible rfl); (try simp only [Act.put, List.setIfInBounds_toArray, List.set_cons_zero, List.set_cons_succ]))
            | (refine pl_skip rfl ?_ ?_; rfl; (try simp only [Act.put, List.setIfInBounds_toArray, List.set_cons_zero, List.set_cons_succ])))
          refine pl_end ?_
          refine pl_one rfl (by rfl) (fun K hK => ?_)
          go_simp
          have X4 : Ext W0 (w3.alloc (.cells #[.int .i64 0, .slice none 0 0, .slice none 0 0, .slice none 0 0, .map none] 81)) := Ext.trans (X3) (Ext.alloc _ _)
          have B4 : Blk (w3.alloc (.cells #[.int .i64 0, .slice none 0 0, .slice none 0 0, .slice none 0 0, .map none] 81)) w3.heap.size 81 #[.int .i64 0, .slice none 0 0, .slice none 0 0, .slice none 0 0, .map none] := Blk.new _ _ _
          have hg4 : W0.heap.size ≤ w3.heap.size := Below.size (X3)
          have hl4 := MapA.lt (hM3)
          have M4 := MapA.ext (hM3) (Ext.alloc w3 (.cells #[.int .i64 0, .slice none 0 0, .slice none 0 0, .slice none 0 0, .map none] 81))
          have ha4 : (w3.alloc (.cells #[.int .i64 0, .slice none 0 0, .slice none 0 0, .slice none 0 0, .map none] 81)).heap.size = w3.heap.size + 1 := by simp
          refine hK.out _ _ (HH.out _ (X4)) ?_
          clear hK K
          (try simp only [Act.put, List.setIfInBounds_toArray, List.set_cons_zero, List.set_cons_succ])
          have BS : Blk (w3.alloc (.cells #[.int .i64 0, .slice none 0 0, .slice none 0 0, .slice none 0 0, .map none] 81)) w3.heap.size 81 #[.int .i64 0, .slice none 0 0, .slice none 0 0, .slice none 0 0, .map none] := B4
          have XS : Ext W0 (w3.alloc (.cells #[.int .i64 0, .slice none 0 0, .slice none 0 0, .slice none 0 0, .map none] 81)) := X4
          have gS : W0.heap.size ≤ w3.heap.size := by omega
          have MS : MapA (w3.alloc (.cells #[.int .i64 0, .slice none 0 0, .slice none 0 0, .slice none 0 0, .map none] 81)) mp (ownL B.orders B.orders.length) := M4
          have nS : mp ≠ w3.heap.size := by (first | omega | (simp at *; omega))
          generalize (w3.alloc (.cells #[.int .i64 0, .slice none 0 0, .slice none 0 0, .slice none 0 0, .map none] 81)) = WS at BS XS MS ⊢
          obtain ⟨kS0, kS1, kS2, kS3, kS4⟩ := BS.c5
          have fS0 := BS.frozen 0
          have fS1 := BS.frozen 1
          have fS2 := BS.frozen 2
          have fS3 := BS.frozen 3
          have fS4 := BS.frozen 4
          refine pl_one rfl (by rfl) (fun K hK => ?_)
          go_simp
          refine hK.out _ _ (HH.out _ (below5 XS gS (.int .i64 B.comp) (.slice a1 B.bounds.length c1) (.slice a2 B.orders.length c2) (.slice a3 B.shots.length c3) (.map (some mp)))) ?_
          clear hK K
          (try simp only [Act.put, List.setIfInBounds_toArray, List.set_cons_zero, List.set_cons_succ])
          refine pl_tames ?_
          (try simp only [Act.put, List.setIfInBounds_toArray, List.set_cons_zero, List.set_cons_succ])
          repeat (first
            | (refine pl_run (v := ?_) rfl ?_ (fun W hW => ?_) ?_; rotate_left; rfl; ((try dsimp only at hW); go_simp; try with_reducible rfl); (try simp only [Act.put, List.setIfInBounds_toArray, List.set_cons_zero, List.set_cons_succ]))
            | (refine pl_skip rfl ?_ ?_; rfl; (try simp only [Act.put, List.setIfInBounds_toArray, List.set_cons_zero, List.set_cons_succ])))
          refine pl_end ?_
          refine pl_done ?_
          (try simp only [Act.put])
          go_wp2
          go_meet
          case rel => exact ⟨w3.heap.size, mp, rfl, rfl, (puts5 BS (.int .i64 B.comp) (.slice a1 B.bounds.length c1) (.slice a2 B.orders.length c2) (.slice a3 B.shots.length c3) (.map (some mp))), (MS.puts5 nS (.int .i64 B.comp) (.slice a1 B.bounds.length c1) (.slice a2 B.orders.length c2) (.slice a3 B.shots.length c3) (.map (some mp))), by have := b0.lt; omega, (below5 XS gS (.int .i64 B.comp) (.slice a1 B.bounds.length c1) (.slice a2 B.orders.length c2) (.slice a3 B.shots.length c3) (.map (some mp)))⟩
        · refine pl_one rfl (by rfl) (fun K hK => ?_)
          go_simp
          have X3 : Ext W0 (w1.alloc (.cells #[.int .i64 0, .slice none 0 0, .slice none 0 0, .slice none 0 0, .map none] 81)) := Ext.trans (X1) (Ext.alloc _ _)
          have B3 : Blk (w1.alloc (.cells #[.int .i64 0, .slice none 0 0, .slice none 0 0, .slice none 0 0, .map none] 81)) w1.heap.size 81 #[.int .i64 0, .slice none 0 0, .slice none 0 0, .slice none 0 0, .map none] := Blk.new _ _ _
          have hg3 : W0.heap.size ≤ w1.heap.size := Below.size (X1)
          have ha3 : (w1.alloc (.cells #[.int .i64 0, .slice none 0 0, .slice none 0 0, .slice none 0 0, .map none] 81)).heap.size = w1.heap.size + 1 := by simp
          refine hK.out _ _ (HH.out _ (X3)) ?_
          clear hK K
          (try simp only [Act.put, List.setIfInBounds_toArray, List.set_cons_zero, List.set_cons_succ])
          refine pl_one rfl (by rfl) (fun K hK => ?_)
          go_simp
          go_at_call 58
          refine (asked_yes B a1 a2 a3 c1 c2 c3 _ ((HB.out.ext E0).ext (X3)) ((HG.out.ext E0).ext (X3)) hv).mono ?_
          rintro e w4 ⟨⟨mp, rfl, hM4, hmp4⟩, hE4⟩
          have X4 : Ext W0 w4 := Ext.trans (X3) hE4
          have hz4 := hE4.size
          have B4 := Blk.ext (B3) hE4
          refine hK.out _ _ (HH.out _ (X4)) ?_
          clear hK K
          (try simp only [Act.put, List.setIfInBounds_toArray, List.set_cons_zero, List.set_cons_succ])
          refine pl_tames ?_
          (try simp only [Act.put, List.setIfInBounds_toArray, List.set_cons_zero, List.set_cons_succ])
          repeat (first
            | (refine pl_run (v := ?_) rfl ?_ (fun W hW => ?_) ?_; rotate_left; rfl; ((try dsimp only at hW); go_simp; try with_reducible rfl); (try simp only [Act.put, List.setIfInBounds_toArray, List.set_cons_zero, List.set_cons_succ]))
            | (refine pl_skip rfl ?_ ?_; rfl; (try simp only [Act.put, List.setIfInBounds_toArray, List.set_cons_zero, List.set_cons_succ])))
          refine pl_end ?_
          have BS : Blk w4 w1.heap.size 81 #[.int .i64 0, .slice none 0 0, .slice none 0 0, .slice none 0 0, .map none] := B4
          have XS : Ext W0 w4 := X4
          have gS : W0.heap.size ≤ w1.heap.size := by omega
          have MS : MapA w4 mp (ownL B.orders B.orders.length) := hM4
          have nS : mp ≠ w1.heap.size := by (first | omega | (simp at *; omega))
          generalize w4 = WS at BS XS MS ⊢
          obtain ⟨kS0, kS1, kS2, kS3, kS4⟩ := BS.c5
          have fS0 := BS.frozen 0
          have fS1 := BS.frozen 1
          have fS2 := BS.frozen 2
          have fS3 := BS.frozen 3
          have fS4 := BS.frozen 4
          refine pl_one rfl (by rfl) (fun K hK => ?_)
          go_simp
          refine hK.out _ _ (HH.out _ (below5 XS gS (.int .i64 B.comp) (.slice a1 B.bounds.length c1) (.slice a2 B.orders.length c2) (.slice a3 B.shots.length c3) (.map (some mp)))) ?_
          clear hK K
          (try simp only [Act.put, List.setIfInBounds_toArray, List.set_cons_zero, List.set_cons_succ])
          refine pl_tames ?_
          (try simp only [Act.put, List.setIfInBounds_toArray, List.set_cons_zero, List.set_cons_succ])
          repeat (first
            | (refine pl_run (v := ?_) rfl ?_ (fun W hW => ?_) ?_; rotate_left; rfl; ((try dsimp only at hW); go_simp; try with_reducible rfl); (try simp only [Act.put, List.setIfInBounds_toArray, List.set_cons_zero, List.set_cons_succ]))
            | (refine pl_skip rfl ?_ ?_; rfl; (try simp only [Act.put, List.setIfInBounds_toArray, List.set_cons_zero, List.set_cons_succ])))
          refine pl_end ?_
          refine pl_done ?_
          (try simp only [Act.put])
          go_wp2
          go_meet
          case rel => exact ⟨w1.heap.size, mp, rfl, rfl, (puts5 BS (.int .i64 B.comp) (.slice a1 B.bounds.length c1) (.slice a2 B.orders.length c2) (.slice a3 B.shots.length c3) (.map (some mp))), (MS.puts5 nS (.int .i64 B.comp) (.slice a1 B.bounds.length c1) (.slice a2 B.orders.length c2) (.slice a3 B.shots.length c3) (.map (some mp))), by have := b0.lt; omega, (below5 XS gS (.int .i64 B.comp) (.slice a1 B.bounds.length c1) (.slice a2 B.orders.length c2) (.slice a3 B.shots.length c3) (.map (some mp)))⟩
      · refine pl_one rfl (by rfl) (fun K hK => ?_)
        go_simp
        have X2 : Ext W0 (w1.alloc (.cells #[.int .i64 0, .slice none 0 0, .slice none 0 0, .slice none 0 0, .map none] 81)) := Ext.trans (X1) (Ext.alloc _ _)
        have B2 : Blk (w1.alloc (.cells #[.int .i64 0, .slice none 0 0, .slice none 0 0, .slice none 0 0, .map none] 81)) w1.heap.size 81 #[.int .i64 0, .slice none 0 0, .slice none 0 0, .slice none 0 0, .map none] := Blk.new _ _ _
        have hg2 : W0.heap.size ≤ w1.heap.size := Below.size (X1)
        have ha2 : (w1.alloc (.cells #[.int .i64 0, .slice none 0 0, .slice none 0 0, .slice none 0 0, .map none] 81)).heap.size = w1.heap.size + 1 := by simp
        refine hK.out _ _ (HH.out _ (X2)) ?_
        clear hK K
        (try simp only [Act.put, List.setIfInBounds_toArray, List.set_cons_zero, List.set_cons_succ])
        refine pl_one rfl (by rfl) (fun K hK => ?_)
        go_simp
        go_at_call 64
        refine ((on_any _ _ _ _).mono (fun e w' q => (⟨by rw [q.1, hon.out], q.2⟩ : e = .returned (.bool true) ∧ _))).mono ?_
        rintro e w3 ⟨rfl, rfl⟩
        refine hK.out _ _ (HH.out _ (X2)) ?_
        clear hK K
        (try simp only [Act.put, List.setIfInBounds_toArray, List.set_cons_zero, List.set_cons_succ])
        refine pl_tames ?_
        (try simp only [Act.put, List.setIfInBounds_toArray, List.set_cons_zero, List.set_cons_succ])
        repeat (first
          | (refine pl_run (v := ?_) rfl ?_ (fun W hW => ?_) ?_; rotate_left; rfl; ((try dsimp only at hW); go_simp; try with_reducible rfl); (try simp only [Act.put, List.setIfInBounds_toArray, List.set_cons_zero, List.set_cons_succ]))
          | (refine pl_skip rfl ?_ ?_; rfl; (try simp only [Act.put, List.setIfInBounds_toArray, List.set_cons_zero, List.set_cons_succ])))
        refine pl_end ?_
        refine pl_one rfl (by rfl) (fun K hK => ?_)
        go_simp
        go_at_call 58
        refine (asked_yes B a1 a2 a3 c1 c2 c3 _ ((HB.out.ext E0).ext (X2)) ((HG.out.ext E0).ext (X2)) hv).mono ?_
        rintro e w4 ⟨⟨mp, rfl, hM4, hmp4⟩, hE4⟩
        have X4 : Ext W0 w4 := Ext.trans (X2) hE4
        have hz4 := hE4.size
        have B4 := Blk.ext (B2) hE4
        refine hK.out _ _ (HH.out _ (X4)) ?_
        clear hK K
        (try simp only [Act.put, List.setIfInBounds_toArray, List.set_cons_zero, List.set_cons_succ])
        refine pl_tames ?_
        (try simp only [Act.put, List.setIfInBounds_toArray, List.set_cons_zero, List.set_cons_succ])
        repeat (first
          | (refine pl_run (v := ?_) rfl ?_ (fun W hW => ?_) ?_; rotate_left; rfl; ((try dsimp only at hW); go_simp; try with_reducible rfl); (try simp only [Act.put, List.setIfInBounds_toArray, List.set_cons_zero, List.set_cons_succ]))
          | (refine pl_skip rfl ?_ ?_; rfl; (try simp only [Act.put, List.setIfInBounds_toArray, List.set_cons_zero, List.set_cons_succ])))
        refine pl_end ?_
        have BS : Blk w4 w1.heap.size 81 #[.int .i64 0, .slice none 0 0, .slice none 0 0, .slice none 0 0, .map none] := B4
        have XS : Ext W0 w4 := X4
        have gS : W0.heap.size ≤ w1.heap.size := by omega
        have MS : MapA w4 mp (ownL B.orders B.orders.length) := hM4
        have nS : mp ≠ w1.heap.size := by (first | omega | (simp at *; omega))
        generalize w4 = WS at BS XS MS ⊢
        obtain ⟨kS0, kS1, kS2, kS3, kS4⟩ := BS.c5
        have fS0 := BS.frozen 0
        have fS1 := BS.frozen 1
        have fS2 := BS.frozen 2
        have fS3 := BS.frozen 3
        have fS4 := BS.frozen 4
        refine pl_one rfl (by rfl) (fun K hK => ?_)
        go_simp
        refine hK.out _ _ (HH.out _ (below5 XS gS (.int .i64 B.comp) (.slice a1 B.bounds.length c1) (.slice a2 B.orders.length c2) (.slice a3 B.shots.length c3) (.map (some mp)))) ?_
        clear hK K
        (try simp only [Act.put, List.setIfInBounds_toArray, List.set_cons_zero, List.set_cons_succ])
        refine pl_tames ?_
        (try simp only [Act.put, List.setIfInBounds_toArray, List.set_cons_zero, List.set_cons_succ])
        repeat (first
          | (refine pl_run (v := ?_) rfl ?_ (fun W hW => ?_) ?_; rotate_left; rfl; ((try dsimp only at hW); go_simp; try with_reducible rfl); (try simp only [Act.put, List.setIfInBounds_toArray, List.set_cons_zero, List.set_cons_succ]))
          | (refine pl_skip rfl ?_ ?_; rfl; (try simp only [Act.put, List.setIfInBounds_toArray, List.set_cons_zero, List.set_cons_succ])))
        refine pl_end ?_
        refine pl_done ?_
        (try simp only [Act.put])
        go_wp2
        go_meet
        case rel => exact ⟨w1.heap.size, mp, rfl, rfl, (puts5 BS (.int .i64 B.comp) (.slice a1 B.bounds.length c1) (.slice a2 B.orders.length c2) (.slice a3 B.shots.length c3) (.map (some mp))), (MS.puts5 nS (.int .i64 B.comp) (.slice a1 B.bounds.length c1) (.slice a2 B.orders.length c2) (.slice a3 B.shots.length c3) (.map (some mp))), by have := b0.lt; omega, (below5 XS gS (.int .i64 B.comp) (.slice a1 B.bounds.length c1) (.slice a2 B.orders.length c2) (.slice a3 B.shots.length c3) (.map (some mp)))⟩
    · refine pl_one rfl (by rfl) (fun K hK => ?_)
      go_simp
      have X1 : Ext W0 (W0.alloc (.cells #[.int .i64 0, .slice none 0 0, .slice none 0 0, .slice none 0 0, .map none] 81)).drew := Ext.trans (Ext.alloc _ _) (Ext.drew _)
      have B1 : Blk (W0.alloc (.cells #[.int .i64 0, .slice none 0 0, .slice none 0 0, .slice none 0 0, .map none] 81)).drew W0.heap.size 81 #[.int .i64 0, .slice none 0 0, .slice none 0 0, .slice none 0 0, .map none] := (Blk.new _ _ _).drew
      have ha1 : (W0.alloc (.cells #[.int .i64 0, .slice none 0 0, .slice none 0 0, .slice none 0 0, .map none] 81)).drew.heap.size = W0.heap.size + 1 := by simp
      refine hK.out _ _ (HH.out _ (X1)) ?_
      clear hK K
      (try simp only [Act.put, List.setIfInBounds_toArray, List.set_cons_zero, List.set_cons_succ])
      refine pl_one rfl (by rfl) (fun K hK => ?_)
      go_simp
      go_at_call 69
      refine (isSt_yes B hst.out a1 a2 a3 c1 c2 c3 _ l2).mono ?_
      rintro e w2 ⟨rfl, hE2⟩
      have X2 : Ext W0 w2 := Ext.trans (X1) hE2
      have hz2 := hE2.size
      have B2 := Blk.ext (B1) hE2
      refine hK.out _ _ (HH.out _ (X2)) ?_
      clear hK K
      (try simp only [Act.put, List.setIfInBounds_toArray, List.set_cons_zero, List.set_cons_succ])
      refine pl_tames ?_
      (try simp only [Act.put, List.setIfInBounds_toArray, List.set_cons_zero, List.set_cons_succ])
      repeat (first
        | (refine pl_run (v := ?_) rfl ?_ (fun W hW => ?_) ?_; rotate_left; rfl; ((try dsimp only at hW); go_simp; try with_reducible rfl); (try simp only [Act.put, List.setIfInBounds_toArray, List.set_cons_zero, List.set_cons_succ]))
        | (refine pl_skip rfl ?_ ?_; rfl; (try simp only [Act.put, List.setIfInBounds_toArray, List.set_cons_zero, List.set_cons_succ])))
      refine pl_end ?_
      refine pl_one rfl (by rfl) (fun K hK => ?_)
      go_simp
      go_at_call 64
      refine ((on_any _ _ _ _).mono (fun e w' q => (⟨by rw [q.1, hon.out], q.2⟩ : e = .returned (.bool true) ∧ _))).mono ?_
      rintro e w3 ⟨rfl, rfl⟩
      refine hK.out _ _ (HH.out _ (X2)) ?_
      clear hK K
      (try simp only [Act.put, List.setIfInBounds_toArray, List.set_cons_zero, List.set_cons_succ])
      refine pl_tames ?_
      (try simp only [Act.put, List.setIfInBounds_toArray, List.set_cons_zero, List.set_cons_succ])
      repeat (first
        | (refine pl_run (v := ?_) rfl ?_ (fun W hW => ?_) ?_; rotate_left; rfl; ((try dsimp only at hW); go_simp; try with_reducible rfl); (try simp only [Act.put, List.setIfInBounds_toArray, List.set_cons_zero, List.set_cons_succ]))
        | (refine pl_skip rfl ?_ ?_; rfl; (try simp only [Act.put, List.setIfInBounds_toArray, List.set_cons_zero, List.set_cons_succ])))
      refine pl_end ?_
      refine pl_one rfl (by rfl) (fun K hK => ?_)
      go_simp
      go_at_call 58
      refine (asked_yes B a1 a2 a3 c1 c2 c3 _ ((HB.out.ext E0).ext (X2)) ((HG.out.ext E0).ext (X2)) hv).mono ?_
      rintro e w4 ⟨⟨mp, rfl, hM4, hmp4⟩, hE4⟩
      have X4 : Ext W0 w4 := Ext.trans (X2) hE4
      have hz4 := hE4.size
      have B4 := Blk.ext (B2) hE4
      refine hK.out _ _ (HH.out _ (X4)) ?_
      clear hK K
      (try simp only [Act.put, List.setIfInBounds_toArray, List.set_cons_zero, List.set_cons_succ])
      refine pl_tames ?_
      (try simp only [Act.put, List.setIfInBounds_toArray, List.set_cons_zero, List.set_cons_succ])
      repeat (first
        | (refine pl_run (v := ?_) rfl ?_ (fun W hW => ?_) ?_; rotate_left; rfl; ((try dsimp only at hW); go_simp; try with_reducible rfl); (try simp only [Act.put, List.setIfInBounds_toArray, List.set_cons_zero, List.set_cons_succ]))
        | (refine pl_skip rfl ?_ ?_; rfl; (try simp only [Act.put, List.setIfInBounds_toArray, List.set_cons_zero, List.set_cons_succ])))
      refine pl_end ?_
      have BS : Blk w4 W0.heap.size 81 #[.int .i64 0, .slice none 0 0, .slice none 0 0, .slice none 0 0, .map none] := B4
      have XS : Ext W0 w4 := X4
      have gS : W0.heap.size ≤ W0.heap.size := by omega
      have MS : MapA w4 mp (ownL B.orders B.orders.length) := hM4
      have nS : mp ≠ W0.heap.size := by (first | omega | (simp at *; omega))
      generalize w4 = WS at BS XS MS ⊢
      obtain ⟨kS0, kS1, kS2, kS3, kS4⟩ := BS.c5
      have fS0 := BS.frozen 0
      have fS1 := BS.frozen 1
      have fS2 := BS.frozen 2
      have fS3 := BS.frozen 3
      have fS4 := BS.frozen 4
      refine pl_one rfl (by rfl) (fun K hK => ?_)
      go_simp
      refine hK.out _ _ (HH.out _ (below5 XS gS (.int .i64 B.comp) (.slice a1 B.bounds.length c1) (.slice a2 B.orders.length c2) (.slice a3 B.shots.length c3) (.map (some mp)))) ?_
      clear hK K
      (try simp only [Act.put, List.setIfInBounds_toArray, List.set_cons_zero, List.set_cons_succ])
      refine pl_tames ?_
      (try simp only [Act.put, List.setIfInBounds_toArray, List.set_cons_zero, List.set_cons_succ])
      repeat (first
        | (refine pl_run (v := ?_) rfl ?_ (fun W hW => ?_) ?_; rotate_left; rfl; ((try dsimp only at hW); go_simp; try with_reducible rfl); (try simp only [Act.put, List.setIfInBounds_toArray, List.set_cons_zero, List.set_cons_succ]))
        | (refine pl_skip rfl ?_ ?_; rfl; (try simp only [Act.put, List.setIfInBounds_toArray, List.set_cons_zero, List.set_cons_succ])))
      refine pl_end ?_
      refine pl_done ?_
      (try simp only [Act.put])
      go_wp2
      go_meet
      case rel => exact ⟨W0.heap.size, mp, rfl, rfl, (puts5 BS (.int .i64 B.comp) (.slice a1 B.bounds.length c1) (.slice a2 B.orders.length c2) (.slice a3 B.shots.length c3) (.map (some mp))), (MS.puts5 nS (.int .i64 B.comp) (.slice a1 B.bounds.length c1) (.slice a2 B.orders.length c2) (.slice a3 B.shots.length c3) (.map (some mp))), by have := b0.lt; omega, (below5 XS gS (.int .i64 B.comp) (.slice a1 B.bounds.length c1) (.slice a2 B.orders.length c2) (.slice a3 B.shots.length c3) (.map (some mp)))⟩
  case rest =>
    obtain ⟨g, mp, rfl, rfl, hb, hM, hg, hX⟩ := hcut
    obtain ⟨W9, hW9⟩ : ∃ W9, W9 = wc := ⟨_, rfl⟩
    subst hW9
    obtain ⟨i0, hi, hz0, hz1, hz2⟩ := info_parts span_info
    have HB2 := Lib.hid ((HB.out.ext E0).ext hX)
    have HG2 := Lib.hid ((HG.out.ext E0).ext hX)
    go_wp2_with (fail)
    go_loopw [10, 11, 33] (fun v p i wr => ∃ k : Nat, k ≤ 1440 ∧ i = .int .i64 k ∧ p = .bool (runsK B s co k).2 ∧ wr.ownsRow W9.heap.size 29 2 v (runsK B s co k).1.length (flatS (runsK B s co k).1) ∧ Ext W9 wr) (fun _ _ i _ => 1440 - (intOf i).toNat)
    case atStart => exact ⟨0, Nat.zero_le _, rfl, rfl, World.ownsRow_nil _ _ _ _, Ext.refl _⟩
    case round =>
      obtain ⟨k, hk, rfl, rfl, hown, hE⟩ := hrel
      obtain ⟨hlen, hgo⟩ := runsK_inv B s co k
      have hsucc := runsK_succ B s co k
      have hfin : k = 1440 → runsL B s co = (runsK B s co k).1 := fun e => by rw [e]; rfl
      obtain ⟨R, hR⟩ : ∃ R, R = runsK B s co k := ⟨_, rfl⟩
      rw [← hR] at hlen hgo hsucc hown hfin ⊢
      obtain ⟨out, going⟩ := R
      dsimp only at hlen hgo hsucc hown hfin ⊢
      have Hgo := Lib.hid hgo
      have Hsucc := Lib.hid hsucc
      have Hfin := Lib.hid hfin
      clear hR hgo hsucc hfin
      by_cases hlt : k < 1440
      · obtain ⟨x0, x1, x2, x3, x4⟩ := (hb.ext hE).c5
        obtain ⟨hn0, av0, cpv0, rfl, hI0⟩ := own_span hown
        have HI0 := Lib.hid hI0
        have Hown := Lib.hid hown
        clear hI0 hown hn0
        go_upto_region 10 with (go_at_call 70; refine (owners_any B a1 a2 a3 c1 c2 c3 mp s k wr (HB2.out.ext hE) (HG2.out.ext hE) (hM.ext hE) hv hs).mono ?_; rintro e w5 ⟨⟨a, cp, rfl, hI⟩, hE5⟩)
        clear x0 x1 x2 x3 x4
        have hl1 := ownersL_len hv s (k : Int)
        have hs1 : ∀ x, ownersL B s k = [x] → sureAt B s co k = (x == co) := fun x hx => sureAt_one hx
        have hs2 : ∀ x y, ownersL B s k = [x, y] → sureAt B s co k = false := fun x y hx => sureAt_two hx
        obtain ⟨L, hL⟩ : ∃ L, L = ownersL B s k := ⟨_, rfl⟩
        rw [← hL] at hl1 hs1 hs2 hI ⊢
        have Hs1 := Lib.hid hs1
        have Hs2 := Lib.hid hs2
        clear hs1 hs2 hL
        go_cut [14] (fun p wx => p = .bool (sureAt B s co k) ∧ wx = w5)
        case first =>
          rcases L with _ | ⟨x, _ | ⟨y, _ | ⟨z, rest⟩⟩⟩
          · simp at hl1
          · obtain ⟨b, o, rfl, hbl, hc⟩ := hI (by simp)
            have q0 : w5.cell? ⟨b, o, none⟩ = some (.int .i64 x) := hc 0 (by simp)
            clear hc hI
            go_wp2
            go_meet
            case rel => exact ⟨by rw [Hs1.out x rfl], rfl⟩
          · clear hI
            go_wp2
            go_meet
            case rel => exact ⟨by rw [Hs2.out x y rfl], rfl⟩
          · simp at hl1
        case rest =>
          obtain ⟨rfl, rfl⟩ := hcut
          have hown5 := ownsRow_ext Hown.out hE5
          have E5 := hE.trans hE5
          clear hI Hs1 Hs2 hl1
          rw [show (↑k : Int) = (k : Int) from rfl] at *
          obtain ⟨is, his⟩ : ∃ is, is = sureAt B s co k := ⟨_, rfl⟩
          have hsucc := Hsucc.out
          unfold runStep at hsucc
          rw [← his] at hsucc ⊢
          dsimp only at hsucc
          have Hsuc := Lib.hid hsucc
          clear his hsucc
          cases is with
          | false =>
            go_wp2_with (fail)
            go_roundw
            case rel => exact ⟨k + 1, by omega, by go_num, by rw [Hsuc.out], by rw [Hsuc.out]; exact hown5, E5⟩
            case measure => simp [intOf]; omega
          | true =>
            cases going with
            | true =>
              have hpos := Hgo.out rfl
              obtain ⟨gg, cap, e9, g2, g3⟩ := own_s_open hown5 hpos
              simp only [Value.slice.injEq] at e9
              obtain ⟨rfl, -, rfl⟩ := e9
              unfold maxLen at g3
              obtain ⟨l1, ⟨lu, l2'⟩, l3', l4⟩ := own_last hown5 hpos (k : Int)
              go_wp2_with (fail)
              refine ⟨⟨k + 1, by omega, rfl, by rw [Hsuc.out], ?_, Below.setCell E5 l1 _⟩, by simp [intOf]; omega⟩
              rw [Hsuc.out]
              simp only [if_true]
              rw [addLast_len hpos]
              exact l4
            | false =>
              go_upto_region 13 with (at_builtin; refine wpList_append_own _ rfl _ _ 22 rfl W9.heap.size 29 i0 (.agg #[.int .i64 0, .int .i64 0]) 2 16 Tryd.underlying22 hi hz0 hz1 hz2 rfl (by decide) _ _ _ rfl (hown5.alloc _) ⟨wc.heap.size, 0, none⟩ 1 1 [.int .i64 k, .int .i64 0] rfl rfl (cell_two_new _ _ _ _) (by simp [Value.oneCell']) (by unfold maxLen; omega) (by omega) (by have := E5.size; simp; omega) ?_; intro v' w7 hown' hgrow _)
              have hE7 : Ext W9 w7 := Below.grown (Ext.trans E5 (Ext.alloc wc _)) hgrow (by have := E5.size; simp; omega) (own_s_base hown5)
              rw [show flatS out ++ [.int .i64 (k : Int), .int .i64 0] = flatS (out ++ [((k : Int), 0)]) from (flatS_snoc out ((k : Int), (0 : Int))).symm] at hown'
              obtain ⟨gg, cap, rfl, g2, g3⟩ := own_s_open hown' (by omega)
              unfold maxLen at g3
              obtain ⟨l1, ⟨lu, l2'⟩, l3', l4⟩ := own_last hown' (by omega) (k : Int)
              rw [addLast_snoc] at l4
              simp only [Nat.add_sub_cancel] at l2' l3' l4
              clear hown'
              go_wp2_with (fail)
              refine ⟨⟨k + 1, by omega, rfl, by rw [Hsuc.out], ?_, Below.setCell hE7 l1 _⟩, by simp [intOf]; omega⟩
              rw [Hsuc.out]
              simpa using l4
      · obtain rfl : k = 1440 := by omega
        have hf := Hfin.out rfl
        have hI0 := own_span hown
        subst hf
        rcases Nat.eq_zero_or_pos (runsL B s co).length with h0 | h0
        · have Hh := Lib.hid h0
          rw [h0] at hown
          rcases hown.2 with ⟨rfl, _⟩ | ⟨gg, cap, cur, rfl, g1, g2, g3, g4, _⟩
          · clear h0
            go_wp2
            refine bodyPost_ret (v := .tuple #[.slice none 0 0, .int .i64 0]) ?_ rfl ⟨⟨_, ⟨0, by rw [Hh.out]⟩, fun hp => absurd hp (by rw [Hh.out]; omega)⟩, E0.trans (Ext.trans hX hE)⟩
            simp [results, Tryd.results22, go_sem]
          · unfold maxLen at g4
            clear h0
            go_wp2
            refine bodyPost_ret (v := .tuple #[.slice (some ⟨gg, 0, none⟩) 0 0, .int .i64 0]) ?_ rfl ⟨⟨_, ⟨0, by rw [Hh.out]⟩, fun hp => absurd hp (by rw [Hh.out]; omega)⟩, E0.trans (Ext.trans hX hE)⟩
            simp [results, Tryd.results22, go_sem]
        · obtain ⟨gg, cap, rfl, g2, g3⟩ := own_s_open hown h0
          obtain ⟨hn, av, cpv, e1, hI⟩ := hI0
          unfold maxLen at g3
          simp only [Value.slice.injEq] at e1
          obtain ⟨rfl, -, rfl⟩ := e1
          go_wp2
          refine bodyPost_ret (v := .tuple #[.slice (some ⟨gg, 0, none⟩) (runsL B s co).length (runsL B s co).length, .int .i64 0]) ?_ rfl ⟨⟨_, ⟨_, rfl⟩, hI⟩, E0.trans (Ext.trans hX hE)⟩
          simp [results, Tryd.results22, go_sem]
end Go.Proofs.YtnhdcdhpfgdphaaDoor

/-
  The exported function Learn.
-/
set_option linter.unusedSimpArgs false
set_option linter.unusedVariables false
namespace Go.Proofs.YtnhdcdhpfgdphaaDoor
open Go Go.RowKit

/-- A book of which the minute of a bound is known. -/
def knownB (B : Bk) (k : Nat) (m : Int) : Bk := { B with bounds := B.bounds.set k (m, m) }
/-- How many shots are undecided at the worst, over the first n minutes of a bound. -/
def worstN (B : Bk) (k : Nat) : Nat → Int
  | 0 => 0
  | n + 1 => max (worstN B k n) (openN (knownB B k (bLo B.bounds k + n)))
def worstB (B : Bk) (k : Nat) : Int := worstN B k (wid B.bounds k)
def learnStep (R : Int × Int) (k : Nat) (x : Int) : Int × Int := if R.1 < 0 ∨ x < R.2 then ((k : Int), x) else R
/-- The best of the first k bounds, and its worst. -/
def learnK (B : Bk) : Nat → Int × Int
  | 0 => (-1, 0)
  | k + 1 => learnStep (learnK B k) k (worstB B k)
def learnV (B : Bk) : Int := if B.bounds.length = 0 then 0 else (learnK B B.bounds.length).1
def learnE (B : Bk) : Int := if B.bounds.length = 0 then 4 else 0
theorem learnK_in (B : Bk) (k : Nat) : (k = 0 → (learnK B k).1 = -1) ∧ (0 < k → 0 ≤ (learnK B k).1 ∧ (learnK B k).1 < k) := by
  induction k with
  | zero => simp [learnK]
  | succ k ih =>
    refine ⟨by omega, fun _ => ?_⟩
    simp only [learnK, learnStep]
    split
    · simp; omega
    · rename_i h
      simp only [not_or] at h
      rcases Nat.eq_zero_or_pos k with h0 | h0
      · have := ih.1 h0; omega
      · have := ih.2 h0; omega
theorem worstN_in (B : Bk) (k n : Nat) : 0 ≤ worstN B k n ∧ worstN B k n ≤ B.shots.length := by
  induction n with
  | zero => simp [worstN]
  | succ n ih =>
    have h := openK_le (knownB B k (bLo B.bounds k + n)) (knownB B k (bLo B.bounds k + n)).shots.length
    simp only [worstN]
    have e : (knownB B k (bLo B.bounds k + n)).shots.length = B.shots.length := rfl
    simp only [openN] at *
    rw [e] at h
    rw [e]
    omega
theorem bLo_set {L : List (Int × Int)} {k : Nat} (m : Int) (hk : k < L.length) (i : Nat) : bLo (L.set k (m, m)) i = if i = k then m else bLo L i := by
  unfold bLo
  by_cases h : i = k
  · subst h; simp [List.getD, hk]
  · simp [List.getD, List.getElem?_set, h, Ne.symm h]
theorem bHi_set {L : List (Int × Int)} {k : Nat} (m : Int) (hk : k < L.length) (i : Nat) : bHi (L.set k (m, m)) i = if i = k then m else bHi L i := by
  unfold bHi
  by_cases h : i = k
  · subst h; simp [List.getD, hk]
  · simp [List.getD, List.getElem?_set, h, Ne.symm h]
theorem known_valid {B : Bk} (hv : validB B = true) {k : Nat} (hk : k < B.bounds.length) {m : Int} (h1 : bLo B.bounds k ≤ m) (h2 : m ≤ bHi B.bounds k) : validB (knownB B k m) = true := by
  obtain ⟨p0, p1, p2, p3⟩ := valid_parts hv
  have hb := valid_bound hv hk
  simp only [validB, Bool.and_eq_true]
  refine ⟨⟨⟨?_, ?_⟩, ?_⟩, ?_⟩
  · have e : ok0 (knownB B k m) = ok0 B := by unfold ok0 knownB; simp only [List.length_set]
    rw [e]; exact p0
  · simp only [okBounds, List.all_eq_true, List.mem_range, okBound, Bool.and_eq_true, knownB, List.length_set]
    intro i hi
    have hbi := valid_bound hv hi
    rw [bLo_set m hk, bHi_set m hk, bHi_set m hk]
    refine ⟨?_, ?_⟩
    · by_cases e : i = k
      · simp [e, isSpanB]; omega
      · simp [e, isSpanB]; omega
    · rcases i with _ | i
      · simp
      · have hr := valid_rise hv hi
        by_cases e : i + 1 = k
        · subst e
          simp
          omega
        · by_cases e2 : i = k
          · subst e2
            simp
            omega
          · simp [e, e2]
            omega
  · simpa [okRows, okRow, okNums, knownB] using p2
  · simpa [okShots, okShot, knownB] using p3
/-- One span of a row of the call's own gets other ends. -/
theorem own_span_set {w : World} {base n g cap : Nat} {L : List (Int × Int)} (h : w.ownsRow base 29 2 (.slice (some ⟨g, 0, none⟩) n cap) n (flatS L)) {k : Nat} (hk : k < L.length) (m : Int) :
    base ≤ g ∧ g < w.heap.size ∧ (w.cell? ⟨g, k * 2, none⟩).isSome = true ∧ (w.cell? ⟨g, k * 2 + 1, none⟩).isSome = true ∧ (∀ i, w.frozen? ⟨g, i, none⟩ = false) ∧
      ∀ W : World, W.heap[g]? = w.heap[g]? → SpanA ((W.setCell ⟨g, k * 2, none⟩ (.int .i64 m)).setCell ⟨g, k * 2 + 1, none⟩ (.int .i64 m)) (some ⟨g, 0, none⟩) (L.set k (m, m)) := by
  have hl : n = L.length := by have := h.1; rw [flatS_len] at this; omega
  rcases h.2 with ⟨e, _⟩ | ⟨g', cap', cur, e, hg, hh, h1, h2, h3, h4⟩
  · cases e
  · simp only [Value.slice.injEq, Option.some.injEq, Addr.mk.injEq] at e
    obtain ⟨⟨rfl, -, -⟩, -, rfl⟩ := e
    have hb : Blk w g 29 cur := hh
    have hcell : ∀ i, i < L.length → cur[i * 2]? = some (.int .i64 (bLo L i)) ∧ cur[i * 2 + 1]? = some (.int .i64 (bHi L i)) := by
      intro i hi
      obtain ⟨f1, f2⟩ := flatS_at L i hi
      rw [← h4, List.getElem?_take, if_pos (by omega)] at f1 f2
      exact ⟨by simpa using f1, by simpa using f2⟩
    refine ⟨hg, hb.lt, by rw [hb.cell (hcell k hk).1]; rfl, by rw [hb.cell (hcell k hk).2]; rfl, fun i => hb.frozen i, fun W hW _ => ⟨g, 0, rfl, ?_, fun i hi => ?_⟩⟩
    · have hbW : Blk W g 29 cur := hW.trans hh
      exact ((hbW.put _ _).put _ _).lt
    · have hbW : Blk W g 29 cur := hW.trans hh
      have hb2 := (hbW.put (k * 2) (.int .i64 m)).put (k * 2 + 1) (.int .i64 m)
      rw [List.length_set] at hi
      have hc := hcell i hi
      have hck := hcell k hk
      have hs1 := (Array.getElem?_eq_some_iff.1 hck.1).1
      have hs2 := (Array.getElem?_eq_some_iff.1 hck.2).1
      rw [bLo_set m hk, bHi_set m hk]
      refine ⟨hb2.cell ?_, hb2.cell ?_⟩
      · by_cases e : i = k
        · subst e
          simp [Array.getElem?_setIfInBounds, hs1]
        · have e1 : k * 2 ≠ 0 + i * 2 := by omega
          have e2 : k * 2 + 1 ≠ 0 + i * 2 := by omega
          rw [Array.getElem?_setIfInBounds_ne e2, Array.getElem?_setIfInBounds_ne e1, if_neg e]
          simpa using hc.1
      · by_cases e : i = k
        · subst e
          rw [if_pos rfl, Nat.zero_add, Array.getElem?_setIfInBounds_self_of_lt (by simpa using hs2)]
        · have e1 : k * 2 ≠ 0 + i * 2 + 1 := by omega
          have e2 : k * 2 + 1 ≠ 0 + i * 2 + 1 := by omega
          rw [Array.getElem?_setIfInBounds_ne e2, Array.getElem?_setIfInBounds_ne e1, if_neg e]
          simpa using hc.2

set_option maxRecDepth 100000 in
set_option maxHeartbeats 4000000 in
theorem learn_no (B : Bk) (a1 a2 a3 : Option Addr) (c1 c2 c3 : Nat)  (w : World) (h : BookA w B a1 a2 a3) (hG : Glob w) (hv : validB B = false) :
    Calls Tryd.prog 34 #[.agg #[.int .i64 B.comp, .slice a1 B.bounds.length c1, .slice a2 B.orders.length c2, .slice a3 B.shots.length c3]] w
      fun e w' => e = .returned (.tuple #[.int .i64 0, .int .i64 20]) ∧ Ext w w' := by
  have HB := Lib.hid h
  have HG := Lib.hid hG
  have l2 := h.l2
  have l3 := h.l3
  clear h hG
  go_enter Tryd.func34, Tryd.ntmps34
  go_upto_region 1 with (fail)
  obtain ⟨W0, hW0⟩ : ∃ W0, W0 = w.alloc (.cells #[.int .i64 B.comp, .slice a1 B.bounds.length c1, .slice a2 B.orders.length c2, .slice a3 B.shots.length c3] 26) := ⟨_, rfl⟩
  have b0 : Blk W0 w.heap.size 26 #[.int .i64 B.comp, .slice a1 B.bounds.length c1, .slice a2 B.orders.length c2, .slice a3 B.shots.length c3] := by rw [hW0]; exact Blk.new _ _ _
  have E0 : Ext w W0 := by rw [hW0]; exact Ext.alloc _ _
  rw [← hW0]
  clear hW0
  obtain ⟨x0, x1, x2, x3⟩ := b0.c4
  go_wp2_with (go_at_call 58; refine (asked_no B a1 a2 a3 c1 c2 c3 true _ (HB.out.ext E0) (HG.out.ext E0) hv).mono ?_; rintro e w1 ⟨rfl, hE1⟩)
  go_ret2
  exact ⟨rfl, E0.trans (Ext.trans hE1 (Ext.alloc _ _))⟩

set_option maxRecDepth 100000 in
set_option maxHeartbeats 4000000 in
theorem learn_yes (B : Bk) (a1 a2 a3 : Option Addr) (c1 c2 c3 : Nat)  (w : World) (h : BookA w B a1 a2 a3) (hG : Glob w) (hv : validB B = true) :
    Calls Tryd.prog 34 #[.agg #[.int .i64 B.comp, .slice a1 B.bounds.length c1, .slice a2 B.orders.length c2, .slice a3 B.shots.length c3]] w
      fun e w' => e = .returned (.tuple #[.int .i64 (learnV B), .int .i64 (learnE B)]) ∧ Ext w w' := by
  have HB := Lib.hid h
  have HG := Lib.hid hG
  have l2 := h.l2
  have l3 := h.l3
  clear h hG
  go_enter Tryd.func34, Tryd.ntmps34
  go_upto_region 1 with (fail)
  obtain ⟨W0, hW0⟩ : ∃ W0, W0 = w.alloc (.cells #[.int .i64 B.comp, .slice a1 B.bounds.length c1, .slice a2 B.orders.length c2, .slice a3 B.shots.length c3] 26) := ⟨_, rfl⟩
  have b0 : Blk W0 w.heap.size 26 #[.int .i64 B.comp, .slice a1 B.bounds.length c1, .slice a2 B.orders.length c2, .slice a3 B.shots.length c3] := by rw [hW0]; exact Blk.new _ _ _
  have E0 : Ext w W0 := by rw [hW0]; exact Ext.alloc _ _
  rw [← hW0]
  clear hW0
  have hnb := (valid_sizes hv).2.2.2.2.1
  have hns := (valid_sizes hv).2.2.2.2.2
  obtain ⟨x0, x1, x2, x3⟩ := b0.c4
  go_upto_region 2 with (go_at_call 58; refine (asked_yes B a1 a2 a3 c1 c2 c3 _ (HB.out.ext E0) (HG.out.ext E0) hv).mono ?_; rintro e w1 ⟨⟨mp, rfl, hM, hmp⟩, hE1⟩)
  obtain ⟨W2, hW2⟩ : ∃ W2, W2 = w1.alloc (.cells #[.int .i64 B.comp, .slice a1 B.bounds.length c1, .slice a2 B.orders.length c2, .slice a3 B.shots.length c3, .map (some mp)] 81) := ⟨_, rfl⟩
  have E2 : Ext W0 W2 := by rw [hW2]; exact Ext.trans hE1 (Ext.alloc _ _)
  rw [← hW2]
  clear hW2 x0 x1 x2 x3 hM hE1 hmp
  obtain ⟨x0, x1, x2, x3⟩ := (b0.ext E2).c4
  go_wp2_with (fail)
  clear x0 x1 x2 x3
  go_loopw [6, 7, 24] (fun b l i wr => ∃ k : Nat, k ≤ B.bounds.length ∧ i = .int .i64 k ∧ b = .int .i64 (learnK B k).1 ∧ l = .int .i64 (learnK B k).2 ∧ Ext W2 wr) (fun _ _ i _ => B.bounds.length - (intOf i).toNat)
  case atStart => exact ⟨0, Nat.zero_le _, rfl, rfl, rfl, Ext.refl _⟩
  case round =>
    obtain ⟨k, hk, rfl, rfl, rfl, hE⟩ := hrel
    have hin := learnK_in B k
    have hsucc : learnK B (k + 1) = learnStep (learnK B k) k (worstB B k) := rfl
    have hval : k = B.bounds.length → 0 < k → learnV B = (learnK B k).1 ∧ learnE B = 0 := fun e h0 => by subst e; simp [learnV, learnE, show ¬ B.bounds.length = 0 by omega]
    have hval0 : k = B.bounds.length → k = 0 → learnV B = 0 ∧ learnE B = 4 := fun e h0 => by subst e; simp [learnV, learnE, h0]
    obtain ⟨R, hR⟩ : ∃ R, R = learnK B k := ⟨_, rfl⟩
    rw [← hR] at hin hsucc hval ⊢
    obtain ⟨best, least⟩ := R
    dsimp only at hin hval ⊢
    have Hsucc := Lib.hid hsucc
    have Hval := Lib.hid hval
    have Hval0 := Lib.hid hval0
    have Hin := Lib.hid hin
    clear hR hsucc hval hval0 hin
    by_cases hlt : k < B.bounds.length
    · obtain ⟨h1, h2, h3, h4⟩ := valid_bound hv hlt
      have HBr := Lib.hid ((HB.out.ext E0).ext (Ext.trans E2 hE))
      obtain ⟨b, o, e1, hbl, hc⟩ := HBr.out.bounds (by omega)
      obtain ⟨q0, q1⟩ := hc k hlt
      obtain ⟨x0, x1, x2, x3⟩ := (b0.ext (Ext.trans E2 hE)).c4
      have hwid : Hid (wid B.bounds k = (bHi B.bounds k - bLo B.bounds k + 1).toNat) := Lib.hid rfl
      have Hwb : Hid (worstB B k = worstN B k (wid B.bounds k)) := Lib.hid rfl
      have Hkv := Lib.hid (fun (m : Int) (hm1 : bLo B.bounds k ≤ m) (hm2 : m ≤ bHi B.bounds k) => known_valid hv hlt hm1 hm2)
      obtain ⟨lo, hlo⟩ : ∃ lo, lo = bLo B.bounds k := ⟨_, rfl⟩
      obtain ⟨hi, hhi⟩ : ∃ hi, hi = bHi B.bounds k := ⟨_, rfl⟩
      rw [← hlo, ← hhi] at hwid Hkv
      rw [← hlo] at h1 h2 h4 q0
      rw [← hhi] at h2 h3 h4 q1
      have Hlo := Lib.hid hlo
      clear hc hlo hhi
      subst e1
      go_upto_region 8 with (fail)
      obtain ⟨W5, hW5⟩ : ∃ W5, W5 = wr.alloc (.cells #[.int .i64 lo, .int .i64 hi] 29) := ⟨_, rfl⟩
      have X5 : Ext wr W5 := by rw [hW5]; exact Ext.alloc _ _
      have s5 : Blk W5 wr.heap.size 29 #[.int .i64 lo, .int .i64 hi] := by rw [hW5]; exact Blk.new _ _ _
      rw [← hW5]
      clear hW5 q0 q1 x0 x1 x2 x3
      obtain ⟨gs, hgs⟩ : ∃ gs, gs = wr.heap.size := ⟨_, rfl⟩
      rw [← hgs] at s5 ⊢
      clear hgs
      have E5 := Ext.trans hE X5
      obtain ⟨y0, y1⟩ := s5.c2
      go_wp2_with (fail)
      clear y0 y1
      go_loopw [10, 35] (fun x i wx => ∃ n : Nat, (n : Int) ≤ hi - lo + 1 ∧ i = .int .i64 n ∧ x = .int .i64 (worstN B k n) ∧ Ext W5 wx) (fun _ i _ => (hi - lo + 1).toNat - (intOf i).toNat)
      case atStart => exact ⟨0, by omega, rfl, rfl, Ext.refl _⟩
      case round =>
        obtain ⟨n, hn, rfl, rfl, hE3⟩ := hrel
        have hwn := worstN_in B k n
        have hws : worstN B k (n + 1) = max (worstN B k n) (openN (knownB B k (bLo B.bounds k + n))) := rfl
        rw [← Hlo.out] at hws
        by_cases hltn : (n : Int) < hi - lo + 1
        · have EA := Ext.trans (Ext.trans E2 E5) hE3
          obtain ⟨x0, x1, x2, x3⟩ := (b0.ext EA).c4
          obtain ⟨y0, y1⟩ := (s5.ext hE3).c2
          have hkv := Hkv.out (lo + n) (by omega) (by omega)
          have hop := openK_le (knownB B k (lo + n)) (knownB B k (lo + n)).shots.length
          obtain ⟨B', hB'⟩ : ∃ B', B' = knownB B k (lo + n) := ⟨_, rfl⟩
          have Hws := Lib.hid hws
          have HB' := Lib.hid hB'
          clear hws hB'
          go_upto_region 13 with (fail)
          obtain ⟨W6, hW6⟩ : ∃ W6, W6 = wr.alloc (.cells #[.int .i64 B.comp, .slice (some ⟨b, o, none⟩) B.bounds.length c1, .slice a2 B.orders.length c2, .slice a3 B.shots.length c3] 26) := ⟨_, rfl⟩
          have X6 : Ext wr W6 := by rw [hW6]; exact Ext.alloc _ _
          have t6 : Blk W6 wr.heap.size 26 #[.int .i64 B.comp, .slice (some ⟨b, o, none⟩) B.bounds.length c1, .slice a2 B.orders.length c2, .slice a3 B.shots.length c3] := by rw [hW6]; exact Blk.new _ _ _
          rw [← hW6]
          clear hW6 x0 x1 x2 x3 y0 y1
          obtain ⟨gy, hgy⟩ : ∃ gy, gy = wr.heap.size := ⟨_, rfl⟩
          rw [← hgy] at t6 ⊢
          have Hgy := Lib.hid hgy
          clear hgy
          obtain ⟨x0, x1, x2, x3⟩ := (b0.ext (EA.trans X6)).c4
          have Hcl := Lib.hid (clone_any b o B.bounds c1 W6 (((HB.out.ext E0).ext EA).ext X6).bounds (by omega) (by omega))
          go_upto_region 14 with (go_at_call 84; go_must (refine Hcl.out.mono ?_; rintro e w7 ⟨⟨v, rfl, hown⟩, hE7⟩; obtain ⟨g, cap, rfl, g2, g3⟩ := own_s_open hown (by omega); unfold maxLen at g3; have f1 := (t6.ext hE7).frozen 1; obtain ⟨z0, z1, z2, z3⟩ := (t6.ext hE7).c4))
          obtain ⟨W8, hW8⟩ : ∃ W8, W8 = w7.setCell ⟨gy, 1, none⟩ (.slice (some ⟨g, 0, none⟩) B.bounds.length cap) := ⟨_, rfl⟩
          obtain ⟨l1, l2g, l3g, l4g, l5g, l6g⟩ := own_span_set hown hlt (lo + n)
          have hgyl := t6.lt
          have hne : g ≠ gy := by omega
          have t8 : Blk W8 gy 26 #[.int .i64 B.comp, .slice (some ⟨g, 0, none⟩) B.bounds.length cap, .slice a2 B.orders.length c2, .slice a3 B.shots.length c3] := by rw [hW8]; simpa using (t6.ext hE7).put 1 (.slice (some ⟨g, 0, none⟩) B.bounds.length cap)
          have X8 : Ext wr W8 := by rw [hW8]; exact Below.setCell (Ext.trans X6 hE7) (by rw [← Hgy.out]; exact Nat.le_refl _) _
          have hg8 : W8.heap[g]? = w7.heap[g]? := by rw [hW8]; exact Below.heap_setCell w7 ⟨gy, 1, none⟩ _ g hne
          have c8 : ∀ i, W8.cell? ⟨g, i, none⟩ = w7.cell? ⟨g, i, none⟩ := fun i => by unfold World.cell?; rw [hg8]
          have fz8 : ∀ i, W8.frozen? ⟨g, i, none⟩ = false := fun i => by rw [← l5g i]; unfold World.frozen?; rw [hg8]
          obtain ⟨u0, k0⟩ := Option.isSome_iff_exists.1 l3g
          obtain ⟨u1, k1⟩ := Option.isSome_iff_exists.1 l4g
          rw [← c8] at k0 k1
          have f0 := fz8 (k * 2)
          have f1' := fz8 (k * 2 + 1)
          have hsz : g < W8.heap.size := by have := Option.isSome_iff_exists.2 ⟨_, k0⟩; exact lt_of_cell k0
          have hspan := l6g W8 hg8
          rw [← hW8]
          have hX8s := X8.size
          have Hspan := Lib.hid hspan
          have hwg : wr.heap.size ≤ g := by have := X6.size; omega
          clear hW8 x0 x1 x2 x3 z0 z1 z2 z3 f1 c8 fz8 l3g l4g l5g l6g hg8 hspan hown l1 l2g Hcl
          obtain ⟨y0, y1⟩ := (s5.ext (hE3.trans X8)).c2
          obtain ⟨x0, x1, x2, x3⟩ := t8.c4
          go_upto_region 15 with (fail)
          obtain ⟨W9, hW9⟩ : ∃ W9, W9 = (W8.setCell ⟨g, k * 2, none⟩ (.int .i64 (lo + n))).setCell ⟨g, k * 2 + 1, none⟩ (.int .i64 (lo + n)) := ⟨_, rfl⟩
          have t9 : Blk W9 gy 26 #[.int .i64 B.comp, .slice (some ⟨g, 0, none⟩) B.bounds.length cap, .slice a2 B.orders.length c2, .slice a3 B.shots.length c3] := by rw [hW9]; exact (t8.far (Ne.symm hne) _).far (Ne.symm hne) _
          have X9 : Ext wr W9 := by rw [hW9]; exact Below.setCell (Below.setCell X8 hwg _) hwg _
          have hsp9 : SpanA W9 (some ⟨g, 0, none⟩) (B.bounds.set k (lo + n, lo + n)) := by rw [hW9]; exact Hspan.out
          rw [← hW9]
          clear hW9 x0 x1 x2 x3 y0 y1 f0 f1' k0 k1
          have ER := EA.trans X9
          have hBr := (HB.out.ext E0).ext ER
          have hBA : BookA W9 (knownB B k (lo + n)) (some ⟨g, 0, none⟩) a2 a3 := ⟨hsp9, hBr.orders, hBr.shots, by simp only [knownB, List.length_set]; exact hBr.l1, hBr.l2, hBr.l3⟩
          have hle : (knownB B k (lo + n)).bounds.length = B.bounds.length := by simp [knownB]
          have hopd := opened_any (knownB B k (lo + n)) (some ⟨g, 0, none⟩) a2 a3 cap c2 c3 W9 hBA ((HG.out.ext E0).ext ER)
          have hopn := fun mp w' (hE' : Ext W9 w') hM => open_any (knownB B k (lo + n)) (some ⟨g, 0, none⟩) a2 a3 cap c2 c3 mp w' (hBA.ext hE') (((HG.out.ext E0).ext ER).ext hE') hM hkv
          rw [hle] at hopd hopn
          rw [show (knownB B k (lo + n)).comp = B.comp from rfl, show (knownB B k (lo + n)).orders = B.orders from rfl, show (knownB B k (lo + n)).shots = B.shots from rfl] at hopd hopn
          have hon : 0 ≤ openN (knownB B k (lo + n)) ∧ openN (knownB B k (lo + n)) ≤ B.shots.length := hop
          have Hopd := Lib.hid hopd
          have Hopn := Lib.hid hopn
          have hws := Hws.out
          obtain ⟨on, hon'⟩ : ∃ on, on = openN (knownB B k (lo + n)) := ⟨_, rfl⟩
          obtain ⟨wn, hwn'⟩ : ∃ wn, wn = worstN B k n := ⟨_, rfl⟩
          rw [← hon'] at hon hws Hopn
          rw [← hwn'] at hws hwn ⊢
          have Hws2 := Lib.hid hws
          clear hopd hopn hBr hBA hle hkv hop hsp9 Hspan t6 t8 hon' hwn' hws
          obtain ⟨x0, x1, x2, x3⟩ := t9.c4
          go_wp2_with (first | (go_at_call 85; refine Hopd.out.mono ?_; rintro e wa ⟨⟨mq, rfl, hMq, hmq⟩, hEa⟩) | (go_at_call 86; refine (Hopn.out _ _ hEa hMq).mono ?_; rintro e wb ⟨rfl, hEb⟩))
          refine ⟨⟨n + 1, by omega, by go_num, by rw [Hws2.out]; congr 1; split <;> omega, hE3.trans (X9.trans (Ext.trans hEa hEb))⟩, by simp [intOf]; omega⟩
        · have hw1 : worstB B k = worstN B k n := by rw [Hwb.out, hwid.out]; congr 1; omega
          obtain ⟨wn, hwn'⟩ : ∃ wn, wn = worstN B k n := ⟨_, rfl⟩
          rw [← hwn'] at hw1 hwn ⊢
          have hsucc := Hsucc.out
          rw [hw1] at hsucc
          have EF := Ext.trans E5 hE3
          clear hwn' hw1 hws
          by_cases hb0 : best < 0
          · have hs : Hid (learnK B (k + 1) = ((k : Int), wn)) := Lib.hid (by rw [hsucc]; simp [learnStep, hb0])
            clear hsucc
            go_wp2_with (fail)
            go_roundw
            case rel => exact ⟨k + 1, by omega, by go_num, by rw [hs.out], by rw [hs.out], EF⟩
            case measure => simp [intOf]; omega
          · have hs : Hid (learnK B (k + 1) = if wn < least then ((k : Int), wn) else (best, least)) := Lib.hid (by rw [hsucc]; simp only [learnStep, hb0, false_or])
            clear hsucc
            have hfld : ∀ W : World, (Instr.field 102 (.agg #[.func (.func 100) #[] #[]]) 0).run Tryd.prog W = .ok (.func (.func 100) #[] #[]) W := fun W => rfl
            by_cases hwl : wn < least
            · have hs2 : Hid (learnK B (k + 1) = ((k : Int), wn)) := Lib.hid (by rw [hs.out, if_pos hwl])
              go_wp2_with (first | (go_at_call 87; refine (fewer_any _).mono ?_; rintro e wa ⟨rfl, hEa⟩) | (go_at_call 100; refine (lesser_any _ _ _).mono ?_; rintro e wb ⟨rfl, rfl⟩))
              go_roundw
              case rel => exact ⟨k + 1, by omega, by go_num, by rw [hs2.out], by rw [hs2.out], EF.trans hEa⟩
              case measure => simp [intOf]; omega
            · have hs2 : Hid (learnK B (k + 1) = (best, least)) := Lib.hid (by rw [hs.out, if_neg hwl])
              go_wp2_with (first | (go_at_call 87; refine (fewer_any _).mono ?_; rintro e wa ⟨rfl, hEa⟩) | (go_at_call 100; refine (lesser_any _ _ _).mono ?_; rintro e wb ⟨rfl, rfl⟩))
              go_roundw
              case rel => exact ⟨k + 1, by omega, by go_num, by rw [hs2.out], by rw [hs2.out], EF.trans hEa⟩
              case measure => simp [intOf]; omega
    · obtain rfl : k = B.bounds.length := by omega
      rcases Nat.eq_zero_or_pos B.bounds.length with h0 | h0
      · obtain ⟨e1, e2⟩ := Hval0.out rfl h0
        have Hb := Lib.hid (Hin.out.1 h0)
        have He := Lib.hid (And.intro e1 e2)
        clear e1 e2
        have hb1 : best = -1 := Hb.out
        subst hb1
        go_wp2
        go_ret2
        exact ⟨by rw [He.out.1, He.out.2]; rfl, E0.trans (Ext.trans E2 hE)⟩
      · obtain ⟨e1, e2⟩ := Hval.out rfl h0
        obtain ⟨g1, g2⟩ := Hin.out.2 h0
        have He := Lib.hid (And.intro e1 e2)
        clear e1 e2
        go_wp2
        go_ret2
        exact ⟨by rw [He.out.1, He.out.2]; rfl, E0.trans (Ext.trans E2 hE)⟩
end Go.Proofs.YtnhdcdhpfgdphaaDoor

/-
  A region whose order is drawn, and whose operations make memory: whatever has come up leaves a fact of its slot; facts stay when the world grows.
-/
namespace Go.Proofs.YtnhdcdhpfgdphaaDoor
open Go Go.RowKit

def lackN (l : Array Bool) : Nat := l.toList.countP fun b => !b
theorem lackN_set {l : Array Bool} {i : Nat} (h : l.getD i true = false) : lackN (l.setIfInBounds i true) + 1 = lackN l ∧ i < l.size := by
  have hi : i < l.size := by
    rcases Nat.lt_or_ge i l.size with h' | h'
    · exact h'
    · simp [Array.getElem?_eq_none h'] at h
  have hl : i < l.toList.length := by simpa using hi
  have hv : l.toList[i] = false := by simpa [hi] using h
  refine ⟨?_, hi⟩
  unfold lackN
  rw [Array.toList_setIfInBounds, List.countP_set hl]
  have hp : 0 < l.toList.countP fun b => !b := List.countP_pos_iff.2 ⟨l.toList[i], List.getElem_mem hl, by simp [hv]⟩
  simp only [hv, Bool.not_false, if_true, Bool.not_true, Bool.false_eq_true, if_false]
  omega
theorem lackN_zero {l : Array Bool} (h : lackN l = 0) (i : Nat) : l.getD i true = true := by
  rcases Nat.lt_or_ge i l.size with h' | h'
  · have := List.countP_eq_zero.1 h l[i] (by simp)
    simpa [h'] using this
  · simp [Array.getElem?_eq_none h']

section
variable {P : Program} {ops : Array Oper} {Q : Exit → Act → World → Prop} {md : Region.Mode}

theorem wpAny_inv (Inv : Array Bool → Act → World → Prop) (hD : ∀ l a w, Inv l a w → Region.ready md ops l = [] → Q .normal a w)
    (hS : ∀ l a w, Inv l a w → ∀ i ∈ Region.ready md ops l, wpOp P ops Q i (fun a' w' => Inv (l.setIfInBounds i true) a' w') a w) :
    ∀ (n : Nat) (l : Array Bool) (a : Act) (w : World), lackN l ≤ n → Inv l a w → wpAny P md ops Q n l a w
  | 0, l, a, w, hn, hI => by
    have hr : Region.ready md ops l = [] := by
      rw [List.eq_nil_iff_forall_not_mem]
      intro i hi
      have h1 := (mem_ready.1 hi).1
      rw [lackN_zero (by omega) i] at h1
      cases h1
    exact ⟨hr, hD l a w hI hr⟩
  | n + 1, l, a, w, hn, hI => by
    refine ⟨hD l a w hI, fun i hi => ?_⟩
    have h1 := lackN_set (mem_ready.1 hi).1
    exact wpOp_mono (fun a' w' h' => wpAny_inv Inv hD hS n _ a' w' (by omega) h') (hS l a w hI i hi)

def upd (vals : Nat → Value) (i : Nat) (v : Value) : Nat → Value := fun j => if j = i then v else vals j

/-- What binds an operation: those behind which it comes. -/
def Oper.waits (o : Oper) : List Nat := (o.after.toList.filter (Region.binds .any)).map (·.on)

theorem wp_region_facts {id : Nat} {ls : List Oper} {w : World} (n : Nat) (mk : (Nat → Value) → Act) (fact : Nat → Value → World → Prop) (base : World → Prop) (vals0 : Nat → Value)
    (hm : P.follows .mixedOrders = true) (hn : ls.length = n + 1) (hlast : (nth ls n).any (fun o => (List.range n).all (Oper.waits o).contains) = true)
    (hord : (List.range ls.length).all (fun i => (nth ls i).any fun o => (Oper.waits o).all (decide <| · < i)) = true)
    (hmono : ∀ i v w w', Ext w w' → fact i v w → fact i v w') (h0 : base w.drew)
    (hstep : ∀ i, i < n → ∀ vals w (K : Act → World → Prop), base w → (∀ o, nth ls i = some o → ∀ j ∈ Oper.waits o, fact j (vals j) w) →
      Hid (∀ v' w', fact i v' w' → base w' → Ext w w' → K (mk (upd vals i v')) w') → wpOp P ls.toArray Q i K (mk vals) w)
    (hend : ∀ vals w, base w → (∀ i, i < n → fact i (vals i) w) → wpOp P ls.toArray Q n (fun a w => Q .normal a w) (mk vals) w) :
    (Code.region id ls.toArray true).wp P Q (mk vals0) w := by
  refine wp_region_any hm ?_
  let Inv : Array Bool → Act → World → Prop := fun l a w => l.size = n + 1 ∧
    ((l.getD n true = false ∧ base w ∧ ∃ vals, a = mk vals ∧ ∀ i, i < n → l.getD i false = true → fact i (vals i) w) ∨ ((∀ i, l.getD i true = true) ∧ Q .normal a w))
  have hget : ∀ (l : Array Bool) i, l.size = n + 1 → i < n + 1 → l.getD i true = l.getD i false := fun l i hl hi => by simp [Array.getD, hl, hi]
  refine wpAny_inv Inv ?_ ?_ _ _ _ _ ?_ ?_
  · rintro l a w ⟨hsz, ⟨hln, hb, vals, rfl, hf⟩ | ⟨_, hq⟩⟩ hr
    · -- the least that has not come up is ready: so none is left
      exfalso
      have hall : ∀ m i, i < m → i < n + 1 → l.getD i true = true := by
        intro m
        induction m with
        | zero => intro i hi; omega
        | succ m ih =>
          intro i hi hin
          rcases (by omega : i < m ∨ i = m) with h | rfl
          · exact ih i h hin
          · cases hli : l.getD i true with
            | true => rfl
            | false =>
              exfalso
              have h1 := List.all_eq_true.1 hord i (by simp; omega)
              obtain ⟨o, ho, h2⟩ := (Option.any_eq_true _ _).1 h1
              have hmem : i ∈ Region.ready .any ls.toArray l := by
                rw [mem_ready]
                refine ⟨hli, o, by rw [nth_eq] at ho; simpa using ho, fun e he hb => ?_⟩
                have h3 := List.all_eq_true.1 h2 e.on (List.mem_map.2 ⟨e, List.mem_filter.2 ⟨by simpa using he, hb⟩, rfl⟩)
                have h4 : e.on < i := by simpa using h3
                rw [← hget l e.on hsz (by omega)]
                exact ih e.on h4 (by omega)
              rw [hr] at hmem
              cases hmem
      rw [hall (n + 1) n (by omega) (by omega)] at hln
      cases hln
    · exact hq
  · rintro l a w ⟨hsz, ⟨hln, hb, vals, rfl, hf⟩ | ⟨hall, _⟩⟩ i hi
    · obtain ⟨hli, o, ho, hw⟩ := mem_ready.1 hi
      have hin : i < n + 1 := by have := (Array.getElem?_eq_some_iff.1 ho).1; simp at this; omega
      have hnth : nth ls i = some o := by rw [nth_eq]; simpa using ho
      have hwait : ∀ j ∈ Oper.waits o, l.getD j false = true := fun j hj => by
        obtain ⟨e, he, rfl⟩ := List.mem_map.1 hj
        have := List.mem_filter.1 he
        exact hw e (by simpa using this.1) this.2
      rcases Nat.lt_or_ge i n with hlt | hge
      · refine hstep i hlt vals w _ hb (fun o' ho' j hj => ?_) (Lib.hid fun v' w' hv hb' hE => ?_)
        · rw [hnth] at ho'
          cases ho'
          have hj2 := hwait j hj
          have hjn : j < n := by
            rcases Nat.lt_or_ge j n with h | h
            · exact h
            · exfalso
              have hjs : j < n + 1 := by
                rcases Nat.lt_or_ge j (n + 1) with h' | h'
                · exact h'
                · rw [Array.getD_eq_getD_getElem?, Array.getElem?_eq_none (by omega)] at hj2
                  simp at hj2
              obtain rfl : j = n := by omega
              rw [hget l j hsz (by omega), hj2] at hln
              cases hln
          exact hf j hjn hj2
        · refine ⟨by simpa using hsz, .inl ⟨?_, hb', upd vals i v', rfl, fun j hj hlj => ?_⟩⟩
          · rw [getD_set_ne true (by omega)]; exact hln
          · unfold upd
            by_cases hji : j = i
            · subst hji; rw [if_pos rfl]; exact hv
            · rw [if_neg hji]
              rw [getD_set_ne false (Ne.symm hji)] at hlj
              exact hmono _ _ _ _ hE (hf j hj hlj)
      · obtain rfl : i = n := by omega
        have hall : ∀ j, j < i → l.getD j false = true := fun j hj => by
          rw [hnth] at hlast
          simp only [Option.any_some, List.all_eq_true, List.mem_range, List.contains_iff_mem] at hlast
          exact hwait j (hlast j hj)
        refine wpOp_mono (fun a' w' hq => ?_) (hend vals w hb fun j hj => hf j hj (hall j hj))
        refine ⟨by simpa using hsz, .inr ⟨fun j => ?_, hq⟩⟩
        by_cases hji : j = i
        · subst hji
          simp [hsz]
        · rw [getD_set_ne true (Ne.symm hji)]
          rcases Nat.lt_or_ge j (i + 1) with h | h
          · rw [hget l j hsz h]; exact hall j (by omega)
          · rw [Array.getD_eq_getD_getElem?, Array.getElem?_eq_none (by omega)]; rfl
    · have := (mem_ready.1 hi).1
      rw [hall i] at this
      cases this
  · have : lackN (Array.replicate ls.toArray.size false) = ls.length := by
      unfold lackN
      rw [Array.toList_replicate, List.countP_replicate]
      simp
    rw [this]
    simp
  · refine ⟨by simp [hn], .inl ⟨by simp [hn], h0, vals0, rfl, fun i hi hl => ?_⟩⟩
    exfalso
    have : i < n + 1 := by omega
    simp [hn, this] at hl
end
end Go.Proofs.YtnhdcdhpfgdphaaDoor
