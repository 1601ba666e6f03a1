/-
  The exported function Owners.
-/
import Derived.Test.YtnhdcdhpfgdphaaDoorMWg8
set_option linter.unusedSimpArgs false
set_option linter.unusedVariables false
namespace Go.Proofs.YtnhdcdhpfgdphaaDoor
open Go Go.RowKit

set_option maxRecDepth 100000 in
set_option maxHeartbeats 4000000 in
theorem owners_no (B : Bk) (a1 a2 a3 : Option Addr) (c1 c2 c3 : Nat) (s m : Int) (w : World) (h : BookA w B a1 a2 a3) (hG : Glob w) (hne : askE B (isStB B s && isMinB m) ≠ 0) :
    Calls Tryd.prog 19 #[.agg #[.int .i64 B.comp, .slice a1 B.bounds.length c1, .slice a2 B.orders.length c2, .slice a3 B.shots.length c3], .int .i64 s, .int .i64 m] w
      fun e w' => e = .returned (.tuple #[.slice none 0 0, .int .i64 (askE B (isStB B s && isMinB m))]) ∧ Ext w w' := by
  cases hs : isStB B s
  · rw [hs, Bool.false_and] at hne
    rw [Bool.false_and]
    have HB := Lib.hid h
    have HG := Lib.hid hG
    have l2 := h.l2
    have l3 := h.l3
    clear h hG
    go_enter Tryd.func19, Tryd.ntmps19
    go_upto_region 1 with (fail)
    obtain ⟨W0, hW0⟩ : ∃ W0, W0 = w.alloc (.cells #[.int .i64 B.comp, .slice a1 B.bounds.length c1, .slice a2 B.orders.length c2, .slice a3 B.shots.length c3] 26) := ⟨_, rfl⟩
    have b0 : Blk W0 w.heap.size 26 #[.int .i64 B.comp, .slice a1 B.bounds.length c1, .slice a2 B.orders.length c2, .slice a3 B.shots.length c3] := by rw [hW0]; exact Blk.new _ _ _
    have E0 : Ext w W0 := by rw [hW0]; exact Ext.alloc _ _
    rw [← hW0]
    clear hW0
    have HH : Hid (∀ W, Ext W0 W → (W.cell? ⟨w.heap.size, 0, none⟩ = some (.int .i64 B.comp) ∧ W.cell? ⟨w.heap.size, 1, none⟩ = some (.slice a1 B.bounds.length c1) ∧ W.cell? ⟨w.heap.size, 2, none⟩ = some (.slice a2 B.orders.length c2) ∧ W.cell? ⟨w.heap.size, 3, none⟩ = some (.slice a3 B.shots.length c3))) := Lib.hid fun W e => (b0.ext e).c4
    go_cut [8, 9] (fun p e wx => ∃ g, p = .pointer (some ⟨g, 0, none⟩) ∧ e = .int .i64 (askE B false) ∧ Ext W0 wx)
    case first =>
      refine wp_plan (fun W => W.cell? ⟨w.heap.size, 0, none⟩ = some (.int .i64 B.comp) ∧ W.cell? ⟨w.heap.size, 1, none⟩ = some (.slice a1 B.bounds.length c1) ∧ W.cell? ⟨w.heap.size, 2, none⟩ = some (.slice a2 B.orders.length c2) ∧ W.cell? ⟨w.heap.size, 3, none⟩ = some (.slice a3 B.shots.length c3)) (.tames [0, 1, 2] (.two 3 12 (.tames [4, 5] (.two 6 12 (.tames [7] (.two 8 12 (.tames [9, 10, 11] (.one 12 (.one 13 (.tames [14] (.done))))) (.one 8 (.tames [9, 10, 11] (.one 13 (.tames [14] (.done))))))) (.one 6 (.tames [7] (.one 8 (.tames [9, 10, 11] (.one 13 (.tames [14] (.done))))))))) (.one 3 (.tames [4, 5] (.one 6 (.tames [7] (.one 8 (.tames [9, 10, 11] (.one 13 (.tames [14] (.done))))))))))) (by kernel_rfl) (by kernel_rfl) (by kernel_rfl) (fun c a d v w h => by cases d <;> exact h) ?_ ?_
      · exact HH.out _ (Ext.drew _)
      refine pl_tames ?_
      (try simp only [Act.put, List.setIfInBounds_toArray, List.set_cons_zero, List.set_cons_succ])
      repeat (first
        | (refine pl_run (v := ?_) rfl ?_ (fun W hW => ?_) ?_; rotate_left; rfl; ((try dsimp only at hW); go_simp; try with_reducible rfl); (try simp only [Act.put, List.setIfInBounds_toArray, List.set_cons_zero, List.set_cons_succ]))
        | (refine pl_skip rfl ?_ ?_; rfl; (try simp only [Act.put, List.setIfInBounds_toArray, List.set_cons_zero, List.set_cons_succ])))
      refine pl_end ?_
      refine pl_two ?_ ?_
      · refine pl_one rfl (by rfl) (fun K hK => ?_)
        go_simp
        go_at_call 69
        refine ((isSt_any B a1 a2 a3 c1 c2 c3 s _ l2).mono (fun e w' q => (⟨by rw [q.1, hs], q.2⟩ : e = .returned (.bool false) ∧ _))).mono ?_
        rintro e w1 ⟨rfl, hE1⟩
        have X1 : Ext W0 w1 := Ext.trans (Ext.drew W0) hE1
        have hz1 := hE1.size
        refine hK.out _ _ (HH.out _ (X1)) ?_
        clear hK K
        (try simp only [Act.put, List.setIfInBounds_toArray, List.set_cons_zero, List.set_cons_succ])
        refine pl_tames ?_
        (try simp only [Act.put, List.setIfInBounds_toArray, List.set_cons_zero, List.set_cons_succ])
        repeat (first
          | (refine pl_run (v := ?_) rfl ?_ (fun W hW => ?_) ?_; rotate_left; rfl; ((try dsimp only at hW); go_simp; try with_reducible rfl); (try simp only [Act.put, List.setIfInBounds_toArray, List.set_cons_zero, List.set_cons_succ]))
          | (refine pl_skip rfl ?_ ?_; rfl; (try simp only [Act.put, List.setIfInBounds_toArray, List.set_cons_zero, List.set_cons_succ])))
        refine pl_end ?_
        refine pl_two ?_ ?_
        · refine pl_one_skip rfl (by rfl) (HH.out _ (X1)) ?_
          (try simp only [Act.put, List.setIfInBounds_toArray, List.set_cons_zero, List.set_cons_succ])
          refine pl_tames ?_
          (try simp only [Act.put, List.setIfInBounds_toArray, List.set_cons_zero, List.set_cons_succ])
          repeat (first
            | (refine pl_run (v := ?_) rfl ?_ (fun W hW => ?_) ?_; rotate_left; rfl; ((try dsimp only at hW); go_simp; try with_reducible rfl); (try simp only [Act.put, List.setIfInBounds_toArray, List.set_cons_zero, List.set_cons_succ]))
            | (refine pl_skip rfl ?_ ?_; rfl; (try simp only [Act.put, List.setIfInBounds_toArray, List.set_cons_zero, List.set_cons_succ])))
          refine pl_end ?_
          refine pl_two ?_ ?_
          · refine pl_one rfl (by rfl) (fun K hK => ?_)
            go_simp
            go_at_call 58
            refine (asked_ref B a1 a2 a3 c1 c2 c3 _ _ ((HB.out.ext E0).ext (X1)) ((HG.out.ext E0).ext (X1)) hne).mono ?_
            rintro e w3 ⟨rfl, hE3⟩
            have X3 : Ext W0 w3 := Ext.trans (X1) hE3
            have hz3 := hE3.size
            refine hK.out _ _ (HH.out _ (X3)) ?_
            clear hK K
            (try simp only [Act.put, List.setIfInBounds_toArray, List.set_cons_zero, List.set_cons_succ])
            refine pl_tames ?_
            (try simp only [Act.put, List.setIfInBounds_toArray, List.set_cons_zero, List.set_cons_succ])
            repeat (first
              | (refine pl_run (v := ?_) rfl ?_ (fun W hW => ?_) ?_; rotate_left; rfl; ((try dsimp only at hW); go_simp; try with_reducible rfl); (try simp only [Act.put, List.setIfInBounds_toArray, List.set_cons_zero, List.set_cons_succ]))
              | (refine pl_skip rfl ?_ ?_; rfl; (try simp only [Act.put, List.setIfInBounds_toArray, List.set_cons_zero, List.set_cons_succ])))
            refine pl_end ?_
            refine pl_one rfl (by rfl) (fun K hK => ?_)
            go_simp
            have X4 : Ext W0 (w3.alloc (.cells #[.int .i64 0, .slice none 0 0, .slice none 0 0, .slice none 0 0, .map none] 81)) := Ext.trans (X3) (Ext.alloc _ _)
            have B4 : Blk (w3.alloc (.cells #[.int .i64 0, .slice none 0 0, .slice none 0 0, .slice none 0 0, .map none] 81)) w3.heap.size 81 #[.int .i64 0, .slice none 0 0, .slice none 0 0, .slice none 0 0, .map none] := Blk.new _ _ _
            have hg4 : W0.heap.size ≤ w3.heap.size := Below.size (X3)
            have ha4 : (w3.alloc (.cells #[.int .i64 0, .slice none 0 0, .slice none 0 0, .slice none 0 0, .map none] 81)).heap.size = w3.heap.size + 1 := by simp
            refine hK.out _ _ (HH.out _ (X4)) ?_
            clear hK K
            (try simp only [Act.put, List.setIfInBounds_toArray, List.set_cons_zero, List.set_cons_succ])
            have BS : Blk (w3.alloc (.cells #[.int .i64 0, .slice none 0 0, .slice none 0 0, .slice none 0 0, .map none] 81)) w3.heap.size 81 #[.int .i64 0, .slice none 0 0, .slice none 0 0, .slice none 0 0, .map none] := B4
            have XS : Ext W0 (w3.alloc (.cells #[.int .i64 0, .slice none 0 0, .slice none 0 0, .slice none 0 0, .map none] 81)) := X4
            have gS : W0.heap.size ≤ w3.heap.size := by omega
            generalize (w3.alloc (.cells #[.int .i64 0, .slice none 0 0, .slice none 0 0, .slice none 0 0, .map none] 81)) = WS at BS XS ⊢
            obtain ⟨kS0, kS1, kS2, kS3, kS4⟩ := BS.c5
            have fS0 := BS.frozen 0
            have fS1 := BS.frozen 1
            have fS2 := BS.frozen 2
            have fS3 := BS.frozen 3
            have fS4 := BS.frozen 4
            refine pl_one rfl (by rfl) (fun K hK => ?_)
            go_simp
            refine hK.out _ _ (HH.out _ (below5 XS gS (.int .i64 0) (.slice none 0 0) (.slice none 0 0) (.slice none 0 0) (.map none))) ?_
            clear hK K
            (try simp only [Act.put, List.setIfInBounds_toArray, List.set_cons_zero, List.set_cons_succ])
            refine pl_tames ?_
            (try simp only [Act.put, List.setIfInBounds_toArray, List.set_cons_zero, List.set_cons_succ])
            repeat (first
              | (refine pl_run (v := ?_) rfl ?_ (fun W hW => ?_) ?_; rotate_left; rfl; ((try dsimp only at hW); go_simp; try with_reducible rfl); (try simp only [Act.put, List.setIfInBounds_toArray, List.set_cons_zero, List.set_cons_succ]))
              | (refine pl_skip rfl ?_ ?_; rfl; (try simp only [Act.put, List.setIfInBounds_toArray, List.set_cons_zero, List.set_cons_succ])))
            refine pl_end ?_
            refine pl_done ?_
            (try simp only [Act.put])
            go_wp2
            go_meet
            case rel => exact ⟨w3.heap.size, rfl, rfl, (below5 XS gS (.int .i64 0) (.slice none 0 0) (.slice none 0 0) (.slice none 0 0) (.map none))⟩
          · refine pl_one rfl (by rfl) (fun K hK => ?_)
            go_simp
            have X3 : Ext W0 (w1.alloc (.cells #[.int .i64 0, .slice none 0 0, .slice none 0 0, .slice none 0 0, .map none] 81)) := Ext.trans (X1) (Ext.alloc _ _)
            have B3 : Blk (w1.alloc (.cells #[.int .i64 0, .slice none 0 0, .slice none 0 0, .slice none 0 0, .map none] 81)) w1.heap.size 81 #[.int .i64 0, .slice none 0 0, .slice none 0 0, .slice none 0 0, .map none] := Blk.new _ _ _
            have hg3 : W0.heap.size ≤ w1.heap.size := Below.size (X1)
            have ha3 : (w1.alloc (.cells #[.int .i64 0, .slice none 0 0, .slice none 0 0, .slice none 0 0, .map none] 81)).heap.size = w1.heap.size + 1 := by simp
            refine hK.out _ _ (HH.out _ (X3)) ?_
            clear hK K
            (try simp only [Act.put, List.setIfInBounds_toArray, List.set_cons_zero, List.set_cons_succ])
            refine pl_one rfl (by rfl) (fun K hK => ?_)
            go_simp
            go_at_call 58
            refine (asked_ref B a1 a2 a3 c1 c2 c3 _ _ ((HB.out.ext E0).ext (X3)) ((HG.out.ext E0).ext (X3)) hne).mono ?_
            rintro e w4 ⟨rfl, hE4⟩
            have X4 : Ext W0 w4 := Ext.trans (X3) hE4
            have hz4 := hE4.size
            have B4 := Blk.ext (B3) hE4
            refine hK.out _ _ (HH.out _ (X4)) ?_
            clear hK K
            (try simp only [Act.put, List.setIfInBounds_toArray, List.set_cons_zero, List.set_cons_succ])
            refine pl_tames ?_
            (try simp only [Act.put, List.setIfInBounds_toArray, List.set_cons_zero, List.set_cons_succ])
            repeat (first
              | (refine pl_run (v := ?_) rfl ?_ (fun W hW => ?_) ?_; rotate_left; rfl; ((try dsimp only at hW); go_simp; try with_reducible rfl); (try simp only [Act.put, List.setIfInBounds_toArray, List.set_cons_zero, List.set_cons_succ]))
              | (refine pl_skip rfl ?_ ?_; rfl; (try simp only [Act.put, List.setIfInBounds_toArray, List.set_cons_zero, List.set_cons_succ])))
            refine pl_end ?_
            have BS : Blk w4 w1.heap.size 81 #[.int .i64 0, .slice none 0 0, .slice none 0 0, .slice none 0 0, .map none] := B4
            have XS : Ext W0 w4 := X4
            have gS : W0.heap.size ≤ w1.heap.size := by omega
            generalize w4 = WS at BS XS ⊢
            obtain ⟨kS0, kS1, kS2, kS3, kS4⟩ := BS.c5
            have fS0 := BS.frozen 0
            have fS1 := BS.frozen 1
            have fS2 := BS.frozen 2
            have fS3 := BS.frozen 3
            have fS4 := BS.frozen 4
            refine pl_one rfl (by rfl) (fun K hK => ?_)
            go_simp
            refine hK.out _ _ (HH.out _ (below5 XS gS (.int .i64 0) (.slice none 0 0) (.slice none 0 0) (.slice none 0 0) (.map none))) ?_
            clear hK K
            (try simp only [Act.put, List.setIfInBounds_toArray, List.set_cons_zero, List.set_cons_succ])
            refine pl_tames ?_
            (try simp only [Act.put, List.setIfInBounds_toArray, List.set_cons_zero, List.set_cons_succ])
            repeat (first
              | (refine pl_run (v := ?_) rfl ?_ (fun W hW => ?_) ?_; rotate_left; rfl; ((try dsimp only at hW); go_simp; try with_reducible rfl); (try simp only [Act.put, List.setIfInBounds_toArray, List.set_cons_zero, List.set_cons_succ]))
              | (refine pl_skip rfl ?_ ?_; rfl; (try simp only [Act.put, List.setIfInBounds_toArray, List.set_cons_zero, List.set_cons_succ])))
            refine pl_end ?_
            refine pl_done ?_
            (try simp only [Act.put])
            go_wp2
            go_meet
            case rel => exact ⟨w1.heap.size, rfl, rfl, (below5 XS gS (.int .i64 0) (.slice none 0 0) (.slice none 0 0) (.slice none 0 0) (.map none))⟩
        · refine pl_one rfl (by rfl) (fun K hK => ?_)
          go_simp
          have X2 : Ext W0 (w1.alloc (.cells #[.int .i64 0, .slice none 0 0, .slice none 0 0, .slice none 0 0, .map none] 81)) := Ext.trans (X1) (Ext.alloc _ _)
          have B2 : Blk (w1.alloc (.cells #[.int .i64 0, .slice none 0 0, .slice none 0 0, .slice none 0 0, .map none] 81)) w1.heap.size 81 #[.int .i64 0, .slice none 0 0, .slice none 0 0, .slice none 0 0, .map none] := Blk.new _ _ _
          have hg2 : W0.heap.size ≤ w1.heap.size := Below.size (X1)
          have ha2 : (w1.alloc (.cells #[.int .i64 0, .slice none 0 0, .slice none 0 0, .slice none 0 0, .map none] 81)).heap.size = w1.heap.size + 1 := by simp
          refine hK.out _ _ (HH.out _ (X2)) ?_
          clear hK K
          (try simp only [Act.put, List.setIfInBounds_toArray, List.set_cons_zero, List.set_cons_succ])
          refine pl_one_skip rfl (by rfl) (HH.out _ (X2)) ?_
          (try simp only [Act.put, List.setIfInBounds_toArray, List.set_cons_zero, List.set_cons_succ])
          refine pl_tames ?_
          (try simp only [Act.put, List.setIfInBounds_toArray, List.set_cons_zero, List.set_cons_succ])
          repeat (first
            | (refine pl_run (v := ?_) rfl ?_ (fun W hW => ?_) ?_; rotate_left; rfl; ((try dsimp only at hW); go_simp; try with_reducible rfl); (try simp only [Act.put, List.setIfInBounds_toArray, List.set_cons_zero, List.set_cons_succ]))
            | (refine pl_skip rfl ?_ ?_; rfl; (try simp only [Act.put, List.setIfInBounds_toArray, List.set_cons_zero, List.set_cons_succ])))
          refine pl_end ?_
          refine pl_one rfl (by rfl) (fun K hK => ?_)
          go_simp
          go_at_call 58
          refine (asked_ref B a1 a2 a3 c1 c2 c3 _ _ ((HB.out.ext E0).ext (X2)) ((HG.out.ext E0).ext (X2)) hne).mono ?_
          rintro e w4 ⟨rfl, hE4⟩
          have X4 : Ext W0 w4 := Ext.trans (X2) hE4
          have hz4 := hE4.size
          have B4 := Blk.ext (B2) hE4
          refine hK.out _ _ (HH.out _ (X4)) ?_
          clear hK K
          (try simp only [Act.put, List.setIfInBounds_toArray, List.set_cons_zero, List.set_cons_succ])
          refine pl_tames ?_
          (try simp only [Act.put, List.setIfInBounds_toArray, List.set_cons_zero, List.set_cons_succ])
          repeat (first
            | (refine pl_run (v := ?_) rfl ?_ (fun W hW => ?_) ?_; rotate_left; rfl; ((try dsimp only at hW); go_simp; try with_reducible rfl); (try simp only [Act.put, List.setIfInBounds_toArray, List.set_cons_zero, List.set_cons_succ]))
            | (refine pl_skip rfl ?_ ?_; rfl; (try simp only [Act.put, List.setIfInBounds_toArray, List.set_cons_zero, List.set_cons_succ])))
          refine pl_end ?_
          have BS : Blk w4 w1.heap.size 81 #[.int .i64 0, .slice none 0 0, .slice none 0 0, .slice none 0 0, .map none] := B4
          have XS : Ext W0 w4 := X4
          have gS : W0.heap.size ≤ w1.heap.size := by omega
          generalize w4 = WS at BS XS ⊢
          obtain ⟨kS0, kS1, kS2, kS3, kS4⟩ := BS.c5
          have fS0 := BS.frozen 0
          have fS1 := BS.frozen 1
          have fS2 := BS.frozen 2
          have fS3 := BS.frozen 3
          have fS4 := BS.frozen 4
          refine pl_one rfl (by rfl) (fun K hK => ?_)
          go_simp
          refine hK.out _ _ (HH.out _ (below5 XS gS (.int .i64 0) (.slice none 0 0) (.slice none 0 0) (.slice none 0 0) (.map none))) ?_
          clear hK K
          (try simp only [Act.put, List.setIfInBounds_toArray, List.set_cons_zero, List.set_cons_succ])
          refine pl_tames ?_
          (try simp only [Act.put, List.setIfInBounds_toArray, List.set_cons_zero, List.set_cons_succ])
          repeat (first
            | (refine pl_run (v := ?_) rfl ?_ (fun W hW => ?_) ?_; rotate_left; rfl; ((try dsimp only at hW); go_simp; try with_reducible rfl); (try simp only [Act.put, List.setIfInBounds_toArray, List.set_cons_zero, List.set_cons_succ]))
            | (refine pl_skip rfl ?_ ?_; rfl; (try simp only [Act.put, List.setIfInBounds_toArray, List.set_cons_zero, List.set_cons_succ])))
          refine pl_end ?_
          refine pl_done ?_
          (try simp only [Act.put])
          go_wp2
          go_meet
          case rel => exact ⟨w1.heap.size, rfl, rfl, (below5 XS gS (.int .i64 0) (.slice none 0 0) (.slice none 0 0) (.slice none 0 0) (.map none))⟩
      · refine pl_one rfl (by rfl) (fun K hK => ?_)
        go_simp
        have X1 : Ext W0 (W0.alloc (.cells #[.int .i64 0, .slice none 0 0, .slice none 0 0, .slice none 0 0, .map none] 81)).drew := Ext.trans (Ext.alloc _ _) (Ext.drew _)
        have B1 : Blk (W0.alloc (.cells #[.int .i64 0, .slice none 0 0, .slice none 0 0, .slice none 0 0, .map none] 81)).drew W0.heap.size 81 #[.int .i64 0, .slice none 0 0, .slice none 0 0, .slice none 0 0, .map none] := (Blk.new _ _ _).drew
        have ha1 : (W0.alloc (.cells #[.int .i64 0, .slice none 0 0, .slice none 0 0, .slice none 0 0, .map none] 81)).drew.heap.size = W0.heap.size + 1 := by simp
        refine hK.out _ _ (HH.out _ (X1)) ?_
        clear hK K
        (try simp only [Act.put, List.setIfInBounds_toArray, List.set_cons_zero, List.set_cons_succ])
        refine pl_one rfl (by rfl) (fun K hK => ?_)
        go_simp
        go_at_call 69
        refine ((isSt_any B a1 a2 a3 c1 c2 c3 s _ l2).mono (fun e w' q => (⟨by rw [q.1, hs], q.2⟩ : e = .returned (.bool false) ∧ _))).mono ?_
        rintro e w2 ⟨rfl, hE2⟩
        have X2 : Ext W0 w2 := Ext.trans (X1) hE2
        have hz2 := hE2.size
        have B2 := Blk.ext (B1) hE2
        refine hK.out _ _ (HH.out _ (X2)) ?_
        clear hK K
        (try simp only [Act.put, List.setIfInBounds_toArray, List.set_cons_zero, List.set_cons_succ])
        refine pl_tames ?_
        (try simp only [Act.put, List.setIfInBounds_toArray, List.set_cons_zero, List.set_cons_succ])
        repeat (first
          | (refine pl_run (v := ?_) rfl ?_ (fun W hW => ?_) ?_; rotate_left; rfl; ((try dsimp only at hW); go_simp; try with_reducible rfl); (try simp only [Act.put, List.setIfInBounds_toArray, List.set_cons_zero, List.set_cons_succ]))
          | (refine pl_skip rfl ?_ ?_; rfl; (try simp only [Act.put, List.setIfInBounds_toArray, List.set_cons_zero, List.set_cons_succ])))
        refine pl_end ?_
        refine pl_one_skip rfl (by rfl) (HH.out _ (X2)) ?_
        (try simp only [Act.put, List.setIfInBounds_toArray, List.set_cons_zero, List.set_cons_succ])
        refine pl_tames ?_
        (try simp only [Act.put, List.setIfInBounds_toArray, List.set_cons_zero, List.set_cons_succ])
        repeat (first
          | (refine pl_run (v := ?_) rfl ?_ (fun W hW => ?_) ?_; rotate_left; rfl; ((try dsimp only at hW); go_simp; try with_reducible rfl); (try simp only [Act.put, List.setIfInBounds_toArray, List.set_cons_zero, List.set_cons_succ]))
          | (refine pl_skip rfl ?_ ?_; rfl; (try simp only [Act.put, List.setIfInBounds_toArray, List.set_cons_zero, List.set_cons_succ])))
        refine pl_end ?_
        refine pl_one rfl (by rfl) (fun K hK => ?_)
        go_simp
        go_at_call 58
        refine (asked_ref B a1 a2 a3 c1 c2 c3 _ _ ((HB.out.ext E0).ext (X2)) ((HG.out.ext E0).ext (X2)) hne).mono ?_
        rintro e w4 ⟨rfl, hE4⟩
        have X4 : Ext W0 w4 := Ext.trans (X2) hE4
        have hz4 := hE4.size
        have B4 := Blk.ext (B2) hE4
        refine hK.out _ _ (HH.out _ (X4)) ?_
        clear hK K
        (try simp only [Act.put, List.setIfInBounds_toArray, List.set_cons_zero, List.set_cons_succ])
        refine pl_tames ?_
        (try simp only [Act.put, List.setIfInBounds_toArray, List.set_cons_zero, List.set_cons_succ])
        repeat (first
          | (refine pl_run (v := ?_) rfl ?_ (fun W hW => ?_) ?_; rotate_left; rfl; ((try dsimp only at hW); go_simp; try with_reducible rfl); (try simp only [Act.put, List.setIfInBounds_toArray, List.set_cons_zero, List.set_cons_succ]))
          | (refine pl_skip rfl ?_ ?_; rfl; (try simp only [Act.put, List.setIfInBounds_toArray, List.set_cons_zero, List.set_cons_succ])))
        refine pl_end ?_
        have BS : Blk w4 W0.heap.size 81 #[.int .i64 0, .slice none 0 0, .slice none 0 0, .slice none 0 0, .map none] := B4
        have XS : Ext W0 w4 := X4
        have gS : W0.heap.size ≤ W0.heap.size := by omega
        generalize w4 = WS at BS XS ⊢
        obtain ⟨kS0, kS1, kS2, kS3, kS4⟩ := BS.c5
        have fS0 := BS.frozen 0
        have fS1 := BS.frozen 1
        have fS2 := BS.frozen 2
        have fS3 := BS.frozen 3
        have fS4 := BS.frozen 4
        refine pl_one rfl (by rfl) (fun K hK => ?_)
        go_simp
        refine hK.out _ _ (HH.out _ (below5 XS gS (.int .i64 0) (.slice none 0 0) (.slice none 0 0) (.slice none 0 0) (.map none))) ?_
        clear hK K
        (try simp only [Act.put, List.setIfInBounds_toArray, List.set_cons_zero, List.set_cons_succ])
        refine pl_tames ?_
        (try simp only [Act.put, List.setIfInBounds_toArray, List.set_cons_zero, List.set_cons_succ])
        repeat (first
          | (refine pl_run (v := ?_) rfl ?_ (fun W hW => ?_) ?_; rotate_left; rfl; ((try dsimp only at hW); go_simp; try with_reducible rfl); (try simp only [Act.put, List.setIfInBounds_toArray, List.set_cons_zero, List.set_cons_succ]))
          | (refine pl_skip rfl ?_ ?_; rfl; (try simp only [Act.put, List.setIfInBounds_toArray, List.set_cons_zero, List.set_cons_succ])))
        refine pl_end ?_
        refine pl_done ?_
        (try simp only [Act.put])
        go_wp2
        go_meet
        case rel => exact ⟨W0.heap.size, rfl, rfl, (below5 XS gS (.int .i64 0) (.slice none 0 0) (.slice none 0 0) (.slice none 0 0) (.map none))⟩
    case rest =>
      obtain ⟨g, rfl, rfl, hX⟩ := hcut
      obtain ⟨c, hc⟩ : ∃ c, c = askE B false := ⟨_, rfl⟩
      rw [← hc] at hne ⊢
      have hcn : (c != 0) = true := by simp [hne]
      go_wp2
      refine bodyPost_ret (v := .tuple #[.slice none 0 0, .int .i64 c]) ?_ rfl ⟨by rw [hc], E0.trans hX⟩
      simp [results, Tryd.results19, go_sem]
  · rw [hs, Bool.true_and] at hne
    rw [Bool.true_and]
    have HB := Lib.hid h
    have HG := Lib.hid hG
    have l2 := h.l2
    have l3 := h.l3
    clear h hG
    go_enter Tryd.func19, Tryd.ntmps19
    go_upto_region 1 with (fail)
    obtain ⟨W0, hW0⟩ : ∃ W0, W0 = w.alloc (.cells #[.int .i64 B.comp, .slice a1 B.bounds.length c1, .slice a2 B.orders.length c2, .slice a3 B.shots.length c3] 26) := ⟨_, rfl⟩
    have b0 : Blk W0 w.heap.size 26 #[.int .i64 B.comp, .slice a1 B.bounds.length c1, .slice a2 B.orders.length c2, .slice a3 B.shots.length c3] := by rw [hW0]; exact Blk.new _ _ _
    have E0 : Ext w W0 := by rw [hW0]; exact Ext.alloc _ _
    rw [← hW0]
    clear hW0
    have HH : Hid (∀ W, Ext W0 W → (W.cell? ⟨w.heap.size, 0, none⟩ = some (.int .i64 B.comp) ∧ W.cell? ⟨w.heap.size, 1, none⟩ = some (.slice a1 B.bounds.length c1) ∧ W.cell? ⟨w.heap.size, 2, none⟩ = some (.slice a2 B.orders.length c2) ∧ W.cell? ⟨w.heap.size, 3, none⟩ = some (.slice a3 B.shots.length c3))) := Lib.hid fun W e => (b0.ext e).c4
    go_cut [8, 9] (fun p e wx => ∃ g, p = .pointer (some ⟨g, 0, none⟩) ∧ e = .int .i64 (askE B (isMinB m)) ∧ Ext W0 wx)
    case first =>
      refine wp_plan (fun W => W.cell? ⟨w.heap.size, 0, none⟩ = some (.int .i64 B.comp) ∧ W.cell? ⟨w.heap.size, 1, none⟩ = some (.slice a1 B.bounds.length c1) ∧ W.cell? ⟨w.heap.size, 2, none⟩ = some (.slice a2 B.orders.length c2) ∧ W.cell? ⟨w.heap.size, 3, none⟩ = some (.slice a3 B.shots.length c3)) (.tames [0, 1, 2] (.two 3 12 (.tames [4, 5] (.two 6 12 (.tames [7] (.two 8 12 (.tames [9, 10, 11] (.one 12 (.one 13 (.tames [14] (.done))))) (.one 8 (.tames [9, 10, 11] (.one 13 (.tames [14] (.done))))))) (.one 6 (.tames [7] (.one 8 (.tames [9, 10, 11] (.one 13 (.tames [14] (.done))))))))) (.one 3 (.tames [4, 5] (.one 6 (.tames [7] (.one 8 (.tames [9, 10, 11] (.one 13 (.tames [14] (.done))))))))))) (by kernel_rfl) (by kernel_rfl) (by kernel_rfl) (fun c a d v w h => by cases d <;> exact h) ?_ ?_
      · exact HH.out _ (Ext.drew _)
      refine pl_tames ?_
      (try simp only [Act.put, List.setIfInBounds_toArray, List.set_cons_zero, List.set_cons_succ])
      repeat (first
        | (refine pl_run (v := ?_) rfl ?_ (fun W hW => ?_) ?_; rotate_left; rfl; ((try dsimp only at hW); go_simp; try with_reducible rfl); (try simp only [Act.put, List.setIfInBounds_toArray, List.set_cons_zero, List.set_cons_succ]))
        | (refine pl_skip rfl ?_ ?_; rfl; (try simp only [Act.put, List.setIfInBounds_toArray, List.set_cons_zero, List.set_cons_succ])))
      refine pl_end ?_
      refine pl_two ?_ ?_
      · refine pl_one rfl (by rfl) (fun K hK => ?_)
        go_simp
        go_at_call 69
        refine ((isSt_any B a1 a2 a3 c1 c2 c3 s _ l2).mono (fun e w' q => (⟨by rw [q.1, hs], q.2⟩ : e = .returned (.bool true) ∧ _))).mono ?_
        rintro e w1 ⟨rfl, hE1⟩
        have X1 : Ext W0 w1 := Ext.trans (Ext.drew W0) hE1
        have hz1 := hE1.size
        refine hK.out _ _ (HH.out _ (X1)) ?_
        clear hK K
        (try simp only [Act.put, List.setIfInBounds_toArray, List.set_cons_zero, List.set_cons_succ])
        refine pl_tames ?_
        (try simp only [Act.put, List.setIfInBounds_toArray, List.set_cons_zero, List.set_cons_succ])
        repeat (first
          | (refine pl_run (v := ?_) rfl ?_ (fun W hW => ?_) ?_; rotate_left; rfl; ((try dsimp only at hW); go_simp; try with_reducible rfl); (try simp only [Act.put, List.setIfInBounds_toArray, List.set_cons_zero, List.set_cons_succ]))
          | (refine pl_skip rfl ?_ ?_; rfl; (try simp only [Act.put, List.setIfInBounds_toArray, List.set_cons_zero, List.set_cons_succ])))
        refine pl_end ?_
        refine pl_two ?_ ?_
        · refine pl_one rfl (by rfl) (fun K hK => ?_)
          go_simp
          go_at_call 59
          refine (isMin_any _ _).mono ?_
          rintro e w2 ⟨rfl, rfl⟩
          refine hK.out _ _ (HH.out _ (X1)) ?_
          clear hK K
          (try simp only [Act.put, List.setIfInBounds_toArray, List.set_cons_zero, List.set_cons_succ])
          refine pl_tames ?_
          (try simp only [Act.put, List.setIfInBounds_toArray, List.set_cons_zero, List.set_cons_succ])
          repeat (first
            | (refine pl_run (v := ?_) rfl ?_ (fun W hW => ?_) ?_; rotate_left; rfl; ((try dsimp only at hW); go_simp; try with_reducible rfl); (try simp only [Act.put, List.setIfInBounds_toArray, List.set_cons_zero, List.set_cons_succ]))
            | (refine pl_skip rfl ?_ ?_; rfl; (try simp only [Act.put, List.setIfInBounds_toArray, List.set_cons_zero, List.set_cons_succ])))
          refine pl_end ?_
          refine pl_two ?_ ?_
          · refine pl_one rfl (by rfl) (fun K hK => ?_)
            go_simp
            go_at_call 58
            refine (asked_ref B a1 a2 a3 c1 c2 c3 _ _ ((HB.out.ext E0).ext (X1)) ((HG.out.ext E0).ext (X1)) hne).mono ?_
            rintro e w3 ⟨rfl, hE3⟩
            have X3 : Ext W0 w3 := Ext.trans (X1) hE3
            have hz3 := hE3.size
            refine hK.out _ _ (HH.out _ (X3)) ?_
            clear hK K
            (try simp only [Act.put, List.setIfInBounds_toArray, List.set_cons_zero, List.set_cons_succ])
            refine pl_tames ?_
            (try simp only [Act.put, List.setIfInBounds_toArray, List.set_cons_zero, List.set_cons_succ])
            repeat (first
              | (refine pl_run (v := ?_) rfl ?_ (fun W hW => ?_) ?_; rotate_left; rfl; ((try dsimp only at hW); go_simp; try with_reducible rfl); (try simp only [Act.put, List.setIfInBounds_toArray, List.set_cons_zero, List.set_cons_succ]))
              | (refine pl_skip rfl ?_ ?_; rfl; (try simp only [Act.put, List.setIfInBounds_toArray, List.set_cons_zero, List.set_cons_succ])))
            refine pl_end ?_
            refine pl_one rfl (by rfl) (fun K hK => ?_)
            go_simp
            have X4 : Ext W0 (w3.alloc (.cells #[.int .i64 0, .slice none 0 0, .slice none 0 0, .slice none 0 0, .map none] 81)) := Ext.trans (X3) (Ext.alloc _ _)
            have B4 : Blk (w3.alloc (.cells #[.int .i64 0, .slice none 0 0, .slice none 0 0, .slice none 0 0, .map none] 81)) w3.heap.size 81 #[.int .i64 0, .slice none 0 0, .slice none 0 0, .slice none 0 0, .map none] := Blk.new _ _ _
            have hg4 : W0.heap.size ≤ w3.heap.size := Below.size (X3)
            have ha4 : (w3.alloc (.cells #[.int .i64 0, .slice none 0 0, .slice none 0 0, .slice none 0 0, .map none] 81)).heap.size = w3.heap.size + 1 := by simp
            refine hK.out _ _ (HH.out _ (X4)) ?_
            clear hK K
            (try simp only [Act.put, List.setIfInBounds_toArray, List.set_cons_zero, List.set_cons_succ])
            have BS : Blk (w3.alloc (.cells #[.int .i64 0, .slice none 0 0, .slice none 0 0, .slice none 0 0, .map none] 81)) w3.heap.size 81 #[.int .i64 0, .slice none 0 0, .slice none 0 0, .slice none 0 0, .map none] := B4
            have XS : Ext W0 (w3.alloc (.cells #[.int .i64 0, .slice none 0 0, .slice none 0 0, .slice none 0 0, .map none] 81)) := X4
            have gS : W0.heap.size ≤ w3.heap.size := by omega
            generalize (w3.alloc (.cells #[.int .i64 0, .slice none 0 0, .slice none 0 0, .slice none 0 0, .map none] 81)) = WS at BS XS ⊢
            obtain ⟨kS0, kS1, kS2, kS3, kS4⟩ := BS.c5
            have fS0 := BS.frozen 0
            have fS1 := BS.frozen 1
            have fS2 := BS.frozen 2
            have fS3 := BS.frozen 3
            have fS4 := BS.frozen 4
            refine pl_one rfl (by rfl) (fun K hK => ?_)
            go_simp
            refine hK.out _ _ (HH.out _ (below5 XS gS (.int .i64 0) (.slice none 0 0) (.slice none 0 0) (.slice none 0 0) (.map none))) ?_
            clear hK K
            (try simp only [Act.put, List.setIfInBounds_toArray, List.set_cons_zero, List.set_cons_succ])
            refine pl_tames ?_
            (try simp only [Act.put, List.setIfInBounds_toArray, List.set_cons_zero, List.set_cons_succ])
            repeat (first
              | (refine pl_run (v := ?_) rfl ?_ (fun W hW => ?_) ?_; rotate_left; rfl; ((try dsimp only at hW); go_simp; try with_reducible rfl); (try simp only [Act.put, List.setIfInBounds_toArray, List.set_cons_zero, List.set_cons_succ]))
              | (refine pl_skip rfl ?_ ?_; rfl; (try simp only [Act.put, List.setIfInBounds_toArray, List.set_cons_zero, List.set_cons_succ])))
            refine pl_end ?_
            refine pl_done ?_
            (try simp only [Act.put])
            go_wp2
            go_meet
            case rel => exact ⟨w3.heap.size, rfl, rfl, (below5 XS gS (.int .i64 0) (.slice none 0 0) (.slice none 0 0) (.slice none 0 0) (.map none))⟩
          · refine pl_one rfl (by rfl) (fun K hK => ?_)
            go_simp
            have X3 : Ext W0 (w1.alloc (.cells #[.int .i64 0, .slice none 0 0, .slice none 0 0, .slice none 0 0, .map none] 81)) := Ext.trans (X1) (Ext.alloc _ _)
            have B3 : Blk (w1.alloc (.cells #[.int .i64 0, .slice none 0 0, .slice none 0 0, .slice none 0 0, .map none] 81)) w1.heap.size 81 #[.int .i64 0, .slice none 0 0, .slice none 0 0, .slice none 0 0, .map none] := Blk.new _ _ _
            have hg3 : W0.heap.size ≤ w1.heap.size := Below.size (X1)
            have ha3 : (w1.alloc (.cells #[.int .i64 0, .slice none 0 0, .slice none 0 0, .slice none 0 0, .map none] 81)).heap.size = w1.heap.size + 1 := by simp
            refine hK.out _ _ (HH.out _ (X3)) ?_
            clear hK K
            (try simp only [Act.put, List.setIfInBounds_toArray, List.set_cons_zero, List.set_cons_succ])
            refine pl_one rfl (by rfl) (fun K hK => ?_)
            go_simp
            go_at_call 58
            refine (asked_ref B a1 a2 a3 c1 c2 c3 _ _ ((HB.out.ext E0).ext (X3)) ((HG.out.ext E0).ext (X3)) hne).mono ?_
            rintro e w4 ⟨rfl, hE4⟩
            have X4 : Ext W0 w4 := Ext.trans (X3) hE4
            have hz4 := hE4.size
            have B4 := Blk.ext (B3) hE4
            refine hK.out _ _ (HH.out _ (X4)) ?_
            clear hK K
            (try simp only [Act.put, List.setIfInBounds_toArray, List.set_cons_zero, List.set_cons_succ])
            refine pl_tames ?_
            (try simp only [Act.put, List.setIfInBounds_toArray, List.set_cons_zero, List.set_cons_succ])
            repeat (first
              | (refine pl_run (v := ?_) rfl ?_ (fun W hW => ?_) ?_; rotate_left; rfl; ((try dsimp only at hW); go_simp; try with_reducible rfl); (try simp only [Act.put, List.setIfInBounds_toArray, List.set_cons_zero, List.set_cons_succ]))
              | (refine pl_skip rfl ?_ ?_; rfl; (try simp only [Act.put, List.setIfInBounds_toArray, List.set_cons_zero, List.set_cons_succ])))
            refine pl_end ?_
            have BS : Blk w4 w1.heap.size 81 #[.int .i64 0, .slice none 0 0, .slice none 0 0, .slice none 0 0, .map none] := B4
            have XS : Ext W0 w4 := X4
            have gS : W0.heap.size ≤ w1.heap.size := by omega
            generalize w4 = WS at BS XS ⊢
            obtain ⟨kS0, kS1, kS2, kS3, kS4⟩ := BS.c5
            have fS0 := BS.frozen 0
            have fS1 := BS.frozen 1
            have fS2 := BS.frozen 2
            have fS3 := BS.frozen 3
            have fS4 := BS.frozen 4
            refine pl_one rfl (by rfl) (fun K hK => ?_)
            go_simp
            refine hK.out _ _ (HH.out _ (below5 XS gS (.int .i64 0) (.slice none 0 0) (.slice none 0 0) (.slice none 0 0) (.map none))) ?_
            clear hK K
            (try simp only [Act.put, List.setIfInBounds_toArray, List.set_cons_zero, List.set_cons_succ])
            refine pl_tames ?_
            (try simp only [Act.put, List.setIfInBounds_toArray, List.set_cons_zero, List.set_cons_succ])
            repeat (first
              | (refine pl_run (v := ?_) rfl ?_ (fun W hW => ?_) ?_; rotate_left; rfl; ((try dsimp only at hW); go_simp; try with_reducible rfl); (try simp only [Act.put, List.setIfInBounds_toArray, List.set_cons_zero, List.set_cons_succ]))
              | (refine pl_skip rfl ?_ ?_; rfl; (try simp only [Act.put, List.setIfInBounds_toArray, List.set_cons_zero, List.set_cons_succ])))
            refine pl_end ?_
            refine pl_done ?_
            (try simp only [Act.put])
            go_wp2
            go_meet
            case rel => exact ⟨w1.heap.size, rfl, rfl, (below5 XS gS (.int .i64 0) (.slice none 0 0) (.slice none 0 0) (.slice none 0 0) (.map none))⟩
        · refine pl_one rfl (by rfl) (fun K hK => ?_)
          go_simp
          have X2 : Ext W0 (w1.alloc (.cells #[.int .i64 0, .slice none 0 0, .slice none 0 0, .slice none 0 0, .map none] 81)) := Ext.trans (X1) (Ext.alloc _ _)
          have B2 : Blk (w1.alloc (.cells #[.int .i64 0, .slice none 0 0, .slice none 0 0, .slice none 0 0, .map none] 81)) w1.heap.size 81 #[.int .i64 0, .slice none 0 0, .slice none 0 0, .slice none 0 0, .map none] := Blk.new _ _ _
          have hg2 : W0.heap.size ≤ w1.heap.size := Below.size (X1)
          have ha2 : (w1.alloc (.cells #[.int .i64 0, .slice none 0 0, .slice none 0 0, .slice none 0 0, .map none] 81)).heap.size = w1.heap.size + 1 := by simp
          refine hK.out _ _ (HH.out _ (X2)) ?_
          clear hK K
          (try simp only [Act.put, List.setIfInBounds_toArray, List.set_cons_zero, List.set_cons_succ])
          refine pl_one rfl (by rfl) (fun K hK => ?_)
          go_simp
          go_at_call 59
          refine (isMin_any _ _).mono ?_
          rintro e w3 ⟨rfl, rfl⟩
          refine hK.out _ _ (HH.out _ (X2)) ?_
          clear hK K
          (try simp only [Act.put, List.setIfInBounds_toArray, List.set_cons_zero, List.set_cons_succ])
          refine pl_tames ?_
          (try simp only [Act.put, List.setIfInBounds_toArray, List.set_cons_zero, List.set_cons_succ])
          repeat (first
            | (refine pl_run (v := ?_) rfl ?_ (fun W hW => ?_) ?_; rotate_left; rfl; ((try dsimp only at hW); go_simp; try with_reducible rfl); (try simp only [Act.put, List.setIfInBounds_toArray, List.set_cons_zero, List.set_cons_succ]))
            | (refine pl_skip rfl ?_ ?_; rfl; (try simp only [Act.put, List.setIfInBounds_toArray, List.set_cons_zero, List.set_cons_succ])))
          refine pl_end ?_
          refine pl_one rfl (by rfl) (fun K hK => ?_)
          go_simp
          go_at_call 58
          refine (asked_ref B a1 a2 a3 c1 c2 c3 _ _ ((HB.out.ext E0).ext (X2)) ((HG.out.ext E0).ext (X2)) hne).mono ?_
          rintro e w4 ⟨rfl, hE4⟩
          have X4 : Ext W0 w4 := Ext.trans (X2) hE4
          have hz4 := hE4.size
          have B4 := Blk.ext (B2) hE4
          refine hK.out _ _ (HH.out _ (X4)) ?_
          clear hK K
          (try simp only [Act.put, List.setIfInBounds_toArray, List.set_cons_zero, List.set_cons_succ])
          refine pl_tames ?_
          (try simp only [Act.put, List.setIfInBounds_toArray, List.set_cons_zero, List.set_cons_succ])
          repeat (first
            | (refine pl_run (v := ?_) rfl ?_ (fun W hW => ?_) ?_; rotate_left; rfl; ((try dsimp only at hW); go_simp; try with_reducible rfl); (try simp only [Act.put, List.setIfInBounds_toArray, List.set_cons_zero, List.set_cons_succ]))
            | (refine pl_skip rfl ?_ ?_; rfl; (try simp only [Act.put, List.setIfInBounds_toArray, List.set_cons_zero, List.set_cons_succ])))
          refine pl_end ?_
          have BS : Blk w4 w1.heap.size 81 #[.int .i64 0, .slice none 0 0, .slice none 0 0, .slice none 0 0, .map none] := B4
          have XS : Ext W0 w4 := X4
          have gS : W0.heap.size ≤ w1.heap.size := by omega
          generalize w4 = WS at BS XS ⊢
          obtain ⟨kS0, kS1, kS2, kS3, kS4⟩ := BS.c5
          have fS0 := BS.frozen 0
          have fS1 := BS.frozen 1
          have fS2 := BS.frozen 2
          have fS3 := BS.frozen 3
          have fS4 := BS.frozen 4
          refine pl_one rfl (by rfl) (fun K hK => ?_)
          go_simp
          refine hK.out _ _ (HH.out _ (below5 XS gS (.int .i64 0) (.slice none 0 0) (.slice none 0 0) (.slice none 0 0) (.map none))) ?_
          clear hK K
          (try simp only [Act.put, List.setIfInBounds_toArray, List.set_cons_zero, List.set_cons_succ])
          refine pl_tames ?_
          (try simp only [Act.put, List.setIfInBounds_toArray, List.set_cons_zero, List.set_cons_succ])
          repeat (first
            | (refine pl_run (v := ?_) rfl ?_ (fun W hW => ?_) ?_; rotate_left; rfl; ((try dsimp only at hW); go_simp; try with_reducible rfl); (try simp only [Act.put, List.setIfInBounds_toArray, List.set_cons_zero, List.set_cons_succ]))
            | (refine pl_skip rfl ?_ ?_; rfl; (try simp only [Act.put, List.setIfInBounds_toArray, List.set_cons_zero, List.set_cons_succ])))
          refine pl_end ?_
          refine pl_done ?_
          (try simp only [Act.put])
          go_wp2
          go_meet
          case rel => exact ⟨w1.heap.size, rfl, rfl, (below5 XS gS (.int .i64 0) (.slice none 0 0) (.slice none 0 0) (.slice none 0 0) (.map none))⟩
      · refine pl_one rfl (by rfl) (fun K hK => ?_)
        go_simp
        have X1 : Ext W0 (W0.alloc (.cells #[.int .i64 0, .slice none 0 0, .slice none 0 0, .slice none 0 0, .map none] 81)).drew := Ext.trans (Ext.alloc _ _) (Ext.drew _)
        have B1 : Blk (W0.alloc (.cells #[.int .i64 0, .slice none 0 0, .slice none 0 0, .slice none 0 0, .map none] 81)).drew W0.heap.size 81 #[.int .i64 0, .slice none 0 0, .slice none 0 0, .slice none 0 0, .map none] := (Blk.new _ _ _).drew
        have ha1 : (W0.alloc (.cells #[.int .i64 0, .slice none 0 0, .slice none 0 0, .slice none 0 0, .map none] 81)).drew.heap.size = W0.heap.size + 1 := by simp
        refine hK.out _ _ (HH.out _ (X1)) ?_
        clear hK K
        (try simp only [Act.put, List.setIfInBounds_toArray, List.set_cons_zero, List.set_cons_succ])
        refine pl_one rfl (by rfl) (fun K hK => ?_)
        go_simp
        go_at_call 69
        refine ((isSt_any B a1 a2 a3 c1 c2 c3 s _ l2).mono (fun e w' q => (⟨by rw [q.1, hs], q.2⟩ : e = .returned (.bool true) ∧ _))).mono ?_
        rintro e w2 ⟨rfl, hE2⟩
        have X2 : Ext W0 w2 := Ext.trans (X1) hE2
        have hz2 := hE2.size
        have B2 := Blk.ext (B1) hE2
        refine hK.out _ _ (HH.out _ (X2)) ?_
        clear hK K
        (try simp only [Act.put, List.setIfInBounds_toArray, List.set_cons_zero, List.set_cons_succ])
        refine pl_tames ?_
        (try simp only [Act.put, List.setIfInBounds_toArray, List.set_cons_zero, List.set_cons_succ])
        repeat (first
          | (refine pl_run (v := ?_) rfl ?_ (fun W hW => ?_) ?_; rotate_left; rfl; ((try dsimp only at hW); go_simp; try with_reducible rfl); (try simp only [Act.put, List.setIfInBounds_toArray, List.set_cons_zero, List.set_cons_succ]))
          | (refine pl_skip rfl ?_ ?_; rfl; (try simp only [Act.put, List.setIfInBounds_toArray, List.set_cons_zero, List.set_cons_succ])))
        refine pl_end ?_
        refine pl_one rfl (by rfl) (fun K hK => ?_)
        go_simp
        go_at_call 59
        refine (isMin_any _ _).mono ?_
        rintro e w3 ⟨rfl, rfl⟩
        refine hK.out _ _ (HH.out _ (X2)) ?_
        clear hK K
        (try simp only [Act.put, List.setIfInBounds_toArray, List.set_cons_zero, List.set_cons_succ])
        refine pl_tames ?_
        (try simp only [Act.put, List.setIfInBounds_toArray, List.set_cons_zero, List.set_cons_succ])
        repeat (first
          | (refine pl_run (v := ?_) rfl ?_ (fun W hW => ?_) ?_; rotate_left; rfl; ((try dsimp only at hW); go_simp; try with_reducible rfl); (try simp only [Act.put, List.setIfInBounds_toArray, List.set_cons_zero, List.set_cons_succ]))
          | (refine pl_skip rfl ?_ ?_; rfl; (try simp only [Act.put, List.setIfInBounds_toArray, List.set_cons_zero, List.set_cons_succ])))
        refine pl_end ?_
        refine pl_one rfl (by rfl) (fun K hK => ?_)
        go_simp
        go_at_call 58
        refine (asked_ref B a1 a2 a3 c1 c2 c3 _ _ ((HB.out.ext E0).ext (X2)) ((HG.out.ext E0).ext (X2)) hne).mono ?_
        rintro e w4 ⟨rfl, hE4⟩
        have X4 : Ext W0 w4 := Ext.trans (X2) hE4
        have hz4 := hE4.size
        have B4 := Blk.ext (B2) hE4
        refine hK.out _ _ (HH.out _ (X4)) ?_
        clear hK K
        (try simp only [Act.put, List.setIfInBounds_toArray, List.set_cons_zero, List.set_cons_succ])
        refine pl_tames ?_
        (try simp only [Act.put, List.setIfInBounds_toArray, List.set_cons_zero, List.set_cons_succ])
        repeat (first
          | (refine pl_run (v := ?_) rfl ?_ (fun W hW => ?_) ?_; rotate_left; rfl; ((try dsimp only at hW); go_simp; try with_reducible rfl); (try simp only [Act.put, List.setIfInBounds_toArray, List.set_cons_zero, List.set_cons_succ]))
          | (refine pl_skip rfl ?_ ?_; rfl; (try simp only [Act.put, List.setIfInBounds_toArray, List.set_cons_zero, List.set_cons_succ])))
        refine pl_end ?_
        have BS : Blk w4 W0.heap.size 81 #[.int .i64 0, .slice none 0 0, .slice none 0 0, .slice none 0 0, .map none] := B4
        have XS : Ext W0 w4 := X4
        have gS : W0.heap.size ≤ W0.heap.size := by omega
        generalize w4 = WS at BS XS ⊢
        obtain ⟨kS0, kS1, kS2, kS3, kS4⟩ := BS.c5
        have fS0 := BS.frozen 0
        have fS1 := BS.frozen 1
        have fS2 := BS.frozen 2
        have fS3 := BS.frozen 3
        have fS4 := BS.frozen 4
        refine pl_one rfl (by rfl) (fun K hK => ?_)
        go_simp
        refine hK.out _ _ (HH.out _ (below5 XS gS (.int .i64 0) (.slice none 0 0) (.slice none 0 0) (.slice none 0 0) (.map none))) ?_
        clear hK K
        (try simp only [Act.put, List.setIfInBounds_toArray, List.set_cons_zero, List.set_cons_succ])
        refine pl_tames ?_
        (try simp only [Act.put, List.setIfInBounds_toArray, List.set_cons_zero, List.set_cons_succ])
        repeat (first
          | (refine pl_run (v := ?_) rfl ?_ (fun W hW => ?_) ?_; rotate_left; rfl; ((try dsimp only at hW); go_simp; try with_reducible rfl); (try simp only [Act.put, List.setIfInBounds_toArray, List.set_cons_zero, List.set_cons_succ]))
          | (refine pl_skip rfl ?_ ?_; rfl; (try simp only [Act.put, List.setIfInBounds_toArray, List.set_cons_zero, List.set_cons_succ])))
        refine pl_end ?_
        refine pl_done ?_
        (try simp only [Act.put])
        go_wp2
        go_meet
        case rel => exact ⟨W0.heap.size, rfl, rfl, (below5 XS gS (.int .i64 0) (.slice none 0 0) (.slice none 0 0) (.slice none 0 0) (.map none))⟩
    case rest =>
      obtain ⟨g, rfl, rfl, hX⟩ := hcut
      obtain ⟨c, hc⟩ : ∃ c, c = askE B (isMinB m) := ⟨_, rfl⟩
      rw [← hc] at hne ⊢
      have hcn : (c != 0) = true := by simp [hne]
      go_wp2
      refine bodyPost_ret (v := .tuple #[.slice none 0 0, .int .i64 c]) ?_ rfl ⟨by rw [hc], E0.trans hX⟩
      simp [results, Tryd.results19, go_sem]
set_option maxRecDepth 100000 in
set_option maxHeartbeats 4000000 in
theorem owners_yes (B : Bk) (a1 a2 a3 : Option Addr) (c1 c2 c3 : Nat) (s : Nat) (m : Int) (w : World) (h : BookA w B a1 a2 a3) (hG : Glob w) (hv : validB B = true) (hs : s < B.orders.length) (hm : isMinB m = true) :
    Calls Tryd.prog 19 #[.agg #[.int .i64 B.comp, .slice a1 B.bounds.length c1, .slice a2 B.orders.length c2, .slice a3 B.shots.length c3], .int .i64 s, .int .i64 m] w
      fun e w' => (∃ a cp, e = .returned (.tuple #[.slice a (ownersL B s m).length cp, .int .i64 0]) ∧ IntA w' a (ownersL B s m)) ∧ Ext w w' := by
  have hst : isStB B s = true := by simp [isStB]; omega
  have HB := Lib.hid h
  have HG := Lib.hid hG
  have l2 := h.l2
  have l3 := h.l3
  clear h hG
  go_enter Tryd.func19, Tryd.ntmps19
  go_upto_region 1 with (fail)
  obtain ⟨W0, hW0⟩ : ∃ W0, W0 = w.alloc (.cells #[.int .i64 B.comp, .slice a1 B.bounds.length c1, .slice a2 B.orders.length c2, .slice a3 B.shots.length c3] 26) := ⟨_, rfl⟩
  have b0 : Blk W0 w.heap.size 26 #[.int .i64 B.comp, .slice a1 B.bounds.length c1, .slice a2 B.orders.length c2, .slice a3 B.shots.length c3] := by rw [hW0]; exact Blk.new _ _ _
  have E0 : Ext w W0 := by rw [hW0]; exact Ext.alloc _ _
  rw [← hW0]
  clear hW0
  have HH : Hid (∀ W, Ext W0 W → (W.cell? ⟨w.heap.size, 0, none⟩ = some (.int .i64 B.comp) ∧ W.cell? ⟨w.heap.size, 1, none⟩ = some (.slice a1 B.bounds.length c1) ∧ W.cell? ⟨w.heap.size, 2, none⟩ = some (.slice a2 B.orders.length c2) ∧ W.cell? ⟨w.heap.size, 3, none⟩ = some (.slice a3 B.shots.length c3))) := Lib.hid fun W e => (b0.ext e).c4
  go_cut [8, 9] (fun p e wx => ∃ g mp, p = .pointer (some ⟨g, 0, none⟩) ∧ e = .int .i64 0 ∧ Blk wx g 81 #[.int .i64 B.comp, .slice a1 B.bounds.length c1, .slice a2 B.orders.length c2, .slice a3 B.shots.length c3, .map (some mp)] ∧ MapA wx mp (ownL B.orders B.orders.length) ∧ w.heap.size < g ∧ Ext W0 wx)
  case first =>
    refine wp_plan (fun W => W.cell? ⟨w.heap.size, 0, none⟩ = some (.int .i64 B.comp) ∧ W.cell? ⟨w.heap.size, 1, none⟩ = some (.slice a1 B.bounds.length c1) ∧ W.cell? ⟨w.heap.size, 2, none⟩ = some (.slice a2 B.orders.length c2) ∧ W.cell? ⟨w.heap.size, 3, none⟩ = some (.slice a3 B.shots.length c3)) (.tames [0, 1, 2] (.two 3 12 (.tames [4, 5] (.two 6 12 (.tames [7] (.two 8 12 (.tames [9, 10, 11] (.one 12 (.one 13 (.tames [14] (.done))))) (.one 8 (.tames [9, 10, 11] (.one 13 (.tames [14] (.done))))))) (.one 6 (.tames [7] (.one 8 (.tames [9, 10, 11] (.one 13 (.tames [14] (.done))))))))) (.one 3 (.tames [4, 5] (.one 6 (.tames [7] (.one 8 (.tames [9, 10, 11] (.one 13 (.tames [14] (.done))))))))))) (by kernel_rfl) (by kernel_rfl) (by kernel_rfl) (fun c a d v w h => by cases d <;> exact h) ?_ ?_
    · exact HH.out _ (Ext.drew _)
    refine pl_tames ?_
    (try simp only [Act.put, List.setIfInBounds_toArray, List.set_cons_zero, List.set_cons_succ])
    repeat (first
      | (refine pl_run (v := ?_) rfl ?_ (fun W hW => ?_) ?_; rotate_left; rfl; ((try dsimp only at hW); go_simp; try with_reducible rfl); (try simp only [Act.put, List.setIfInBounds_toArray, List.set_cons_zero, List.set_cons_succ]))
      | (refine pl_skip rfl ?_ ?_; rfl; (try simp only [Act.put, List.setIfInBounds_toArray, List.set_cons_zero, List.set_cons_succ])))
    refine pl_end ?_
    refine pl_two ?_ ?_
    · refine pl_one rfl (by rfl) (fun K hK => ?_)
      go_simp
      go_at_call 69
      refine (isSt_yes B hst a1 a2 a3 c1 c2 c3 _ l2).mono ?_
      rintro e w1 ⟨rfl, hE1⟩
      have X1 : Ext W0 w1 := Ext.trans (Ext.drew W0) hE1
      have hz1 := hE1.size
      refine hK.out _ _ (HH.out _ (X1)) ?_
      clear hK K
      (try simp only [Act.put, List.setIfInBounds_toArray, List.set_cons_zero, List.set_cons_succ])
      refine pl_tames ?_
      (try simp only [Act.put, List.setIfInBounds_toArray, List.set_cons_zero, List.set_cons_succ])
      repeat (first
        | (refine pl_run (v := ?_) rfl ?_ (fun W hW => ?_) ?_; rotate_left; rfl; ((try dsimp only at hW); go_simp; try with_reducible rfl); (try simp only [Act.put, List.setIfInBounds_toArray, List.set_cons_zero, List.set_cons_succ]))
        | (refine pl_skip rfl ?_ ?_; rfl; (try simp only [Act.put, List.setIfInBounds_toArray, List.set_cons_zero, List.set_cons_succ])))
      refine pl_end ?_
      refine pl_two ?_ ?_
      · refine pl_one rfl (by rfl) (fun K hK => ?_)
        go_simp
        go_at_call 59
        refine (isMin_yes hm _).mono ?_
        rintro e w2 ⟨rfl, rfl⟩
        refine hK.out _ _ (HH.out _ (X1)) ?_
        clear hK K
        (try simp only [Act.put, List.setIfInBounds_toArray, List.set_cons_zero, List.set_cons_succ])
        refine pl_tames ?_
        (try simp only [Act.put, List.setIfInBounds_toArray, List.set_cons_zero, List.set_cons_succ])
        repeat (first
          | (refine pl_run (v := ?_) rfl ?_ (fun W hW => ?_) ?_; rotate_left; rfl; ((try dsimp only at hW); go_simp; try with_reducible rfl); (try simp only [Act.put, List.setIfInBounds_toArray, List.set_cons_zero, List.set_cons_succ]))
          | (refine pl_skip rfl ?_ ?_; rfl; (try simp only [Act.put, List.setIfInBounds_toArray, List.set_cons_zero, List.set_cons_succ])))
        refine pl_end ?_
        refine pl_two ?_ ?_
        · refine pl_one rfl (by rfl) (fun K hK => ?_)
          go_simp
          go_at_call 58
          refine (asked_yes B a1 a2 a3 c1 c2 c3 _ ((HB.out.ext E0).ext (X1)) ((HG.out.ext E0).ext (X1)) hv).mono ?_
          rintro e w3 ⟨⟨mp, rfl, hM3, hmp3⟩, hE3⟩
          have X3 : Ext W0 w3 := Ext.trans (X1) hE3
          have hz3 := hE3.size
          refine hK.out _ _ (HH.out _ (X3)) ?_
          clear hK K
          (try simp only [Act.put, List.setIfInBounds_toArray, List.set_cons_zero, List.set_cons_succ])
          refine pl_tames ?_
          (try simp only [Act.put, List.setIfInBounds_toArray, List.set_cons_zero, List.set_cons_succ])
          repeat (first
            | (refine pl_run (v := ?_) rfl ?_ (fun W hW => ?_) ?_; rotate_left; rfl; ((try dsimp only at hW); go_simp; try with_reducible rfl); (try simp only [Act.put, List.setIfInBounds_toArray, List.set_cons_zero, List.set_cons_succ]))
            | (refine pl_skip rfl ?_ ?_; rfl; (try simp only [Act.put, List.setIfInBounds_toArray, List.set_cons_zero, List.set_cons_succ])))
          refine pl_end ?_
          refine pl_one rfl (by rfl) (fun K hK => ?_)
          go_simp
          have X4 : Ext W0 (w3.alloc (.cells #[.int .i64 0, .slice none 0 0, .slice none 0 0, .slice none 0 0, .map none] 81)) := Ext.trans (X3) (Ext.alloc _ _)
          have B4 : Blk (w3.alloc (.cells #[.int .i64 0, .slice none 0 0, .slice none 0 0, .slice none 0 0, .map none] 81)) w3.heap.size 81 #[.int .i64 0, .slice none 0 0, .slice none 0 0, .slice none 0 0, .map none] := Blk.new _ _ _
          have hg4 : W0.heap.size ≤ w3.heap.size := Below.size (X3)
          have hl4 := MapA.lt (hM3)
          have M4 := MapA.ext (hM3) (Ext.alloc w3 (.cells #[.int .i64 0, .slice none 0 0, .slice none 0 0, .slice none 0 0, .map none] 81))
          have ha4 : (w3.alloc (.cells #[.int .i64 0, .slice none 0 0, .slice none 0 0, .slice none 0 0, .map none] 81)).heap.size = w3.heap.size + 1 := by simp
          refine hK.out _ _ (HH.out _ (X4)) ?_
          clear hK K
          (try simp only [Act.put, List.setIfInBounds_toArray, List.set_cons_zero, List.set_cons_succ])
          have BS : Blk (w3.alloc (.cells #[.int .i64 0, .slice none 0 0, .slice none 0 0, .slice none 0 0, .map none] 81)) w3.heap.size 81 #[.int .i64 0, .slice none 0 0, .slice none 0 0, .slice none 0 0, .map none] := B4
          have XS : Ext W0 (w3.alloc (.cells #[.int .i64 0, .slice none 0 0, .slice none 0 0, .slice none 0 0, .map none] 81)) := X4
          have gS : W0.heap.size ≤ w3.heap.size := by omega
          have MS : MapA (w3.alloc (.cells #[.int .i64 0, .slice none 0 0, .slice none 0 0, .slice none 0 0, .map none] 81)) mp (ownL B.orders B.orders.length) := M4
          have nS : mp ≠ w3.heap.size := by (first | omega | (simp at *; omega))
          generalize (w3.alloc (.cells #[.int .i64 0, .slice none 0 0, .slice none 0 0, .slice none 0 0, .map none] 81)) = WS at BS XS MS ⊢
          obtain ⟨kS0, kS1, kS2, kS3, kS4⟩ := BS.c5
          have fS0 := BS.frozen 0
          have fS1 := BS.frozen 1
          have fS2 := BS.frozen 2
          have fS3 := BS.frozen 3
          have fS4 := BS.frozen 4
          refine pl_one rfl (by rfl) (fun K hK => ?_)
          go_simp
          refine hK.out _ _ (HH.out _ (below5 XS gS (.int .i64 B.comp) (.slice a1 B.bounds.length c1) (.slice a2 B.orders.length c2) (.slice a3 B.shots.length c3) (.map (some mp)))) ?_
          clear hK K
          (try simp only [Act.put, List.setIfInBounds_toArray, List.set_cons_zero, List.set_cons_succ])
          refine pl_tames ?_
          (try simp only [Act.put, List.setIfInBounds_toArray, List.set_cons_zero, List.set_cons_succ])
          repeat (first
            | (refine pl_run (v := ?_) rfl ?_ (fun W hW => ?_) ?_; rotate_left; rfl; ((try dsimp only at hW); go_simp; try with_reducible rfl); (try simp only [Act.put, List.setIfInBounds_toArray, List.set_cons_zero, List.set_cons_succ]))
            | (refine pl_skip rfl ?_ ?_; rfl; (try simp only [Act.put, List.setIfInBounds_toArray, List.set_cons_zero, List.set_cons_succ])))
          refine pl_end ?_
          refine pl_done ?_
          (try simp only [Act.put])
          go_wp2
          go_meet
          case rel => exact ⟨w3.heap.size, mp, rfl, rfl, (puts5 BS (.int .i64 B.comp) (.slice a1 B.bounds.length c1) (.slice a2 B.orders.length c2) (.slice a3 B.shots.length c3) (.map (some mp))), (MS.puts5 nS (.int .i64 B.comp) (.slice a1 B.bounds.length c1) (.slice a2 B.orders.length c2) (.slice a3 B.shots.length c3) (.map (some mp))), by have := b0.lt; omega, (below5 XS gS (.int .i64 B.comp) (.slice a1 B.bounds.length c1) (.slice a2 B.orders.length c2) (.slice a3 B.shots.length c3) (.map (some mp)))⟩
        · refine pl_one rfl (by rfl) (fun K hK => ?_)
          go_simp
          have X3 : Ext W0 (w1.alloc (.cells #[.int .i64 0, .slice none 0 0, .slice none 0 0, .slice none 0 0, .map none] 81)) := Ext.trans (X1) (Ext.alloc _ _)
          have B3 : Blk (w1.alloc (.cells #[.int .i64 0, .slice none 0 0, .slice none 0 0, .slice none 0 0, .map none] 81)) w1.heap.size 81 #[.int .i64 0, .slice none 0 0, .slice none 0 0, .slice none 0 0, .map none] := Blk.new _ _ _
          have hg3 : W0.heap.size ≤ w1.heap.size := Below.size (X1)
          have ha3 : (w1.alloc (.cells #[.int .i64 0, .slice none 0 0, .slice none 0 0, .slice none 0 0, .map none] 81)).heap.size = w1.heap.size + 1 := by simp
          refine hK.out _ _ (HH.out _ (X3)) ?_
          clear hK K
          (try simp only [Act.put, List.setIfInBounds_toArray, List.set_cons_zero, List.set_cons_succ])
          refine pl_one rfl (by rfl) (fun K hK => ?_)
          go_simp
          go_at_call 58
          refine (asked_yes B a1 a2 a3 c1 c2 c3 _ ((HB.out.ext E0).ext (X3)) ((HG.out.ext E0).ext (X3)) hv).mono ?_
          rintro e w4 ⟨⟨mp, rfl, hM4, hmp4⟩, hE4⟩
          have X4 : Ext W0 w4 := Ext.trans (X3) hE4
          have hz4 := hE4.size
          have B4 := Blk.ext (B3) hE4
          refine hK.out _ _ (HH.out _ (X4)) ?_
          clear hK K
          (try simp only [Act.put, List.setIfInBounds_toArray, List.set_cons_zero, List.set_cons_succ])
          refine pl_tames ?_
          (try simp only [Act.put, List.setIfInBounds_toArray, List.set_cons_zero, List.set_cons_succ])
          repeat (first
            | (refine pl_run (v := ?_) rfl ?_ (fun W hW => ?_) ?_; rotate_left; rfl; ((try dsimp only at hW); go_simp; try with_reducible rfl); (try simp only [Act.put, List.setIfInBounds_toArray, List.set_cons_zero, List.set_cons_succ]))
            | (refine pl_skip rfl ?_ ?_; rfl; (try simp only [Act.put, List.setIfInBounds_toArray, List.set_cons_zero, List.set_cons_succ])))
          refine pl_end ?_
          have BS : Blk w4 w1.heap.size 81 #[.int .i64 0, .slice none 0 0, .slice none 0 0, .slice none 0 0, .map none] := B4
          have XS : Ext W0 w4 := X4
          have gS : W0.heap.size ≤ w1.heap.size := by omega
          have MS : MapA w4 mp (ownL B.orders B.orders.length) := hM4
          have nS : mp ≠ w1.heap.size := by (first | omega | (simp at *; omega))
          generalize w4 = WS at BS XS MS ⊢
          obtain ⟨kS0, kS1, kS2, kS3, kS4⟩ := BS.c5
          have fS0 := BS.frozen 0
          have fS1 := BS.frozen 1
          have fS2 := BS.frozen 2
          have fS3 := BS.frozen 3
          have fS4 := BS.frozen 4
          refine pl_one rfl (by rfl) (fun K hK => ?_)
          go_simp
          refine hK.out _ _ (HH.out _ (below5 XS gS (.int .i64 B.comp) (.slice a1 B.bounds.length c1) (.slice a2 B.orders.length c2) (.slice a3 B.shots.length c3) (.map (some mp)))) ?_
          clear hK K
          (try simp only [Act.put, List.setIfInBounds_toArray, List.set_cons_zero, List.set_cons_succ])
          refine pl_tames ?_
          (try simp only [Act.put, List.setIfInBounds_toArray, List.set_cons_zero, List.set_cons_succ])
          repeat (first
            | (refine pl_run (v := ?_) rfl ?_ (fun W hW => ?_) ?_; rotate_left; rfl; ((try dsimp only at hW); go_simp; try with_reducible rfl); (try simp only [Act.put, List.setIfInBounds_toArray, List.set_cons_zero, List.set_cons_succ]))
            | (refine pl_skip rfl ?_ ?_; rfl; (try simp only [Act.put, List.setIfInBounds_toArray, List.set_cons_zero, List.set_cons_succ])))
          refine pl_end ?_
          refine pl_done ?_
          (try simp only [Act.put])
          go_wp2
          go_meet
          case rel => exact ⟨w1.heap.size, mp, rfl, rfl, (puts5 BS (.int .i64 B.comp) (.slice a1 B.bounds.length c1) (.slice a2 B.orders.length c2) (.slice a3 B.shots.length c3) (.map (some mp))), (MS.puts5 nS (.int .i64 B.comp) (.slice a1 B.bounds.length c1) (.slice a2 B.orders.length c2) (.slice a3 B.shots.length c3) (.map (some mp))), by have := b0.lt; omega, (below5 XS gS (.int .i64 B.comp) (.slice a1 B.bounds.length c1) (.slice a2 B.orders.length c2) (.slice a3 B.shots.length c3) (.map (some mp)))⟩
      · refine pl_one rfl (by rfl) (fun K hK => ?_)
        go_simp
        have X2 : Ext W0 (w1.alloc (.cells #[.int .i64 0, .slice none 0 0, .slice none 0 0, .slice none 0 0, .map none] 81)) := Ext.trans (X1) (Ext.alloc _ _)
        have B2 : Blk (w1.alloc (.cells #[.int .i64 0, .slice none 0 0, .slice none 0 0, .slice none 0 0, .map none] 81)) w1.heap.size 81 #[.int .i64 0, .slice none 0 0, .slice none 0 0, .slice none 0 0, .map none] := Blk.new _ _ _
        have hg2 : W0.heap.size ≤ w1.heap.size := Below.size (X1)
        have ha2 : (w1.alloc (.cells #[.int .i64 0, .slice none 0 0, .slice none 0 0, .slice none 0 0, .map none] 81)).heap.size = w1.heap.size + 1 := by simp
        refine hK.out _ _ (HH.out _ (X2)) ?_
        clear hK K
        (try simp only [Act.put, List.setIfInBounds_toArray, List.set_cons_zero, List.set_cons_succ])
        refine pl_one rfl (by rfl) (fun K hK => ?_)
        go_simp
        go_at_call 59
        refine (isMin_yes hm _).mono ?_
        rintro e w3 ⟨rfl, rfl⟩
        refine hK.out _ _ (HH.out _ (X2)) ?_
        clear hK K
        (try simp only [Act.put, List.setIfInBounds_toArray, List.set_cons_zero, List.set_cons_succ])
        refine pl_tames ?_
        (try simp only [Act.put, List.setIfInBounds_toArray, List.set_cons_zero, List.set_cons_succ])
        repeat (first
          | (refine pl_run (v := ?_) rfl ?_ (fun W hW => ?_) ?_; rotate_left; rfl; ((try dsimp only at hW); go_simp; try with_reducible rfl); (try simp only [Act.put, List.setIfInBounds_toArray, List.set_cons_zero, List.set_cons_succ]))
          | (refine pl_skip rfl ?_ ?_; rfl; (try simp only [Act.put, List.setIfInBounds_toArray, List.set_cons_zero, List.set_cons_succ])))
        refine pl_end ?_
        refine pl_one rfl (by rfl) (fun K hK => ?_)
        go_simp
        go_at_call 58
        refine (asked_yes B a1 a2 a3 c1 c2 c3 _ ((HB.out.ext E0).ext (X2)) ((HG.out.ext E0).ext (X2)) hv).mono ?_
        rintro e w4 ⟨⟨mp, rfl, hM4, hmp4⟩, hE4⟩
        have X4 : Ext W0 w4 := Ext.trans (X2) hE4
        have hz4 := hE4.size
        have B4 := Blk.ext (B2) hE4
        refine hK.out _ _ (HH.out _ (X4)) ?_
        clear hK K
        (try simp only [Act.put, List.setIfInBounds_toArray, List.set_cons_zero, List.set_cons_succ])
        refine pl_tames ?_
        (try simp only [Act.put, List.setIfInBounds_toArray, List.set_cons_zero, List.set_cons_succ])
        repeat (first
          | (refine pl_run (v := ?_) rfl ?_ (fun W hW => ?_) ?_; rotate_left; rfl; ((try dsimp only at hW); go_simp; try with_reducible rfl); (try simp only [Act.put, List.setIfInBounds_toArray, List.set_cons_zero, List.set_cons_succ]))
          | (refine pl_skip rfl ?_ ?_; rfl; (try simp only [Act.put, List.setIfInBounds_toArray, List.set_cons_zero, List.set_cons_succ])))
        refine pl_end ?_
        have BS : Blk w4 w1.heap.size 81 #[.int .i64 0, .slice none 0 0, .slice none 0 0, .slice none 0 0, .map none] := B4
        have XS : Ext W0 w4 := X4
        have gS : W0.heap.size ≤ w1.heap.size := by omega
        have MS : MapA w4 mp (ownL B.orders B.orders.length) := hM4
        have nS : mp ≠ w1.heap.size := by (first | omega | (simp at *; omega))
        generalize w4 = WS at BS XS MS ⊢
        obtain ⟨kS0, kS1, kS2, kS3, kS4⟩ := BS.c5
        have fS0 := BS.frozen 0
        have fS1 := BS.frozen 1
        have fS2 := BS.frozen 2
        have fS3 := BS.frozen 3
        have fS4 := BS.frozen 4
        refine pl_one rfl (by rfl) (fun K hK => ?_)
        go_simp
        refine hK.out _ _ (HH.out _ (below5 XS gS (.int .i64 B.comp) (.slice a1 B.bounds.length c1) (.slice a2 B.orders.length c2) (.slice a3 B.shots.length c3) (.map (some mp)))) ?_
        clear hK K
        (try simp only [Act.put, List.setIfInBounds_toArray, List.set_cons_zero, List.set_cons_succ])
        refine pl_tames ?_
        (try simp only [Act.put, List.setIfInBounds_toArray, List.set_cons_zero, List.set_cons_succ])
        repeat (first
          | (refine pl_run (v := ?_) rfl ?_ (fun W hW => ?_) ?_; rotate_left; rfl; ((try dsimp only at hW); go_simp; try with_reducible rfl); (try simp only [Act.put, List.setIfInBounds_toArray, List.set_cons_zero, List.set_cons_succ]))
          | (refine pl_skip rfl ?_ ?_; rfl; (try simp only [Act.put, List.setIfInBounds_toArray, List.set_cons_zero, List.set_cons_succ])))
        refine pl_end ?_
        refine pl_done ?_
        (try simp only [Act.put])
        go_wp2
        go_meet
        case rel => exact ⟨w1.heap.size, mp, rfl, rfl, (puts5 BS (.int .i64 B.comp) (.slice a1 B.bounds.length c1) (.slice a2 B.orders.length c2) (.slice a3 B.shots.length c3) (.map (some mp))), (MS.puts5 nS (.int .i64 B.comp) (.slice a1 B.bounds.length c1) (.slice a2 B.orders.length c2) (.slice a3 B.shots.length c3) (.map (some mp))), by have := b0.lt; omega, (below5 XS gS (.int .i64 B.comp) (.slice a1 B.bounds.length c1) (.slice a2 B.orders.length c2) (.slice a3 B.shots.length c3) (.map (some mp)))⟩
    · refine pl_one rfl (by rfl) (fun K hK => ?_)
      go_simp
      have X1 : Ext W0 (W0.alloc (.cells #[.int .i64 0, .slice none 0 0, .slice none 0 0, .slice none 0 0, .map none] 81)).drew := Ext.trans (Ext.alloc _ _) (Ext.drew _)
      have B1 : Blk (W0.alloc (.cells #[.int .i64 0, .slice none 0 0, .slice none 0 0, .slice none 0 0, .map none] 81)).drew W0.heap.size 81 #[.int .i64 0, .slice none 0 0, .slice none 0 0, .slice none 0 0, .map none] := (Blk.new _ _ _).drew
      have ha1 : (W0.alloc (.cells #[.int .i64 0, .slice none 0 0, .slice none 0 0, .slice none 0 0, .map none] 81)).drew.heap.size = W0.heap.size + 1 := by simp
      refine hK.out _ _ (HH.out _ (X1)) ?_
      clear hK K
      (try simp only [Act.put, List.setIfInBounds_toArray, List.set_cons_zero, List.set_cons_succ])
      refine pl_one rfl (by rfl) (fun K hK => ?_)
      go_simp
      go_at_call 69
      refine (isSt_yes B hst a1 a2 a3 c1 c2 c3 _ l2).mono ?_
      rintro e w2 ⟨rfl, hE2⟩
      have X2 : Ext W0 w2 := Ext.trans (X1) hE2
      have hz2 := hE2.size
      have B2 := Blk.ext (B1) hE2
      refine hK.out _ _ (HH.out _ (X2)) ?_
      clear hK K
      (try simp only [Act.put, List.setIfInBounds_toArray, List.set_cons_zero, List.set_cons_succ])
      refine pl_tames ?_
      (try simp only [Act.put, List.setIfInBounds_toArray, List.set_cons_zero, List.set_cons_succ])
      repeat (first
        | (refine pl_run (v := ?_) rfl ?_ (fun W hW => ?_) ?_; rotate_left; rfl; ((try dsimp only at hW); go_simp; try with_reducible rfl); (try simp only [Act.put, List.setIfInBounds_toArray, List.set_cons_zero, List.set_cons_succ]))
        | (refine pl_skip rfl ?_ ?_; rfl; (try simp only [Act.put, List.setIfInBounds_toArray, List.set_cons_zero, List.set_cons_succ])))
      refine pl_end ?_
      refine pl_one rfl (by rfl) (fun K hK => ?_)
      go_simp
      go_at_call 59
      refine (isMin_yes hm _).mono ?_
      rintro e w3 ⟨rfl, rfl⟩
      refine hK.out _ _ (HH.out _ (X2)) ?_
      clear hK K
      (try simp only [Act.put, List.setIfInBounds_toArray, List.set_cons_zero, List.set_cons_succ])
      refine pl_tames ?_
      (try simp only [Act.put, List.setIfInBounds_toArray, List.set_cons_zero, List.set_cons_succ])
      repeat (first
        | (refine pl_run (v := ?_) rfl ?_ (fun W hW => ?_) ?_; rotate_left; rfl; ((try dsimp only at hW); go_simp; try with_reducible rfl); (try simp only [Act.put, List.setIfInBounds_toArray, List.set_cons_zero, List.set_cons_succ]))
        | (refine pl_skip rfl ?_ ?_; rfl; (try simp only [Act.put, List.setIfInBounds_toArray, List.set_cons_zero, List.set_cons_succ])))
      refine pl_end ?_
      refine pl_one rfl (by rfl) (fun K hK => ?_)
      go_simp
      go_at_call 58
      refine (asked_yes B a1 a2 a3 c1 c2 c3 _ ((HB.out.ext E0).ext (X2)) ((HG.out.ext E0).ext (X2)) hv).mono ?_
      rintro e w4 ⟨⟨mp, rfl, hM4, hmp4⟩, hE4⟩
      have X4 : Ext W0 w4 := Ext.trans (X2) hE4
      have hz4 := hE4.size
      have B4 := Blk.ext (B2) hE4
      refine hK.out _ _ (HH.out _ (X4)) ?_
      clear hK K
      (try simp only [Act.put, List.setIfInBounds_toArray, List.set_cons_zero, List.set_cons_succ])
      refine pl_tames ?_
      (try simp only [Act.put, List.setIfInBounds_toArray, List.set_cons_zero, List.set_cons_succ])
      repeat (first
        | (refine pl_run (v := ?_) rfl ?_ (fun W hW => ?_) ?_; rotate_left; rfl; ((try dsimp only at hW); go_simp; try with_reducible rfl); (try simp only [Act.put, List.setIfInBounds_toArray, List.set_cons_zero, List.set_cons_succ]))
        | (refine pl_skip rfl ?_ ?_; rfl; (try simp only [Act.put, List.setIfInBounds_toArray, List.set_cons_zero, List.set_cons_succ])))
      refine pl_end ?_
      have BS : Blk w4 W0.heap.size 81 #[.int .i64 0, .slice none 0 0, .slice none 0 0, .slice none 0 0, .map none] := B4
      have XS : Ext W0 w4 := X4
      have gS : W0.heap.size ≤ W0.heap.size := by omega
      have MS : MapA w4 mp (ownL B.orders B.orders.length) := hM4
      have nS : mp ≠ W0.heap.size := by (first | omega | (simp at *; omega))
      generalize w4 = WS at BS XS MS ⊢
      obtain ⟨kS0, kS1, kS2, kS3, kS4⟩ := BS.c5
      have fS0 := BS.frozen 0
      have fS1 := BS.frozen 1
      have fS2 := BS.frozen 2
      have fS3 := BS.frozen 3
      have fS4 := BS.frozen 4
      refine pl_one rfl (by rfl) (fun K hK => ?_)
      go_simp
      refine hK.out _ _ (HH.out _ (below5 XS gS (.int .i64 B.comp) (.slice a1 B.bounds.length c1) (.slice a2 B.orders.length c2) (.slice a3 B.shots.length c3) (.map (some mp)))) ?_
      clear hK K
      (try simp only [Act.put, List.setIfInBounds_toArray, List.set_cons_zero, List.set_cons_succ])
      refine pl_tames ?_
      (try simp only [Act.put, List.setIfInBounds_toArray, List.set_cons_zero, List.set_cons_succ])
      repeat (first
        | (refine pl_run (v := ?_) rfl ?_ (fun W hW => ?_) ?_; rotate_left; rfl; ((try dsimp only at hW); go_simp; try with_reducible rfl); (try simp only [Act.put, List.setIfInBounds_toArray, List.set_cons_zero, List.set_cons_succ]))
        | (refine pl_skip rfl ?_ ?_; rfl; (try simp only [Act.put, List.setIfInBounds_toArray, List.set_cons_zero, List.set_cons_succ])))
      refine pl_end ?_
      refine pl_done ?_
      (try simp only [Act.put])
      go_wp2
      go_meet
      case rel => exact ⟨W0.heap.size, mp, rfl, rfl, (puts5 BS (.int .i64 B.comp) (.slice a1 B.bounds.length c1) (.slice a2 B.orders.length c2) (.slice a3 B.shots.length c3) (.map (some mp))), (MS.puts5 nS (.int .i64 B.comp) (.slice a1 B.bounds.length c1) (.slice a2 B.orders.length c2) (.slice a3 B.shots.length c3) (.map (some mp))), by have := b0.lt; omega, (below5 XS gS (.int .i64 B.comp) (.slice a1 B.bounds.length c1) (.slice a2 B.orders.length c2) (.slice a3 B.shots.length c3) (.map (some mp)))⟩
  case rest =>
    obtain ⟨g, mp, rfl, rfl, hb, hM, hg, hX⟩ := hcut
    obtain ⟨x0, x1, x2, x3, x4⟩ := hb.c5
    go_wp2_with (fail)
    refine (owners_any B a1 a2 a3 c1 c2 c3 mp s m wc ((HB.out.ext E0).ext hX) ((HG.out.ext E0).ext hX) hM hv hs).mono ?_
    rintro e w1 ⟨⟨a, cp, rfl, hI⟩, hE1⟩
    go_wp2
    refine bodyPost_ret (v := .tuple #[.slice a (ownersL B s m).length cp, .int .i64 0]) ?_ rfl ⟨⟨a, cp, rfl, hI⟩, E0.trans (Ext.trans hX hE1)⟩
    simp [results, Tryd.results19, go_sem]
end Go.Proofs.YtnhdcdhpfgdphaaDoor
