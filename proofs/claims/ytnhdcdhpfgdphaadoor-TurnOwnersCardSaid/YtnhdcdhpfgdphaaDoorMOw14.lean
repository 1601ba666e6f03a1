/-
  The exported function Owners.
-/
import Derived.Test.YtnhdcdhpfgdphaaDoorMOw8
import Derived.Test.YtnhdcdhpfgdphaaDoorMOw9
set_option linter.unusedSimpArgs false
set_option linter.unusedVariables false
namespace Go.Proofs.YtnhdcdhpfgdphaaDoor
open Go Go.RowKit

set_option maxRecDepth 100000 in
set_option maxHeartbeats 4000000 in
theorem owners_no (B : Bk) (a1 a2 a3 : Option Addr) (c1 c2 c3 : Nat) (s m : Int) (w : World) (h : BookA w B a1 a2 a3) (hG : Glob w) (hne : askE B (isStB B s && isMinB m) ≠ 0) :
    Calls Tryd.prog 19 #[.agg #[.int .i64 B.comp, .slice a1 B.bounds.length c1, .slice a2 B.orders.length c2, .slice a3 B.shots.length c3], .int .i64 s, .int .i64 m] w
      fun e w' => e = .returned (.tuple #[.slice none 0 0, .int .i64 (askE B (isStB B s && isMinB m))]) ∧ Ext w w' := by
  cases hs : isStB B s
  · rw [hs, Bool.false_and] at hne
    rw [Bool.false_and]
    have HB := Lib.hid h
    have HG := Lib.hid hG
    have l2 := h.l2
    have l3 := h.l3
    clear h hG
    go_enter Tryd.func19, Tryd.ntmps19
    go_upto_region 1 with (fail)
    obtain ⟨W0, hW0⟩ : ∃ W0, W0 = w.alloc (.cells #[.int .i64 B.comp, .slice a1 B.bounds.length c1, .slice a2 B.orders.length c2, .slice a3 B.shots.length c3] 26) := ⟨_, rfl⟩
    have b0 : Blk W0 w.heap.size 26 #[.int .i64 B.comp, .slice a1 B.bounds.length c1, .slice a2 B.orders.length c2, .slice a3 B.shots.length c3] := by rw [hW0]; exact Blk.new _ _ _
    have E0 : Ext w W0 := by rw [hW0]; exact Ext.alloc _ _
    rw [← hW0]
    clear hW0
    have HH : Hid (∀ W, Ext W0 W → (W.cell? ⟨w.heap.size, 0, none⟩ = some (.int .i64 B.comp) ∧ W.cell? ⟨w.heap.size, 1, none⟩ = some (.slice a1 B.bounds.length c1) ∧ W.cell? ⟨w.heap.size, 2, none⟩ = some (.slice a2 B.orders.length c2) ∧ W.cell? ⟨w.heap.size, 3, none⟩ = some (.slice a3 B.shots.length c3))) := Lib.hid fun W e => (b0.ext e).c4
    go_cut [8, 9] (fun p e wx => ∃ g, p = .pointer (some ⟨g, 0, none⟩) ∧ e = .int .i64 (askE B false) ∧ Ext W0 wx)
    case first =>
      refine wp_plan (fun W => W.cell? ⟨w.heap.size, 0, none⟩ = some (.int .i64 B.comp) ∧ W.cell? ⟨w.heap.size, 1, none⟩ = some (.slice a1 B.bounds.length c1) ∧ W.cell? ⟨w.heap.size, 2, none⟩ = some (.slice a2 B.orders.length c2) ∧ W.cell? ⟨w.heap.size, 3, none⟩ = some (.slice a3 B.shots.length c3)) (.tames [0, 1, 2] (.two 3 12 (.tames [4, 5] (.two 6 12 (.tames [7] (.two 8 12 (.tames [9, 10, 11] (.one 12 (.one 13 (.tames [14] (.done))))) (.one 8 (.tames [9, 10, 11] (.one 13 (.tames [14] (.done))))))) (.one 6 (.tames [7] (.one 8 (.tames [9, 10, 11] (.one 13 (.tames [14] (.done))))))))) (.one 3 (.tames [4, 5] (.one 6 (.tames [7] (.one 8 (.tames [9, 10, 11] (.one 13 (.tames [14] (.done))))))))))) (by kernel_rfl) (by kernel_rfl) (by kernel_rfl) (fun c a d v w h => by cases d <;> exact h) ?_ ?_
      · exact HH.out _ (Ext.drew _)
      refine pl_tames ?_
      (try simp only [Act.put, List.setIfInBounds_toArray, List.set_cons_zero, List.set_cons_succ])
      repeat (first
        | (refine pl_run (v := ?_) rfl ?_ (fun W hW => ?_) ?_; rotate_left; rfl; ((try dsimp only at hW); go_simp; try with_reducible rfl); (try simp only [Act.put, List.setIfInBounds_toArray, List.set_cons_zero, List.set_cons_succ]))
        | (refine pl_skip rfl ?_ ?_; rfl; (try simp only [Act.put, List.setIfInBounds_toArray, List.set_cons_zero, List.set_cons_succ])))
      refine pl_end ?_
      refine pl_two ?_ ?_
      · refine pl_one rfl (by rfl) (fun K hK => ?_)
        go_simp
        go_at_call 69
        refine ((isSt_any B a1 a2 a3 c1 c2 c3 s _ l2).mono (fun e w' q => (⟨by rw [q.1, hs], q.2⟩ : e = .returned (.bool false) ∧ _))).mono ?_
        rintro e w1 ⟨rfl, hE1⟩
        have X1 : Ext W0 w1 := Ext.trans (Ext.drew W0) hE1
        have hz1 := hE1.size
        refine hK.out _ _ (HH.out _ (X1)) ?_
        clear hK K
        (try simp only [Act.put, List.setIfInBounds_toArray, List.set_cons_zero, List.set_cons_succ])
        refine pl_tames ?_
        (try simp only [Act.put, List.setIfInBounds_toArray, List.set_cons_zero, List.set_cons_succ])
        repeat (first
          | (refine pl_run (v := ?_) rfl ?_ (fun W hW => ?_) ?_; rotate_left; rfl; ((try dsimp only at hW); go_simp; try with_reducible rfl); (try simp only [Act.put, List.setIfInBounds_toArray, List.set_cons_zero, List.set_cons_succ]))
          | (refine pl_skip rfl ?_ ?_; rfl; (try simp only [Act.put, List.setIfInBounds_toArray, List.set_cons_zero, List.set_cons_succ])))
        refine pl_end ?_
        refine pl_two ?_ ?_
        · refine pl_one_skip rfl (by rfl) (HH.out _ (X1)) ?_
          (try simp only [Act.put, List.setIfInBounds_toArray, List.set_cons_zero, List.set_cons_succ])
          refine pl_tames ?_
          (try simp only [Act.put, List.setIfInBounds_toArray, List.set_cons_zero, List.set_cons_succ])
          repeat (first
            | (refine pl_run (v := ?_) rfl ?_ (fun W hW => ?_) ?_; rotate_left; rfl; ((try dsimp only at hW); go_simp; try with_reducible rfl); (try simp only [Act.put, List.setIfInBounds_toArray, List.set_cons_zero, List.set_cons_succ]))
            | (refine pl_skip rfl ?_ ?_; rfl; (try simp only [Act.put, List.setIfInBounds_toArray, List.set_cons_zero, List.set_cons_succ])))
          refine pl_end ?_
          refine pl_two ?_ ?_
          · refine pl_one rfl (by rfl) (fun K hK => ?_)
            go_simp
            go_at_call 58
            refine (asked_ref B a1 a2 a3 c1 c2 c3 _ _ ((HB.out.ext E0).ext (X1)) ((HG.out.ext E0).ext (X1)) hne).mono ?_
            rintro e w3 ⟨rfl, hE3⟩
            have X3 : Ext W0 w3 := Ext.trans (X1) hE3
            have hz3 := hE3.size
            refine hK.out _ _ (HH.out _ (X3)) ?_
            clear hK K
            (try simp only [Act.put, List.setIfInBounds_toArray, List.set_cons_zero, List.set_cons_succ])
            refine pl_tames ?_
            (try simp only [Act.put, List.setIfInBounds_toArray, List.set_cons_zero, List.set_cons_succ])
            repeat (first
              | (refine pl_run (v := ?_) rfl ?_ (fun W hW => ?_) ?_; rotate_left; rfl; ((try dsimp only at hW); go_simp; try with_reducible rfl); (try simp only [Act.put, List.setIfInBounds_toArray, List.set_cons_zero, List.set_cons_succ]))
              | (refine pl_skip rfl ?_ ?_; rfl; (try simp only [Act.put, List.setIfInBounds_toArray, List.set_cons_zero, List.set_cons_succ])))
            refine pl_end ?_
            refine pl_one rfl (by rfl) (fun K hK => ?_)
            go_simp
            have X4 : Ext W0 (w3.alloc (.cells #[.int .i64 0, .slice none 0 0, .slice none 0 0, .slice none 0 0, .map none] 81)) := Ext.trans (X3) (Ext.alloc _ _)
            have B4 : Blk (w3.alloc (.cells #[.int .i64 0, .slice none 0 0, .slice none 0 0, .slice none 0 0, .map none] 81)) w3.heap.size 81 #[.int .i64 0, .slice none 0 0, .slice none 0 0, .slice none 0 0, .map none] := Blk.new _ _ _
            have hg4 : W0.heap.size ≤ w3.heap.size := Below.size (X3)
            have ha4 : (w3.alloc (.cells #[.int .i64 0, .slice none 0 0, .slice none 0 0, .slice none 0 0, .map none] 81)).heap.size = w3.heap.size + 1 := by simp
            refine hK.out _ _ (HH.out _ (X4)) ?_
            clear hK K
            (try simp only [Act.put, List.setIfInBounds_toArray, List.set_cons_zero, List.set_cons_succ])
            have BS : Blk (w3.alloc (.cells #[.int .i64 0, .slice none 0 0, .slice none 0 0, .slice none 0 0, .map none] 81)) w3.heap.size 81 #[.int .i64 0, .slice none 0 0, .slice none 0 0, .slice none 0 0, .map none] := B4
            have XS : Ext W0 (w3.alloc (.cells #[.int .i64 0, .slice none 0 0, .slice none 0 0, .slice none 0 0, .map none] 81)) := X4
            have gS : W0.heap.size ≤ w3.heap.size := by omega
            generalize (w3.alloc (.cells #[.int .i64 0, .slice none 0 0, .slice none 0 0, .slice none 0 0, .map none] 81)) = WS at BS XS ⊢
            obtain ⟨kS0, kS1, kS2, kS3, kS4⟩ := BS.c5
            have fS0 := BS.frozen 0
            have fS1 := BS.frozen 1
            have fS2 := BS.frozen 2
            have fS3 := BS.frozen 3
            have fS4 := BS.frozen 4
            refine pl_one rfl (by rfl) (fun K hK => ?_)
            go_simp
            refine hK.out _ _ (HH.out _ (below5 XS gS (.int .i64 0) (.slice none 0 0) (.slice none 0 0) (.slice none 0 0) (.map none))) ?_
            clear hK K
            (try simp only [Act.put, List.setIfInBounds_toArray, List.set_cons_zero, List.set_cons_succ])
            refine pl_tames ?_
            (try simp only [Act.put, List.setIfInBounds_toArray, List.set_cons_zero, List.set_cons_succ])
            repeat (first
              | (refine pl_run (v := ?_) rfl ?_ (fun W hW => ?_) ?_; rotate_left; rfl; ((try dsimp only at hW); go_simp; try with_reducible rfl); (try simp only [Act.put, List.setIfInBounds_toArray, List.set_cons_zero, List.set_cons_succ]))
              | (refine pl_skip rfl ?_ ?_; rfl; (try simp only [Act.put, List.setIfInBounds_toArray, List.set_cons_zero, List.set_cons_succ])))
            refine pl_end ?_
            refine pl_done ?_
            (try simp only [Act.put])
            go_wp2
            go_meet
            case rel => exact ⟨w3.heap.size, rfl, rfl, (below5 XS gS (.int .i64 0) (.slice none 0 0) (.slice none 0 0) (.slice none 0 0) (.map none))⟩
          · refine pl_one rfl (by rfl) (fun K hK => ?_)
            go_simp
            have X3 : Ext W0 (w1.alloc (.cells #[.int .i64 0, .slice none 0 0, .slice none 0 0, .slice none 0 0, .map none] 81)) := Ext.trans (X1) (Ext.alloc _ _)
            have B3 : Blk (w1.alloc (.cells #[.int .i64 0, .slice none 0 0, .slice none 0 0, .slice none 0 0, .map none] 81)) w1.heap.size 81 #[.int .i64 0, .slice none 0 0, .slice none 0 0, .slice none 0 0, .map none] := Blk.new _ _ _
            have hg3 : W0.heap.size ≤ w1.heap.size := Below.size (X1)
            have ha3 : (w1.alloc (.cells #[.int .i64 0, .slice none 0 0, .slice none 0 0, .slice none 0 0, .map none] 81)).heap.size = w1.heap.size + 1 := by simp
            refine hK.out _ _ (HH.out _ (X3)) ?_
            clear hK K
            (try simp only [Act.put, List.setIfInBounds_toArray, List.set_cons_zero, List.set_cons_succ])
            refine pl_one rfl (by rfl) (fun K hK => ?_)
            go_simp
            go_at_call 58
            refine (asked_ref B a1 a2 a3 c1 c2 c3 _ _ ((HB.out.ext E0).ext (X3)) ((HG.out.ext E0).ext (X3)) hne).mono ?_
            rintro e w4 ⟨rfl, hE4⟩
            have X4 : Ext W0 w4 := Ext.trans (X3) hE4
            have hz4 := hE4.size
            have B4 := Blk.ext (B3) hE4
            refine hK.out _ _ (HH.out _ (X4)) ?_
            clear hK K
            (try simp only [Act.put, List.setIfInBounds_toArray, List.set_cons_zero, List.set_cons_succ])
            refine pl_tames ?_
            (try simp only [Act.put, List.setIfInBounds_toArray, List.set_cons_zero, List.set_cons_succ])
            repeat (first
              | (refine pl_run (v := ?_) rfl ?_ (fun W hW => ?_) ?_; rotate_left; rfl; ((try dsimp only at hW); go_simp; try with_reducible rfl); (try simp only [Act.put, List.setIfInBounds_toArray, List.set_cons_zero, List.set_cons_succ]))
              | (refine pl_skip rfl ?_ ?_; rfl; (try simp only [Act.put, List.setIfInBounds_toArray, List.set_cons_zero, List.set_cons_succ])))
            refine pl_end ?_
            have BS : Blk w4 w1.heap.size 81 #[.int .i64 0, .slice none 0 0, .slice none 0 0, .slice none 0 0, .map none] := B4
            have XS : Ext W0 w4 := X4
            have gS : W0.heap.size ≤ w1.heap.size := by omega
            generalize w4 = WS at BS XS ⊢
            obtain ⟨kS0, kS1, kS2, kS3, kS4⟩ := BS.c5
            have fS0 := BS.frozen 0
            have fS1 := BS.frozen 1
            have fS2 := BS.frozen 2
            have fS3 := BS.frozen 3
            have fS4 := BS.frozen 4
            refine pl_one rfl (by rfl) (fun K hK => ?_)
            go_simp
            refine hK.out _ _ (HH.out _ (below5 XS gS (.int .i64 0) (.slice none 0 0) (.slice none 0 0) (.slice none 0 0) (.map none))) ?_
            clear hK K
            (try simp only [Act.put, List.setIfInBounds_toArray, List.set_cons_zero, List.set_cons_succ])
            refine pl_tames ?_
            (try simp only [Act.put, List.setIfInBounds_toArray, List.set_cons_zero, List.set_cons_succ])
            repeat (first
              | (refine pl_run (v := ?_) rfl ?_ (fun W hW => ?_) ?_; rotate_left; rfl; ((try dsimp only at hW); go_simp; try with_reducible rfl); (try simp only [Act.put, List.setIfInBounds_toArray, List.set_cons_zero, List.set_cons_succ]))
              | (refine pl_skip rfl ?_ ?_; rfl; (try simp only [Act.put, List.setIfInBounds_toArray, List.set_cons_zero, List.set_cons_succ])))
            refine pl_end ?_
            refine pl_done ?_
            (try simp only [Act.put])
            go_wp2
            go_meet
            case rel => exact ⟨w1.heap.size, rfl, rfl, (below5 XS gS (.int .i64 0) (.slice none 0 0) (.slice none 0 0) (.slice none 0 0) (.map none))⟩
        · refine pl_one rfl (by rfl) (fun K hK => ?_)
          go_simp
          have X2 : Ext W0 (w1.alloc (.cells #[.int .i64 0, .slice none 0 0, .slice none 0 0, .slice none 0 0, .map none] 81)) := Ext.trans (X1) (Ext.alloc _ _)
          have B2 : Blk (w1.alloc (.cells #[.int .i64 0, .slice none 0 0, .slice none 0 0, .slice none 0 0, .map none] 81)) w1.heap.size 81 #[.int .i64 0, .slice none 0 0, .slice none 0 0, .slice none 0 0, .map none] := Blk.new _ _ _
          have hg2 : W0.heap.size ≤ w1.heap.size := Below.size (X1)
          have ha2 : (w1.alloc (.cells #[.int .i64 0, .slice none 0 0, .slice none 0 0, .slice none 0 0, .map none] 81)).heap.size = w1.heap.size + 1 := by simp
          refine hK.out _ _ (HH.out _ (X2)) ?_
          clear hK K
          (try simp only [Act.put, List.setIfInBounds_toArray, List.set_cons_zero, List.set_cons_succ])
          refine pl_one_skip rfl (by rfl) (HH.out _ (X2)) ?_
          (try simp only [Act.put, List.setIfInBounds_toArray, List.set_cons_zero, List.set_cons_succ])
          refine pl_tames ?_
          (try simp only [Act.put, List.setIfInBounds_toArray, List.set_cons_zero, List.set_cons_succ])
          repeat (first
            | (refine pl_run (v := ?_) rfl ?_ (fun W hW => ?_) ?_; rotate_left; rfl; ((try dsimp only at hW); go_simp; try with_reducible rfl); (try simp only [Act.put, List.setIfInBounds_toArray, List.set_cons_zero, List.set_cons_succ]))
            | (refine pl_skip rfl ?_ ?_; rfl; (try simp only [Act.put, List.setIfInBounds_toArray, List.set_cons_zero, List.set_cons_succ])))
          refine pl_end ?_
          refine pl_one rfl (by rfl) (fun K hK => ?_)
          go_simp
          go_at_call 58
          refine (asked_ref B a1 a2 a3 c1 c2 c3 _ _ ((HB.out.ext E0).ext (X2)) ((HG.out.ext E0).ext (X2)) hne).mono ?_
          rintro e w4 ⟨rfl, hE4⟩
          have X4 : Ext W0 w4 := Ext.trans (X2) hE4
          have hz4 := hE4.size
          have B4 := Blk.ext (B2) hE4
          refine hK.out _ _ (HH.out _ (X4)) ?_
          clear hK K
          (try simp only [Act.put, List.setIfInBounds_toArray, List.set_cons_zero, List.set_cons_succ])
          refine pl_tames ?_
          (try simp only [Act.put, List.setIfInBounds_toArray, List.set_cons_zero, List.set_cons_succ])
          repeat (first
            | (refine pl_run (v := ?_) rfl ?_ (fun W hW => ?_) ?_; rotate_left; rfl; ((try dsimp only at hW); go_simp; try with_reducible rfl); (try simp only [Act.put, List.setIfInBounds_toArray, List.set_cons_zero, List.set_cons_succ]))
            | (refine pl_skip rfl ?_ ?_; rfl; (try simp only [Act.put, List.setIfInBounds_toArray, List.set_cons_zero, List.set_cons_succ])))
          refine pl_end ?_
          have BS : Blk w4 w1.heap.size 81 #[.int .i64 0, .slice none 0 0, .slice none 0 0, .slice none 0 0, .map none] := B4
          have XS : Ext W0 w4 := X4
          have gS : W0.heap.size ≤ w1.heap.size := by omega
          generalize w4 = WS at BS XS ⊢
          obtain ⟨kS0, kS1, kS2, kS3, kS4⟩ := BS.c5
          have fS0 := BS.frozen 0
          have fS1 := BS.frozen 1
          have fS2 := BS.frozen 2
          have fS3 := BS.frozen 3
          have fS4 := BS.frozen 4
          refine pl_one rfl (by rfl) (fun K hK => ?_)
          go_simp
          refine hK.out _ _ (HH.out _ (below5 XS gS (.int .i64 0) (.slice none 0 0) (.slice none 0 0) (.slice none 0 0) (.map none))) ?_
          clear hK K
          (try simp only [Act.put, List.setIfInBounds_toArray, List.set_cons_zero, List.set_cons_succ])
          refine pl_tames ?_
          (try simp only [Act.put, List.setIfInBounds_toArray, List.set_cons_zero, List.set_cons_succ])
          repeat (first
            | (refine pl_run (v := ?_) rfl ?_ (fun W hW => ?_) ?_; rotate_left; rfl; ((try dsimp only at hW); go_simp; try with_reducible rfl); (try simp only [Act.put, List.setIfInBounds_toArray, List.set_cons_zero, List.set_cons_succ]))
            | (refine pl_skip rfl ?_ ?_; rfl; (try simp only [Act.put, List.setIfInBounds_toArray, List.set_cons_zero, List.set_cons_succ])))
          refine pl_end ?_
          refine pl_done ?_
          (try simp only [Act.put])
          go_wp2
          go_meet
          case rel => exact ⟨w1.heap.size, rfl, rfl, (below5 XS gS (.int .i64 0) (.slice none 0 0) (.slice none 0 0) (.slice none 0 0) (.map none))⟩
      · refine pl_one rfl (by rfl) (fun K hK => ?_)
        go_simp
        have X1 : Ext W0 (W0.alloc (.cells #[.int .i64 0, .slice none 0 0, .slice none 0 0, .slice none 0 0, .map none] 81)).drew := Ext.trans (Ext.alloc _ _) (Ext.drew _)
        have B1 : Blk (W0.alloc (.cells #[.int .i64 0, .slice none 0 0, .slice none 0 0, .slice none 0 0, .map none] 81)).drew W0.heap.size 81 #[.int .i64 0, .slice none 0 0, .slice none 0 0, .slice none 0 0, .map none] := (Blk.new _ _ _).drew
        have ha1 : (W0.alloc (.cells #[.int .i64 0, .slice none 0 0, .slice none 0 0, .slice none 0 0, .map none] 81)).drew.heap.size = W0.heap.size + 1 := by simp
        refine hK.out _ _ (HH.out _ (X1)) ?_
        clear hK K
        (try simp only [Act.put, List.setIfInBounds_toArray, List.set_cons_zero, List.set_cons_succ])
        refine pl_one rfl (by rfl) (fun K hK => ?_)
        go_simp
        go_at_call 69
        refine ((isSt_any B a1 a2 a3 c1 c2 c3 s _ l2).mono (fun e w' q => (⟨by rw [q.1, hs], q.2⟩ : e = .returned (.bool false) ∧ _))).mono ?_
        rintro e w2 ⟨rfl, hE2⟩
        have X2 : Ext W0 w2 := Ext.trans (X1) hE2
        have hz2 := hE2.size
        have B2 := Blk.ext (B1) hE2
        refine hK.out _ _ (HH.out _ (X2)) ?_
        clear hK K
        (try simp only [Act.put, List.setIfInBounds_toArray, List.set_cons_zero, List.set_cons_succ])
        refine pl_tames ?_
        (try simp only [Act.put, List.setIfInBounds_toArray, List.set_cons_zero, List.set_cons_succ])
        repeat (first
          | (refine pl_run (v := ?_) rfl ?_ (fun W hW => ?_) ?_; rotate_left; rfl; ((try dsimp only at hW); go_simp; try with_reducible rfl); (try simp only [Act.put, List.setIfInBounds_toArray, List.set_cons_zero, List.set_cons_succ]))
          | (refine pl_skip rfl ?_ ?_; rfl; (try simp only [Act.put, List.setIfInBounds_toArray, List.set_cons_zero, List.set_cons_succ])))
        refine pl_end ?_
        refine pl_one_skip rfl (by rfl) (HH.out _ (X2)) ?_
        (try simp only [Act.put, List.setIfInBounds_toArray, List.set_cons_zero, List.set_cons_succ])
        refine pl_tames ?_
        (try simp only [Act.put, List.setIfInBounds_toArray, List.set_cons_zero, List.set_cons_succ])
        repeat (first
          | (refine pl_run (v := ?_) rfl ?_ (fun W hW => ?_) ?_; rotate_left; rfl; ((try dsimp only at hW); go_simp; try with_reducible rfl); (try simp only [Act.put, List.setIfInBounds_toArray, List.set_cons_zero, List.set_cons_succ]))
          | (refine pl_skip rfl ?_ ?_; rfl; (try simp only [Act.put, List.setIfInBounds_toArray, List.set_cons_zero, List.set_cons_succ])))
        refine pl_end ?_
        refine pl_one rfl (by rfl) (fun K hK => ?_)
        go_simp
        go_at_call 58
        refine (asked_ref B a1 a2 a3 c1 c2 c3 _ _ ((HB.out.ext E0).ext (X2)) ((HG.out.ext E0).ext (X2)) hne).mono ?_
        rintro e w4 ⟨rfl, hE4⟩
        have X4 : Ext W0 w4 := Ext.trans (X2) hE4
        have hz4 := hE4.size
        have B4 := Blk.ext (B2) hE4
        refine hK.out _ _ (HH.out _ (X4)) ?_
        clear hK K
        (try simp only [Act.put, List.setIfInBounds_toArray, List.set_cons_zero, List.set_cons_succ])
        refine pl_tames ?_
        (try simp only [Act.put, List.setIfInBounds_toArray, List.set_cons_zero, List.set_cons_succ])
        repeat (first
          | (refine pl_run (v := ?_) rfl ?_ (fun W hW => ?_) ?_; rotate_left; rfl; ((try dsimp only at hW); go_simp; try with_reducible rfl); (try simp only [Act.put, List.setIfInBounds_toArray, List.set_cons_zero, List.set_cons_succ]))
          | (refine pl_skip rfl ?_ ?_; rfl; (try simp only [Act.put, List.setIfInBounds_toArray, List.set_cons_zero, List.set_cons_succ])))
        refine pl_end ?_
        have BS : Blk w4 W0.heap.size 81 #[.int .i64 0, .slice none 0 0, .slice none 0 0, .slice none 0 0, .map none] := B4
        have XS : Ext W0 w4 := X4
        have gS : W0.heap.size ≤ W0.heap.size := by omega
        generalize w4 = WS at BS XS ⊢
        obtain ⟨kS0, kS1, kS2, kS3, kS4⟩ := BS.c5
        have fS0 := BS.frozen 0
        have fS1 := BS.frozen 1
        have fS2 := BS.frozen 2
        have fS3 := BS.frozen 3
        have fS4 := BS.frozen 4
        refine pl_one rfl (by rfl) (fun K hK => ?_)
        go_simp
        refine hK.out _ _ (HH.out _ (below5 XS gS (.int .i64 0) (.slice none 0 0) (.slice none 0 0) (.slice none 0 0) (.map none))) ?_
        clear hK K
        (try simp only [Act.put, List.setIfInBounds_toArray, List.set_cons_zero, List.set_cons_succ])
        refine pl_tames ?_
        (try simp only [Act.put, List.setIfInBounds_toArray, List.set_cons_zero, List.set_cons_succ])
        repeat (first
          | (refine pl_run (v := ?_) rfl ?_ (fun W hW => ?_) ?_; rotate_left; rfl; ((try dsimp only at hW); go_simp; try with_reducible rfl); (try simp only [Act.put, List.setIfInBounds_toArray, List.set_cons_zero, List.set_cons_succ]))
          | (refine pl_skip rfl ?_ ?_; rfl; (try simp only [Act.put, List.setIfInBounds_toArray, List.set_cons_zero, List.set_cons_succ])))
        refine pl_end ?_
        refine pl_done ?_
        (try simp only [Act.put])
        go_wp2
        go_meet
        case rel => exact ⟨W0.heap.size, rfl, rfl, (below5 XS gS (.int .i64 0) (.slice none 0 0) (.slice none 0 0) (.slice none 0 0) (.map none))⟩
    case rest =>
      obtain ⟨g, rfl, rfl, hX⟩ := hcut
      obtain ⟨c, hc⟩ : ∃ c, c = askE B false := ⟨_, rfl⟩
      rw [← hc] at hne ⊢
      have hcn : (c != 0) = true := by simp [hne]
      go_wp2
      refine bodyPost_ret (v := .tuple #[.slice none 0 0, .int .i64 c]) ?_ rfl ⟨by rw [hc], E0.trans hX⟩
      simp [results, Tryd.results19, go_sem]
  · rw [hs, Bool.true_and] at hne
    rw [Bool.true_and]
    have HB := Lib.hid h
    have HG := Lib.hid hG
    have l2 := h.l2
    have l3 := h.l3
    clear h hG
    go_enter Tryd.func19, Tryd.ntmps19
    go_upto_region 1 with (fail)
    obtain ⟨W0, hW0⟩ : ∃ W0, W0 = w.alloc (.cells #[.int .i64 B.comp, .slice a1 B.bounds.length c1, .slice a2 B.orders.length c2, .slice a3 B.shots.length c3] 26) := ⟨_, rfl⟩
    have b0 : Blk W0 w.heap.size 26 #[.int .i64 B.comp, .slice a1 B.bounds.length c1, .slice a2 B.orders.length c2, .slice a3 B.shots.length c3] := by rw [hW0]; exact Blk.new _ _ _
    have E0 : Ext w W0 := by rw [hW0]; exact Ext.alloc _ _
    rw [← hW0]
    clear hW0
    have HH : Hid (∀ W, Ext W0 W → (W.cell? ⟨w.heap.size, 0, none⟩ = some (.int .i64 B.comp) ∧ W.cell? ⟨w.heap.size, 1, none⟩ = some (.slice a1 B.bounds.length c1) ∧ W.cell? ⟨w.heap.size, 2, none⟩ = some (.slice a2 B.orders.length c2) ∧ W.cell? ⟨w.heap.size, 3, none⟩ = some (.slice a3 B.shots.length c3))) := Lib.hid fun W e => (b0.ext e).c4
    go_cut [8, 9] (fun p e wx => ∃ g, p = .pointer (some ⟨g, 0, none⟩) ∧ e = .int .i64 (askE B (isMinB m)) ∧ Ext W0 wx)
    case first =>
      refine wp_plan (fun W => W.cell? ⟨w.heap.size, 0, none⟩ = some (.int .i64 B.comp) ∧ W.cell? ⟨w.heap.size, 1, none⟩ = some (.slice a1 B.bounds.length c1) ∧ W.cell? ⟨w.heap.size, 2, none⟩ = some (.slice a2 B.orders.length c2) ∧ W.cell? ⟨w.heap.size, 3, none⟩ = some (.slice a3 B.shots.length c3)) (.tames [0, 1, 2] (.two 3 12 (.tames [4, 5] (.two 6 12 (.tames [7] (.two 8 12 (.tames [9, 10, 11] (.one 12 (.one 13 (.tames [14] (.done))))) (.one 8 (.tames [9, 10, 11] (.one 13 (.tames [14] (.done))))))) (.one 6 (.tames [7] (.one 8 (.tames [9, 10, 11] (.one 13 (.tames [14] (.done))))))))) (.one 3 (.tames [4, 5] (.one 6 (.tames [7] (.one 8 (.tames [9, 10, 11] (.one 13 (.tames [14] (.done))))))))))) (by kernel_rfl) (by kernel_rfl) (by kernel_rfl) (fun c a d v w h => by cases d <;> exact h) ?_ ?_
      · exact HH.out _ (Ext.drew _)
      refine pl_tames ?_
      (try simp only [Act.put, List.setIfInBounds_toArray, List.set_cons_zero, List.set_cons_succ])
      repeat (first
        | (refine pl_run (v := ?_) rfl ?_ (fun W hW => ?_) ?_; rotate_left; rfl; ((try dsimp only at hW); go_simp; try with_reducible rfl); (try simp only [Act.put, List.setIfInBounds_toArray, List.set_cons_zero, List.set_cons_succ]))
        | (refine pl_skip rfl ?_ ?_; rfl; (try simp only [Act.put, List.setIfInBounds_toArray, List.set_cons_zero, List.set_cons_succ])))
      refine pl_end ?_
      refine pl_two ?_ ?_
      · refine pl_one rfl (by rfl) (fun K hK => ?_)
        go_simp
        go_at_call 69
        refine ((isSt_any B a1 a2 a3 c1 c2 c3 s _ l2).mono (fun e w' q => (⟨by rw [q.1, hs], q.2⟩ : e = .returned (.bool true) ∧ _))).mono ?_
        rintro e w1 ⟨rfl, hE1⟩
        have X1 : Ext W0 w1 := Ext.trans (Ext.drew W0) hE1
        have hz1 := hE1.size
        refine hK.out _ _ (HH.out _ (X1)) ?_
        clear hK K
        (try simp only [Act.put, List.setIfInBounds_toArray, List.set_cons_zero, List.set_cons_succ])
        refine pl_tames ?_
        (try simp only [Act.put, List.setIfInBounds_toArray, List.set_cons_zero, List.set_cons_succ])
        repeat (first
          | (refine pl_run (v := ?_) rfl ?_ (fun W hW => ?_) ?_; rotate_left; rfl; ((try dsimp only at hW); go_simp; try with_reducible rfl); (try simp only [Act.put, List.setIfInBounds_toArray, List.set_cons_zero, List.set_cons_succ]))
          | (refine pl_skip rfl ?_ ?_; rfl; (try simp only [Act.put, List.setIfInBounds_toArray, List.set_cons_zero, List.set_cons_succ])))
        refine pl_end ?_
        refine pl_two ?_ ?_
        · refine pl_one rfl (by rfl) (fun K hK => ?_)
          go_simp
          go_at_call 59
          refine (isMin_any _ _).mono ?_
          rintro e w2 ⟨rfl, rfl⟩
          refine hK.out _ _ (HH.out _ (X1)) ?_
          clear hK K
          (try simp only [Act.put, List.setIfInBounds_toArray, List.set_cons_zero, List.set_cons_succ])
          refine pl_tames ?_
          (try simp only [Act.put, List.setIfInBounds_toArray, List.set_cons_zero, List.set_cons_succ])
          repeat (first
            | (refine pl_run (v := ?_) rfl ?_ (fun W hW => ?_) ?_; rotate_left; rfl; ((try dsimp only at hW); go_simp; try with_reducible rfl); (try simp only [Act.put, List.setIfInBounds_toArray, List.set_cons_zero, List.set_cons_succ]))
            | (refine pl_skip rfl ?_ ?_; rfl; (try simp only [Act.put, List.setIfInBounds_toArray, List.set_cons_zero, List.set_cons_succ])))
          refine pl_end ?_
          refine pl_two ?_ ?_
          · refine pl_one rfl (by rfl) (fun K hK => ?_)
            go_simp
            go_at_call 58
            refine (asked_ref B a1 a2 a3 c1 c2 c3 _ _ ((HB.out.ext E0).ext (X1)) ((HG.out.ext E0).ext (X1)) hne).mono ?_
            rintro e w3 ⟨rfl, hE3⟩
            have X3 : Ext W0 w3 := Ext.trans (X1) hE3
            have hz3 := hE3.size
            refine hK.out _ _ (HH.out _ (X3)) ?_
            clear hK K
            (try simp only [Act.put, List.setIfInBounds_toArray, List.set_cons_zero, List.set_cons_succ])
            refine pl_tames ?_
            (try simp only [Act.put, List.setIfInBounds_toArray, List.set_cons_zero, List.set_cons_succ])
            repeat (first
              | (refine pl_run (v := ?_) rfl ?_ (fun W hW => ?_) ?_; rotate_left; rfl; ((try dsimp only at hW); go_simp; try with_reducible rfl); (try simp only [Act.put, List.setIfInBounds_toArray, List.set_cons_zero, List.set_cons_succ]))
              | (refine pl_skip rfl ?_ ?_; rfl; (try simp only [Act.put, List.setIfInBounds_toArray, List.set_cons_zero, List.set_cons_succ])))
            refine pl_end ?_
            refine pl_one rfl (by rfl) (fun K hK => ?_)
            go_simp
            have X4 : Ext W0 (w3.alloc (.cells #[.int .i64 0, .slice none 0 0, .slice none 0 0, .slice none 0 0, .map none] 81)) := Ext.trans (X3) (Ext.alloc _ _)
            have B4 : Blk (w3.alloc (.cells #[.int .i64 0, .slice none 0 0, .slice none 0 0, .slice none 0 0, .map none] 81)) w3.heap.size 81 #[.int .i64 0, .slice none 0 0, .slice none 0 0, .slice none 0 0, .map none] := Blk.new _ _ _
            have hg4 : W0.heap.size ≤ w3.heap.size := Below.size (X3)
            have ha4 : (w3.alloc (.cells #[.int .i64 0, .slice none 0 0, .slice none 0 0, .slice none 0 0, .map none] 81)).heap.size = w3.heap.size + 1 := by simp
            refine hK.out _ _ (HH.out _ (X4)) ?_
            clear hK K
            (try simp only [Act.put, List.setIfInBounds_toArray, List.set_cons_zero, List.set_cons_succ])
            have BS : Blk (w3.alloc (.cells #[.int .i64 0, .slice none 0 0, .slice none 0 0, .slice none 0 0, .map none] 81)) w3.heap.size 81 #[.int .i64 0, .slice none 0 0, .slice none 0 0, .slice none 0 0, .map none] := B4
            have XS : Ext W0 (w3.alloc (.cells #[.int .i64 0, .slice none 0 0, .slice none 0 0, .slice none 0 0, .map none] 81)) := X4
            have gS : W0.heap.size ≤ w3.heap.size := by omega
            generalize (w3.alloc (.cells #[.int .i64 0, .slice none 0 0, .slice none 0 0, .slice none 0 0, .map none] 81)) = WS at BS XS ⊢
            obtain ⟨kS0, kS1, kS2, kS3, kS4⟩ := BS.c5
            have fS0 := BS.frozen 0
            have fS1 := BS.frozen 1
            have fS2 := BS.frozen 2
            have fS3 := BS.frozen 3
            have fS4 := BS.frozen 4
            refine pl_one rfl (by rfl) (fun K hK => ?_)
            go_simp
            refine hK.out _ _ (HH.out _ (below5 XS gS (.int .i64 0) (.slice none 0 0) (.slice none 0 0) (.slice none 0 0) (.map none))) ?_
            clear hK K
            (try simp only [Act.put, List.setIfInBounds_toArray, List.set_cons_zero, List.set_cons_succ])
            refine pl_tames ?_
            (try simp only [Act.put, List.setIfInBounds_toArray, List.set_cons_zero, List.set_cons_succ])
            repeat (first
              | (refine pl_run (v := ?_) rfl ?_ (fun W hW => ?_) ?_; rotate_left; rfl; ((try dsimp only at hW); go_simp; try with_reducible rfl); (try simp only [Act.put, List.setIfInBounds_toArray, List.set_cons_zero, List.set_cons_succ]))
              | (refine pl_skip rfl ?_ ?_; rfl; (try simp only [Act.put, List.setIfInBounds_toArray, List.set_cons_zero, List.set_cons_succ])))
            refine pl_end ?_
            refine pl_done ?_
            (try simp only [Act.put])
            go_wp2
            go_meet
            case rel => exact ⟨w3.heap.size, rfl, rfl, (below5 XS gS (.int .i64 0) (.slice none 0 0) (.slice none 0 0) (.slice none 0 0) (.map none))⟩
          · refine pl_one rfl (by rfl) (fun K hK => ?_)
            go_simp
            have X3 : Ext W0 (w1.alloc (.cells #[.int .i64 0, .slice none 0 0, .slice none 0 0, .slice none 0 0, .map none] 81)) := Ext.trans (X1) (Ext.alloc _ _)
            have B3 : Blk (w1.alloc (.cells #[.int .i64 0, .slice none 0 0, .slice none 0 0, .slice none 0 0, .map none] 81)) w1.heap.size 81 #[.int .i64 0, .slice none 0 0, .slice none 0 0, .slice none 0 0, .map none] := Blk.new _ _ _
            have hg3 : W0.heap.size ≤ w1.heap.size := Below.size (X1)
            have ha3 : (w1.alloc (.cells #[.int .i64 0, .slice none 0 0, .slice none 0 0, .slice none 0 0, .map none] 81)).heap.size = w1.heap.size + 1 := by simp
            refine hK.out _ _ (HH.out _ (X3)) ?_
            clear hK K
            (try simp only [Act.put, List.setIfInBounds_toArray, List.set_cons_zero, List.set_cons_succ])
            refine pl_one rfl (by rfl) (fun K hK => ?_)
            go_simp
            go_at_call 58
            refine (asked_ref B a1 a2 a3 c1 c2 c3 _ _ ((HB.out.ext E0).ext (X3)) ((HG.out.ext E0).ext (X3)) hne).mono ?_
            rintro e w4 ⟨rfl, hE4⟩
            have X4 : Ext W0 w4 := Ext.trans (X3) hE4
            have hz4 := hE4.size
            have B4 := Blk.ext (B3) hE4
            refine hK.out _ _ (HH.out _ (X4)) ?_
            clear hK K
            (try simp only [Act.put, List.setIfInBounds_toArray, List.set_cons_zero, List.set_cons_succ])
            refine pl_tames ?_
            (try simp only [Act.put, List.setIfInBounds_toArray, List.set_cons_zero, List.set_cons_succ])
            repeat (first
              | (refine pl_run (v := ?_) rfl ?_ (fun W hW => ?_) ?_; rotate_left; rfl; ((try dsimp only at hW); go_simp; try with_reducible rfl); (try simp only [Act.put, List.setIfInBounds_toArray, List.set_cons_zero, List.set_cons_succ]))
              | (refine pl_skip rfl ?_ ?_; rfl; (try simp only [Act.put, List.setIfInBounds_toArray, List.set_cons_zero, List.set_cons_succ])))
            refine pl_end ?_
            have BS : Blk w4 w1.heap.size 81 #[.int .i64 0, .slice none 0 0, .slice none 0 0, .slice none 0 0, .map none] := B4
            have XS : Ext W0 w4 := X4
            have gS : W0.heap.size ≤ w1.heap.size := by omega
            generalize w4 = WS at BS XS ⊢
            obtain ⟨kS0, kS1, kS2, kS3, kS4⟩ := BS.c5
            have fS0 := BS.frozen 0
            have fS1 := BS.frozen 1
            have fS2 := BS.frozen 2
            have fS3 := BS.frozen 3
            have fS4 := BS.frozen 4
            refine pl_one rfl (by rfl) (fun K hK => ?_)
            go_simp
            refine hK.out _ _ (HH.out _ (below5 XS gS (.int .i64 0) (.slice none 0 0) (.slice none 0 0) (.slice none 0 0) (.map none))) ?_
            clear hK K
            (try simp only [Act.put, List.setIfInBounds_toArray, List.set_cons_zero, List.set_cons_succ])
            refine pl_tames ?_
            (try simp only [Act.put, List.setIfInBounds_toArray, List.set_cons_zero, List.set_cons_succ])
            repeat (first
              | (refine pl_run (v := ?_) rfl ?_ (fun W hW => ?_) ?_; rotate_left; rfl; ((try dsimp only at hW); go_simp; try with_reducible rfl); (try simp only [Act.put, List.setIfInBounds_toArray, List.set_cons_zero, List.set_cons_succ]))
              | (refine pl_skip rfl ?_ ?_; rfl; (try simp only [Act.put, List.setIfInBounds_toArray, List.set_cons_zero, List.set_cons_succ])))
            refine pl_end ?_
            refine pl_done ?_
            (try simp only [Act.put])
            go_wp2
            go_meet
            case rel => exact ⟨w1.heap.size, rfl, rfl, (below5 XS gS (.int .i64 0) (.slice none 0 0) (.slice none 0 0) (.slice none 0 0) (.map none))⟩
        · refine pl_one rfl (by rfl) (fun K hK => ?_)
          go_simp
          have X2 : Ext W0 (w1.alloc (.cells #[.int .i64 0, .slice none 0 0, .slice none 0 0, .slice none 0 0, .map none] 81)) := Ext.trans (X1) (Ext.alloc _ _)
          have B2 : Blk (w1.alloc (.cells #[.int .i64 0, .slice none 0 0, .slice none 0 0, .slice none 0 0, .map none] 81)) w1.heap.size 81 #[.int .i64 0, .slice none 0 0, .slice none 0 0, .slice none 0 0, .map none] := Blk.new _ _ _
          have hg2 : W0.heap.size ≤ w1.heap.size := Below.size (X1)
          have ha2 : (w1.alloc (.cells #[.int .i64 0, .slice none 0 0, .slice none 0 0, .slice none 0 0, .map none] 81)).heap.size = w1.heap.size + 1 := by simp
          refine hK.out _ _ (HH.out _ (X2)) ?_
          clear hK K
          (try simp only [Act.put, List.setIfInBounds_toArray, List.set_cons_zero, List.set_cons_succ])
          refine pl_one rfl (by rfl) (fun K hK => ?_)
          go_simp
          go_at_call 59
          refine (isMin_any _ _).mono ?_
          rintro e w3 ⟨rfl, rfl⟩
          refine hK.out _ _ (HH.out _ (X2)) ?_
          clear hK K
          (try simp only [Act.put, List.setIfInBounds_toArray, List.set_cons_zero, List.set_cons_succ])
          refine pl_tames ?_
          (try simp only [Act.put, List.setIfInBounds_toArray, List.set_cons_zero, List.set_cons_succ])
          repeat (first
            | (refine pl_run (v := ?_) rfl ?_ (fun W hW => ?_) ?_; rotate_left; rfl; ((try dsimp only at hW); go_simp; try with_reducible rfl); (try simp only [Act.put, List.setIfInBounds_toArray, List.set_cons_zero, List.set_cons_succ]))
            | (refine pl_skip rfl ?_ ?_; rfl; (try simp only [Act.put, List.setIfInBounds_toArray, List.set_cons_zero, List.set_cons_succ])))
          refine pl_end ?_
          refine pl_one rfl (by rfl) (fun K hK => ?_)
          go_simp
          go_at_call 58
          refine (asked_ref B a1 a2 a3 c1 c2 c3 _ _ ((HB.out.ext E0).ext (X2)) ((HG.out.ext E0).ext (X2)) hne).mono ?_
          rintro e w4 ⟨rfl, hE4⟩
          have X4 : Ext W0 w4 := Ext.trans (X2) hE4
          have hz4 := hE4.size
          have B4 := Blk.ext (B2) hE4
          refine hK.out _ _ (HH.out _ (X4)) ?_
          clear hK K
          (try simp only [Act.put, List.setIfInBounds_toArray, List.set_cons_zero, List.set_cons_succ])
          refine pl_tames ?_
          (try simp only [Act.put, List.setIfInBounds_toArray, List.set_cons_zero, List.set_cons_succ])
          repeat (first
            | (refine pl_run (v := ?_) rfl ?_ (fun W hW => ?_) ?_; rotate_left; rfl; ((try dsimp only at hW); go_simp; try with_reducible rfl); (try simp only [Act.put, List.setIfInBounds_toArray, List.set_cons_zero, List.set_cons_succ]))
            | (refine pl_skip rfl ?_ ?_; rfl; (try simp only [Act.put, List.setIfInBounds_toArray, List.set_cons_zero, List.set_cons_succ])))
          refine pl_end ?_
          have BS : Blk w4 w1.heap.size 81 #[.int .i64 0, .slice none 0 0, .slice none 0 0, .slice none 0 0, .map none] := B4
          have XS : Ext W0 w4 := X4
          have gS : W0.heap.size ≤ w1.heap.size := by omega
          generalize w4 = WS at BS XS ⊢
          obtain ⟨kS0, kS1, kS2, kS3, kS4⟩ := BS.c5
          have fS0 := BS.frozen 0
          have fS1 := BS.frozen 1
          have fS2 := BS.frozen 2
          have fS3 := BS.frozen 3
          have fS4 := BS.frozen 4
          refine pl_one rfl (by rfl) (fun K hK => ?_)
          go_simp
          refine hK.out _ _ (HH.out _ (below5 XS gS (.int .i64 0) (.slice none 0 0) (.slice none 0 0) (.slice none 0 0) (.map none))) ?_
          clear hK K
          (try simp only [Act.put, List.setIfInBounds_toArray, List.set_cons_zero, List.set_cons_succ])
          refine pl_tames ?_
          (try simp only [Act.put, List.setIfInBounds_toArray, List.set_cons_zero, List.set_cons_succ])
          repeat (first
            | (refine pl_run (v := ?_) rfl ?_ (fun W hW => ?_) ?_; rotate_left; rfl; ((try dsimp only at hW); go_simp; try with_reducible rfl); (try simp only [Act.put, List.setIfInBounds_toArray, List.set_cons_zero, List.set_cons_succ]))
            | (refine pl_skip rfl ?_ ?_; rfl; (try simp only [Act.put, List.setIfInBounds_toArray, List.set_cons_zero, List.set_cons_succ])))
          refine pl_end ?_
          refine pl_done ?_
          (try simp only [Act.put])
          go_wp2
          go_meet
          case rel => exact ⟨w1.heap.size, rfl, rfl, (below5 XS gS (.int .i64 0) (.slice none 0 0) (.slice none 0 0) (.slice none 0 0) (.map none))⟩
      · refine pl_one rfl (by rfl) (fun K hK => ?_)
        go_simp
        have X1 : Ext W0 (W0.alloc (.cells #[.int .i64 0, .slice none 0 0, .slice none 0 0, .slice none 0 0, .map none] 81)).drew := Ext.trans (Ext.alloc _ _) (Ext.drew _)
        have B1 : Blk (W0.alloc (.cells #[.int .i64 0, .slice none 0 0, .slice none 0 0, .slice none 0 0, .map none] 81)).drew W0.heap.size 81 #[.int .i64 0, .slice none 0 0, .slice none 0 0, .slice none 0 0, .map none] := (Blk.new _ _ _).drew
        have ha1 : (W0.alloc (.cells #[.int .i64 0, .slice none 0 0, .slice none 0 0, .slice none 0 0, .map none] 81)).drew.heap.size = W0.heap.size + 1 := by simp
        refine hK.out _ _ (HH.out _ (X1)) ?_
        clear hK K
        (try simp only [Act.put, List.setIfInBounds_toArray, List.set_cons_zero, List.set_cons_succ])
        refine pl_one rfl (by rfl) (fun K hK => ?_)
        go_simp
        go_at_call 69
        refine ((isSt_any B a1 a2 a3 c1 c2 c3 s _ l2).mono (fun e w' q => (⟨by rw [q.1, hs], q.2⟩ : e = .returned (.bool true) ∧ _))).mono ?_
        rintro e w2 ⟨rfl, hE2⟩
        have X2 : Ext W0 w2 := Ext.trans (X1) hE2
        have hz2 := hE2.size
        have B2 := Blk.ext (B1) hE2
        refine hK.out _ _ (HH.out _ (X2)) ?_
        clear hK K
        (try simp only [Act.put, List.setIfInBounds_toArray, List.set_cons_zero, List.set_cons_succ])
        refine pl_tames ?_
        (try simp only [Act.put, List.setIfInBounds_toArray, List.set_cons_zero, List.set_cons_succ])
        repeat (first
          | (refine pl_run (v := ?_) rfl ?_ (fun W hW => ?_) ?_; rotate_left; rfl; ((try dsimp only at hW); go_simp; try with_reducible rfl); (try simp only [Act.put, List.setIfInBounds_toArray, List.set_cons_zero, List.set_cons_succ]))
          | (refine pl_skip rfl ?_ ?_; rfl; (try simp only [Act.put, List.setIfInBounds_toArray, List.set_cons_zero, List.set_cons_succ])))
        refine pl_end ?_
        refine pl_one rfl (by rfl) (fun K hK => ?_)
        go_simp
        go_at_call 59
        refine (isMin_any _ _).mono ?_
        rintro e w3 ⟨rfl, rfl⟩
        refine hK.out _ _ (HH.out _ (X2)) ?_
        clear hK K
        (try simp only [Act.put, List.setIfInBounds_toArray, List.set_cons_zero, List.set_cons_succ])
        refine pl_tames ?_
        (try simp only [Act.put, List.setIfInBounds_toArray, List.set_cons_zero, List.set_cons_succ])
        repeat (first
          | (refine pl_run (v := ?_) rfl ?_ (fun W hW => ?_) ?_; rotate_left; rfl; ((try dsimp only at hW); go_simp; try with_reducible rfl); (try simp only [Act.put, List.setIfInBounds_toArray, List.set_cons_zero, List.set_cons_succ]))
          | (refine pl_skip rfl ?_ ?_; rfl; (try simp only [Act.put, List.setIfInBounds_toArray, List.set_cons_zero, List.set_cons_succ])))
        refine pl_end ?_
        refine pl_one rfl (by rfl) (fun K hK => ?_)
        go_simp
        go_at_call 58
        refine (asked_ref B a1 a2 a3 c1 c2 c3 _ _ ((HB.out.ext E0).ext (X2)) ((HG.out.ext E0).ext (X2)) hne).mono ?_
        rintro e w4 ⟨rfl, hE4⟩
        have X4 : Ext W0 w4 := Ext.trans (X2) hE4
        have hz4 := hE4.size
        have B4 := Blk.ext (B2) hE4
        refine hK.out _ _ (HH.out _ (X4)) ?_
        clear hK K
        (try simp only [Act.put, List.setIfInBounds_toArray, List.set_cons_zero, List.set_cons_succ])
        refine pl_tames ?_
        (try simp only [Act.put, List.setIfInBounds_toArray, List.set_cons_zero, List.set_cons_succ])
        repeat (first
          | (refine pl_run (v := ?_) rfl ?_ (fun W hW => ?_) ?_; rotate_left; rfl; ((try dsimp only at hW); go_simp; try with_reducible rfl); (try simp only [Act.put, List.setIfInBounds_toArray, List.set_cons_zero, List.set_cons_succ]))
          | (refine pl_skip rfl ?_ ?_; rfl; (try simp only [Act.put, List.setIfInBounds_toArray, List.set_cons_zero, List.set_cons_succ])))
        refine pl_end ?_
        have BS : Blk w4 W0.heap.size 81 #[.int .i64 0, .slice none 0 0, .slice none 0 0, .slice none 0 0, .map none] := B4
        have XS : Ext W0 w4 := X4
        have gS : W0.heap.size ≤ W0.heap.size := by omega
        generalize w4 = WS at BS XS ⊢
        obtain ⟨kS0, kS1, kS2, kS3, kS4⟩ := BS.c5
        have fS0 := BS.frozen 0
        have fS1 := BS.frozen 1
        have fS2 := BS.frozen 2
        have fS3 := BS.frozen 3
        have fS4 := BS.frozen 4
        refine pl_one rfl (by rfl) (fun K hK => ?_)
        go_simp
        refine hK.out _ _ (HH.out _ (below5 XS gS (.int .i64 0) (.slice none 0 0) (.slice none 0 0) (.slice none 0 0) (.map none))) ?_
        clear hK K
        (try simp only [Act.put, List.setIfInBounds_toArray, List.set_cons_zero, List.set_cons_succ])
        refine pl_tames ?_
        (try simp only [Act.put, List.setIfInBounds_toArray, List.set_cons_zero, List.set_cons_succ])
        repeat (first
          | (refine pl_run (v := ?_) rfl ?_ (fun W hW => ?_) ?_; rotate_left; rfl; ((try dsimp only at hW); go_simp; try with_reducible rfl); (try simp only [Act.put, List.setIfInBounds_toArray, List.set_cons_zero, List.set_cons_succ]))
          | (refine pl_skip rfl ?_ ?_; rfl; (try simp only [Act.put, List.setIfInBounds_toArray, List.set_cons_zero, List.set_cons_succ])))
        refine pl_end ?_
        refine pl_done ?_
        (try simp only [Act.put])
        go_wp2
        go_meet
        case rel => exact ⟨W0.heap.size, rfl, rfl, (below5 XS gS (.int .i64 0) (.slice none 0 0) (.slice none 0 0) (.slice none 0 0) (.map none))⟩
    case rest =>
      obtain ⟨g, rfl, rfl, hX⟩ := hcut
      obtain ⟨c, hc⟩ : ∃ c, c = askE B (isMinB m) := ⟨_, rfl⟩
      rw [← hc] at hne ⊢
      have hcn : (c != 0) = true := by simp [hne]
      go_wp2
      refine bodyPost_ret (v := .tuple #[.slice none 0 0, .int .i64 c]) ?_ rfl ⟨by rw [hc], E0.trans hX⟩
      simp [results, Tryd.results19, go_sem]
set_option maxRecDepth 100000 in
set_option maxHeartbeats 4000000 in
theorem owners_yes (B : Bk) (a1 a2 a3 : Option Addr) (c1 c2 c3 : Nat) (s : Nat) (m : Int) (w : World) (h : BookA w B a1 a2 a3) (hG : Glob w) (hv : validB B = true) (hs : s < B.orders.length) (hm : isMinB m = true) :
    Calls Tryd.prog 19 #[.agg #[.int .i64 B.comp, .slice a1 B.bounds.length c1, .slice a2 B.orders.length c2, .slice a3 B.shots.length c3], .int .i64 s, .int .i64 m] w
      fun e w' => (∃ a cp, e = .returned (.tuple #[.slice a (ownersL B s m).length cp, .int .i64 0]) ∧ IntA w' a (ownersL B s m)) ∧ Ext w w' := by
  have hst : isStB B s = true := by simp [isStB]; omega
  have HB := Lib.hid h
  have HG := Lib.hid hG
  have l2 := h.l2
  have l3 := h.l3
  clear h hG
  go_enter Tryd.func19, Tryd.ntmps19
  go_upto_region 1 with (fail)
  obtain ⟨W0, hW0⟩ : ∃ W0, W0 = w.alloc (.cells #[.int .i64 B.comp, .slice a1 B.bounds.length c1, .slice a2 B.orders.length c2, .slice a3 B.shots.length c3] 26) := ⟨_, rfl⟩
  have b0 : Blk W0 w.heap.size 26 #[.int .i64 B.comp, .slice a1 B.bounds.length c1, .slice a2 B.orders.length c2, .slice a3 B.shots.length c3] := by rw [hW0]; exact Blk.new _ _ _
  have E0 : Ext w W0 := by rw [hW0]; exact Ext.alloc _ _
  rw [← hW0]
  clear hW0
  have HH : Hid (∀ W, Ext W0 W → (W.cell? ⟨w.heap.size, 0, none⟩ = some (.int .i64 B.comp) ∧ W.cell? ⟨w.heap.size, 1, none⟩ = some (.slice a1 B.bounds.length c1) ∧ W.cell? ⟨w.heap.size, 2, none⟩ = some (.slice a2 B.orders.length c2) ∧ W.cell? ⟨w.heap.size, 3, none⟩ = some (.slice a3 B.shots.length c3))) := Lib.hid fun W e => (b0.ext e).c4
  go_cut [8, 9] (fun p e wx => ∃ g mp, p = .pointer (some ⟨g, 0, none⟩) ∧ e = .int .i64 0 ∧ Blk wx g 81 #[.int .i64 B.comp, .slice a1 B.bounds.length c1, .slice a2 B.orders.length c2, .slice a3 B.shots.length c3, .map (some mp)] ∧ MapA wx mp (ownL B.orders B.orders.length) ∧ w.heap.size < g ∧ Ext W0 wx)
  case first =>
    refine wp_plan (fun W => W.cell? ⟨w.heap.size, 0, none⟩ = some (.int .i64 B.comp) ∧ W.cell? ⟨w.heap.size, 1, none⟩ = some (.slice a1 B.bounds.length c1) ∧ W.cell? ⟨w.heap.size, 2, none⟩ = some (.slice a2 B.orders.length c2) ∧ W.cell? ⟨w.heap.size, 3, none⟩ = some (.slice a3 B.shots.length c3)) (.tames [0, 1, 2] (.two 3 12 (.tames [4, 5] (.two 6 12 (.tames [7] (.two 8 12 (.tames [9, 10, 11] (.one 12 (.one 13 (.tames [14] (.done))))) (.one 8 (.tames [9, 10, 11] (.one 13 (.tames [14] (.done))))))) (.one 6 (.tames [7] (.one 8 (.tames [9, 10, 11] (.one 13 (.tames [14] (.done))))))))) (.one 3 (.tames [4, 5] (.one 6 (.tames [7] (.one 8 (.tames [9, 10, 11] (.one 13 (.tames [14] (.done))))))))))) (by kernel_rfl) (by kernel_rfl) (by kernel_rfl) (fun c a d v w h => by cases d <;> exact h) ?_ ?_
    · exact HH.out _ (Ext.drew _)
    refine pl_tames ?_
    (try simp only [Act.put, List.setIfInBounds_toArray, List.set_cons_zero, List.set_cons_succ])
    repeat (first
      | (refine pl_run (v := ?_) rfl ?_ (fun W hW => ?_) ?_; rotate_left; rfl; ((try dsimp only at hW); go_simp; try with_reducible rfl); (try simp only [Act.put, List.setIfInBounds_toArray, List.set_cons_zero, List.set_cons_succ]))
      | (refine pl_skip rfl ?_ ?_; rfl; (try simp only [Act.put, List.setIfInBounds_toArray, List.set_cons_zero, List.set_cons_succ])))
    refine pl_end ?_
    refine pl_two ?_ ?_
    · refine pl_one rfl (by rfl) (fun K hK => ?_)
      go_simp
      go_at_call 69
      refine (isSt_yes B hst a1 a2 a3 c1 c2 c3 _ l2).mono ?_
      rintro e w1 ⟨rfl, hE1⟩
      have X1 : Ext W0 w1 := Ext.trans (Ext.drew W0) hE1
      have hz1 := hE1.size
      refine hK.out _ _ (HH.out _ (X1)) ?_
      clear hK K
      (try simp only [Act.put, List.setIfInBounds_toArray, List.set_cons_zero, List.set_cons_succ])
      refine pl_tames ?_
      (try simp only [Act.put, List.setIfInBounds_toArray, List.set_cons_zero, List.set_cons_succ])
      repeat (first
        | (refine pl_run (v := ?_) rfl ?_ (fun W hW => ?_) ?_; rotate_left; rfl; ((try dsimp only at hW); go_simp; try with_reducible rfl); (try simp only [Act.put, List.setIfInBounds_toArray, List.set_cons_zero, List.set_cons_succ]))
        | (refine pl_skip rfl ?_ ?_; rfl; (try simp only [Act.put, List.setIfInBounds_toArray, List.set_cons_zero, List.set_cons_succ])))
      refine pl_end ?_
      refine pl_two ?_ ?_
      · refine pl_one rfl (by rfl) (fun K hK => ?_)
        go_simp
        go_at_call 59
        refine (isMin_yes hm _).mono ?_
        rintro e w2 ⟨rfl, rfl⟩
        refine hK.out _ _ (HH.out _ (X1)) ?_
        clear hK K
        (try simp only [Act.put, List.setIfInBounds_toArray, List.set_cons_zero, List.set_cons_succ])
        refine pl_tames ?_
        (try simp only [Act.put, List.setIfInBounds_toArray, List.set_cons_zero, List.set_cons_succ])
        repeat (first
          | (refine pl_run (v := ?_) rfl ?_ (fun W hW => ?_) ?_; rotate_left; rfl; ((try dsimp only at hW); go_simp; try with_reducible rfl); (try simp only [Act.put, List.setIfInBounds_toArray, List.set_cons_zero, List.set_cons_succ]))
          | (refine pl_skip rfl ?_ ?_; rfl; (try simp only [Act.put, List.setIfInBounds_toArray, List.set_cons_zero, List.set_cons_succ])))
        refine pl_end ?_
        refine pl_two ?_ ?_
        · refine pl_one rfl (by rfl) (fun K hK => ?_)
          go_simp
          go_at_call 58
          refine (asked_yes B a1 a2 a3 c1 c2 c3 _ ((HB.out.ext E0).ext (X1)) ((HG.out.ext E0).ext (X1)) hv).mono ?_
          rintro e w3 ⟨⟨mp, rfl, hM3, hmp3⟩, hE3⟩
          have X3 : Ext W0 w3 := Ext.trans (X1) hE3
          have hz3 := hE3.size
          refine hK.out _ _ (HH.out _ (X3)) ?_
          clear hK K
          (try simp only [Act.put, List.setIfInBounds_toArray, List.set_cons_zero, List.set_cons_succ])
          refine pl_tames ?_
          (try simp only [Act.put, List.setIfInBounds_toArray, List.set_cons_zero, List.set_cons_succ])
          repeat (first
            | (refine pl_run (v := ?_) rfl ?_ (fun W hW => ?_) ?_; rotate_left; rfl; ((try dsimp only at hW); go_simp; try with_reducible rfl); (try simp only [Act.put, List.setIfInBounds_toArray, List.set_cons_zero, List.set_cons_succ]))
            | (refine pl_skip rfl ?_ ?_; rfl; (try simp only [Act.put, List.setIfInBounds_toArray, List.set_cons_zero, List.set_cons_succ])))
          refine pl_end ?_
          refine pl_one rfl (by rfl) (fun K hK => ?_)
          go_simp
          have X4 : Ext W0 (w3.alloc (.cells #[.int .i64 0, .slice none 0 0, .slice none 0 0, .slice none 0 0, .map none] 81)) := Ext.trans (X3) (Ext.alloc _ _)
          have B4 : Blk (w3.alloc (.cells #[.int .i64 0, .slice none 0 0, .slice none 0 0, .slice none 0 0, .map none] 81)) w3.heap.size 81 #[.int .i64 0, .slice none 0 0, .slice none 0 0, .slice none 0 0, .map none] := Blk.new _ _ _
          have hg4 : W0.heap.size ≤ w3.heap.size := Below.size (X3)
          have hl4 := MapA.lt (hM3)
          have M4 := MapA.ext (hM3) (Ext.alloc w3 (.cells #[.int .i64 0, .slice none 0 0, .slice none 0 0, .slice none 0 0, .map none] 81))
          have ha4 : (w3.alloc (.cells #[.int .i64 0, .slice none 0 0, .slice none 0 0, .slice none 0 0, .map none] 81)).heap.size = w3.heap.size + 1 := by simp
          refine hK.out _ _ (HH.out _ (X4)) ?_
          clear hK K
          (try simp only [Act.put, List.setIfInBounds_toArray, List.set_cons_zero, List.set_cons_succ])
          have BS : Blk (w3.alloc (.cells #[.int .i64 0, .slice none 0 0, .slice none 0 0, .slice none 0 0, .map none] 81)) w3.heap.size 81 #[.int .i64 0, .slice none 0 0, .slice none 0 0, .slice none 0 0, .map none] := B4
          have XS : Ext W0 (w3.alloc (.cells #[.int .i64 0, .slice none 0 0, .slice none 0 0, .slice none 0 0, .map none] 81)) := X4
          have gS : W0.heap.size ≤ w3.heap.size := by omega
          have MS : MapA (w3.alloc (.cells #[.int .i64 0, .slice none 0 0, .slice none 0 0, .slice none 0 0, .map none] 81)) mp (ownL B.orders B.orders.length) := M4
          have nS : mp ≠ w3.heap.size := by (first | omega | (simp at *; omega))
          generalize (w3.alloc (.cells #[.int .i64 0, .slice none 0 0, .slice none 0 0, .slice none 0 0, .map none] 81)) = WS at BS XS MS ⊢
          obtain ⟨kS0, kS1, kS2, kS3, kS4⟩ := BS.c5
          have fS0 := BS.frozen 0
          have fS1 := BS.frozen 1
          have fS2 := BS.frozen 2
          have fS3 := BS.frozen 3
          have fS4 := BS.frozen 4
          refine pl_one rfl (by rfl) (fun K hK => ?_)
          go_simp
          refine hK.out _ _ (HH.out _ (below5 XS gS (.int .i64 B.comp) (.slice a1 B.bounds.length c1) (.slice a2 B.orders.length c2) (.slice a3 B.shots.length c3) (.map (some mp)))) ?_
          clear hK K
          (try simp only [Act.put, List.setIfInBounds_toArray, List.set_cons_zero, List.set_cons_succ])
          refine pl_tames ?_
          (try simp only [Act.put, List.setIfInBounds_toArray, List.set_cons_zero, List.set_cons_succ])
          repeat (first
            | (refine pl_run (v := ?_) rfl ?_ (fun W hW => ?_) ?_; rotate_left; rfl; ((try dsimp only at hW); go_simp; try with_reducible rfl); (try simp only [Act.put, List.setIfInBounds_toArray, List.set_cons_zero, List.set_cons_succ]))
            | (refine pl_skip rfl ?_ ?_; rfl; (try simp only [Act.put, List.setIfInBounds_toArray, List.set_cons_zero, List.set_cons_succ])))
          refine pl_end ?_
          refine pl_done ?_
          (try simp only [Act.put])
          go_wp2
          go_meet
          case rel => exact ⟨w3.heap.size, mp, rfl, rfl, (puts5 BS (.int .i64 B.comp) (.slice a1 B.bounds.length c1) (.slice a2 B.orders.length c2) (.slice a3 B.shots.length c3) (.map (some mp))), (MS.puts5 nS (.int .i64 B.comp) (.slice a1 B.bounds.length c1) (.slice a2 B.orders.length c2) (.slice a3 B.shots.length c3) (.map (some mp))), by have := b0.lt; omega, (below5 XS gS (.int .i64 B.comp) (.slice a1 B.bounds.length c1) (.slice a2 B.orders.length c2) (.slice a3 B.shots.length c3) (.map (some mp)))⟩
        · refine pl_one rfl (by rfl) (fun K hK => ?_)
          go_simp
          have X3 : Ext W0 (w1.alloc (.cells #[.int .i64 0, .slice none 0 0, .slice none 0 0, .slice none 0 0, .map none] 81)) := Ext.trans (X1) (Ext.alloc _ _)
          have B3 : Blk (w1.alloc (.cells #[.int .i64 0, .slice none 0 0, .slice none 0 0, .slice none 0 0, .map none] 81)) w1.heap.size 81 #[.int .i64 0, .slice none 0 0, .slice none 0 0, .slice none 0 0, .map none] := Blk.new _ _ _
          have hg3 : W0.heap.size ≤ w1.heap.size := Below.size (X1)
          have ha3 : (w1.alloc (.cells #[.int .i64 0, .slice none 0 0, .slice none 0 0, .slice none 0 0, .map none] 81)).heap.size = w1.heap.size + 1 := by simp
          refine hK.out _ _ (HH.out _ (X3)) ?_
          clear hK K
          (try simp only [Act.put, List.setIfInBounds_toArray, List.set_cons_zero, List.set_cons_succ])
          refine pl_one rfl (by rfl) (fun K hK => ?_)
          go_simp
          go_at_call 58
          refine (asked_yes B a1 a2 a3 c1 c2 c3 _ ((HB.out.ext E0).ext (X3)) ((HG.out.ext E0).ext (X3)) hv).mono ?_
          rintro e w4 ⟨⟨mp, rfl, hM4, hmp4⟩, hE4⟩
          have X4 : Ext W0 w4 := Ext.trans (X3) hE4
          have hz4 := hE4.size
          have B4 := Blk.ext (B3) hE4
          refine hK.out _ _ (HH.out _ (X4)) ?_
          clear hK K
          (try simp only [Act.put, List.setIfInBounds_toArray, List.set_cons_zero, List.set_cons_succ])
          refine pl_tames ?_
          (try simp only [Act.put, List.setIfInBounds_toArray, List.set_cons_zero, List.set_cons_succ])
          repeat (first
            | (refine pl_run (v := ?_) rfl ?_ (fun W hW => ?_) ?_; rotate_left; rfl; ((try dsimp only at hW); go_simp; try with_reducible rfl); (try simp only [Act.put, List.setIfInBounds_toArray, List.set_cons_zero, List.set_cons_succ]))
            | (refine pl_skip rfl ?_ ?_; rfl; (try simp only [Act.put, List.setIfInBounds_toArray, List.set_cons_zero, List.set_cons_succ])))
          refine pl_end ?_
          have BS : Blk w4 w1.heap.size 81 #[.int .i64 0, .slice none 0 0, .slice none 0 0, .slice none 0 0, .map none] := B4
          have XS : Ext W0 w4 := X4
          have gS : W0.heap.size ≤ w1.heap.size := by omega
          have MS : MapA w4 mp (ownL B.orders B.orders.length) := hM4
          have nS : mp ≠ w1.heap.size := by (first | omega | (simp at *; omega))
          generalize w4 = WS at BS XS MS ⊢
          obtain ⟨kS0, kS1, kS2, kS3, kS4⟩ := BS.c5
          have fS0 := BS.frozen 0
          have fS1 := BS.frozen 1
          have fS2 := BS.frozen 2
          have fS3 := BS.frozen 3
          have fS4 := BS.frozen 4
          refine pl_one rfl (by rfl) (fun K hK => ?_)
          go_simp
          refine hK.out _ _ (HH.out _ (below5 XS gS (.int .i64 B.comp) (.slice a1 B.bounds.length c1) (.slice a2 B.orders.length c2) (.slice a3 B.shots.length c3) (.map (some mp)))) ?_
          clear hK K
          (try simp only [Act.put, List.setIfInBounds_toArray, List.set_cons_zero, List.set_cons_succ])
          refine pl_tames ?_
          (try simp only [Act.put, List.setIfInBounds_toArray, List.set_cons_zero, List.set_cons_succ])
          repeat (first
            | (refine pl_run (v := ?_) rfl ?_ (fun W hW => ?_) ?_; rotate_left; rfl; ((try dsimp only at hW); go_simp; try with_reducible rfl); (try simp only [Act.put, List.setIfInBounds_toArray, List.set_cons_zero, List.set_cons_succ]))
            | (refine pl_skip rfl ?_ ?_; rfl; (try simp only [Act.put, List.setIfInBounds_toArray, List.set_cons_zero, List.set_cons_succ])))
          refine pl_end ?_
          refine pl_done ?_
          (try simp only [Act.put])
          go_wp2
          go_meet
          case rel => exact ⟨w1.heap.size, mp, rfl, rfl, (puts5 BS (.int .i64 B.comp) (.slice a1 B.bounds.length c1) (.slice a2 B.orders.length c2) (.slice a3 B.shots.length c3) (.map (some mp))), (MS.puts5 nS (.int .i64 B.comp) (.slice a1 B.bounds.length c1) (.slice a2 B.orders.length c2) (.slice a3 B.shots.length c3) (.map (some mp))), by have := b0.lt; omega, (below5 XS gS (.int .i64 B.comp) (.slice a1 B.bounds.length c1) (.slice a2 B.orders.length c2) (.slice a3 B.shots.length c3) (.map (some mp)))⟩
      · refine pl_one rfl (by rfl) (fun K hK => ?_)
        go_simp
        have X2 : Ext W0 (w1.alloc (.cells #[.int .i64 0, .slice none 0 0, .slice none 0 0, .slice none 0 0, .map none] 81)) := Ext.trans (X1) (Ext.alloc _ _)
        have B2 : Blk (w1.alloc (.cells #[.int .i64 0, .slice none 0 0, .slice none 0 0, .slice none 0 0, .map none] 81)) w1.heap.size 81 #[.int .i64 0, .slice none 0 0, .slice none 0 0, .slice none 0 0, .map none] := Blk.new _ _ _
        have hg2 : W0.heap.size ≤ w1.heap.size := Below.size (X1)
        have ha2 : (w1.alloc (.cells #[.int .i64 0, .slice none 0 0, .slice none 0 0, .slice none 0 0, .map none] 81)).heap.size = w1.heap.size + 1 := by simp
        refine hK.out _ _ (HH.out _ (X2)) ?_
        clear hK K
        (try simp only [Act.put, List.setIfInBounds_toArray, List.set_cons_zero, List.set_cons_succ])
        refine pl_one rfl (by rfl) (fun K hK => ?_)
        go_simp
        go_at_call 59
        refine (isMin_yes hm _).mono ?_
        rintro e w3 ⟨rfl, rfl⟩
        refine hK.out _ _ (HH.out _ (X2)) ?_
        clear hK K
        (try simp only [Act.put, List.setIfInBounds_toArray, List.set_cons_zero, List.set_cons_succ])
        refine pl_tames ?_
        (try simp only [Act.put, List.setIfInBounds_toArray, List.set_cons_zero, List.set_cons_succ])
        repeat (first
          | (refine pl_run (v := ?_) rfl ?_ (fun W hW => ?_) ?_; rotate_left; rfl; ((try dsimp only at hW); go_simp; try with_reducible rfl); (try simp only [Act.put, List.setIfInBounds_toArray, List.set_cons_zero, List.set_cons_succ]))
          | (refine pl_skip rfl ?_ ?_; rfl; (try simp only [Act.put, List.setIfInBounds_toArray, List.set_cons_zero, List.set_cons_succ])))
        refine pl_end ?_
        refine pl_one rfl (by rfl) (fun K hK => ?_)
        go_simp
        go_at_call 58
        refine (asked_yes B a1 a2 a3 c1 c2 c3 _ ((HB.out.ext E0).ext (X2)) ((HG.out.ext E0).ext (X2)) hv).mono ?_
        rintro e w4 ⟨⟨mp, rfl, hM4, hmp4⟩, hE4⟩
        have X4 : Ext W0 w4 := Ext.trans (X2) hE4
        have hz4 := hE4.size
        have B4 := Blk.ext (B2) hE4
        refine hK.out _ _ (HH.out _ (X4)) ?_
        clear hK K
        (try simp only [Act.put, List.setIfInBounds_toArray, List.set_cons_zero, List.set_cons_succ])
        refine pl_tames ?_
        (try simp only [Act.put, List.setIfInBounds_toArray, List.set_cons_zero, List.set_cons_succ])
        repeat (first
          | (refine pl_run (v := ?_) rfl ?_ (fun W hW => ?_) ?_; rotate_left; rfl; ((try dsimp only at hW); go_simp; try with_reducible rfl); (try simp only [Act.put, List.setIfInBounds_toArray, List.set_cons_zero, List.set_cons_succ]))
          | (refine pl_skip rfl ?_ ?_; rfl; (try simp only [Act.put, List.setIfInBounds_toArray, List.set_cons_zero, List.set_cons_succ])))
        refine pl_end ?_
        have BS : Blk w4 w1.heap.size 81 #[.int .i64 0, .slice none 0 0, .slice none 0 0, .slice none 0 0, .map none] := B4
        have XS : Ext W0 w4 := X4
        have gS : W0.heap.size ≤ w1.heap.size := by omega
        have MS : MapA w4 mp (ownL B.orders B.orders.length) := hM4
        have nS : mp ≠ w1.heap.size := by (first | omega | (simp at *; omega))
        generalize w4 = WS at BS XS MS ⊢
        obtain ⟨kS0, kS1, kS2, kS3, kS4⟩ := BS.c5
        have fS0 := BS.frozen 0
        have fS1 := BS.frozen 1
        have fS2 := BS.frozen 2
        have fS3 := BS.frozen 3
        have fS4 := BS.frozen 4
        refine pl_one rfl (by rfl) (fun K hK => ?_)
        go_simp
        refine hK.out _ _ (HH.out _ (below5 XS gS (.int .i64 B.comp) (.slice a1 B.bounds.length c1) (.slice a2 B.orders.length c2) (.slice a3 B.shots.length c3) (.map (some mp)))) ?_
        clear hK K
        (try simp only [Act.put, List.setIfInBounds_toArray, List.set_cons_zero, List.set_cons_succ])
        refine pl_tames ?_
        (try simp only [Act.put, List.setIfInBounds_toArray, List.set_cons_zero, List.set_cons_succ])
        repeat (first
          | (refine pl_run (v := ?_) rfl ?_ (fun W hW => ?_) ?_; rotate_left; rfl; ((try dsimp only at hW); go_simp; try with_reducible rfl); (try simp only [Act.put, List.setIfInBounds_toArray, List.set_cons_zero, List.set_cons_succ]))
          | (refine pl_skip rfl ?_ ?_; rfl; (try simp only [Act.put, List.setIfInBounds_toArray, List.set_cons_zero, List.set_cons_succ])))
        refine pl_end ?_
        refine pl_done ?_
        (try simp only [Act.put])
        go_wp2
        go_meet
        case rel => exact ⟨w1.heap.size, mp, rfl, rfl, (puts5 BS (.int .i64 B.comp) (.slice a1 B.bounds.length c1) (.slice a2 B.orders.length c2) (.slice a3 B.shots.length c3) (.map (some mp))), (MS.puts5 nS (.int .i64 B.comp) (.slice a1 B.bounds.length c1) (.slice a2 B.orders.length c2) (.slice a3 B.shots.length c3) (.map (some mp))), by have := b0.lt; omega, (below5 XS gS (.int .i64 B.comp) (.slice a1 B.bounds.length c1) (.slice a2 B.orders.length c2) (.slice a3 B.shots.length c3) (.map (some mp)))⟩
    · refine pl_one rfl (by rfl) (fun K hK => ?_)
      go_simp
      have X1 : Ext W0 (W0.alloc (.cells #[.int .i64 0, .slice none 0 0, .slice none 0 0, .slice none 0 0, .map none] 81)).drew := Ext.trans (Ext.alloc _ _) (Ext.drew _)
      have B1 : Blk (W0.alloc (.cells #[.int .i64 0, .slice none 0 0, .slice none 0 0, .slice none 0 0, .map none] 81)).drew W0.heap.size 81 #[.int .i64 0, .slice none 0 0, .slice none 0 0, .slice none 0 0, .map none] := (Blk.new _ _ _).drew
      have ha1 : (W0.alloc (.cells #[.int .i64 0, .slice none 0 0, .slice none 0 0, .slice none 0 0, .map none] 81)).drew.heap.size = W0.heap.size + 1 := by simp
      refine hK.out _ _ (HH.out _ (X1)) ?_
      clear hK K
      (try simp only [Act.put, List.setIfInBounds_toArray, List.set_cons_zero, List.set_cons_succ])
      refine pl_one rfl (by rfl) (fun K hK => ?_)
      go_simp
      go_at_call 69
      refine (isSt_yes B hst a1 a2 a3 c1 c2 c3 _ l2).mono ?_
      rintro e w2 ⟨rfl, hE2⟩
      have X2 : Ext W0 w2 := Ext.trans (X1) hE2
      have hz2 := hE2.size
      have B2 := Blk.ext (B1) hE2
      refine hK.out _ _ (HH.out _ (X2)) ?_
      clear hK K
      (try simp only [Act.put, List.setIfInBounds_toArray, List.set_cons_zero, List.set_cons_succ])
      refine pl_tames ?_
      (try simp only [Act.put, List.setIfInBounds_toArray, List.set_cons_zero, List.set_cons_succ])
      repeat (first
        | (refine pl_run (v := ?_) rfl ?_ (fun W hW => ?_) ?_; rotate_left; rfl; ((try dsimp only at hW); go_simp; try with_reducible rfl); (try simp only [Act.put, List.setIfInBounds_toArray, List.set_cons_zero, List.set_cons_succ]))
        | (refine pl_skip rfl ?_ ?_; rfl; (try simp only [Act.put, List.setIfInBounds_toArray, List.set_cons_zero, List.set_cons_succ])))
      refine pl_end ?_
      refine pl_one rfl (by rfl) (fun K hK => ?_)
      go_simp
      go_at_call 59
      refine (isMin_yes hm _).mono ?_
      rintro e w3 ⟨rfl, rfl⟩
      refine hK.out _ _ (HH.out _ (X2)) ?_
      clear hK K
      (try simp only [Act.put, List.setIfInBounds_toArray, List.set_cons_zero, List.set_cons_succ])
      refine pl_tames ?_
      (try simp only [Act.put, List.setIfInBounds_toArray, List.set_cons_zero, List.set_cons_succ])
      repeat (first
        | (refine pl_run (v := ?_) rfl ?_ (fun W hW => ?_) ?_; rotate_left; rfl; ((try dsimp only at hW); go_simp; try with_reducible rfl); (try simp only [Act.put, List.setIfInBounds_toArray, List.set_cons_zero, List.set_cons_succ]))
        | (refine pl_skip rfl ?_ ?_; rfl; (try simp only [Act.put, List.setIfInBounds_toArray, List.set_cons_zero, List.set_cons_succ])))
      refine pl_end ?_
      refine pl_one rfl (by rfl) (fun K hK => ?_)
      go_simp
      go_at_call 58
      refine (asked_yes B a1 a2 a3 c1 c2 c3 _ ((HB.out.ext E0).ext (X2)) ((HG.out.ext E0).ext (X2)) hv).mono ?_
      rintro e w4 ⟨⟨mp, rfl, hM4, hmp4⟩, hE4⟩
      have X4 : Ext W0 w4 := Ext.trans (X2) hE4
      have hz4 := hE4.size
      have B4 := Blk.ext (B2) hE4
      refine hK.out _ _ (HH.out _ (X4)) ?_
      clear hK K
      (try simp only [Act.put, List.setIfInBounds_toArray, List.set_cons_zero, List.set_cons_succ])
      refine pl_tames ?_
      (try simp only [Act.put, List.setIfInBounds_toArray, List.set_cons_zero, List.set_cons_succ])
      repeat (first
        | (refine pl_run (v := ?_) rfl ?_ (fun W hW => ?_) ?_; rotate_left; rfl; ((try dsimp only at hW); go_simp; try with_reducible rfl); (try simp only [Act.put, List.setIfInBounds_toArray, List.set_cons_zero, List.set_cons_succ]))
        | (refine pl_skip rfl ?_ ?_; rfl; (try simp only [Act.put, List.setIfInBounds_toArray, List.set_cons_zero, List.set_cons_succ])))
      refine pl_end ?_
      have BS : Blk w4 W0.heap.size 81 #[.int .i64 0, .slice none 0 0, .slice none 0 0, .slice none 0 0, .map none] := B4
      have XS : Ext W0 w4 := X4
      have gS : W0.heap.size ≤ W0.heap.size := by omega
      have MS : MapA w4 mp (ownL B.orders B.orders.length) := hM4
      have nS : mp ≠ W0.heap.size := by (first | omega | (simp at *; omega))
      generalize w4 = WS at BS XS MS ⊢
      obtain ⟨kS0, kS1, kS2, kS3, kS4⟩ := BS.c5
      have fS0 := BS.frozen 0
      have fS1 := BS.frozen 1
      have fS2 := BS.frozen 2
      have fS3 := BS.frozen 3
      have fS4 := BS.frozen 4
      refine pl_one rfl (by rfl) (fun K hK => ?_)
      go_simp
      refine hK.out _ _ (HH.out _ (below5 XS gS (.int .i64 B.comp) (.slice a1 B.bounds.length c1) (.slice a2 B.orders.length c2) (.slice a3 B.shots.length c3) (.map (some mp)))) ?_
      clear hK K
      (try simp only [Act.put, List.setIfInBounds_toArray, List.set_cons_zero, List.set_cons_succ])
      refine pl_tames ?_
      (try simp only [Act.put, List.setIfInBounds_toArray, List.set_cons_zero, List.set_cons_succ])
      repeat (first
        | (refine pl_run (v := ?_) rfl ?_ (fun W hW => ?_) ?_; rotate_left; rfl; ((try dsimp only at hW); go_simp; try with_reducible rfl); (try simp only [Act.put, List.setIfInBounds_toArray, List.set_cons_zero, List.set_cons_succ]))
        | (refine pl_skip rfl ?_ ?_; rfl; (try simp only [Act.put, List.setIfInBounds_toArray, List.set_cons_zero, List.set_cons_succ])))
      refine pl_end ?_
      refine pl_done ?_
      (try simp only [Act.put])
      go_wp2
      go_meet
      case rel => exact ⟨W0.heap.size, mp, rfl, rfl, (puts5 BS (.int .i64 B.comp) (.slice a1 B.bounds.length c1) (.slice a2 B.orders.length c2) (.slice a3 B.shots.length c3) (.map (some mp))), (MS.puts5 nS (.int .i64 B.comp) (.slice a1 B.bounds.length c1) (.slice a2 B.orders.length c2) (.slice a3 B.shots.length c3) (.map (some mp))), by have := b0.lt; omega, (below5 XS gS (.int .i64 B.comp) (.slice a1 B.bounds.length c1) (.slice a2 B.orders.length c2) (.slice a3 B.shots.length c3) (.map (some mp)))⟩
  case rest =>
    obtain ⟨g, mp, rfl, rfl, hb, hM, hg, hX⟩ := hcut
    obtain ⟨x0, x1, x2, x3, x4⟩ := hb.c5
    go_wp2_with (fail)
    refine (owners_any B a1 a2 a3 c1 c2 c3 mp s m wc ((HB.out.ext E0).ext hX) ((HG.out.ext E0).ext hX) hM hv hs).mono ?_
    rintro e w1 ⟨⟨a, cp, rfl, hI⟩, hE1⟩
    go_wp2
    refine bodyPost_ret (v := .tuple #[.slice a (ownersL B s m).length cp, .int .i64 0]) ?_ rfl ⟨⟨a, cp, rfl, hI⟩, E0.trans (Ext.trans hX hE1)⟩
    simp [results, Tryd.results19, go_sem]
end Go.Proofs.YtnhdcdhpfgdphaaDoor

/-
  Rising lists; sets of small numbers.
-/
set_option linter.unusedSimpArgs false
set_option linter.unusedVariables false
namespace Go.Proofs.YtnhdcdhpfgdphaaDoor
open Go Go.RowKit

def risesF (below : Int) : Int → List Int → Bool
  | _, [] => true
  | least, x :: r => inB x least (below - 1) && risesF below (x + 1) r
theorem rises_yes {below : Int} : ∀ (xs : List Int) (least : Int), xs.Pairwise (· < ·) → (∀ x ∈ xs, least ≤ x ∧ x < below) → risesF below least xs = true
  | [], _, _, _ => rfl
  | x :: r, least, hp, hb => by
    have h1 := hb x (by simp)
    have h2 := List.pairwise_cons.1 hp
    simp only [risesF, Bool.and_eq_true]
    refine ⟨by simp [inB]; omega, rises_yes r (x + 1) h2.2 (fun y hy => ?_)⟩
    have h3 := h2.1 y hy
    have h4 := hb y (by simp [hy])
    omega
set_option maxRecDepth 100000 in
set_option maxHeartbeats 1000000 in
theorem rises_any (a : Option Addr) (xs : List Int) (cp : Nat) (below : Int) (w : World) (h : IntA w a xs) (hm : xs.length ≤ 9223372036854775807) (hb : 0 ≤ below ∧ below ≤ 1000) :
    Calls Tryd.prog 40 #[.slice a xs.length cp, .int .i64 below] w fun e w' => e = .returned (.bool (risesF below 0 xs)) ∧ w = w' := by
  go_enter Tryd.func40, Tryd.ntmps40
  go_wp2_with (fail)
  go_loop [5, 6] (fun l i => ∃ (k : Nat) (least : Int), k ≤ xs.length ∧ i = .int .i64 k ∧ l = .int .i64 least ∧ 0 ≤ least ∧ least ≤ 1000 ∧ risesF below 0 xs = risesF below least (xs.drop k)) (fun _ i => xs.length - (intOf i).toNat)
  case atStart => exact ⟨0, 0, Nat.zero_le _, rfl, rfl, by omega, by omega, rfl⟩
  case round =>
    obtain ⟨k, least, hk, rfl, rfl, hl0, hl1, hn⟩ := hrel
    by_cases hlt : k < xs.length
    · rw [drop_at hlt, risesF] at hn
      obtain ⟨b, o, rfl, hbl, hc⟩ := h (by omega)
      have q := hc k hlt
      obtain ⟨x, hx⟩ : ∃ x, x = nAt xs k := ⟨_, rfl⟩
      rw [← hx] at hn q
      clear hc hx
      cases hi : inB x least (below - 1) with
      | false =>
        have Hn : Hid (risesF below 0 xs = false) := Lib.hid (by rw [hn, hi]; rfl)
        clear hn
        go_wp2_with (go_at_call 44; refine (between_any _ _ _ _).mono ?_; rintro e w2 ⟨rfl, rfl⟩)
        go_ret
        exact ⟨by rw [Hn.out]; rfl, rfl⟩
      | true =>
        have Hn : Hid (risesF below 0 xs = risesF below (x + 1) (xs.drop (k + 1))) := Lib.hid (by rw [hn, hi]; rfl)
        have hin : least ≤ x ∧ x ≤ below - 1 := by simpa [inB] using hi
        clear hn
        go_wp2_with (go_at_call 44; refine (between_any _ _ _ _).mono ?_; rintro e w2 ⟨rfl, rfl⟩)
        go_round
        case rel => exact ⟨k + 1, x + 1, by omega, by go_num, rfl, by omega, by omega, Hn.out⟩
        case measure => simp [intOf]; omega
    · obtain rfl : k = xs.length := by omega
      have Hn : Hid (risesF below 0 xs = true) := Lib.hid (by rw [hn, List.drop_length]; rfl)
      clear hn
      go_wp2
      go_ret
      exact ⟨by rw [Hn.out]; rfl, rfl⟩

theorem wrap_pow4 {n : Nat} (h : n < 4) : wrap64 ((2 : Int) ^ n) = ((2 ^ n : Nat) : Int) := by
  rcases (by omega : n = 0 ∨ n = 1 ∨ n = 2 ∨ n = 3) with rfl | rfl | rfl | rfl <;> first | kernel_rfl | simp [wrap64]
/-- A set of small numbers. -/
def setN (xs : List Int) : Nat := xs.foldl (fun s x => s ||| (1 <<< x.toNat)) 0
theorem or_all : ((List.range 16).all fun s => (List.range 4).all fun k => (bits BinOp.or IntKind.i64 (s : Int) ((2 ^ k : Nat) : Int) == ((s ||| (1 <<< k) : Nat) : Int)) && decide (s ||| (1 <<< k) < 16)) = true := by kernel_rfl
theorem or_eq {s k : Nat} (hs : s < 16) (hk : k < 4) : bits BinOp.or IntKind.i64 (s : Int) ((2 ^ k : Nat) : Int) = ((s ||| (1 <<< k) : Nat) : Int) ∧ s ||| (1 <<< k) < 16 := by
  have h := or_all
  simp only [List.all_eq_true, List.mem_range, Bool.and_eq_true, beq_iff_eq, decide_eq_true_eq] at h
  exact h s hs k hk
theorem setN_lt (xs : List Int) : ∀ s, s < 16 → (∀ x ∈ xs, 0 ≤ x ∧ x < 4) → xs.foldl (fun s x => s ||| (1 <<< x.toNat)) s < 16 := by
  induction xs with
  | nil => intro s h _; simpa using h
  | cons x r ih =>
    intro s hs hx
    have h1 := hx x (by simp)
    exact ih _ (or_eq hs (show x.toNat < 4 by omega)).2 (fun y hy => hx y (by simp [hy]))
theorem setN_take {xs : List Int} {k : Nat} (hk : k < xs.length) : setN (xs.take (k + 1)) = setN (xs.take k) ||| (1 <<< (nAt xs k).toNat) := by
  unfold setN
  rw [List.take_add_one, List.foldl_append]
  simp [nAt, List.getElem?_eq_getElem hk]
set_option maxRecDepth 100000 in
set_option maxHeartbeats 1000000 in
theorem set_any (a : Option Addr) (xs : List Int) (cp : Nat) (w : World) (h : IntA w a xs) (hm : xs.length ≤ 9223372036854775807) (hx : ∀ x ∈ xs, 0 ≤ x ∧ x < 4) :
    Calls Tryd.prog 46 #[.slice a xs.length cp] w fun e w' => e = .returned (.int .i64 (setN xs)) ∧ w = w' := by
  go_enter Tryd.func46, Tryd.ntmps46
  go_wp2_with (fail)
  go_loop [3, 4] (fun l i => ∃ k : Nat, k ≤ xs.length ∧ i = .int .i64 k ∧ l = .int .i64 (setN (xs.take k))) (fun _ i => xs.length - (intOf i).toNat)
  case atStart => exact ⟨0, Nat.zero_le _, rfl, rfl⟩
  case round =>
    obtain ⟨k, hk, rfl, rfl⟩ := hrel
    by_cases hlt : k < xs.length
    · obtain ⟨b, o, rfl, hbl, hc⟩ := h (by omega)
      have q := hc k hlt
      have hs : setN (xs.take k) < 16 := setN_lt _ 0 (by omega) (fun x hx' => hx x (List.mem_of_mem_take hx'))
      have hxk := hx (nAt xs k) (by simp only [nAt, List.getD_eq_getElem?_getD, List.getElem?_eq_getElem hlt, Option.getD_some]; exact List.getElem_mem hlt)
      have hsucc := setN_take hlt
      obtain ⟨x, hxe⟩ : ∃ x : Nat, nAt xs k = x := ⟨(nAt xs k).toNat, by omega⟩
      rw [hxe] at q hxk hsucc
      have hor := or_eq hs (show x < 4 by omega)
      simp only [Int.toNat_natCast] at hsucc
      obtain ⟨s, hse⟩ : ∃ s, s = setN (xs.take k) := ⟨_, rfl⟩
      rw [← hse] at hor hsucc ⊢
      have Hor := Lib.hid hor
      have Hsucc := Lib.hid hsucc
      clear hc hxe hs hor hsucc hse
      go_wp2
      refine ⟨⟨k + 1, by omega, by go_num, ?_⟩, by simp [intOf]; omega⟩
      rw [wrap_pow4 (show x < 4 by omega), Hor.out.1, Hsucc.out]
    · obtain rfl : k = xs.length := by omega
      rw [List.take_length]
      go_wp2
      go_ret
      exact ⟨rfl, rfl⟩
end Go.Proofs.YtnhdcdhpfgdphaaDoor
