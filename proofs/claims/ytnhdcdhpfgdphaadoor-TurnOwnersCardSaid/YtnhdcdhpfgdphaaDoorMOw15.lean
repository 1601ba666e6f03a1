/-
  The exported function First.
-/
import Derived.Test.YtnhdcdhpfgdphaaDoorMOw8
set_option linter.unusedSimpArgs false
set_option linter.unusedVariables false
namespace Go.Proofs.YtnhdcdhpfgdphaaDoor
open Go Go.RowKit

/-- 2 if one shot was surely before another one, 1 if it may have been, and 0 if not. -/
def firstN (x y : Sh) : Int := wh (decide (x.lo < y.hi)) + wh (decide (x.hi < y.lo))
def askFirst (B : Bk) (i j : Int) : Bool := isShB B i && isShB B j && (i != j)

set_option maxRecDepth 100000 in
set_option maxHeartbeats 4000000 in
theorem first_no (B : Bk) (a1 a2 a3 : Option Addr) (c1 c2 c3 : Nat) (i j : Int) (w : World) (h : BookA w B a1 a2 a3) (hG : Glob w) (hne : askE B (askFirst B i j) ≠ 0) :
    Calls Tryd.prog 30 #[.agg #[.int .i64 B.comp, .slice a1 B.bounds.length c1, .slice a2 B.orders.length c2, .slice a3 B.shots.length c3], .int .i64 i, .int .i64 j] w
      fun e w' => e = .returned (.tuple #[.int .i64 0, .int .i64 (askE B (askFirst B i j))]) ∧ Ext w w' := by
  unfold askFirst at *
  cases hs : isShB B i
  · rw [hs, Bool.false_and, Bool.false_and] at hne
    rw [Bool.false_and, Bool.false_and]
    have HB := Lib.hid h
    have HG := Lib.hid hG
    have l2 := h.l2
    have l3 := h.l3
    clear h hG
    go_enter Tryd.func30, Tryd.ntmps30
    go_upto_region 1 with (fail)
    obtain ⟨W0, hW0⟩ : ∃ W0, W0 = w.alloc (.cells #[.int .i64 B.comp, .slice a1 B.bounds.length c1, .slice a2 B.orders.length c2, .slice a3 B.shots.length c3] 26) := ⟨_, rfl⟩
    have b0 : Blk W0 w.heap.size 26 #[.int .i64 B.comp, .slice a1 B.bounds.length c1, .slice a2 B.orders.length c2, .slice a3 B.shots.length c3] := by rw [hW0]; exact Blk.new _ _ _
    have E0 : Ext w W0 := by rw [hW0]; exact Ext.alloc _ _
    rw [← hW0]
    clear hW0
    have HH : Hid (∀ W, Ext W0 W → (W.cell? ⟨w.heap.size, 0, none⟩ = some (.int .i64 B.comp) ∧ W.cell? ⟨w.heap.size, 1, none⟩ = some (.slice a1 B.bounds.length c1) ∧ W.cell? ⟨w.heap.size, 2, none⟩ = some (.slice a2 B.orders.length c2) ∧ W.cell? ⟨w.heap.size, 3, none⟩ = some (.slice a3 B.shots.length c3))) := Lib.hid fun W e => (b0.ext e).c4
    go_cut [8, 9] (fun p e wx => ∃ g, p = .pointer (some ⟨g, 0, none⟩) ∧ e = .int .i64 (askE B false) ∧ Ext W0 wx)
    case first =>
      refine wp_plan (fun W => W.cell? ⟨w.heap.size, 0, none⟩ = some (.int .i64 B.comp) ∧ W.cell? ⟨w.heap.size, 1, none⟩ = some (.slice a1 B.bounds.length c1) ∧ W.cell? ⟨w.heap.size, 2, none⟩ = some (.slice a2 B.orders.length c2) ∧ W.cell? ⟨w.heap.size, 3, none⟩ = some (.slice a3 B.shots.length c3)) (.tames [0, 1, 2] (.two 3 18 (.tames [4, 5, 6] (.two 7 18 (.tames [8, 9, 10, 11, 12, 13] (.two 14 18 (.tames [15, 16, 17] (.one 18 (.one 19 (.tames [20] (.done))))) (.one 14 (.tames [15, 16, 17] (.one 19 (.tames [20] (.done))))))) (.one 7 (.tames [8, 9, 10, 11, 12, 13] (.one 14 (.tames [15, 16, 17] (.one 19 (.tames [20] (.done))))))))) (.one 3 (.tames [4, 5, 6] (.one 7 (.tames [8, 9, 10, 11, 12, 13] (.one 14 (.tames [15, 16, 17] (.one 19 (.tames [20] (.done))))))))))) (by kernel_rfl) (by kernel_rfl) (by kernel_rfl) (fun c a d v w h => by cases d <;> exact h) ?_ ?_
      · exact HH.out _ (Ext.drew _)
      refine pl_tames ?_
      (try simp only [Act.put, List.setIfInBounds_toArray, List.set_cons_zero, List.set_cons_succ])
      repeat (first
        | (refine pl_run (v := ?_) rfl ?_ (fun W hW => ?_) ?_; rotate_left; rfl; ((try dsimp only at hW); go_simp; try with_reducible rfl); (try simp only [Act.put, List.setIfInBounds_toArray, List.set_cons_zero, List.set_cons_succ]))
        | (refine pl_skip rfl ?_ ?_; rfl; (try simp only [Act.put, List.setIfInBounds_toArray, List.set_cons_zero, List.set_cons_succ])))
      refine pl_end ?_
      refine pl_two ?_ ?_
      · refine pl_one rfl (by rfl) (fun K hK => ?_)
        go_simp
        go_at_call 74
        refine ((isSh_any B a1 a2 a3 c1 c2 c3 i _ l3).mono (fun e w' q => (⟨by rw [q.1, hs], q.2⟩ : e = .returned (.bool false) ∧ _))).mono ?_
        rintro e w1 ⟨rfl, hE1⟩
        have X1 : Ext W0 w1 := Ext.trans (Ext.drew W0) hE1
        have hz1 := hE1.size
        refine hK.out _ _ (HH.out _ (X1)) ?_
        clear hK K
        (try simp only [Act.put, List.setIfInBounds_toArray, List.set_cons_zero, List.set_cons_succ])
        refine pl_tames ?_
        (try simp only [Act.put, List.setIfInBounds_toArray, List.set_cons_zero, List.set_cons_succ])
        repeat (first
          | (refine pl_run (v := ?_) rfl ?_ (fun W hW => ?_) ?_; rotate_left; rfl; ((try dsimp only at hW); go_simp; try with_reducible rfl); (try simp only [Act.put, List.setIfInBounds_toArray, List.set_cons_zero, List.set_cons_succ]))
          | (refine pl_skip rfl ?_ ?_; rfl; (try simp only [Act.put, List.setIfInBounds_toArray, List.set_cons_zero, List.set_cons_succ])))
        refine pl_end ?_
        refine pl_two ?_ ?_
        · refine pl_one_skip rfl (by rfl) (HH.out _ (X1)) ?_
          (try simp only [Act.put, List.setIfInBounds_toArray, List.set_cons_zero, List.set_cons_succ])
          refine pl_tames ?_
          (try simp only [Act.put, List.setIfInBounds_toArray, List.set_cons_zero, List.set_cons_succ])
          repeat (first
            | (refine pl_run (v := ?_) rfl ?_ (fun W hW => ?_) ?_; rotate_left; rfl; ((try dsimp only at hW); go_simp; try with_reducible rfl); (try simp only [Act.put, List.setIfInBounds_toArray, List.set_cons_zero, List.set_cons_succ]))
            | (refine pl_skip rfl ?_ ?_; rfl; (try simp only [Act.put, List.setIfInBounds_toArray, List.set_cons_zero, List.set_cons_succ])))
          refine pl_end ?_
          refine pl_two ?_ ?_
          · refine pl_one rfl (by rfl) (fun K hK => ?_)
            go_simp
            go_at_call 58
            refine (asked_ref B a1 a2 a3 c1 c2 c3 _ _ ((HB.out.ext E0).ext (X1)) ((HG.out.ext E0).ext (X1)) hne).mono ?_
            rintro e w3 ⟨rfl, hE3⟩
            have X3 : Ext W0 w3 := Ext.trans (X1) hE3
            have hz3 := hE3.size
            refine hK.out _ _ (HH.out _ (X3)) ?_
            clear hK K
            (try simp only [Act.put, List.setIfInBounds_toArray, List.set_cons_zero, List.set_cons_succ])
            refine pl_tames ?_
            (try simp only [Act.put, List.setIfInBounds_toArray, List.set_cons_zero, List.set_cons_succ])
            repeat (first
              | (refine pl_run (v := ?_) rfl ?_ (fun W hW => ?_) ?_; rotate_left; rfl; ((try dsimp only at hW); go_simp; try with_reducible rfl); (try simp only [Act.put, List.setIfInBounds_toArray, List.set_cons_zero, List.set_cons_succ]))
              | (refine pl_skip rfl ?_ ?_; rfl; (try simp only [Act.put, List.setIfInBounds_toArray, List.set_cons_zero, List.set_cons_succ])))
            refine pl_end ?_
            refine pl_one rfl (by rfl) (fun K hK => ?_)
            go_simp
            have X4 : Ext W0 (w3.alloc (.cells #[.int .i64 0, .slice none 0 0, .slice none 0 0, .slice none 0 0, .map none] 81)) := Ext.trans (X3) (Ext.alloc _ _)
            have B4 : Blk (w3.alloc (.cells #[.int .i64 0, .slice none 0 0, .slice none 0 0, .slice none 0 0, .map none] 81)) w3.heap.size 81 #[.int .i64 0, .slice none 0 0, .slice none 0 0, .slice none 0 0, .map none] := Blk.new _ _ _
            have hg4 : W0.heap.size ≤ w3.heap.size := Below.size (X3)
            have ha4 : (w3.alloc (.cells #[.int .i64 0, .slice none 0 0, .slice none 0 0, .slice none 0 0, .map none] 81)).heap.size = w3.heap.size + 1 := by simp
            refine hK.out _ _ (HH.out _ (X4)) ?_
            clear hK K
            (try simp only [Act.put, List.setIfInBounds_toArray, List.set_cons_zero, List.set_cons_succ])
            have BS : Blk (w3.alloc (.cells #[.int .i64 0, .slice none 0 0, .slice none 0 0, .slice none 0 0, .map none] 81)) w3.heap.size 81 #[.int .i64 0, .slice none 0 0, .slice none 0 0, .slice none 0 0, .map none] := B4
            have XS : Ext W0 (w3.alloc (.cells #[.int .i64 0, .slice none 0 0, .slice none 0 0, .slice none 0 0, .map none] 81)) := X4
            have gS : W0.heap.size ≤ w3.heap.size := by omega
            generalize (w3.alloc (.cells #[.int .i64 0, .slice none 0 0, .slice none 0 0, .slice none 0 0, .map none] 81)) = WS at BS XS ⊢
            obtain ⟨kS0, kS1, kS2, kS3, kS4⟩ := BS.c5
            have fS0 := BS.frozen 0
            have fS1 := BS.frozen 1
            have fS2 := BS.frozen 2
            have fS3 := BS.frozen 3
            have fS4 := BS.frozen 4
            refine pl_one rfl (by rfl) (fun K hK => ?_)
            go_simp
            refine hK.out _ _ (HH.out _ (below5 XS gS (.int .i64 0) (.slice none 0 0) (.slice none 0 0) (.slice none 0 0) (.map none))) ?_
            clear hK K
            (try simp only [Act.put, List.setIfInBounds_toArray, List.set_cons_zero, List.set_cons_succ])
            refine pl_tames ?_
            (try simp only [Act.put, List.setIfInBounds_toArray, List.set_cons_zero, List.set_cons_succ])
            repeat (first
              | (refine pl_run (v := ?_) rfl ?_ (fun W hW => ?_) ?_; rotate_left; rfl; ((try dsimp only at hW); go_simp; try with_reducible rfl); (try simp only [Act.put, List.setIfInBounds_toArray, List.set_cons_zero, List.set_cons_succ]))
              | (refine pl_skip rfl ?_ ?_; rfl; (try simp only [Act.put, List.setIfInBounds_toArray, List.set_cons_zero, List.set_cons_succ])))
            refine pl_end ?_
            refine pl_done ?_
            (try simp only [Act.put])
            go_wp2
            go_meet
            case rel => exact ⟨w3.heap.size, rfl, rfl, (below5 XS gS (.int .i64 0) (.slice none 0 0) (.slice none 0 0) (.slice none 0 0) (.map none))⟩
          · refine pl_one rfl (by rfl) (fun K hK => ?_)
            go_simp
            have X3 : Ext W0 (w1.alloc (.cells #[.int .i64 0, .slice none 0 0, .slice none 0 0, .slice none 0 0, .map none] 81)) := Ext.trans (X1) (Ext.alloc _ _)
            have B3 : Blk (w1.alloc (.cells #[.int .i64 0, .slice none 0 0, .slice none 0 0, .slice none 0 0, .map none] 81)) w1.heap.size 81 #[.int .i64 0, .slice none 0 0, .slice none 0 0, .slice none 0 0, .map none] := Blk.new _ _ _
            have hg3 : W0.heap.size ≤ w1.heap.size := Below.size (X1)
            have ha3 : (w1.alloc (.cells #[.int .i64 0, .slice none 0 0, .slice none 0 0, .slice none 0 0, .map none] 81)).heap.size = w1.heap.size + 1 := by simp
            refine hK.out _ _ (HH.out _ (X3)) ?_
            clear hK K
            (try simp only [Act.put, List.setIfInBounds_toArray, List.set_cons_zero, List.set_cons_succ])
            refine pl_one rfl (by rfl) (fun K hK => ?_)
            go_simp
            go_at_call 58
            refine (asked_ref B a1 a2 a3 c1 c2 c3 _ _ ((HB.out.ext E0).ext (X3)) ((HG.out.ext E0).ext (X3)) hne).mono ?_
            rintro e w4 ⟨rfl, hE4⟩
            have X4 : Ext W0 w4 := Ext.trans (X3) hE4
            have hz4 := hE4.size
            have B4 := Blk.ext (B3) hE4
            refine hK.out _ _ (HH.out _ (X4)) ?_
            clear hK K
            (try simp only [Act.put, List.setIfInBounds_toArray, List.set_cons_zero, List.set_cons_succ])
            refine pl_tames ?_
            (try simp only [Act.put, List.setIfInBounds_toArray, List.set_cons_zero, List.set_cons_succ])
            repeat (first
              | (refine pl_run (v := ?_) rfl ?_ (fun W hW => ?_) ?_; rotate_left; rfl; ((try dsimp only at hW); go_simp; try with_reducible rfl); (try simp only [Act.put, List.setIfInBounds_toArray, List.set_cons_zero, List.set_cons_succ]))
              | (refine pl_skip rfl ?_ ?_; rfl; (try simp only [Act.put, List.setIfInBounds_toArray, List.set_cons_zero, List.set_cons_succ])))
            refine pl_end ?_
            have BS : Blk w4 w1.heap.size 81 #[.int .i64 0, .slice none 0 0, .slice none 0 0, .slice none 0 0, .map none] := B4
            have XS : Ext W0 w4 := X4
            have gS : W0.heap.size ≤ w1.heap.size := by omega
            generalize w4 = WS at BS XS ⊢
            obtain ⟨kS0, kS1, kS2, kS3, kS4⟩ := BS.c5
            have fS0 := BS.frozen 0
            have fS1 := BS.frozen 1
            have fS2 := BS.frozen 2
            have fS3 := BS.frozen 3
            have fS4 := BS.frozen 4
            refine pl_one rfl (by rfl) (fun K hK => ?_)
            go_simp
            refine hK.out _ _ (HH.out _ (below5 XS gS (.int .i64 0) (.slice none 0 0) (.slice none 0 0) (.slice none 0 0) (.map none))) ?_
            clear hK K
            (try simp only [Act.put, List.setIfInBounds_toArray, List.set_cons_zero, List.set_cons_succ])
            refine pl_tames ?_
            (try simp only [Act.put, List.setIfInBounds_toArray, List.set_cons_zero, List.set_cons_succ])
            repeat (first
              | (refine pl_run (v := ?_) rfl ?_ (fun W hW => ?_) ?_; rotate_left; rfl; ((try dsimp only at hW); go_simp; try with_reducible rfl); (try simp only [Act.put, List.setIfInBounds_toArray, List.set_cons_zero, List.set_cons_succ]))
              | (refine pl_skip rfl ?_ ?_; rfl; (try simp only [Act.put, List.setIfInBounds_toArray, List.set_cons_zero, List.set_cons_succ])))
            refine pl_end ?_
            refine pl_done ?_
            (try simp only [Act.put])
            go_wp2
            go_meet
            case rel => exact ⟨w1.heap.size, rfl, rfl, (below5 XS gS (.int .i64 0) (.slice none 0 0) (.slice none 0 0) (.slice none 0 0) (.map none))⟩
        · refine pl_one rfl (by rfl) (fun K hK => ?_)
          go_simp
          have X2 : Ext W0 (w1.alloc (.cells #[.int .i64 0, .slice none 0 0, .slice none 0 0, .slice none 0 0, .map none] 81)) := Ext.trans (X1) (Ext.alloc _ _)
          have B2 : Blk (w1.alloc (.cells #[.int .i64 0, .slice none 0 0, .slice none 0 0, .slice none 0 0, .map none] 81)) w1.heap.size 81 #[.int .i64 0, .slice none 0 0, .slice none 0 0, .slice none 0 0, .map none] := Blk.new _ _ _
          have hg2 : W0.heap.size ≤ w1.heap.size := Below.size (X1)
          have ha2 : (w1.alloc (.cells #[.int .i64 0, .slice none 0 0, .slice none 0 0, .slice none 0 0, .map none] 81)).heap.size = w1.heap.size + 1 := by simp
          refine hK.out _ _ (HH.out _ (X2)) ?_
          clear hK K
          (try simp only [Act.put, List.setIfInBounds_toArray, List.set_cons_zero, List.set_cons_succ])
          refine pl_one_skip rfl (by rfl) (HH.out _ (X2)) ?_
          (try simp only [Act.put, List.setIfInBounds_toArray, List.set_cons_zero, List.set_cons_succ])
          refine pl_tames ?_
          (try simp only [Act.put, List.setIfInBounds_toArray, List.set_cons_zero, List.set_cons_succ])
          repeat (first
            | (refine pl_run (v := ?_) rfl ?_ (fun W hW => ?_) ?_; rotate_left; rfl; ((try dsimp only at hW); go_simp; try with_reducible rfl); (try simp only [Act.put, List.setIfInBounds_toArray, List.set_cons_zero, List.set_cons_succ]))
            | (refine pl_skip rfl ?_ ?_; rfl; (try simp only [Act.put, List.setIfInBounds_toArray, List.set_cons_zero, List.set_cons_succ])))
          refine pl_end ?_
          refine pl_one rfl (by rfl) (fun K hK => ?_)
          go_simp
          go_at_call 58
          refine (asked_ref B a1 a2 a3 c1 c2 c3 _ _ ((HB.out.ext E0).ext (X2)) ((HG.out.ext E0).ext (X2)) hne).mono ?_
          rintro e w4 ⟨rfl, hE4⟩
          have X4 : Ext W0 w4 := Ext.trans (X2) hE4
          have hz4 := hE4.size
          have B4 := Blk.ext (B2) hE4
          refine hK.out _ _ (HH.out _ (X4)) ?_
          clear hK K
          (try simp only [Act.put, List.setIfInBounds_toArray, List.set_cons_zero, List.set_cons_succ])
          refine pl_tames ?_
          (try simp only [Act.put, List.setIfInBounds_toArray, List.set_cons_zero, List.set_cons_succ])
          repeat (first
            | (refine pl_run (v := ?_) rfl ?_ (fun W hW => ?_) ?_; rotate_left; rfl; ((try dsimp only at hW); go_simp; try with_reducible rfl); (try simp only [Act.put, List.setIfInBounds_toArray, List.set_cons_zero, List.set_cons_succ]))
            | (refine pl_skip rfl ?_ ?_; rfl; (try simp only [Act.put, List.setIfInBounds_toArray, List.set_cons_zero, List.set_cons_succ])))
          refine pl_end ?_
          have BS : Blk w4 w1.heap.size 81 #[.int .i64 0, .slice none 0 0, .slice none 0 0, .slice none 0 0, .map none] := B4
          have XS : Ext W0 w4 := X4
          have gS : W0.heap.size ≤ w1.heap.size := by omega
          generalize w4 = WS at BS XS ⊢
          obtain ⟨kS0, kS1, kS2, kS3, kS4⟩ := BS.c5
          have fS0 := BS.frozen 0
          have fS1 := BS.frozen 1
          have fS2 := BS.frozen 2
          have fS3 := BS.frozen 3
          have fS4 := BS.frozen 4
          refine pl_one rfl (by rfl) (fun K hK => ?_)
          go_simp
          refine hK.out _ _ (HH.out _ (below5 XS gS (.int .i64 0) (.slice none 0 0) (.slice none 0 0) (.slice none 0 0) (.map none))) ?_
          clear hK K
          (try simp only [Act.put, List.setIfInBounds_toArray, List.set_cons_zero, List.set_cons_succ])
          refine pl_tames ?_
          (try simp only [Act.put, List.setIfInBounds_toArray, List.set_cons_zero, List.set_cons_succ])
          repeat (first
            | (refine pl_run (v := ?_) rfl ?_ (fun W hW => ?_) ?_; rotate_left; rfl; ((try dsimp only at hW); go_simp; try with_reducible rfl); (try simp only [Act.put, List.setIfInBounds_toArray, List.set_cons_zero, List.set_cons_succ]))
            | (refine pl_skip rfl ?_ ?_; rfl; (try simp only [Act.put, List.setIfInBounds_toArray, List.set_cons_zero, List.set_cons_succ])))
          refine pl_end ?_
          refine pl_done ?_
          (try simp only [Act.put])
          go_wp2
          go_meet
          case rel => exact ⟨w1.heap.size, rfl, rfl, (below5 XS gS (.int .i64 0) (.slice none 0 0) (.slice none 0 0) (.slice none 0 0) (.map none))⟩
      · refine pl_one rfl (by rfl) (fun K hK => ?_)
        go_simp
        have X1 : Ext W0 (W0.alloc (.cells #[.int .i64 0, .slice none 0 0, .slice none 0 0, .slice none 0 0, .map none] 81)).drew := Ext.trans (Ext.alloc _ _) (Ext.drew _)
        have B1 : Blk (W0.alloc (.cells #[.int .i64 0, .slice none 0 0, .slice none 0 0, .slice none 0 0, .map none] 81)).drew W0.heap.size 81 #[.int .i64 0, .slice none 0 0, .slice none 0 0, .slice none 0 0, .map none] := (Blk.new _ _ _).drew
        have ha1 : (W0.alloc (.cells #[.int .i64 0, .slice none 0 0, .slice none 0 0, .slice none 0 0, .map none] 81)).drew.heap.size = W0.heap.size + 1 := by simp
        refine hK.out _ _ (HH.out _ (X1)) ?_
        clear hK K
        (try simp only [Act.put, List.setIfInBounds_toArray, List.set_cons_zero, List.set_cons_succ])
        refine pl_one rfl (by rfl) (fun K hK => ?_)
        go_simp
        go_at_call 74
        refine ((isSh_any B a1 a2 a3 c1 c2 c3 i _ l3).mono (fun e w' q => (⟨by rw [q.1, hs], q.2⟩ : e = .returned (.bool false) ∧ _))).mono ?_
        rintro e w2 ⟨rfl, hE2⟩
        have X2 : Ext W0 w2 := Ext.trans (X1) hE2
        have hz2 := hE2.size
        have B2 := Blk.ext (B1) hE2
        refine hK.out _ _ (HH.out _ (X2)) ?_
        clear hK K
        (try simp only [Act.put, List.setIfInBounds_toArray, List.set_cons_zero, List.set_cons_succ])
        refine pl_tames ?_
        (try simp only [Act.put, List.setIfInBounds_toArray, List.set_cons_zero, List.set_cons_succ])
        repeat (first
          | (refine pl_run (v := ?_) rfl ?_ (fun W hW => ?_) ?_; rotate_left; rfl; ((try dsimp only at hW); go_simp; try with_reducible rfl); (try simp only [Act.put, List.setIfInBounds_toArray, List.set_cons_zero, List.set_cons_succ]))
          | (refine pl_skip rfl ?_ ?_; rfl; (try simp only [Act.put, List.setIfInBounds_toArray, List.set_cons_zero, List.set_cons_succ])))
        refine pl_end ?_
        refine pl_one_skip rfl (by rfl) (HH.out _ (X2)) ?_
        (try simp only [Act.put, List.setIfInBounds_toArray, List.set_cons_zero, List.set_cons_succ])
        refine pl_tames ?_
        (try simp only [Act.put, List.setIfInBounds_toArray, List.set_cons_zero, List.set_cons_succ])
        repeat (first
          | (refine pl_run (v := ?_) rfl ?_ (fun W hW => ?_) ?_; rotate_left; rfl; ((try dsimp only at hW); go_simp; try with_reducible rfl); (try simp only [Act.put, List.setIfInBounds_toArray, List.set_cons_zero, List.set_cons_succ]))
          | (refine pl_skip rfl ?_ ?_; rfl; (try simp only [Act.put, List.setIfInBounds_toArray, List.set_cons_zero, List.set_cons_succ])))
        refine pl_end ?_
        refine pl_one rfl (by rfl) (fun K hK => ?_)
        go_simp
        go_at_call 58
        refine (asked_ref B a1 a2 a3 c1 c2 c3 _ _ ((HB.out.ext E0).ext (X2)) ((HG.out.ext E0).ext (X2)) hne).mono ?_
        rintro e w4 ⟨rfl, hE4⟩
        have X4 : Ext W0 w4 := Ext.trans (X2) hE4
        have hz4 := hE4.size
        have B4 := Blk.ext (B2) hE4
        refine hK.out _ _ (HH.out _ (X4)) ?_
        clear hK K
        (try simp only [Act.put, List.setIfInBounds_toArray, List.set_cons_zero, List.set_cons_succ])
        refine pl_tames ?_
        (try simp only [Act.put, List.setIfInBounds_toArray, List.set_cons_zero, List.set_cons_succ])
        repeat (first
          | (refine pl_run (v := ?_) rfl ?_ (fun W hW => ?_) ?_; rotate_left; rfl; ((try dsimp only at hW); go_simp; try with_reducible rfl); (try simp only [Act.put, List.setIfInBounds_toArray, List.set_cons_zero, List.set_cons_succ]))
          | (refine pl_skip rfl ?_ ?_; rfl; (try simp only [Act.put, List.setIfInBounds_toArray, List.set_cons_zero, List.set_cons_succ])))
        refine pl_end ?_
        have BS : Blk w4 W0.heap.size 81 #[.int .i64 0, .slice none 0 0, .slice none 0 0, .slice none 0 0, .map none] := B4
        have XS : Ext W0 w4 := X4
        have gS : W0.heap.size ≤ W0.heap.size := by omega
        generalize w4 = WS at BS XS ⊢
        obtain ⟨kS0, kS1, kS2, kS3, kS4⟩ := BS.c5
        have fS0 := BS.frozen 0
        have fS1 := BS.frozen 1
        have fS2 := BS.frozen 2
        have fS3 := BS.frozen 3
        have fS4 := BS.frozen 4
        refine pl_one rfl (by rfl) (fun K hK => ?_)
        go_simp
        refine hK.out _ _ (HH.out _ (below5 XS gS (.int .i64 0) (.slice none 0 0) (.slice none 0 0) (.slice none 0 0) (.map none))) ?_
        clear hK K
        (try simp only [Act.put, List.setIfInBounds_toArray, List.set_cons_zero, List.set_cons_succ])
        refine pl_tames ?_
        (try simp only [Act.put, List.setIfInBounds_toArray, List.set_cons_zero, List.set_cons_succ])
        repeat (first
          | (refine pl_run (v := ?_) rfl ?_ (fun W hW => ?_) ?_; rotate_left; rfl; ((try dsimp only at hW); go_simp; try with_reducible rfl); (try simp only [Act.put, List.setIfInBounds_toArray, List.set_cons_zero, List.set_cons_succ]))
          | (refine pl_skip rfl ?_ ?_; rfl; (try simp only [Act.put, List.setIfInBounds_toArray, List.set_cons_zero, List.set_cons_succ])))
        refine pl_end ?_
        refine pl_done ?_
        (try simp only [Act.put])
        go_wp2
        go_meet
        case rel => exact ⟨W0.heap.size, rfl, rfl, (below5 XS gS (.int .i64 0) (.slice none 0 0) (.slice none 0 0) (.slice none 0 0) (.map none))⟩
    case rest =>
      obtain ⟨g, rfl, rfl, hX⟩ := hcut
      obtain ⟨c, hc⟩ : ∃ c, c = askE B false := ⟨_, rfl⟩
      rw [← hc] at hne ⊢
      have hcn : (c != 0) = true := by simp [hne]
      go_wp2
      refine bodyPost_ret (v := .tuple #[.int .i64 0, .int .i64 c]) ?_ rfl ⟨by rw [hc], E0.trans hX⟩
      simp [results, Tryd.results30, go_sem]
  · cases hs2 : isShB B j
    · rw [hs, hs2, Bool.and_false, Bool.false_and] at hne
      rw [Bool.and_false, Bool.false_and]
      have HB := Lib.hid h
      have HG := Lib.hid hG
      have l2 := h.l2
      have l3 := h.l3
      clear h hG
      go_enter Tryd.func30, Tryd.ntmps30
      go_upto_region 1 with (fail)
      obtain ⟨W0, hW0⟩ : ∃ W0, W0 = w.alloc (.cells #[.int .i64 B.comp, .slice a1 B.bounds.length c1, .slice a2 B.orders.length c2, .slice a3 B.shots.length c3] 26) := ⟨_, rfl⟩
      have b0 : Blk W0 w.heap.size 26 #[.int .i64 B.comp, .slice a1 B.bounds.length c1, .slice a2 B.orders.length c2, .slice a3 B.shots.length c3] := by rw [hW0]; exact Blk.new _ _ _
      have E0 : Ext w W0 := by rw [hW0]; exact Ext.alloc _ _
      rw [← hW0]
      clear hW0
      have HH : Hid (∀ W, Ext W0 W → (W.cell? ⟨w.heap.size, 0, none⟩ = some (.int .i64 B.comp) ∧ W.cell? ⟨w.heap.size, 1, none⟩ = some (.slice a1 B.bounds.length c1) ∧ W.cell? ⟨w.heap.size, 2, none⟩ = some (.slice a2 B.orders.length c2) ∧ W.cell? ⟨w.heap.size, 3, none⟩ = some (.slice a3 B.shots.length c3))) := Lib.hid fun W e => (b0.ext e).c4
      go_cut [8, 9] (fun p e wx => ∃ g, p = .pointer (some ⟨g, 0, none⟩) ∧ e = .int .i64 (askE B false) ∧ Ext W0 wx)
      case first =>
        refine wp_plan (fun W => W.cell? ⟨w.heap.size, 0, none⟩ = some (.int .i64 B.comp) ∧ W.cell? ⟨w.heap.size, 1, none⟩ = some (.slice a1 B.bounds.length c1) ∧ W.cell? ⟨w.heap.size, 2, none⟩ = some (.slice a2 B.orders.length c2) ∧ W.cell? ⟨w.heap.size, 3, none⟩ = some (.slice a3 B.shots.length c3)) (.tames [0, 1, 2] (.two 3 18 (.tames [4, 5, 6] (.two 7 18 (.tames [8, 9, 10, 11, 12, 13] (.two 14 18 (.tames [15, 16, 17] (.one 18 (.one 19 (.tames [20] (.done))))) (.one 14 (.tames [15, 16, 17] (.one 19 (.tames [20] (.done))))))) (.one 7 (.tames [8, 9, 10, 11, 12, 13] (.one 14 (.tames [15, 16, 17] (.one 19 (.tames [20] (.done))))))))) (.one 3 (.tames [4, 5, 6] (.one 7 (.tames [8, 9, 10, 11, 12, 13] (.one 14 (.tames [15, 16, 17] (.one 19 (.tames [20] (.done))))))))))) (by kernel_rfl) (by kernel_rfl) (by kernel_rfl) (fun c a d v w h => by cases d <;> exact h) ?_ ?_
        · exact HH.out _ (Ext.drew _)
        refine pl_tames ?_
        (try simp only [Act.put, List.setIfInBounds_toArray, List.set_cons_zero, List.set_cons_succ])
        repeat (first
          | (refine pl_run (v := ?_) rfl ?_ (fun W hW => ?_) ?_; rotate_left; rfl; ((try dsimp only at hW); go_simp; try with_reducible rfl); (try simp only [Act.put, List.setIfInBounds_toArray, List.set_cons_zero, List.set_cons_succ]))
          | (refine pl_skip rfl ?_ ?_; rfl; (try simp only [Act.put, List.setIfInBounds_toArray, List.set_cons_zero, List.set_cons_succ])))
        refine pl_end ?_
        refine pl_two ?_ ?_
        · refine pl_one rfl (by rfl) (fun K hK => ?_)
          go_simp
          go_at_call 74
          refine ((isSh_any B a1 a2 a3 c1 c2 c3 i _ l3).mono (fun e w' q => (⟨by rw [q.1, hs], q.2⟩ : e = .returned (.bool true) ∧ _))).mono ?_
          rintro e w1 ⟨rfl, hE1⟩
          have X1 : Ext W0 w1 := Ext.trans (Ext.drew W0) hE1
          have hz1 := hE1.size
          refine hK.out _ _ (HH.out _ (X1)) ?_
          clear hK K
          (try simp only [Act.put, List.setIfInBounds_toArray, List.set_cons_zero, List.set_cons_succ])
          refine pl_tames ?_
          (try simp only [Act.put, List.setIfInBounds_toArray, List.set_cons_zero, List.set_cons_succ])
          repeat (first
            | (refine pl_run (v := ?_) rfl ?_ (fun W hW => ?_) ?_; rotate_left; rfl; ((try dsimp only at hW); go_simp; try with_reducible rfl); (try simp only [Act.put, List.setIfInBounds_toArray, List.set_cons_zero, List.set_cons_succ]))
            | (refine pl_skip rfl ?_ ?_; rfl; (try simp only [Act.put, List.setIfInBounds_toArray, List.set_cons_zero, List.set_cons_succ])))
          refine pl_end ?_
          refine pl_two ?_ ?_
          · refine pl_one rfl (by rfl) (fun K hK => ?_)
            go_simp
            go_at_call 74
            refine ((isSh_any B a1 a2 a3 c1 c2 c3 j _ l3).mono (fun e w' q => (⟨by rw [q.1, hs2], q.2⟩ : e = .returned (.bool false) ∧ _))).mono ?_
            rintro e w2 ⟨rfl, hE2⟩
            have X2 : Ext W0 w2 := Ext.trans (X1) hE2
            have hz2 := hE2.size
            refine hK.out _ _ (HH.out _ (X2)) ?_
            clear hK K
            (try simp only [Act.put, List.setIfInBounds_toArray, List.set_cons_zero, List.set_cons_succ])
            refine pl_tames ?_
            (try simp only [Act.put, List.setIfInBounds_toArray, List.set_cons_zero, List.set_cons_succ])
            repeat (first
              | (refine pl_run (v := ?_) rfl ?_ (fun W hW => ?_) ?_; rotate_left; rfl; ((try dsimp only at hW); go_simp; try with_reducible rfl); (try simp only [Act.put, List.setIfInBounds_toArray, List.set_cons_zero, List.set_cons_succ]))
              | (refine pl_skip rfl ?_ ?_; rfl; (try simp only [Act.put, List.setIfInBounds_toArray, List.set_cons_zero, List.set_cons_succ])))
            refine pl_end ?_
            refine pl_two ?_ ?_
            · refine pl_one rfl (by rfl) (fun K hK => ?_)
              go_simp
              go_at_call 58
              refine (asked_ref B a1 a2 a3 c1 c2 c3 _ _ ((HB.out.ext E0).ext (X2)) ((HG.out.ext E0).ext (X2)) hne).mono ?_
              rintro e w3 ⟨rfl, hE3⟩
              have X3 : Ext W0 w3 := Ext.trans (X2) hE3
              have hz3 := hE3.size
              refine hK.out _ _ (HH.out _ (X3)) ?_
              clear hK K
              (try simp only [Act.put, List.setIfInBounds_toArray, List.set_cons_zero, List.set_cons_succ])
              refine pl_tames ?_
              (try simp only [Act.put, List.setIfInBounds_toArray, List.set_cons_zero, List.set_cons_succ])
              repeat (first
                | (refine pl_run (v := ?_) rfl ?_ (fun W hW => ?_) ?_; rotate_left; rfl; ((try dsimp only at hW); go_simp; try with_reducible rfl); (try simp only [Act.put, List.setIfInBounds_toArray, List.set_cons_zero, List.set_cons_succ]))
                | (refine pl_skip rfl ?_ ?_; rfl; (try simp only [Act.put, List.setIfInBounds_toArray, List.set_cons_zero, List.set_cons_succ])))
              refine pl_end ?_
              refine pl_one rfl (by rfl) (fun K hK => ?_)
              go_simp
              have X4 : Ext W0 (w3.alloc (.cells #[.int .i64 0, .slice none 0 0, .slice none 0 0, .slice none 0 0, .map none] 81)) := Ext.trans (X3) (Ext.alloc _ _)
              have B4 : Blk (w3.alloc (.cells #[.int .i64 0, .slice none 0 0, .slice none 0 0, .slice none 0 0, .map none] 81)) w3.heap.size 81 #[.int .i64 0, .slice none 0 0, .slice none 0 0, .slice none 0 0, .map none] := Blk.new _ _ _
              have hg4 : W0.heap.size ≤ w3.heap.size := Below.size (X3)
              have ha4 : (w3.alloc (.cells #[.int .i64 0, .slice none 0 0, .slice none 0 0, .slice none 0 0, .map none] 81)).heap.size = w3.heap.size + 1 := by simp
              refine hK.out _ _ (HH.out _ (X4)) ?_
              clear hK K
              (try simp only [Act.put, List.setIfInBounds_toArray, List.set_cons_zero, List.set_cons_succ])
              have BS : Blk (w3.alloc (.cells #[.int .i64 0, .slice none 0 0, .slice none 0 0, .slice none 0 0, .map none] 81)) w3.heap.size 81 #[.int .i64 0, .slice none 0 0, .slice none 0 0, .slice none 0 0, .map none] := B4
              have XS : Ext W0 (w3.alloc (.cells #[.int .i64 0, .slice none 0 0, .slice none 0 0, .slice none 0 0, .map none] 81)) := X4
              have gS : W0.heap.size ≤ w3.heap.size := by omega
              generalize (w3.alloc (.cells #[.int .i64 0, .slice none 0 0, .slice none 0 0, .slice none 0 0, .map none] 81)) = WS at BS XS ⊢
              obtain ⟨kS0, kS1, kS2, kS3, kS4⟩ := BS.c5
              have fS0 := BS.frozen 0
              have fS1 := BS.frozen 1
              have fS2 := BS.frozen 2
              have fS3 := BS.frozen 3
              have fS4 := BS.frozen 4
              refine pl_one rfl (by rfl) (fun K hK => ?_)
              go_simp
              refine hK.out _ _ (HH.out _ (below5 XS gS (.int .i64 0) (.slice none 0 0) (.slice none 0 0) (.slice none 0 0) (.map none))) ?_
              clear hK K
              (try simp only [Act.put, List.setIfInBounds_toArray, List.set_cons_zero, List.set_cons_succ])
              refine pl_tames ?_
              (try simp only [Act.put, List.setIfInBounds_toArray, List.set_cons_zero, List.set_cons_succ])
              repeat (first
                | (refine pl_run (v := ?_) rfl ?_ (fun W hW => ?_) ?_; rotate_left; rfl; ((try dsimp only at hW); go_simp; try with_reducible rfl); (try simp only [Act.put, List.setIfInBounds_toArray, List.set_cons_zero, List.set_cons_succ]))
                | (refine pl_skip rfl ?_ ?_; rfl; (try simp only [Act.put, List.setIfInBounds_toArray, List.set_cons_zero, List.set_cons_succ])))
              refine pl_end ?_
              refine pl_done ?_
              (try simp only [Act.put])
              go_wp2
              go_meet
              case rel => exact ⟨w3.heap.size, rfl, rfl, (below5 XS gS (.int .i64 0) (.slice none 0 0) (.slice none 0 0) (.slice none 0 0) (.map none))⟩
            · refine pl_one rfl (by rfl) (fun K hK => ?_)
              go_simp
              have X3 : Ext W0 (w2.alloc (.cells #[.int .i64 0, .slice none 0 0, .slice none 0 0, .slice none 0 0, .map none] 81)) := Ext.trans (X2) (Ext.alloc _ _)
              have B3 : Blk (w2.alloc (.cells #[.int .i64 0, .slice none 0 0, .slice none 0 0, .slice none 0 0, .map none] 81)) w2.heap.size 81 #[.int .i64 0, .slice none 0 0, .slice none 0 0, .slice none 0 0, .map none] := Blk.new _ _ _
              have hg3 : W0.heap.size ≤ w2.heap.size := Below.size (X2)
              have ha3 : (w2.alloc (.cells #[.int .i64 0, .slice none 0 0, .slice none 0 0, .slice none 0 0, .map none] 81)).heap.size = w2.heap.size + 1 := by simp
              refine hK.out _ _ (HH.out _ (X3)) ?_
              clear hK K
              (try simp only [Act.put, List.setIfInBounds_toArray, List.set_cons_zero, List.set_cons_succ])
              refine pl_one rfl (by rfl) (fun K hK => ?_)
              go_simp
              go_at_call 58
              refine (asked_ref B a1 a2 a3 c1 c2 c3 _ _ ((HB.out.ext E0).ext (X3)) ((HG.out.ext E0).ext (X3)) hne).mono ?_
              rintro e w4 ⟨rfl, hE4⟩
              have X4 : Ext W0 w4 := Ext.trans (X3) hE4
              have hz4 := hE4.size
              have B4 := Blk.ext (B3) hE4
              refine hK.out _ _ (HH.out _ (X4)) ?_
              clear hK K
              (try simp only [Act.put, List.setIfInBounds_toArray, List.set_cons_zero, List.set_cons_succ])
              refine pl_tames ?_
              (try simp only [Act.put, List.setIfInBounds_toArray, List.set_cons_zero, List.set_cons_succ])
              repeat (first
                | (refine pl_run (v := ?_) rfl ?_ (fun W hW => ?_) ?_; rotate_left; rfl; ((try dsimp only at hW); go_simp; try with_reducible rfl); (try simp only [Act.put, List.setIfInBounds_toArray, List.set_cons_zero, List.set_cons_succ]))
                | (refine pl_skip rfl ?_ ?_; rfl; (try simp only [Act.put, List.setIfInBounds_toArray, List.set_cons_zero, List.set_cons_succ])))
              refine pl_end ?_
              have BS : Blk w4 w2.heap.size 81 #[.int .i64 0, .slice none 0 0, .slice none 0 0, .slice none 0 0, .map none] := B4
              have XS : Ext W0 w4 := X4
              have gS : W0.heap.size ≤ w2.heap.size := by omega
              generalize w4 = WS at BS XS ⊢
              obtain ⟨kS0, kS1, kS2, kS3, kS4⟩ := BS.c5
              have fS0 := BS.frozen 0
              have fS1 := BS.frozen 1
              have fS2 := BS.frozen 2
              have fS3 := BS.frozen 3
              have fS4 := BS.frozen 4
              refine pl_one rfl (by rfl) (fun K hK => ?_)
              go_simp
              refine hK.out _ _ (HH.out _ (below5 XS gS (.int .i64 0) (.slice none 0 0) (.slice none 0 0) (.slice none 0 0) (.map none))) ?_
              clear hK K
              (try simp only [Act.put, List.setIfInBounds_toArray, List.set_cons_zero, List.set_cons_succ])
              refine pl_tames ?_
              (try simp only [Act.put, List.setIfInBounds_toArray, List.set_cons_zero, List.set_cons_succ])
              repeat (first
                | (refine pl_run (v := ?_) rfl ?_ (fun W hW => ?_) ?_; rotate_left; rfl; ((try dsimp only at hW); go_simp; try with_reducible rfl); (try simp only [Act.put, List.setIfInBounds_toArray, List.set_cons_zero, List.set_cons_succ]))
                | (refine pl_skip rfl ?_ ?_; rfl; (try simp only [Act.put, List.setIfInBounds_toArray, List.set_cons_zero, List.set_cons_succ])))
              refine pl_end ?_
              refine pl_done ?_
              (try simp only [Act.put])
              go_wp2
              go_meet
              case rel => exact ⟨w2.heap.size, rfl, rfl, (below5 XS gS (.int .i64 0) (.slice none 0 0) (.slice none 0 0) (.slice none 0 0) (.map none))⟩
          · refine pl_one rfl (by rfl) (fun K hK => ?_)
            go_simp
            have X2 : Ext W0 (w1.alloc (.cells #[.int .i64 0, .slice none 0 0, .slice none 0 0, .slice none 0 0, .map none] 81)) := Ext.trans (X1) (Ext.alloc _ _)
            have B2 : Blk (w1.alloc (.cells #[.int .i64 0, .slice none 0 0, .slice none 0 0, .slice none 0 0, .map none] 81)) w1.heap.size 81 #[.int .i64 0, .slice none 0 0, .slice none 0 0, .slice none 0 0, .map none] := Blk.new _ _ _
            have hg2 : W0.heap.size ≤ w1.heap.size := Below.size (X1)
            have ha2 : (w1.alloc (.cells #[.int .i64 0, .slice none 0 0, .slice none 0 0, .slice none 0 0, .map none] 81)).heap.size = w1.heap.size + 1 := by simp
            refine hK.out _ _ (HH.out _ (X2)) ?_
            clear hK K
            (try simp only [Act.put, List.setIfInBounds_toArray, List.set_cons_zero, List.set_cons_succ])
            refine pl_one rfl (by rfl) (fun K hK => ?_)
            go_simp
            go_at_call 74
            refine ((isSh_any B a1 a2 a3 c1 c2 c3 j _ l3).mono (fun e w' q => (⟨by rw [q.1, hs2], q.2⟩ : e = .returned (.bool false) ∧ _))).mono ?_
            rintro e w3 ⟨rfl, hE3⟩
            have X3 : Ext W0 w3 := Ext.trans (X2) hE3
            have hz3 := hE3.size
            have B3 := Blk.ext (B2) hE3
            refine hK.out _ _ (HH.out _ (X3)) ?_
            clear hK K
            (try simp only [Act.put, List.setIfInBounds_toArray, List.set_cons_zero, List.set_cons_succ])
            refine pl_tames ?_
            (try simp only [Act.put, List.setIfInBounds_toArray, List.set_cons_zero, List.set_cons_succ])
            repeat (first
              | (refine pl_run (v := ?_) rfl ?_ (fun W hW => ?_) ?_; rotate_left; rfl; ((try dsimp only at hW); go_simp; try with_reducible rfl); (try simp only [Act.put, List.setIfInBounds_toArray, List.set_cons_zero, List.set_cons_succ]))
              | (refine pl_skip rfl ?_ ?_; rfl; (try simp only [Act.put, List.setIfInBounds_toArray, List.set_cons_zero, List.set_cons_succ])))
            refine pl_end ?_
            refine pl_one rfl (by rfl) (fun K hK => ?_)
            go_simp
            go_at_call 58
            refine (asked_ref B a1 a2 a3 c1 c2 c3 _ _ ((HB.out.ext E0).ext (X3)) ((HG.out.ext E0).ext (X3)) hne).mono ?_
            rintro e w4 ⟨rfl, hE4⟩
            have X4 : Ext W0 w4 := Ext.trans (X3) hE4
            have hz4 := hE4.size
            have B4 := Blk.ext (B3) hE4
            refine hK.out _ _ (HH.out _ (X4)) ?_
            clear hK K
            (try simp only [Act.put, List.setIfInBounds_toArray, List.set_cons_zero, List.set_cons_succ])
            refine pl_tames ?_
            (try simp only [Act.put, List.setIfInBounds_toArray, List.set_cons_zero, List.set_cons_succ])
            repeat (first
              | (refine pl_run (v := ?_) rfl ?_ (fun W hW => ?_) ?_; rotate_left; rfl; ((try dsimp only at hW); go_simp; try with_reducible rfl); (try simp only [Act.put, List.setIfInBounds_toArray, List.set_cons_zero, List.set_cons_succ]))
              | (refine pl_skip rfl ?_ ?_; rfl; (try simp only [Act.put, List.setIfInBounds_toArray, List.set_cons_zero, List.set_cons_succ])))
            refine pl_end ?_
            have BS : Blk w4 w1.heap.size 81 #[.int .i64 0, .slice none 0 0, .slice none 0 0, .slice none 0 0, .map none] := B4
            have XS : Ext W0 w4 := X4
            have gS : W0.heap.size ≤ w1.heap.size := by omega
            generalize w4 = WS at BS XS ⊢
            obtain ⟨kS0, kS1, kS2, kS3, kS4⟩ := BS.c5
            have fS0 := BS.frozen 0
            have fS1 := BS.frozen 1
            have fS2 := BS.frozen 2
            have fS3 := BS.frozen 3
            have fS4 := BS.frozen 4
            refine pl_one rfl (by rfl) (fun K hK => ?_)
            go_simp
            refine hK.out _ _ (HH.out _ (below5 XS gS (.int .i64 0) (.slice none 0 0) (.slice none 0 0) (.slice none 0 0) (.map none))) ?_
            clear hK K
            (try simp only [Act.put, List.setIfInBounds_toArray, List.set_cons_zero, List.set_cons_succ])
            refine pl_tames ?_
            (try simp only [Act.put, List.setIfInBounds_toArray, List.set_cons_zero, List.set_cons_succ])
            repeat (first
              | (refine pl_run (v := ?_) rfl ?_ (fun W hW => ?_) ?_; rotate_left; rfl; ((try dsimp only at hW); go_simp; try with_reducible rfl); (try simp only [Act.put, List.setIfInBounds_toArray, List.set_cons_zero, List.set_cons_succ]))
              | (refine pl_skip rfl ?_ ?_; rfl; (try simp only [Act.put, List.setIfInBounds_toArray, List.set_cons_zero, List.set_cons_succ])))
            refine pl_end ?_
            refine pl_done ?_
            (try simp only [Act.put])
            go_wp2
            go_meet
            case rel => exact ⟨w1.heap.size, rfl, rfl, (below5 XS gS (.int .i64 0) (.slice none 0 0) (.slice none 0 0) (.slice none 0 0) (.map none))⟩
        · refine pl_one rfl (by rfl) (fun K hK => ?_)
          go_simp
          have X1 : Ext W0 (W0.alloc (.cells #[.int .i64 0, .slice none 0 0, .slice none 0 0, .slice none 0 0, .map none] 81)).drew := Ext.trans (Ext.alloc _ _) (Ext.drew _)
          have B1 : Blk (W0.alloc (.cells #[.int .i64 0, .slice none 0 0, .slice none 0 0, .slice none 0 0, .map none] 81)).drew W0.heap.size 81 #[.int .i64 0, .slice none 0 0, .slice none 0 0, .slice none 0 0, .map none] := (Blk.new _ _ _).drew
          have ha1 : (W0.alloc (.cells #[.int .i64 0, .slice none 0 0, .slice none 0 0, .slice none 0 0, .map none] 81)).drew.heap.size = W0.heap.size + 1 := by simp
          refine hK.out _ _ (HH.out _ (X1)) ?_
          clear hK K
          (try simp only [Act.put, List.setIfInBounds_toArray, List.set_cons_zero, List.set_cons_succ])
          refine pl_one rfl (by rfl) (fun K hK => ?_)
          go_simp
          go_at_call 74
          refine ((isSh_any B a1 a2 a3 c1 c2 c3 i _ l3).mono (fun e w' q => (⟨by rw [q.1, hs], q.2⟩ : e = .returned (.bool true) ∧ _))).mono ?_
          rintro e w2 ⟨rfl, hE2⟩
          have X2 : Ext W0 w2 := Ext.trans (X1) hE2
          have hz2 := hE2.size
          have B2 := Blk.ext (B1) hE2
          refine hK.out _ _ (HH.out _ (X2)) ?_
          clear hK K
          (try simp only [Act.put, List.setIfInBounds_toArray, List.set_cons_zero, List.set_cons_succ])
          refine pl_tames ?_
          (try simp only [Act.put, List.setIfInBounds_toArray, List.set_cons_zero, List.set_cons_succ])
          repeat (first
            | (refine pl_run (v := ?_) rfl ?_ (fun W hW => ?_) ?_; rotate_left; rfl; ((try dsimp only at hW); go_simp; try with_reducible rfl); (try simp only [Act.put, List.setIfInBounds_toArray, List.set_cons_zero, List.set_cons_succ]))
            | (refine pl_skip rfl ?_ ?_; rfl; (try simp only [Act.put, List.setIfInBounds_toArray, List.set_cons_zero, List.set_cons_succ])))
          refine pl_end ?_
          refine pl_one rfl (by rfl) (fun K hK => ?_)
          go_simp
          go_at_call 74
          refine ((isSh_any B a1 a2 a3 c1 c2 c3 j _ l3).mono (fun e w' q => (⟨by rw [q.1, hs2], q.2⟩ : e = .returned (.bool false) ∧ _))).mono ?_
          rintro e w3 ⟨rfl, hE3⟩
          have X3 : Ext W0 w3 := Ext.trans (X2) hE3
          have hz3 := hE3.size
          have B3 := Blk.ext (B2) hE3
          refine hK.out _ _ (HH.out _ (X3)) ?_
          clear hK K
          (try simp only [Act.put, List.setIfInBounds_toArray, List.set_cons_zero, List.set_cons_succ])
          refine pl_tames ?_
          (try simp only [Act.put, List.setIfInBounds_toArray, List.set_cons_zero, List.set_cons_succ])
          repeat (first
            | (refine pl_run (v := ?_) rfl ?_ (fun W hW => ?_) ?_; rotate_left; rfl; ((try dsimp only at hW); go_simp; try with_reducible rfl); (try simp only [Act.put, List.setIfInBounds_toArray, List.set_cons_zero, List.set_cons_succ]))
            | (refine pl_skip rfl ?_ ?_; rfl; (try simp only [Act.put, List.setIfInBounds_toArray, List.set_cons_zero, List.set_cons_succ])))
          refine pl_end ?_
          refine pl_one rfl (by rfl) (fun K hK => ?_)
          go_simp
          go_at_call 58
          refine (asked_ref B a1 a2 a3 c1 c2 c3 _ _ ((HB.out.ext E0).ext (X3)) ((HG.out.ext E0).ext (X3)) hne).mono ?_
          rintro e w4 ⟨rfl, hE4⟩
          have X4 : Ext W0 w4 := Ext.trans (X3) hE4
          have hz4 := hE4.size
          have B4 := Blk.ext (B3) hE4
          refine hK.out _ _ (HH.out _ (X4)) ?_
          clear hK K
          (try simp only [Act.put, List.setIfInBounds_toArray, List.set_cons_zero, List.set_cons_succ])
          refine pl_tames ?_
          (try simp only [Act.put, List.setIfInBounds_toArray, List.set_cons_zero, List.set_cons_succ])
          repeat (first
            | (refine pl_run (v := ?_) rfl ?_ (fun W hW => ?_) ?_; rotate_left; rfl; ((try dsimp only at hW); go_simp; try with_reducible rfl); (try simp only [Act.put, List.setIfInBounds_toArray, List.set_cons_zero, List.set_cons_succ]))
            | (refine pl_skip rfl ?_ ?_; rfl; (try simp only [Act.put, List.setIfInBounds_toArray, List.set_cons_zero, List.set_cons_succ])))
          refine pl_end ?_
          have BS : Blk w4 W0.heap.size 81 #[.int .i64 0, .slice none 0 0, .slice none 0 0, .slice none 0 0, .map none] := B4
          have XS : Ext W0 w4 := X4
          have gS : W0.heap.size ≤ W0.heap.size := by omega
          generalize w4 = WS at BS XS ⊢
          obtain ⟨kS0, kS1, kS2, kS3, kS4⟩ := BS.c5
          have fS0 := BS.frozen 0
          have fS1 := BS.frozen 1
          have fS2 := BS.frozen 2
          have fS3 := BS.frozen 3
          have fS4 := BS.frozen 4
          refine pl_one rfl (by rfl) (fun K hK => ?_)
          go_simp
          refine hK.out _ _ (HH.out _ (below5 XS gS (.int .i64 0) (.slice none 0 0) (.slice none 0 0) (.slice none 0 0) (.map none))) ?_
          clear hK K
          (try simp only [Act.put, List.setIfInBounds_toArray, List.set_cons_zero, List.set_cons_succ])
          refine pl_tames ?_
          (try simp only [Act.put, List.setIfInBounds_toArray, List.set_cons_zero, List.set_cons_succ])
          repeat (first
            | (refine pl_run (v := ?_) rfl ?_ (fun W hW => ?_) ?_; rotate_left; rfl; ((try dsimp only at hW); go_simp; try with_reducible rfl); (try simp only [Act.put, List.setIfInBounds_toArray, List.set_cons_zero, List.set_cons_succ]))
            | (refine pl_skip rfl ?_ ?_; rfl; (try simp only [Act.put, List.setIfInBounds_toArray, List.set_cons_zero, List.set_cons_succ])))
          refine pl_end ?_
          refine pl_done ?_
          (try simp only [Act.put])
          go_wp2
          go_meet
          case rel => exact ⟨W0.heap.size, rfl, rfl, (below5 XS gS (.int .i64 0) (.slice none 0 0) (.slice none 0 0) (.slice none 0 0) (.map none))⟩
      case rest =>
        obtain ⟨g, rfl, rfl, hX⟩ := hcut
        obtain ⟨c, hc⟩ : ∃ c, c = askE B false := ⟨_, rfl⟩
        rw [← hc] at hne ⊢
        have hcn : (c != 0) = true := by simp [hne]
        go_wp2
        refine bodyPost_ret (v := .tuple #[.int .i64 0, .int .i64 c]) ?_ rfl ⟨by rw [hc], E0.trans hX⟩
        simp [results, Tryd.results30, go_sem]
    · rw [hs, hs2, Bool.and_self, Bool.true_and] at hne
      rw [Bool.and_self, Bool.true_and]
      have HB := Lib.hid h
      have HG := Lib.hid hG
      have l2 := h.l2
      have l3 := h.l3
      clear h hG
      go_enter Tryd.func30, Tryd.ntmps30
      go_upto_region 1 with (fail)
      obtain ⟨W0, hW0⟩ : ∃ W0, W0 = w.alloc (.cells #[.int .i64 B.comp, .slice a1 B.bounds.length c1, .slice a2 B.orders.length c2, .slice a3 B.shots.length c3] 26) := ⟨_, rfl⟩
      have b0 : Blk W0 w.heap.size 26 #[.int .i64 B.comp, .slice a1 B.bounds.length c1, .slice a2 B.orders.length c2, .slice a3 B.shots.length c3] := by rw [hW0]; exact Blk.new _ _ _
      have E0 : Ext w W0 := by rw [hW0]; exact Ext.alloc _ _
      rw [← hW0]
      clear hW0
      have HH : Hid (∀ W, Ext W0 W → (W.cell? ⟨w.heap.size, 0, none⟩ = some (.int .i64 B.comp) ∧ W.cell? ⟨w.heap.size, 1, none⟩ = some (.slice a1 B.bounds.length c1) ∧ W.cell? ⟨w.heap.size, 2, none⟩ = some (.slice a2 B.orders.length c2) ∧ W.cell? ⟨w.heap.size, 3, none⟩ = some (.slice a3 B.shots.length c3))) := Lib.hid fun W e => (b0.ext e).c4
      go_cut [8, 9] (fun p e wx => ∃ g, p = .pointer (some ⟨g, 0, none⟩) ∧ e = .int .i64 (askE B (i != j)) ∧ Ext W0 wx)
      case first =>
        refine wp_plan (fun W => W.cell? ⟨w.heap.size, 0, none⟩ = some (.int .i64 B.comp) ∧ W.cell? ⟨w.heap.size, 1, none⟩ = some (.slice a1 B.bounds.length c1) ∧ W.cell? ⟨w.heap.size, 2, none⟩ = some (.slice a2 B.orders.length c2) ∧ W.cell? ⟨w.heap.size, 3, none⟩ = some (.slice a3 B.shots.length c3)) (.tames [0, 1, 2] (.two 3 18 (.tames [4, 5, 6] (.two 7 18 (.tames [8, 9, 10, 11, 12, 13] (.two 14 18 (.tames [15, 16, 17] (.one 18 (.one 19 (.tames [20] (.done))))) (.one 14 (.tames [15, 16, 17] (.one 19 (.tames [20] (.done))))))) (.one 7 (.tames [8, 9, 10, 11, 12, 13] (.one 14 (.tames [15, 16, 17] (.one 19 (.tames [20] (.done))))))))) (.one 3 (.tames [4, 5, 6] (.one 7 (.tames [8, 9, 10, 11, 12, 13] (.one 14 (.tames [15, 16, 17] (.one 19 (.tames [20] (.done))))))))))) (by kernel_rfl) (by kernel_rfl) (by kernel_rfl) (fun c a d v w h => by cases d <;> exact h) ?_ ?_
        · exact HH.out _ (Ext.drew _)
        refine pl_tames ?_
        (try simp only [Act.put, List.setIfInBounds_toArray, List.set_cons_zero, List.set_cons_succ])
        repeat (first
          | (refine pl_run (v := ?_) rfl ?_ (fun W hW => ?_) ?_; rotate_left; rfl; ((try dsimp only at hW); go_simp; try with_reducible rfl); (try simp only [Act.put, List.setIfInBounds_toArray, List.set_cons_zero, List.set_cons_succ]))
          | (refine pl_skip rfl ?_ ?_; rfl; (try simp only [Act.put, List.setIfInBounds_toArray, List.set_cons_zero, List.set_cons_succ])))
        refine pl_end ?_
        refine pl_two ?_ ?_
        · refine pl_one rfl (by rfl) (fun K hK => ?_)
          go_simp
          go_at_call 74
          refine ((isSh_any B a1 a2 a3 c1 c2 c3 i _ l3).mono (fun e w' q => (⟨by rw [q.1, hs], q.2⟩ : e = .returned (.bool true) ∧ _))).mono ?_
          rintro e w1 ⟨rfl, hE1⟩
          have X1 : Ext W0 w1 := Ext.trans (Ext.drew W0) hE1
          have hz1 := hE1.size
          refine hK.out _ _ (HH.out _ (X1)) ?_
          clear hK K
          (try simp only [Act.put, List.setIfInBounds_toArray, List.set_cons_zero, List.set_cons_succ])
          refine pl_tames ?_
          (try simp only [Act.put, List.setIfInBounds_toArray, List.set_cons_zero, List.set_cons_succ])
          repeat (first
            | (refine pl_run (v := ?_) rfl ?_ (fun W hW => ?_) ?_; rotate_left; rfl; ((try dsimp only at hW); go_simp; try with_reducible rfl); (try simp only [Act.put, List.setIfInBounds_toArray, List.set_cons_zero, List.set_cons_succ]))
            | (refine pl_skip rfl ?_ ?_; rfl; (try simp only [Act.put, List.setIfInBounds_toArray, List.set_cons_zero, List.set_cons_succ])))
          refine pl_end ?_
          refine pl_two ?_ ?_
          · refine pl_one rfl (by rfl) (fun K hK => ?_)
            go_simp
            go_at_call 74
            refine ((isSh_any B a1 a2 a3 c1 c2 c3 j _ l3).mono (fun e w' q => (⟨by rw [q.1, hs2], q.2⟩ : e = .returned (.bool true) ∧ _))).mono ?_
            rintro e w2 ⟨rfl, hE2⟩
            have X2 : Ext W0 w2 := Ext.trans (X1) hE2
            have hz2 := hE2.size
            refine hK.out _ _ (HH.out _ (X2)) ?_
            clear hK K
            (try simp only [Act.put, List.setIfInBounds_toArray, List.set_cons_zero, List.set_cons_succ])
            refine pl_tames ?_
            (try simp only [Act.put, List.setIfInBounds_toArray, List.set_cons_zero, List.set_cons_succ])
            repeat (first
              | (refine pl_run (v := ?_) rfl ?_ (fun W hW => ?_) ?_; rotate_left; rfl; ((try dsimp only at hW); go_simp; try with_reducible rfl); (try simp only [Act.put, List.setIfInBounds_toArray, List.set_cons_zero, List.set_cons_succ]))
              | (refine pl_skip rfl ?_ ?_; rfl; (try simp only [Act.put, List.setIfInBounds_toArray, List.set_cons_zero, List.set_cons_succ])))
            refine pl_end ?_
            refine pl_two ?_ ?_
            · refine pl_one rfl (by rfl) (fun K hK => ?_)
              go_simp
              go_at_call 58
              refine (asked_ref B a1 a2 a3 c1 c2 c3 _ _ ((HB.out.ext E0).ext (X2)) ((HG.out.ext E0).ext (X2)) hne).mono ?_
              rintro e w3 ⟨rfl, hE3⟩
              have X3 : Ext W0 w3 := Ext.trans (X2) hE3
              have hz3 := hE3.size
              refine hK.out _ _ (HH.out _ (X3)) ?_
              clear hK K
              (try simp only [Act.put, List.setIfInBounds_toArray, List.set_cons_zero, List.set_cons_succ])
              refine pl_tames ?_
              (try simp only [Act.put, List.setIfInBounds_toArray, List.set_cons_zero, List.set_cons_succ])
              repeat (first
                | (refine pl_run (v := ?_) rfl ?_ (fun W hW => ?_) ?_; rotate_left; rfl; ((try dsimp only at hW); go_simp; try with_reducible rfl); (try simp only [Act.put, List.setIfInBounds_toArray, List.set_cons_zero, List.set_cons_succ]))
                | (refine pl_skip rfl ?_ ?_; rfl; (try simp only [Act.put, List.setIfInBounds_toArray, List.set_cons_zero, List.set_cons_succ])))
              refine pl_end ?_
              refine pl_one rfl (by rfl) (fun K hK => ?_)
              go_simp
              have X4 : Ext W0 (w3.alloc (.cells #[.int .i64 0, .slice none 0 0, .slice none 0 0, .slice none 0 0, .map none] 81)) := Ext.trans (X3) (Ext.alloc _ _)
              have B4 : Blk (w3.alloc (.cells #[.int .i64 0, .slice none 0 0, .slice none 0 0, .slice none 0 0, .map none] 81)) w3.heap.size 81 #[.int .i64 0, .slice none 0 0, .slice none 0 0, .slice none 0 0, .map none] := Blk.new _ _ _
              have hg4 : W0.heap.size ≤ w3.heap.size := Below.size (X3)
              have ha4 : (w3.alloc (.cells #[.int .i64 0, .slice none 0 0, .slice none 0 0, .slice none 0 0, .map none] 81)).heap.size = w3.heap.size + 1 := by simp
              refine hK.out _ _ (HH.out _ (X4)) ?_
              clear hK K
              (try simp only [Act.put, List.setIfInBounds_toArray, List.set_cons_zero, List.set_cons_succ])
              have BS : Blk (w3.alloc (.cells #[.int .i64 0, .slice none 0 0, .slice none 0 0, .slice none 0 0, .map none] 81)) w3.heap.size 81 #[.int .i64 0, .slice none 0 0, .slice none 0 0, .slice none 0 0, .map none] := B4
              have XS : Ext W0 (w3.alloc (.cells #[.int .i64 0, .slice none 0 0, .slice none 0 0, .slice none 0 0, .map none] 81)) := X4
              have gS : W0.heap.size ≤ w3.heap.size := by omega
              generalize (w3.alloc (.cells #[.int .i64 0, .slice none 0 0, .slice none 0 0, .slice none 0 0, .map none] 81)) = WS at BS XS ⊢
              obtain ⟨kS0, kS1, kS2, kS3, kS4⟩ := BS.c5
              have fS0 := BS.frozen 0
              have fS1 := BS.frozen 1
              have fS2 := BS.frozen 2
              have fS3 := BS.frozen 3
              have fS4 := BS.frozen 4
              refine pl_one rfl (by rfl) (fun K hK => ?_)
              go_simp
              refine hK.out _ _ (HH.out _ (below5 XS gS (.int .i64 0) (.slice none 0 0) (.slice none 0 0) (.slice none 0 0) (.map none))) ?_
              clear hK K
              (try simp only [Act.put, List.setIfInBounds_toArray, List.set_cons_zero, List.set_cons_succ])
              refine pl_tames ?_
              (try simp only [Act.put, List.setIfInBounds_toArray, List.set_cons_zero, List.set_cons_succ])
              repeat (first
                | (refine pl_run (v := ?_) rfl ?_ (fun W hW => ?_) ?_; rotate_left; rfl; ((try dsimp only at hW); go_simp; try with_reducible rfl); (try simp only [Act.put, List.setIfInBounds_toArray, List.set_cons_zero, List.set_cons_succ]))
                | (refine pl_skip rfl ?_ ?_; rfl; (try simp only [Act.put, List.setIfInBounds_toArray, List.set_cons_zero, List.set_cons_succ])))
              refine pl_end ?_
              refine pl_done ?_
              (try simp only [Act.put])
              go_wp2
              go_meet
              case rel => exact ⟨w3.heap.size, rfl, rfl, (below5 XS gS (.int .i64 0) (.slice none 0 0) (.slice none 0 0) (.slice none 0 0) (.map none))⟩
            · refine pl_one rfl (by rfl) (fun K hK => ?_)
              go_simp
              have X3 : Ext W0 (w2.alloc (.cells #[.int .i64 0, .slice none 0 0, .slice none 0 0, .slice none 0 0, .map none] 81)) := Ext.trans (X2) (Ext.alloc _ _)
              have B3 : Blk (w2.alloc (.cells #[.int .i64 0, .slice none 0 0, .slice none 0 0, .slice none 0 0, .map none] 81)) w2.heap.size 81 #[.int .i64 0, .slice none 0 0, .slice none 0 0, .slice none 0 0, .map none] := Blk.new _ _ _
              have hg3 : W0.heap.size ≤ w2.heap.size := Below.size (X2)
              have ha3 : (w2.alloc (.cells #[.int .i64 0, .slice none 0 0, .slice none 0 0, .slice none 0 0, .map none] 81)).heap.size = w2.heap.size + 1 := by simp
              refine hK.out _ _ (HH.out _ (X3)) ?_
              clear hK K
              (try simp only [Act.put, List.setIfInBounds_toArray, List.set_cons_zero, List.set_cons_succ])
              refine pl_one rfl (by rfl) (fun K hK => ?_)
              go_simp
              go_at_call 58
              refine (asked_ref B a1 a2 a3 c1 c2 c3 _ _ ((HB.out.ext E0).ext (X3)) ((HG.out.ext E0).ext (X3)) hne).mono ?_
              rintro e w4 ⟨rfl, hE4⟩
              have X4 : Ext W0 w4 := Ext.trans (X3) hE4
              have hz4 := hE4.size
              have B4 := Blk.ext (B3) hE4
              refine hK.out _ _ (HH.out _ (X4)) ?_
              clear hK K
              (try simp only [Act.put, List.setIfInBounds_toArray, List.set_cons_zero, List.set_cons_succ])
              refine pl_tames ?_
              (try simp only [Act.put, List.setIfInBounds_toArray, List.set_cons_zero, List.set_cons_succ])
              repeat (first
                | (refine pl_run (v := ?_) rfl ?_ (fun W hW => ?_) ?_; rotate_left; rfl; ((try dsimp only at hW); go_simp; try with_reducible rfl); (try simp only [Act.put, List.setIfInBounds_toArray, List.set_cons_zero, List.set_cons_succ]))
                | (refine pl_skip rfl ?_ ?_; rfl; (try simp only [Act.put, List.setIfInBounds_toArray, List.set_cons_zero, List.set_cons_succ])))
              refine pl_end ?_
              have BS : Blk w4 w2.heap.size 81 #[.int .i64 0, .slice none 0 0, .slice none 0 0, .slice none 0 0, .map none] := B4
              have XS : Ext W0 w4 := X4
              have gS : W0.heap.size ≤ w2.heap.size := by omega
              generalize w4 = WS at BS XS ⊢
              obtain ⟨kS0, kS1, kS2, kS3, kS4⟩ := BS.c5
              have fS0 := BS.frozen 0
              have fS1 := BS.frozen 1
              have fS2 := BS.frozen 2
              have fS3 := BS.frozen 3
              have fS4 := BS.frozen 4
              refine pl_one rfl (by rfl) (fun K hK => ?_)
              go_simp
              refine hK.out _ _ (HH.out _ (below5 XS gS (.int .i64 0) (.slice none 0 0) (.slice none 0 0) (.slice none 0 0) (.map none))) ?_
              clear hK K
              (try simp only [Act.put, List.setIfInBounds_toArray, List.set_cons_zero, List.set_cons_succ])
              refine pl_tames ?_
              (try simp only [Act.put, List.setIfInBounds_toArray, List.set_cons_zero, List.set_cons_succ])
              repeat (first
                | (refine pl_run (v := ?_) rfl ?_ (fun W hW => ?_) ?_; rotate_left; rfl; ((try dsimp only at hW); go_simp; try with_reducible rfl); (try simp only [Act.put, List.setIfInBounds_toArray, List.set_cons_zero, List.set_cons_succ]))
                | (refine pl_skip rfl ?_ ?_; rfl; (try simp only [Act.put, List.setIfInBounds_toArray, List.set_cons_zero, List.set_cons_succ])))
              refine pl_end ?_
              refine pl_done ?_
              (try simp only [Act.put])
              go_wp2
              go_meet
              case rel => exact ⟨w2.heap.size, rfl, rfl, (below5 XS gS (.int .i64 0) (.slice none 0 0) (.slice none 0 0) (.slice none 0 0) (.map none))⟩
          · refine pl_one rfl (by rfl) (fun K hK => ?_)
            go_simp
            have X2 : Ext W0 (w1.alloc (.cells #[.int .i64 0, .slice none 0 0, .slice none 0 0, .slice none 0 0, .map none] 81)) := Ext.trans (X1) (Ext.alloc _ _)
            have B2 : Blk (w1.alloc (.cells #[.int .i64 0, .slice none 0 0, .slice none 0 0, .slice none 0 0, .map none] 81)) w1.heap.size 81 #[.int .i64 0, .slice none 0 0, .slice none 0 0, .slice none 0 0, .map none] := Blk.new _ _ _
            have hg2 : W0.heap.size ≤ w1.heap.size := Below.size (X1)
            have ha2 : (w1.alloc (.cells #[.int .i64 0, .slice none 0 0, .slice none 0 0, .slice none 0 0, .map none] 81)).heap.size = w1.heap.size + 1 := by simp
            refine hK.out _ _ (HH.out _ (X2)) ?_
            clear hK K
            (try simp only [Act.put, List.setIfInBounds_toArray, List.set_cons_zero, List.set_cons_succ])
            refine pl_one rfl (by rfl) (fun K hK => ?_)
            go_simp
            go_at_call 74
            refine ((isSh_any B a1 a2 a3 c1 c2 c3 j _ l3).mono (fun e w' q => (⟨by rw [q.1, hs2], q.2⟩ : e = .returned (.bool true) ∧ _))).mono ?_
            rintro e w3 ⟨rfl, hE3⟩
            have X3 : Ext W0 w3 := Ext.trans (X2) hE3
            have hz3 := hE3.size
            have B3 := Blk.ext (B2) hE3
            refine hK.out _ _ (HH.out _ (X3)) ?_
            clear hK K
            (try simp only [Act.put, List.setIfInBounds_toArray, List.set_cons_zero, List.set_cons_succ])
            refine pl_tames ?_
            (try simp only [Act.put, List.setIfInBounds_toArray, List.set_cons_zero, List.set_cons_succ])
            repeat (first
              | (refine pl_run (v := ?_) rfl ?_ (fun W hW => ?_) ?_; rotate_left; rfl; ((try dsimp only at hW); go_simp; try with_reducible rfl); (try simp only [Act.put, List.setIfInBounds_toArray, List.set_cons_zero, List.set_cons_succ]))
              | (refine pl_skip rfl ?_ ?_; rfl; (try simp only [Act.put, List.setIfInBounds_toArray, List.set_cons_zero, List.set_cons_succ])))
            refine pl_end ?_
            refine pl_one rfl (by rfl) (fun K hK => ?_)
            go_simp
            go_at_call 58
            refine (asked_ref B a1 a2 a3 c1 c2 c3 _ _ ((HB.out.ext E0).ext (X3)) ((HG.out.ext E0).ext (X3)) hne).mono ?_
            rintro e w4 ⟨rfl, hE4⟩
            have X4 : Ext W0 w4 := Ext.trans (X3) hE4
            have hz4 := hE4.size
            have B4 := Blk.ext (B3) hE4
            refine hK.out _ _ (HH.out _ (X4)) ?_
            clear hK K
            (try simp only [Act.put, List.setIfInBounds_toArray, List.set_cons_zero, List.set_cons_succ])
            refine pl_tames ?_
            (try simp only [Act.put, List.setIfInBounds_toArray, List.set_cons_zero, List.set_cons_succ])
            repeat (first
              | (refine pl_run (v := ?_) rfl ?_ (fun W hW => ?_) ?_; rotate_left; rfl; ((try dsimp only at hW); go_simp; try with_reducible rfl); (try simp only [Act.put, List.setIfInBounds_toArray, List.set_cons_zero, List.set_cons_succ]))
              | (refine pl_skip rfl ?_ ?_; rfl; (try simp only [Act.put, List.setIfInBounds_toArray, List.set_cons_zero, List.set_cons_succ])))
            refine pl_end ?_
            have BS : Blk w4 w1.heap.size 81 #[.int .i64 0, .slice none 0 0, .slice none 0 0, .slice none 0 0, .map none] := B4
            have XS : Ext W0 w4 := X4
            have gS : W0.heap.size ≤ w1.heap.size := by omega
            generalize w4 = WS at BS XS ⊢
            obtain ⟨kS0, kS1, kS2, kS3, kS4⟩ := BS.c5
            have fS0 := BS.frozen 0
            have fS1 := BS.frozen 1
            have fS2 := BS.frozen 2
            have fS3 := BS.frozen 3
            have fS4 := BS.frozen 4
            refine pl_one rfl (by rfl) (fun K hK => ?_)
            go_simp
            refine hK.out _ _ (HH.out _ (below5 XS gS (.int .i64 0) (.slice none 0 0) (.slice none 0 0) (.slice none 0 0) (.map none))) ?_
            clear hK K
            (try simp only [Act.put, List.setIfInBounds_toArray, List.set_cons_zero, List.set_cons_succ])
            refine pl_tames ?_
            (try simp only [Act.put, List.setIfInBounds_toArray, List.set_cons_zero, List.set_cons_succ])
            repeat (first
              | (refine pl_run (v := ?_) rfl ?_ (fun W hW => ?_) ?_; rotate_left; rfl; ((try dsimp only at hW); go_simp; try with_reducible rfl); (try simp only [Act.put, List.setIfInBounds_toArray, List.set_cons_zero, List.set_cons_succ]))
              | (refine pl_skip rfl ?_ ?_; rfl; (try simp only [Act.put, List.setIfInBounds_toArray, List.set_cons_zero, List.set_cons_succ])))
            refine pl_end ?_
            refine pl_done ?_
            (try simp only [Act.put])
            go_wp2
            go_meet
            case rel => exact ⟨w1.heap.size, rfl, rfl, (below5 XS gS (.int .i64 0) (.slice none 0 0) (.slice none 0 0) (.slice none 0 0) (.map none))⟩
        · refine pl_one rfl (by rfl) (fun K hK => ?_)
          go_simp
          have X1 : Ext W0 (W0.alloc (.cells #[.int .i64 0, .slice none 0 0, .slice none 0 0, .slice none 0 0, .map none] 81)).drew := Ext.trans (Ext.alloc _ _) (Ext.drew _)
          have B1 : Blk (W0.alloc (.cells #[.int .i64 0, .slice none 0 0, .slice none 0 0, .slice none 0 0, .map none] 81)).drew W0.heap.size 81 #[.int .i64 0, .slice none 0 0, .slice none 0 0, .slice none 0 0, .map none] := (Blk.new _ _ _).drew
          have ha1 : (W0.alloc (.cells #[.int .i64 0, .slice none 0 0, .slice none 0 0, .slice none 0 0, .map none] 81)).drew.heap.size = W0.heap.size + 1 := by simp
          refine hK.out _ _ (HH.out _ (X1)) ?_
          clear hK K
          (try simp only [Act.put, List.setIfInBounds_toArray, List.set_cons_zero, List.set_cons_succ])
          refine pl_one rfl (by rfl) (fun K hK => ?_)
          go_simp
          go_at_call 74
          refine ((isSh_any B a1 a2 a3 c1 c2 c3 i _ l3).mono (fun e w' q => (⟨by rw [q.1, hs], q.2⟩ : e = .returned (.bool true) ∧ _))).mono ?_
          rintro e w2 ⟨rfl, hE2⟩
          have X2 : Ext W0 w2 := Ext.trans (X1) hE2
          have hz2 := hE2.size
          have B2 := Blk.ext (B1) hE2
          refine hK.out _ _ (HH.out _ (X2)) ?_
          clear hK K
          (try simp only [Act.put, List.setIfInBounds_toArray, List.set_cons_zero, List.set_cons_succ])
          refine pl_tames ?_
          (try simp only [Act.put, List.setIfInBounds_toArray, List.set_cons_zero, List.set_cons_succ])
          repeat (first
            | (refine pl_run (v := ?_) rfl ?_ (fun W hW => ?_) ?_; rotate_left; rfl; ((try dsimp only at hW); go_simp; try with_reducible rfl); (try simp only [Act.put, List.setIfInBounds_toArray, List.set_cons_zero, List.set_cons_succ]))
            | (refine pl_skip rfl ?_ ?_; rfl; (try simp only [Act.put, List.setIfInBounds_toArray, List.set_cons_zero, List.set_cons_succ])))
          refine pl_end ?_
          refine pl_one rfl (by rfl) (fun K hK => ?_)
          go_simp
          go_at_call 74
          refine ((isSh_any B a1 a2 a3 c1 c2 c3 j _ l3).mono (fun e w' q => (⟨by rw [q.1, hs2], q.2⟩ : e = .returned (.bool true) ∧ _))).mono ?_
          rintro e w3 ⟨rfl, hE3⟩
          have X3 : Ext W0 w3 := Ext.trans (X2) hE3
          have hz3 := hE3.size
          have B3 := Blk.ext (B2) hE3
          refine hK.out _ _ (HH.out _ (X3)) ?_
          clear hK K
          (try simp only [Act.put, List.setIfInBounds_toArray, List.set_cons_zero, List.set_cons_succ])
          refine pl_tames ?_
          (try simp only [Act.put, List.setIfInBounds_toArray, List.set_cons_zero, List.set_cons_succ])
          repeat (first
            | (refine pl_run (v := ?_) rfl ?_ (fun W hW => ?_) ?_; rotate_left; rfl; ((try dsimp only at hW); go_simp; try with_reducible rfl); (try simp only [Act.put, List.setIfInBounds_toArray, List.set_cons_zero, List.set_cons_succ]))
            | (refine pl_skip rfl ?_ ?_; rfl; (try simp only [Act.put, List.setIfInBounds_toArray, List.set_cons_zero, List.set_cons_succ])))
          refine pl_end ?_
          refine pl_one rfl (by rfl) (fun K hK => ?_)
          go_simp
          go_at_call 58
          refine (asked_ref B a1 a2 a3 c1 c2 c3 _ _ ((HB.out.ext E0).ext (X3)) ((HG.out.ext E0).ext (X3)) hne).mono ?_
          rintro e w4 ⟨rfl, hE4⟩
          have X4 : Ext W0 w4 := Ext.trans (X3) hE4
          have hz4 := hE4.size
          have B4 := Blk.ext (B3) hE4
          refine hK.out _ _ (HH.out _ (X4)) ?_
          clear hK K
          (try simp only [Act.put, List.setIfInBounds_toArray, List.set_cons_zero, List.set_cons_succ])
          refine pl_tames ?_
          (try simp only [Act.put, List.setIfInBounds_toArray, List.set_cons_zero, List.set_cons_succ])
          repeat (first
            | (refine pl_run (v := ?_) rfl ?_ (fun W hW => ?_) ?_; rotate_left; rfl; ((try dsimp only at hW); go_simp; try with_reducible rfl); (try simp only [Act.put, List.setIfInBounds_toArray, List.set_cons_zero, List.set_cons_succ]))
            | (refine pl_skip rfl ?_ ?_; rfl; (try simp only [Act.put, List.setIfInBounds_toArray, List.set_cons_zero, List.set_cons_succ])))
          refine pl_end ?_
          have BS : Blk w4 W0.heap.size 81 #[.int .i64 0, .slice none 0 0, .slice none 0 0, .slice none 0 0, .map none] := B4
          have XS : Ext W0 w4 := X4
          have gS : W0.heap.size ≤ W0.heap.size := by omega
          generalize w4 = WS at BS XS ⊢
          obtain ⟨kS0, kS1, kS2, kS3, kS4⟩ := BS.c5
          have fS0 := BS.frozen 0
          have fS1 := BS.frozen 1
          have fS2 := BS.frozen 2
          have fS3 := BS.frozen 3
          have fS4 := BS.frozen 4
          refine pl_one rfl (by rfl) (fun K hK => ?_)
          go_simp
          refine hK.out _ _ (HH.out _ (below5 XS gS (.int .i64 0) (.slice none 0 0) (.slice none 0 0) (.slice none 0 0) (.map none))) ?_
          clear hK K
          (try simp only [Act.put, List.setIfInBounds_toArray, List.set_cons_zero, List.set_cons_succ])
          refine pl_tames ?_
          (try simp only [Act.put, List.setIfInBounds_toArray, List.set_cons_zero, List.set_cons_succ])
          repeat (first
            | (refine pl_run (v := ?_) rfl ?_ (fun W hW => ?_) ?_; rotate_left; rfl; ((try dsimp only at hW); go_simp; try with_reducible rfl); (try simp only [Act.put, List.setIfInBounds_toArray, List.set_cons_zero, List.set_cons_succ]))
            | (refine pl_skip rfl ?_ ?_; rfl; (try simp only [Act.put, List.setIfInBounds_toArray, List.set_cons_zero, List.set_cons_succ])))
          refine pl_end ?_
          refine pl_done ?_
          (try simp only [Act.put])
          go_wp2
          go_meet
          case rel => exact ⟨W0.heap.size, rfl, rfl, (below5 XS gS (.int .i64 0) (.slice none 0 0) (.slice none 0 0) (.slice none 0 0) (.map none))⟩
      case rest =>
        obtain ⟨g, rfl, rfl, hX⟩ := hcut
        obtain ⟨c, hc⟩ : ∃ c, c = askE B (i != j) := ⟨_, rfl⟩
        rw [← hc] at hne ⊢
        have hcn : (c != 0) = true := by simp [hne]
        go_wp2
        refine bodyPost_ret (v := .tuple #[.int .i64 0, .int .i64 c]) ?_ rfl ⟨by rw [hc], E0.trans hX⟩
        simp [results, Tryd.results30, go_sem]
set_option maxRecDepth 100000 in
set_option maxHeartbeats 4000000 in
theorem first_yes (B : Bk) (a1 a2 a3 : Option Addr) (c1 c2 c3 : Nat) (i j : Nat) (w : World) (h : BookA w B a1 a2 a3) (hG : Glob w) (hv : validB B = true) (hi : i < B.shots.length) (hj : j < B.shots.length) (hij : i ≠ j) :
    Calls Tryd.prog 30 #[.agg #[.int .i64 B.comp, .slice a1 B.bounds.length c1, .slice a2 B.orders.length c2, .slice a3 B.shots.length c3], .int .i64 i, .int .i64 j] w
      fun e w' => e = .returned (.tuple #[.int .i64 (firstN (sAt B.shots i) (sAt B.shots j)), .int .i64 0]) ∧ Ext w w' := by
  have hs : isShB B i = true := by simp [isShB]; omega
  have hs2 : isShB B j = true := by simp [isShB]; omega
  have hne' : ((i : Int) != j) = true := by simp; omega
  have HB := Lib.hid h
  have HG := Lib.hid hG
  have l2 := h.l2
  have l3 := h.l3
  clear h hG
  go_enter Tryd.func30, Tryd.ntmps30
  go_upto_region 1 with (fail)
  obtain ⟨W0, hW0⟩ : ∃ W0, W0 = w.alloc (.cells #[.int .i64 B.comp, .slice a1 B.bounds.length c1, .slice a2 B.orders.length c2, .slice a3 B.shots.length c3] 26) := ⟨_, rfl⟩
  have b0 : Blk W0 w.heap.size 26 #[.int .i64 B.comp, .slice a1 B.bounds.length c1, .slice a2 B.orders.length c2, .slice a3 B.shots.length c3] := by rw [hW0]; exact Blk.new _ _ _
  have E0 : Ext w W0 := by rw [hW0]; exact Ext.alloc _ _
  rw [← hW0]
  clear hW0
  have HH : Hid (∀ W, Ext W0 W → (W.cell? ⟨w.heap.size, 0, none⟩ = some (.int .i64 B.comp) ∧ W.cell? ⟨w.heap.size, 1, none⟩ = some (.slice a1 B.bounds.length c1) ∧ W.cell? ⟨w.heap.size, 2, none⟩ = some (.slice a2 B.orders.length c2) ∧ W.cell? ⟨w.heap.size, 3, none⟩ = some (.slice a3 B.shots.length c3))) := Lib.hid fun W e => (b0.ext e).c4
  go_cut [8, 9] (fun p e wx => ∃ g mp, p = .pointer (some ⟨g, 0, none⟩) ∧ e = .int .i64 0 ∧ Blk wx g 81 #[.int .i64 B.comp, .slice a1 B.bounds.length c1, .slice a2 B.orders.length c2, .slice a3 B.shots.length c3, .map (some mp)] ∧ MapA wx mp (ownL B.orders B.orders.length) ∧ w.heap.size < g ∧ Ext W0 wx)
  case first =>
    refine wp_plan (fun W => W.cell? ⟨w.heap.size, 0, none⟩ = some (.int .i64 B.comp) ∧ W.cell? ⟨w.heap.size, 1, none⟩ = some (.slice a1 B.bounds.length c1) ∧ W.cell? ⟨w.heap.size, 2, none⟩ = some (.slice a2 B.orders.length c2) ∧ W.cell? ⟨w.heap.size, 3, none⟩ = some (.slice a3 B.shots.length c3)) (.tames [0, 1, 2] (.two 3 18 (.tames [4, 5, 6] (.two 7 18 (.tames [8, 9, 10, 11, 12, 13] (.two 14 18 (.tames [15, 16, 17] (.one 18 (.one 19 (.tames [20] (.done))))) (.one 14 (.tames [15, 16, 17] (.one 19 (.tames [20] (.done))))))) (.one 7 (.tames [8, 9, 10, 11, 12, 13] (.one 14 (.tames [15, 16, 17] (.one 19 (.tames [20] (.done))))))))) (.one 3 (.tames [4, 5, 6] (.one 7 (.tames [8, 9, 10, 11, 12, 13] (.one 14 (.tames [15, 16, 17] (.one 19 (.tames [20] (.done))))))))))) (by kernel_rfl) (by kernel_rfl) (by kernel_rfl) (fun c a d v w h => by cases d <;> exact h) ?_ ?_
    · exact HH.out _ (Ext.drew _)
    refine pl_tames ?_
    (try simp only [Act.put, List.setIfInBounds_toArray, List.set_cons_zero, List.set_cons_succ])
    repeat (first
      | (refine pl_run (v := ?_) rfl ?_ (fun W hW => ?_) ?_; rotate_left; rfl; ((try dsimp only at hW); go_simp; try with_reducible rfl); (try simp only [Act.put, List.setIfInBounds_toArray, List.set_cons_zero, List.set_cons_succ]))
      | (refine pl_skip rfl ?_ ?_; rfl; (try simp only [Act.put, List.setIfInBounds_toArray, List.set_cons_zero, List.set_cons_succ])))
    refine pl_end ?_
    refine pl_two ?_ ?_
    · refine pl_one rfl (by rfl) (fun K hK => ?_)
      go_simp
      go_at_call 74
      refine ((isSh_any B a1 a2 a3 c1 c2 c3 i _ l3).mono (fun e w' q => (⟨by rw [q.1, hs], q.2⟩ : e = .returned (.bool true) ∧ _))).mono ?_
      rintro e w1 ⟨rfl, hE1⟩
      have X1 : Ext W0 w1 := Ext.trans (Ext.drew W0) hE1
      have hz1 := hE1.size
      refine hK.out _ _ (HH.out _ (X1)) ?_
      clear hK K
      (try simp only [Act.put, List.setIfInBounds_toArray, List.set_cons_zero, List.set_cons_succ])
      refine pl_tames ?_
      (try simp only [Act.put, List.setIfInBounds_toArray, List.set_cons_zero, List.set_cons_succ])
      repeat (first
        | (refine pl_run (v := ?_) rfl ?_ (fun W hW => ?_) ?_; rotate_left; rfl; ((try dsimp only at hW); go_simp; try with_reducible rfl); (try simp only [Act.put, List.setIfInBounds_toArray, List.set_cons_zero, List.set_cons_succ]))
        | (refine pl_skip rfl ?_ ?_; rfl; (try simp only [Act.put, List.setIfInBounds_toArray, List.set_cons_zero, List.set_cons_succ])))
      refine pl_end ?_
      refine pl_two ?_ ?_
      · refine pl_one rfl (by rfl) (fun K hK => ?_)
        go_simp
        go_at_call 74
        refine ((isSh_any B a1 a2 a3 c1 c2 c3 j _ l3).mono (fun e w' q => (⟨by rw [q.1, hs2], q.2⟩ : e = .returned (.bool true) ∧ _))).mono ?_
        rintro e w2 ⟨rfl, hE2⟩
        have X2 : Ext W0 w2 := Ext.trans (X1) hE2
        have hz2 := hE2.size
        refine hK.out _ _ (HH.out _ (X2)) ?_
        clear hK K
        (try simp only [Act.put, List.setIfInBounds_toArray, List.set_cons_zero, List.set_cons_succ])
        refine pl_tames ?_
        (try simp only [Act.put, List.setIfInBounds_toArray, List.set_cons_zero, List.set_cons_succ])
        repeat (first
          | (refine pl_run (v := ?_) rfl ?_ (fun W hW => ?_) ?_; rotate_left; rfl; ((try dsimp only at hW); go_simp; try with_reducible rfl); (try simp only [Act.put, List.setIfInBounds_toArray, List.set_cons_zero, List.set_cons_succ]))
          | (refine pl_skip rfl ?_ ?_; rfl; (try simp only [Act.put, List.setIfInBounds_toArray, List.set_cons_zero, List.set_cons_succ])))
        refine pl_end ?_
        refine pl_two ?_ ?_
        · refine pl_one rfl (by rfl) (fun K hK => ?_)
          go_simp
          go_at_call 58
          refine (asked_yes B a1 a2 a3 c1 c2 c3 _ ((HB.out.ext E0).ext (X2)) ((HG.out.ext E0).ext (X2)) hv).mono ?_
          rintro e w3 ⟨⟨mp, rfl, hM3, hmp3⟩, hE3⟩
          have X3 : Ext W0 w3 := Ext.trans (X2) hE3
          have hz3 := hE3.size
          refine hK.out _ _ (HH.out _ (X3)) ?_
          clear hK K
          (try simp only [Act.put, List.setIfInBounds_toArray, List.set_cons_zero, List.set_cons_succ])
          refine pl_tames ?_
          (try simp only [Act.put, List.setIfInBounds_toArray, List.set_cons_zero, List.set_cons_succ])
          repeat (first
            | (refine pl_run (v := ?_) rfl ?_ (fun W hW => ?_) ?_; rotate_left; rfl; ((try dsimp only at hW); go_simp; try with_reducible rfl); (try simp only [Act.put, List.setIfInBounds_toArray, List.set_cons_zero, List.set_cons_succ]))
            | (refine pl_skip rfl ?_ ?_; rfl; (try simp only [Act.put, List.setIfInBounds_toArray, List.set_cons_zero, List.set_cons_succ])))
          refine pl_end ?_
          refine pl_one rfl (by rfl) (fun K hK => ?_)
          go_simp
          have X4 : Ext W0 (w3.alloc (.cells #[.int .i64 0, .slice none 0 0, .slice none 0 0, .slice none 0 0, .map none] 81)) := Ext.trans (X3) (Ext.alloc _ _)
          have B4 : Blk (w3.alloc (.cells #[.int .i64 0, .slice none 0 0, .slice none 0 0, .slice none 0 0, .map none] 81)) w3.heap.size 81 #[.int .i64 0, .slice none 0 0, .slice none 0 0, .slice none 0 0, .map none] := Blk.new _ _ _
          have hg4 : W0.heap.size ≤ w3.heap.size := Below.size (X3)
          have hl4 := MapA.lt (hM3)
          have M4 := MapA.ext (hM3) (Ext.alloc w3 (.cells #[.int .i64 0, .slice none 0 0, .slice none 0 0, .slice none 0 0, .map none] 81))
          have ha4 : (w3.alloc (.cells #[.int .i64 0, .slice none 0 0, .slice none 0 0, .slice none 0 0, .map none] 81)).heap.size = w3.heap.size + 1 := by simp
          refine hK.out _ _ (HH.out _ (X4)) ?_
          clear hK K
          (try simp only [Act.put, List.setIfInBounds_toArray, List.set_cons_zero, List.set_cons_succ])
          have BS : Blk (w3.alloc (.cells #[.int .i64 0, .slice none 0 0, .slice none 0 0, .slice none 0 0, .map none] 81)) w3.heap.size 81 #[.int .i64 0, .slice none 0 0, .slice none 0 0, .slice none 0 0, .map none] := B4
          have XS : Ext W0 (w3.alloc (.cells #[.int .i64 0, .slice none 0 0, .slice none 0 0, .slice none 0 0, .map none] 81)) := X4
          have gS : W0.heap.size ≤ w3.heap.size := by omega
          have MS : MapA (w3.alloc (.cells #[.int .i64 0, .slice none 0 0, .slice none 0 0, .slice none 0 0, .map none] 81)) mp (ownL B.orders B.orders.length) := M4
          have nS : mp ≠ w3.heap.size := by (first | omega | (simp at *; omega))
          generalize (w3.alloc (.cells #[.int .i64 0, .slice none 0 0, .slice none 0 0, .slice none 0 0, .map none] 81)) = WS at BS XS MS ⊢
          obtain ⟨kS0, kS1, kS2, kS3, kS4⟩ := BS.c5
          have fS0 := BS.frozen 0
          have fS1 := BS.frozen 1
          have fS2 := BS.frozen 2
          have fS3 := BS.frozen 3
          have fS4 := BS.frozen 4
          refine pl_one rfl (by rfl) (fun K hK => ?_)
          go_simp
          refine hK.out _ _ (HH.out _ (below5 XS gS (.int .i64 B.comp) (.slice a1 B.bounds.length c1) (.slice a2 B.orders.length c2) (.slice a3 B.shots.length c3) (.map (some mp)))) ?_
          clear hK K
          (try simp only [Act.put, List.setIfInBounds_toArray, List.set_cons_zero, List.set_cons_succ])
          refine pl_tames ?_
          (try simp only [Act.put, List.setIfInBounds_toArray, List.set_cons_zero, List.set_cons_succ])
          repeat (first
            | (refine pl_run (v := ?_) rfl ?_ (fun W hW => ?_) ?_; rotate_left; rfl; ((try dsimp only at hW); go_simp; try with_reducible rfl); (try simp only [Act.put, List.setIfInBounds_toArray, List.set_cons_zero, List.set_cons_succ]))
            | (refine pl_skip rfl ?_ ?_; rfl; (try simp only [Act.put, List.setIfInBounds_toArray, List.set_cons_zero, List.set_cons_succ])))
          refine pl_end ?_
          refine pl_done ?_
          (try simp only [Act.put])
          go_wp2
          go_meet
          case rel => exact ⟨w3.heap.size, mp, rfl, rfl, (puts5 BS (.int .i64 B.comp) (.slice a1 B.bounds.length c1) (.slice a2 B.orders.length c2) (.slice a3 B.shots.length c3) (.map (some mp))), (MS.puts5 nS (.int .i64 B.comp) (.slice a1 B.bounds.length c1) (.slice a2 B.orders.length c2) (.slice a3 B.shots.length c3) (.map (some mp))), by have := b0.lt; omega, (below5 XS gS (.int .i64 B.comp) (.slice a1 B.bounds.length c1) (.slice a2 B.orders.length c2) (.slice a3 B.shots.length c3) (.map (some mp)))⟩
        · refine pl_one rfl (by rfl) (fun K hK => ?_)
          go_simp
          have X3 : Ext W0 (w2.alloc (.cells #[.int .i64 0, .slice none 0 0, .slice none 0 0, .slice none 0 0, .map none] 81)) := Ext.trans (X2) (Ext.alloc _ _)
          have B3 : Blk (w2.alloc (.cells #[.int .i64 0, .slice none 0 0, .slice none 0 0, .slice none 0 0, .map none] 81)) w2.heap.size 81 #[.int .i64 0, .slice none 0 0, .slice none 0 0, .slice none 0 0, .map none] := Blk.new _ _ _
          have hg3 : W0.heap.size ≤ w2.heap.size := Below.size (X2)
          have ha3 : (w2.alloc (.cells #[.int .i64 0, .slice none 0 0, .slice none 0 0, .slice none 0 0, .map none] 81)).heap.size = w2.heap.size + 1 := by simp
          refine hK.out _ _ (HH.out _ (X3)) ?_
          clear hK K
          (try simp only [Act.put, List.setIfInBounds_toArray, List.set_cons_zero, List.set_cons_succ])
          refine pl_one rfl (by rfl) (fun K hK => ?_)
          go_simp
          go_at_call 58
          refine (asked_yes B a1 a2 a3 c1 c2 c3 _ ((HB.out.ext E0).ext (X3)) ((HG.out.ext E0).ext (X3)) hv).mono ?_
          rintro e w4 ⟨⟨mp, rfl, hM4, hmp4⟩, hE4⟩
          have X4 : Ext W0 w4 := Ext.trans (X3) hE4
          have hz4 := hE4.size
          have B4 := Blk.ext (B3) hE4
          refine hK.out _ _ (HH.out _ (X4)) ?_
          clear hK K
          (try simp only [Act.put, List.setIfInBounds_toArray, List.set_cons_zero, List.set_cons_succ])
          refine pl_tames ?_
          (try simp only [Act.put, List.setIfInBounds_toArray, List.set_cons_zero, List.set_cons_succ])
          repeat (first
            | (refine pl_run (v := ?_) rfl ?_ (fun W hW => ?_) ?_; rotate_left; rfl; ((try dsimp only at hW); go_simp; try with_reducible rfl); (try simp only [Act.put, List.setIfInBounds_toArray, List.set_cons_zero, List.set_cons_succ]))
            | (refine pl_skip rfl ?_ ?_; rfl; (try simp only [Act.put, List.setIfInBounds_toArray, List.set_cons_zero, List.set_cons_succ])))
          refine pl_end ?_
          have BS : Blk w4 w2.heap.size 81 #[.int .i64 0, .slice none 0 0, .slice none 0 0, .slice none 0 0, .map none] := B4
          have XS : Ext W0 w4 := X4
          have gS : W0.heap.size ≤ w2.heap.size := by omega
          have MS : MapA w4 mp (ownL B.orders B.orders.length) := hM4
          have nS : mp ≠ w2.heap.size := by (first | omega | (simp at *; omega))
          generalize w4 = WS at BS XS MS ⊢
          obtain ⟨kS0, kS1, kS2, kS3, kS4⟩ := BS.c5
          have fS0 := BS.frozen 0
          have fS1 := BS.frozen 1
          have fS2 := BS.frozen 2
          have fS3 := BS.frozen 3
          have fS4 := BS.frozen 4
          refine pl_one rfl (by rfl) (fun K hK => ?_)
          go_simp
          refine hK.out _ _ (HH.out _ (below5 XS gS (.int .i64 B.comp) (.slice a1 B.bounds.length c1) (.slice a2 B.orders.length c2) (.slice a3 B.shots.length c3) (.map (some mp)))) ?_
          clear hK K
          (try simp only [Act.put, List.setIfInBounds_toArray, List.set_cons_zero, List.set_cons_succ])
          refine pl_tames ?_
          (try simp only [Act.put, List.setIfInBounds_toArray, List.set_cons_zero, List.set_cons_succ])
          repeat (first
            | (refine pl_run (v := ?_) rfl ?_ (fun W hW => ?_) ?_; rotate_left; rfl; ((try dsimp only at hW); go_simp; try with_reducible rfl); (try simp only [Act.put, List.setIfInBounds_toArray, List.set_cons_zero, List.set_cons_succ]))
            | (refine pl_skip rfl ?_ ?_; rfl; (try simp only [Act.put, List.setIfInBounds_toArray, List.set_cons_zero, List.set_cons_succ])))
          refine pl_end ?_
          refine pl_done ?_
          (try simp only [Act.put])
          go_wp2
          go_meet
          case rel => exact ⟨w2.heap.size, mp, rfl, rfl, (puts5 BS (.int .i64 B.comp) (.slice a1 B.bounds.length c1) (.slice a2 B.orders.length c2) (.slice a3 B.shots.length c3) (.map (some mp))), (MS.puts5 nS (.int .i64 B.comp) (.slice a1 B.bounds.length c1) (.slice a2 B.orders.length c2) (.slice a3 B.shots.length c3) (.map (some mp))), by have := b0.lt; omega, (below5 XS gS (.int .i64 B.comp) (.slice a1 B.bounds.length c1) (.slice a2 B.orders.length c2) (.slice a3 B.shots.length c3) (.map (some mp)))⟩
      · refine pl_one rfl (by rfl) (fun K hK => ?_)
        go_simp
        have X2 : Ext W0 (w1.alloc (.cells #[.int .i64 0, .slice none 0 0, .slice none 0 0, .slice none 0 0, .map none] 81)) := Ext.trans (X1) (Ext.alloc _ _)
        have B2 : Blk (w1.alloc (.cells #[.int .i64 0, .slice none 0 0, .slice none 0 0, .slice none 0 0, .map none] 81)) w1.heap.size 81 #[.int .i64 0, .slice none 0 0, .slice none 0 0, .slice none 0 0, .map none] := Blk.new _ _ _
        have hg2 : W0.heap.size ≤ w1.heap.size := Below.size (X1)
        have ha2 : (w1.alloc (.cells #[.int .i64 0, .slice none 0 0, .slice none 0 0, .slice none 0 0, .map none] 81)).heap.size = w1.heap.size + 1 := by simp
        refine hK.out _ _ (HH.out _ (X2)) ?_
        clear hK K
        (try simp only [Act.put, List.setIfInBounds_toArray, List.set_cons_zero, List.set_cons_succ])
        refine pl_one rfl (by rfl) (fun K hK => ?_)
        go_simp
        go_at_call 74
        refine ((isSh_any B a1 a2 a3 c1 c2 c3 j _ l3).mono (fun e w' q => (⟨by rw [q.1, hs2], q.2⟩ : e = .returned (.bool true) ∧ _))).mono ?_
        rintro e w3 ⟨rfl, hE3⟩
        have X3 : Ext W0 w3 := Ext.trans (X2) hE3
        have hz3 := hE3.size
        have B3 := Blk.ext (B2) hE3
        refine hK.out _ _ (HH.out _ (X3)) ?_
        clear hK K
        (try simp only [Act.put, List.setIfInBounds_toArray, List.set_cons_zero, List.set_cons_succ])
        refine pl_tames ?_
        (try simp only [Act.put, List.setIfInBounds_toArray, List.set_cons_zero, List.set_cons_succ])
        repeat (first
          | (refine pl_run (v := ?_) rfl ?_ (fun W hW => ?_) ?_; rotate_left; rfl; ((try dsimp only at hW); go_simp; try with_reducible rfl); (try simp only [Act.put, List.setIfInBounds_toArray, List.set_cons_zero, List.set_cons_succ]))
          | (refine pl_skip rfl ?_ ?_; rfl; (try simp only [Act.put, List.setIfInBounds_toArray, List.set_cons_zero, List.set_cons_succ])))
        refine pl_end ?_
        refine pl_one rfl (by rfl) (fun K hK => ?_)
        go_simp
        go_at_call 58
        refine (asked_yes B a1 a2 a3 c1 c2 c3 _ ((HB.out.ext E0).ext (X3)) ((HG.out.ext E0).ext (X3)) hv).mono ?_
        rintro e w4 ⟨⟨mp, rfl, hM4, hmp4⟩, hE4⟩
        have X4 : Ext W0 w4 := Ext.trans (X3) hE4
        have hz4 := hE4.size
        have B4 := Blk.ext (B3) hE4
        refine hK.out _ _ (HH.out _ (X4)) ?_
        clear hK K
        (try simp only [Act.put, List.setIfInBounds_toArray, List.set_cons_zero, List.set_cons_succ])
        refine pl_tames ?_
        (try simp only [Act.put, List.setIfInBounds_toArray, List.set_cons_zero, List.set_cons_succ])
        repeat (first
          | (refine pl_run (v := ?_) rfl ?_ (fun W hW => ?_) ?_; rotate_left; rfl; ((try dsimp only at hW); go_simp; try with_reducible rfl); (try simp only [Act.put, List.setIfInBounds_toArray, List.set_cons_zero, List.set_cons_succ]))
          | (refine pl_skip rfl ?_ ?_; rfl; (try simp only [Act.put, List.setIfInBounds_toArray, List.set_cons_zero, List.set_cons_succ])))
        refine pl_end ?_
        have BS : Blk w4 w1.heap.size 81 #[.int .i64 0, .slice none 0 0, .slice none 0 0, .slice none 0 0, .map none] := B4
        have XS : Ext W0 w4 := X4
        have gS : W0.heap.size ≤ w1.heap.size := by omega
        have MS : MapA w4 mp (ownL B.orders B.orders.length) := hM4
        have nS : mp ≠ w1.heap.size := by (first | omega | (simp at *; omega))
        generalize w4 = WS at BS XS MS ⊢
        obtain ⟨kS0, kS1, kS2, kS3, kS4⟩ := BS.c5
        have fS0 := BS.frozen 0
        have fS1 := BS.frozen 1
        have fS2 := BS.frozen 2
        have fS3 := BS.frozen 3
        have fS4 := BS.frozen 4
        refine pl_one rfl (by rfl) (fun K hK => ?_)
        go_simp
        refine hK.out _ _ (HH.out _ (below5 XS gS (.int .i64 B.comp) (.slice a1 B.bounds.length c1) (.slice a2 B.orders.length c2) (.slice a3 B.shots.length c3) (.map (some mp)))) ?_
        clear hK K
        (try simp only [Act.put, List.setIfInBounds_toArray, List.set_cons_zero, List.set_cons_succ])
        refine pl_tames ?_
        (try simp only [Act.put, List.setIfInBounds_toArray, List.set_cons_zero, List.set_cons_succ])
        repeat (first
          | (refine pl_run (v := ?_) rfl ?_ (fun W hW => ?_) ?_; rotate_left; rfl; ((try dsimp only at hW); go_simp; try with_reducible rfl); (try simp only [Act.put, List.setIfInBounds_toArray, List.set_cons_zero, List.set_cons_succ]))
          | (refine pl_skip rfl ?_ ?_; rfl; (try simp only [Act.put, List.setIfInBounds_toArray, List.set_cons_zero, List.set_cons_succ])))
        refine pl_end ?_
        refine pl_done ?_
        (try simp only [Act.put])
        go_wp2
        go_meet
        case rel => exact ⟨w1.heap.size, mp, rfl, rfl, (puts5 BS (.int .i64 B.comp) (.slice a1 B.bounds.length c1) (.slice a2 B.orders.length c2) (.slice a3 B.shots.length c3) (.map (some mp))), (MS.puts5 nS (.int .i64 B.comp) (.slice a1 B.bounds.length c1) (.slice a2 B.orders.length c2) (.slice a3 B.shots.length c3) (.map (some mp))), by have := b0.lt; omega, (below5 XS gS (.int .i64 B.comp) (.slice a1 B.bounds.length c1) (.slice a2 B.orders.length c2) (.slice a3 B.shots.length c3) (.map (some mp)))⟩
    · refine pl_one rfl (by rfl) (fun K hK => ?_)
      go_simp
      have X1 : Ext W0 (W0.alloc (.cells #[.int .i64 0, .slice none 0 0, .slice none 0 0, .slice none 0 0, .map none] 81)).drew := Ext.trans (Ext.alloc _ _) (Ext.drew _)
      have B1 : Blk (W0.alloc (.cells #[.int .i64 0, .slice none 0 0, .slice none 0 0, .slice none 0 0, .map none] 81)).drew W0.heap.size 81 #[.int .i64 0, .slice none 0 0, .slice none 0 0, .slice none 0 0, .map none] := (Blk.new _ _ _).drew
      have ha1 : (W0.alloc (.cells #[.int .i64 0, .slice none 0 0, .slice none 0 0, .slice none 0 0, .map none] 81)).drew.heap.size = W0.heap.size + 1 := by simp
      refine hK.out _ _ (HH.out _ (X1)) ?_
      clear hK K
      (try simp only [Act.put, List.setIfInBounds_toArray, List.set_cons_zero, List.set_cons_succ])
      refine pl_one rfl (by rfl) (fun K hK => ?_)
      go_simp
      go_at_call 74
      refine ((isSh_any B a1 a2 a3 c1 c2 c3 i _ l3).mono (fun e w' q => (⟨by rw [q.1, hs], q.2⟩ : e = .returned (.bool true) ∧ _))).mono ?_
      rintro e w2 ⟨rfl, hE2⟩
      have X2 : Ext W0 w2 := Ext.trans (X1) hE2
      have hz2 := hE2.size
      have B2 := Blk.ext (B1) hE2
      refine hK.out _ _ (HH.out _ (X2)) ?_
      clear hK K
      (try simp only [Act.put, List.setIfInBounds_toArray, List.set_cons_zero, List.set_cons_succ])
      refine pl_tames ?_
      (try simp only [Act.put, List.setIfInBounds_toArray, List.set_cons_zero, List.set_cons_succ])
      repeat (first
        | (refine pl_run (v := ?_) rfl ?_ (fun W hW => ?_) ?_; rotate_left; rfl; ((try dsimp only at hW); go_simp; try with_reducible rfl); (try simp only [Act.put, List.setIfInBounds_toArray, List.set_cons_zero, List.set_cons_succ]))
        | (refine pl_skip rfl ?_ ?_; rfl; (try simp only [Act.put, List.setIfInBounds_toArray, List.set_cons_zero, List.set_cons_succ])))
      refine pl_end ?_
      refine pl_one rfl (by rfl) (fun K hK => ?_)
      go_simp
      go_at_call 74
      refine ((isSh_any B a1 a2 a3 c1 c2 c3 j _ l3).mono (fun e w' q => (⟨by rw [q.1, hs2], q.2⟩ : e = .returned (.bool true) ∧ _))).mono ?_
      rintro e w3 ⟨rfl, hE3⟩
      have X3 : Ext W0 w3 := Ext.trans (X2) hE3
      have hz3 := hE3.size
      have B3 := Blk.ext (B2) hE3
      refine hK.out _ _ (HH.out _ (X3)) ?_
      clear hK K
      (try simp only [Act.put, List.setIfInBounds_toArray, List.set_cons_zero, List.set_cons_succ])
      refine pl_tames ?_
      (try simp only [Act.put, List.setIfInBounds_toArray, List.set_cons_zero, List.set_cons_succ])
      repeat (first
        | (refine pl_run (v := ?_) rfl ?_ (fun W hW => ?_) ?_; rotate_left; rfl; ((try dsimp only at hW); go_simp; try with_reducible rfl); (try simp only [Act.put, List.setIfInBounds_toArray, List.set_cons_zero, List.set_cons_succ]))
        | (refine pl_skip rfl ?_ ?_; rfl; (try simp only [Act.put, List.setIfInBounds_toArray, List.set_cons_zero, List.set_cons_succ])))
      refine pl_end ?_
      refine pl_one rfl (by rfl) (fun K hK => ?_)
      go_simp
      go_at_call 58
      refine (asked_yes B a1 a2 a3 c1 c2 c3 _ ((HB.out.ext E0).ext (X3)) ((HG.out.ext E0).ext (X3)) hv).mono ?_
      rintro e w4 ⟨⟨mp, rfl, hM4, hmp4⟩, hE4⟩
      have X4 : Ext W0 w4 := Ext.trans (X3) hE4
      have hz4 := hE4.size
      have B4 := Blk.ext (B3) hE4
      refine hK.out _ _ (HH.out _ (X4)) ?_
      clear hK K
      (try simp only [Act.put, List.setIfInBounds_toArray, List.set_cons_zero, List.set_cons_succ])
      refine pl_tames ?_
      (try simp only [Act.put, List.setIfInBounds_toArray, List.set_cons_zero, List.set_cons_succ])
      repeat (first
        | (refine pl_run (v := ?_) rfl ?_ (fun W hW => ?_) ?_; rotate_left; rfl; ((try dsimp only at hW); go_simp; try with_reducible rfl); (try simp only [Act.put, List.setIfInBounds_toArray, List.set_cons_zero, List.set_cons_succ]))
        | (refine pl_skip rfl ?_ ?_; rfl; (try simp only [Act.put, List.setIfInBounds_toArray, List.set_cons_zero, List.set_cons_succ])))
      refine pl_end ?_
      have BS : Blk w4 W0.heap.size 81 #[.int .i64 0, .slice none 0 0, .slice none 0 0, .slice none 0 0, .map none] := B4
      have XS : Ext W0 w4 := X4
      have gS : W0.heap.size ≤ W0.heap.size := by omega
      have MS : MapA w4 mp (ownL B.orders B.orders.length) := hM4
      have nS : mp ≠ W0.heap.size := by (first | omega | (simp at *; omega))
      generalize w4 = WS at BS XS MS ⊢
      obtain ⟨kS0, kS1, kS2, kS3, kS4⟩ := BS.c5
      have fS0 := BS.frozen 0
      have fS1 := BS.frozen 1
      have fS2 := BS.frozen 2
      have fS3 := BS.frozen 3
      have fS4 := BS.frozen 4
      refine pl_one rfl (by rfl) (fun K hK => ?_)
      go_simp
      refine hK.out _ _ (HH.out _ (below5 XS gS (.int .i64 B.comp) (.slice a1 B.bounds.length c1) (.slice a2 B.orders.length c2) (.slice a3 B.shots.length c3) (.map (some mp)))) ?_
      clear hK K
      (try simp only [Act.put, List.setIfInBounds_toArray, List.set_cons_zero, List.set_cons_succ])
      refine pl_tames ?_
      (try simp only [Act.put, List.setIfInBounds_toArray, List.set_cons_zero, List.set_cons_succ])
      repeat (first
        | (refine pl_run (v := ?_) rfl ?_ (fun W hW => ?_) ?_; rotate_left; rfl; ((try dsimp only at hW); go_simp; try with_reducible rfl); (try simp only [Act.put, List.setIfInBounds_toArray, List.set_cons_zero, List.set_cons_succ]))
        | (refine pl_skip rfl ?_ ?_; rfl; (try simp only [Act.put, List.setIfInBounds_toArray, List.set_cons_zero, List.set_cons_succ])))
      refine pl_end ?_
      refine pl_done ?_
      (try simp only [Act.put])
      go_wp2
      go_meet
      case rel => exact ⟨W0.heap.size, mp, rfl, rfl, (puts5 BS (.int .i64 B.comp) (.slice a1 B.bounds.length c1) (.slice a2 B.orders.length c2) (.slice a3 B.shots.length c3) (.map (some mp))), (MS.puts5 nS (.int .i64 B.comp) (.slice a1 B.bounds.length c1) (.slice a2 B.orders.length c2) (.slice a3 B.shots.length c3) (.map (some mp))), by have := b0.lt; omega, (below5 XS gS (.int .i64 B.comp) (.slice a1 B.bounds.length c1) (.slice a2 B.orders.length c2) (.slice a3 B.shots.length c3) (.map (some mp)))⟩
  case rest =>
    obtain ⟨g, mp, rfl, rfl, hb, hM, hg, hX⟩ := hcut
    have HB2 := Lib.hid ((HB.out.ext E0).ext hX)
    obtain ⟨b, o, rfl, hbl, hc⟩ := HB2.out.shots (by omega)
    obtain ⟨-, -, q2, q3⟩ := hc i hi
    obtain ⟨-, -, r2, r3⟩ := hc j hj
    obtain ⟨y0, y1, y2, y3⟩ := (b0.ext hX).c4
    clear hc
    have HS : ∀ W, Ext wc W → ((W.cell? ⟨w.heap.size, 0, none⟩ = some (.int .i64 B.comp) ∧ W.cell? ⟨w.heap.size, 1, none⟩ = some (.slice a1 B.bounds.length c1) ∧ W.cell? ⟨w.heap.size, 2, none⟩ = some (.slice a2 B.orders.length c2) ∧ W.cell? ⟨w.heap.size, 3, none⟩ = some (.slice (some ⟨b, o, none⟩) B.shots.length c3)) ∧ (W.cell? ⟨b, o + i * 4 + 2, none⟩ = some (.int .i64 (sAt B.shots i).lo) ∧ W.cell? ⟨b, o + i * 4 + 3, none⟩ = some (.int .i64 (sAt B.shots i).hi)) ∧ (W.cell? ⟨b, o + j * 4 + 2, none⟩ = some (.int .i64 (sAt B.shots j).lo) ∧ W.cell? ⟨b, o + j * 4 + 3, none⟩ = some (.int .i64 (sAt B.shots j).hi))) := fun W e => ⟨⟨e.keep y0, e.keep y1, e.keep y2, e.keep y3⟩, ⟨e.keep q2, e.keep q3⟩, e.keep r2, e.keep r3⟩
    have HS := Lib.hid HS
    clear y0 y1 y2 y3 q2 q3 r2 r3
    go_upto_region 4 with (fail)
    go_cut [10, 11] (fun p q wx => ∃ g1 g2, p = .pointer (some ⟨g1, 0, none⟩) ∧ q = .pointer (some ⟨g2, 0, none⟩) ∧ Blk wx g1 29 #[.int .i64 (sAt B.shots i).lo, .int .i64 (sAt B.shots i).hi] ∧ Blk wx g2 29 #[.int .i64 (sAt B.shots j).lo, .int .i64 (sAt B.shots j).hi] ∧ Ext wc wx)
    case first =>
      refine wp_plan (fun W => ((W.cell? ⟨w.heap.size, 0, none⟩ = some (.int .i64 B.comp) ∧ W.cell? ⟨w.heap.size, 1, none⟩ = some (.slice a1 B.bounds.length c1) ∧ W.cell? ⟨w.heap.size, 2, none⟩ = some (.slice a2 B.orders.length c2) ∧ W.cell? ⟨w.heap.size, 3, none⟩ = some (.slice (some ⟨b, o, none⟩) B.shots.length c3)) ∧ (W.cell? ⟨b, o + i * 4 + 2, none⟩ = some (.int .i64 (sAt B.shots i).lo) ∧ W.cell? ⟨b, o + i * 4 + 3, none⟩ = some (.int .i64 (sAt B.shots i).hi)) ∧ (W.cell? ⟨b, o + j * 4 + 2, none⟩ = some (.int .i64 (sAt B.shots j).lo) ∧ W.cell? ⟨b, o + j * 4 + 3, none⟩ = some (.int .i64 (sAt B.shots j).hi)))) (.tames [0, 1, 2, 3, 4, 5, 6, 7, 8, 9, 10, 11] (.two 12 13 (.one 13 (.one 14 (.one 15 (.done)))) (.one 12 (.one 14 (.one 15 (.done)))))) (by kernel_rfl) (by kernel_rfl) (by kernel_rfl) (fun c a d v w h => by cases d <;> exact h) ?_ ?_
      · exact HS.out _ (Ext.drew _)
      refine pl_tames ?_
      (try simp only [Act.put, List.setIfInBounds_toArray, List.set_cons_zero, List.set_cons_succ])
      repeat (first
        | (refine pl_run (v := ?_) rfl ?_ (fun W hW => ?_) ?_; rotate_left; rfl; ((try dsimp only at hW); go_simp; try with_reducible rfl); (try simp only [Act.put, List.setIfInBounds_toArray, List.set_cons_zero, List.set_cons_succ]))
        | (refine pl_skip rfl ?_ ?_; rfl; (try simp only [Act.put, List.setIfInBounds_toArray, List.set_cons_zero, List.set_cons_succ])))
      refine pl_end ?_
      refine pl_two ?_ ?_
      · refine pl_one rfl (by rfl) (fun K hK => ?_)
        go_simp
        have X1 : Ext wc (wc.alloc (.cells #[.int .i64 0, .int .i64 0] 29)).drew := Ext.trans (Ext.alloc _ _) (Ext.drew _)
        have B1 : Blk (wc.alloc (.cells #[.int .i64 0, .int .i64 0] 29)).drew wc.heap.size 29 #[.int .i64 0, .int .i64 0] := (Blk.new _ _ _).drew
        refine hK.out _ _ (HS.out _ X1) ?_
        clear hK K
        refine pl_one rfl (by rfl) (fun K hK => ?_)
        go_simp
        have X2 : Ext wc ((wc.alloc (.cells #[.int .i64 0, .int .i64 0] 29)).alloc (.cells #[.int .i64 0, .int .i64 0] 29)).drew := Ext.trans (Ext.trans (Ext.alloc _ _) (Ext.alloc _ _)) (Ext.drew _)
        have BA : Blk ((wc.alloc (.cells #[.int .i64 0, .int .i64 0] 29)).alloc (.cells #[.int .i64 0, .int .i64 0] 29)).drew wc.heap.size 29 #[.int .i64 0, .int .i64 0] := ((Blk.new _ _ _).alloc _).drew
        have BB : Blk ((wc.alloc (.cells #[.int .i64 0, .int .i64 0] 29)).alloc (.cells #[.int .i64 0, .int .i64 0] 29)).drew (wc.heap.size + 1) 29 #[.int .i64 0, .int .i64 0] := by have := (Blk.new (wc.alloc (.cells #[.int .i64 0, .int .i64 0] 29)) 29 #[.int .i64 0, .int .i64 0]).drew; simpa using this
        refine hK.out _ _ (HS.out _ X2) ?_
        clear hK K B1 X1
        (try simp only [Act.put, List.setIfInBounds_toArray, List.set_cons_zero, List.set_cons_succ])
        generalize ((wc.alloc (.cells #[.int .i64 0, .int .i64 0] 29)).alloc (.cells #[.int .i64 0, .int .i64 0] 29)).drew = W2 at X2 BA BB ⊢
        obtain ⟨k0, k1⟩ := Blk.c2 BA
        have f0 := Blk.frozen BA 0
        have f1 := Blk.frozen BA 1
        refine pl_one rfl (by rfl) (fun K hK => ?_)
        go_simp
        have X3 := below2 (g := wc.heap.size) X2 (by omega) (.int .i64 (sAt B.shots i).lo) (.int .i64 (sAt B.shots i).hi)
        have P3 := puts2 BA (.int .i64 (sAt B.shots i).lo) (.int .i64 (sAt B.shots i).hi)
        have Q3 := Blk.far (Blk.far BB (p := ⟨wc.heap.size, 0, none⟩) (by simp) (.int .i64 (sAt B.shots i).lo)) (p := ⟨wc.heap.size, 1, none⟩) (by simp) (.int .i64 (sAt B.shots i).hi)
        refine hK.out _ _ (HS.out _ X3) ?_
        clear hK K k0 k1 f0 f1 X2 BA BB
        (try simp only [Act.put, List.setIfInBounds_toArray, List.set_cons_zero, List.set_cons_succ])
        generalize (W2.setCell ⟨wc.heap.size, 0, none⟩ (.int .i64 (sAt B.shots i).lo)).setCell ⟨wc.heap.size, 1, none⟩ (.int .i64 (sAt B.shots i).hi) = W3 at X3 P3 Q3 ⊢
        obtain ⟨k0, k1⟩ := Q3.c2
        have f0 := Q3.frozen 0
        have f1 := Q3.frozen 1
        refine pl_one rfl (by rfl) (fun K hK => ?_)
        go_simp
        have X4 := below2 (g := wc.heap.size + 1) X3 (by omega) (.int .i64 (sAt B.shots j).lo) (.int .i64 (sAt B.shots j).hi)
        have Q4 := puts2 Q3 (.int .i64 (sAt B.shots j).lo) (.int .i64 (sAt B.shots j).hi)
        have P4 := Blk.far (Blk.far P3 (p := ⟨wc.heap.size + 1, 0, none⟩) (by simp) (.int .i64 (sAt B.shots j).lo)) (p := ⟨wc.heap.size + 1, 1, none⟩) (by simp) (.int .i64 (sAt B.shots j).hi)
        refine hK.out _ _ (HS.out _ X4) (pl_done ?_)
        clear hK K
        (try simp only [Act.put])
        go_wp2
        go_meet
        case rel => exact ⟨_, _, rfl, rfl, P4, Q4, X4⟩
      · refine pl_one rfl (by rfl) (fun K hK => ?_)
        go_simp
        have X1 : Ext wc (wc.alloc (.cells #[.int .i64 0, .int .i64 0] 29)).drew := Ext.trans (Ext.alloc _ _) (Ext.drew _)
        have B1 : Blk (wc.alloc (.cells #[.int .i64 0, .int .i64 0] 29)).drew wc.heap.size 29 #[.int .i64 0, .int .i64 0] := (Blk.new _ _ _).drew
        refine hK.out _ _ (HS.out _ X1) ?_
        clear hK K
        refine pl_one rfl (by rfl) (fun K hK => ?_)
        go_simp
        have X2 : Ext wc ((wc.alloc (.cells #[.int .i64 0, .int .i64 0] 29)).alloc (.cells #[.int .i64 0, .int .i64 0] 29)).drew := Ext.trans (Ext.trans (Ext.alloc _ _) (Ext.alloc _ _)) (Ext.drew _)
        have BA : Blk ((wc.alloc (.cells #[.int .i64 0, .int .i64 0] 29)).alloc (.cells #[.int .i64 0, .int .i64 0] 29)).drew wc.heap.size 29 #[.int .i64 0, .int .i64 0] := ((Blk.new _ _ _).alloc _).drew
        have BB : Blk ((wc.alloc (.cells #[.int .i64 0, .int .i64 0] 29)).alloc (.cells #[.int .i64 0, .int .i64 0] 29)).drew (wc.heap.size + 1) 29 #[.int .i64 0, .int .i64 0] := by have := (Blk.new (wc.alloc (.cells #[.int .i64 0, .int .i64 0] 29)) 29 #[.int .i64 0, .int .i64 0]).drew; simpa using this
        refine hK.out _ _ (HS.out _ X2) ?_
        clear hK K B1 X1
        (try simp only [Act.put, List.setIfInBounds_toArray, List.set_cons_zero, List.set_cons_succ])
        generalize ((wc.alloc (.cells #[.int .i64 0, .int .i64 0] 29)).alloc (.cells #[.int .i64 0, .int .i64 0] 29)).drew = W2 at X2 BA BB ⊢
        obtain ⟨k0, k1⟩ := Blk.c2 BB
        have f0 := Blk.frozen BB 0
        have f1 := Blk.frozen BB 1
        refine pl_one rfl (by rfl) (fun K hK => ?_)
        go_simp
        have X3 := below2 (g := wc.heap.size + 1) X2 (by omega) (.int .i64 (sAt B.shots i).lo) (.int .i64 (sAt B.shots i).hi)
        have P3 := puts2 BB (.int .i64 (sAt B.shots i).lo) (.int .i64 (sAt B.shots i).hi)
        have Q3 := Blk.far (Blk.far BA (p := ⟨wc.heap.size + 1, 0, none⟩) (by simp) (.int .i64 (sAt B.shots i).lo)) (p := ⟨wc.heap.size + 1, 1, none⟩) (by simp) (.int .i64 (sAt B.shots i).hi)
        refine hK.out _ _ (HS.out _ X3) ?_
        clear hK K k0 k1 f0 f1 X2 BA BB
        (try simp only [Act.put, List.setIfInBounds_toArray, List.set_cons_zero, List.set_cons_succ])
        generalize (W2.setCell ⟨wc.heap.size + 1, 0, none⟩ (.int .i64 (sAt B.shots i).lo)).setCell ⟨wc.heap.size + 1, 1, none⟩ (.int .i64 (sAt B.shots i).hi) = W3 at X3 P3 Q3 ⊢
        obtain ⟨k0, k1⟩ := Q3.c2
        have f0 := Q3.frozen 0
        have f1 := Q3.frozen 1
        refine pl_one rfl (by rfl) (fun K hK => ?_)
        go_simp
        have X4 := below2 (g := wc.heap.size) X3 (by omega) (.int .i64 (sAt B.shots j).lo) (.int .i64 (sAt B.shots j).hi)
        have Q4 := puts2 Q3 (.int .i64 (sAt B.shots j).lo) (.int .i64 (sAt B.shots j).hi)
        have P4 := Blk.far (Blk.far P3 (p := ⟨wc.heap.size, 0, none⟩) (by simp) (.int .i64 (sAt B.shots j).lo)) (p := ⟨wc.heap.size, 1, none⟩) (by simp) (.int .i64 (sAt B.shots j).hi)
        refine hK.out _ _ (HS.out _ X4) (pl_done ?_)
        clear hK K
        (try simp only [Act.put])
        go_wp2
        go_meet
        case rel => exact ⟨_, _, rfl, rfl, P4, Q4, X4⟩
    case rest =>
      obtain ⟨g1, g2, rfl, rfl, hb1, hb2, hX2⟩ := hcut
      obtain ⟨k0, k1⟩ := hb1.c2
      obtain ⟨m0, m1⟩ := hb2.c2
      go_upto_region 5 with (fail)
      have hw1 := wh_le (decide ((sAt B.shots i).lo < (sAt B.shots j).hi))
      have hw2 := wh_le (decide ((sAt B.shots i).hi < (sAt B.shots j).lo))
      go_quiet ((go_at_call 80; exact (whether_any _ _).mono fun e w' q => ⟨q.1, _, q.2.symm⟩))
      go_wp2
      refine bodyPost_ret (v := .tuple #[.int .i64 (firstN (sAt B.shots i) (sAt B.shots j)), .int .i64 0]) ?_ rfl ⟨rfl, E0.trans (Ext.trans hX (Ext.trans hX2 (Ext.drewN _ _)))⟩
      simp [results, Tryd.results30, go_sem, firstN]
end Go.Proofs.YtnhdcdhpfgdphaaDoor
