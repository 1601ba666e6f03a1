/-
  The exported function Hangs.
-/
import Derived.Test.YtnhdcdhpfgdphaaDoorA1
set_option linter.unusedSimpArgs false
set_option linter.unusedVariables false
namespace Go.Proofs.YtnhdcdhpfgdphaaDoor
open Go Go.RowKit

theorem ownsRow_ext {w w' : World} {base n e s : Nat} {v : Value} {xs : List Value} (h : w.ownsRow base e s v n xs) (hE : Ext w w') : w'.ownsRow base e s v n xs := by
  refine ⟨h.1, ?_⟩
  rcases h.2 with hn | ⟨g, cap, cur, hv, hb, hg, rest⟩
  · exact .inl hn
  · exact .inr ⟨g, cap, cur, hv, hb, (hE.block g (Array.getElem?_eq_some_iff.1 hg).1).trans hg, rest⟩
/-- The bounds, of the first j, on which a shot hangs. -/
def hangsI (B : Bk) (x : Sh) (j : Nat) : List Int := ((List.range j).filter (hangB B x)).map fun (i : Nat) => (i : Int)
theorem hangsI_succ (B : Bk) (x : Sh) (j : Nat) : hangsI B x (j + 1) = if hangB B x j then hangsI B x j ++ [(j : Int)] else hangsI B x j := by
  unfold hangsI
  rw [List.range_succ, List.filter_append]
  cases h : hangB B x j <;> simp [h]
theorem hangsI_len (B : Bk) (x : Sh) (j : Nat) : (hangsI B x j).length ≤ j := by
  unfold hangsI
  rw [List.length_map]
  have := List.length_filter_le (hangB B x) (List.range j)
  simpa using this

set_option maxRecDepth 100000 in
set_option maxHeartbeats 4000000 in
theorem hangs_no (B : Bk) (a1 a2 a3 : Option Addr) (c1 c2 c3 : Nat) (m : Int) (w : World) (h : BookA w B a1 a2 a3) (hG : Glob w) (hne : askE B (isShB B m) ≠ 0) :
    Calls Tryd.prog 28 #[.agg #[.int .i64 B.comp, .slice a1 B.bounds.length c1, .slice a2 B.orders.length c2, .slice a3 B.shots.length c3], .int .i64 m] w
      fun e w' => e = .returned (.tuple #[.slice none 0 0, .int .i64 (askE B (isShB B m))]) ∧ Ext w w' := by
  have HB := Lib.hid h
  have HG := Lib.hid hG
  have l2 := h.l2
  have l3 := h.l3
  clear h hG
  go_enter Tryd.func28, Tryd.ntmps28
  go_upto_region 1 with (fail)
  obtain ⟨W0, hW0⟩ : ∃ W0, W0 = w.alloc (.cells #[.int .i64 B.comp, .slice a1 B.bounds.length c1, .slice a2 B.orders.length c2, .slice a3 B.shots.length c3] 26) := ⟨_, rfl⟩
  have b0 : Blk W0 w.heap.size 26 #[.int .i64 B.comp, .slice a1 B.bounds.length c1, .slice a2 B.orders.length c2, .slice a3 B.shots.length c3] := by rw [hW0]; exact Blk.new _ _ _
  have E0 : Ext w W0 := by rw [hW0]; exact Ext.alloc _ _
  rw [← hW0]
  clear hW0
  have HH : Hid (∀ W, Ext W0 W → (W.cell? ⟨w.heap.size, 0, none⟩ = some (.int .i64 B.comp) ∧ W.cell? ⟨w.heap.size, 1, none⟩ = some (.slice a1 B.bounds.length c1) ∧ W.cell? ⟨w.heap.size, 2, none⟩ = some (.slice a2 B.orders.length c2) ∧ W.cell? ⟨w.heap.size, 3, none⟩ = some (.slice a3 B.shots.length c3))) := Lib.hid fun W e => (b0.ext e).c4
  go_cut [6, 7] (fun p e wx => ∃ g, p = .pointer (some ⟨g, 0, none⟩) ∧ e = .int .i64 (askE B (isShB B m)) ∧ Ext W0 wx)
  case first =>
    refine wp_plan (fun W => W.cell? ⟨w.heap.size, 0, none⟩ = some (.int .i64 B.comp) ∧ W.cell? ⟨w.heap.size, 1, none⟩ = some (.slice a1 B.bounds.length c1) ∧ W.cell? ⟨w.heap.size, 2, none⟩ = some (.slice a2 B.orders.length c2) ∧ W.cell? ⟨w.heap.size, 3, none⟩ = some (.slice a3 B.shots.length c3)) (.tames [0, 1, 2] (.two 3 8 (.two 4 8 (.tames [5, 6, 7] (.one 8 (.one 9 (.tames [10] (.done))))) (.one 4 (.tames [5, 6, 7] (.one 9 (.tames [10] (.done)))))) (.one 3 (.one 4 (.tames [5, 6, 7] (.one 9 (.tames [10] (.done)))))))) (by kernel_rfl) (by kernel_rfl) (by kernel_rfl) (fun c a d v w h => by cases d <;> exact h) ?_ ?_
    · exact HH.out _ (Ext.drew _)
    refine pl_tames ?_
    (try simp only [Act.put, List.setIfInBounds_toArray, List.set_cons_zero, List.set_cons_succ])
    repeat (first
      | (refine pl_run (v := ?_) rfl ?_ (fun W hW => ?_) ?_; rotate_left; rfl; ((try dsimp only at hW); go_simp; try with_reducible rfl); (try simp only [Act.put, List.setIfInBounds_toArray, List.set_cons_zero, List.set_cons_succ]))
      | (refine pl_skip rfl ?_ ?_; rfl; (try simp only [Act.put, List.setIfInBounds_toArray, List.set_cons_zero, List.set_cons_succ])))
    refine pl_end ?_
    refine pl_two ?_ ?_
    · refine pl_one rfl (by rfl) (fun K hK => ?_)
      go_simp
      go_at_call 74
      refine (isSh_any B a1 a2 a3 c1 c2 c3 _ _ l3).mono ?_
      rintro e w1 ⟨rfl, hE1⟩
      have X1 : Ext W0 w1 := Ext.trans (Ext.drew W0) hE1
      have hz1 := hE1.size
      refine hK.out _ _ (HH.out _ (X1)) ?_
      clear hK K
      (try simp only [Act.put, List.setIfInBounds_toArray, List.set_cons_zero, List.set_cons_succ])
      refine pl_two ?_ ?_
      · refine pl_one rfl (by rfl) (fun K hK => ?_)
        go_simp
        go_at_call 58
        refine (asked_ref B a1 a2 a3 c1 c2 c3 _ _ ((HB.out.ext E0).ext (X1)) ((HG.out.ext E0).ext (X1)) hne).mono ?_
        rintro e w2 ⟨rfl, hE2⟩
        have X2 : Ext W0 w2 := Ext.trans (X1) hE2
        have hz2 := hE2.size
        refine hK.out _ _ (HH.out _ (X2)) ?_
        clear hK K
        (try simp only [Act.put, List.setIfInBounds_toArray, List.set_cons_zero, List.set_cons_succ])
        refine pl_tames ?_
        (try simp only [Act.put, List.setIfInBounds_toArray, List.set_cons_zero, List.set_cons_succ])
        repeat (first
          | (refine pl_run (v := ?_) rfl ?_ (fun W hW => ?_) ?_; rotate_left; rfl; ((try dsimp only at hW); go_simp; try with_reducible rfl); (try simp only [Act.put, List.setIfInBounds_toArray, List.set_cons_zero, List.set_cons_succ]))
          | (refine pl_skip rfl ?_ ?_; rfl; (try simp only [Act.put, List.setIfInBounds_toArray, List.set_cons_zero, List.set_cons_succ])))
        refine pl_end ?_
        refine pl_one rfl (by rfl) (fun K hK => ?_)
        go_simp
        have X3 : Ext W0 (w2.alloc (.cells #[.int .i64 0, .slice none 0 0, .slice none 0 0, .slice none 0 0, .map none] 81)) := Ext.trans (X2) (Ext.alloc _ _)
        have B3 : Blk (w2.alloc (.cells #[.int .i64 0, .slice none 0 0, .slice none 0 0, .slice none 0 0, .map none] 81)) w2.heap.size 81 #[.int .i64 0, .slice none 0 0, .slice none 0 0, .slice none 0 0, .map none] := Blk.new _ _ _
        have hg3 : W0.heap.size ≤ w2.heap.size := Below.size (X2)
        have ha3 : (w2.alloc (.cells #[.int .i64 0, .slice none 0 0, .slice none 0 0, .slice none 0 0, .map none] 81)).heap.size = w2.heap.size + 1 := by simp
        refine hK.out _ _ (HH.out _ (X3)) ?_
        clear hK K
        (try simp only [Act.put, List.setIfInBounds_toArray, List.set_cons_zero, List.set_cons_succ])
        have BS : Blk (w2.alloc (.cells #[.int .i64 0, .slice none 0 0, .slice none 0 0, .slice none 0 0, .map none] 81)) w2.heap.size 81 #[.int .i64 0, .slice none 0 0, .slice none 0 0, .slice none 0 0, .map none] := B3
        have XS : Ext W0 (w2.alloc (.cells #[.int .i64 0, .slice none 0 0, .slice none 0 0, .slice none 0 0, .map none] 81)) := X3
        have gS : W0.heap.size ≤ w2.heap.size := by omega
        generalize (w2.alloc (.cells #[.int .i64 0, .slice none 0 0, .slice none 0 0, .slice none 0 0, .map none] 81)) = WS at BS XS ⊢
        obtain ⟨kS0, kS1, kS2, kS3, kS4⟩ := BS.c5
        have fS0 := BS.frozen 0
        have fS1 := BS.frozen 1
        have fS2 := BS.frozen 2
        have fS3 := BS.frozen 3
        have fS4 := BS.frozen 4
        refine pl_one rfl (by rfl) (fun K hK => ?_)
        go_simp
        refine hK.out _ _ (HH.out _ (below5 XS gS (.int .i64 0) (.slice none 0 0) (.slice none 0 0) (.slice none 0 0) (.map none))) ?_
        clear hK K
        (try simp only [Act.put, List.setIfInBounds_toArray, List.set_cons_zero, List.set_cons_succ])
        refine pl_tames ?_
        (try simp only [Act.put, List.setIfInBounds_toArray, List.set_cons_zero, List.set_cons_succ])
        repeat (first
          | (refine pl_run (v := ?_) rfl ?_ (fun W hW => ?_) ?_; rotate_left; rfl; ((try dsimp only at hW); go_simp; try with_reducible rfl); (try simp only [Act.put, List.setIfInBounds_toArray, List.set_cons_zero, List.set_cons_succ]))
          | (refine pl_skip rfl ?_ ?_; rfl; (try simp only [Act.put, List.setIfInBounds_toArray, List.set_cons_zero, List.set_cons_succ])))
        refine pl_end ?_
        refine pl_done ?_
        (try simp only [Act.put])
        go_wp2
        go_meet
        case rel => exact ⟨w2.heap.size, rfl, rfl, (below5 XS gS (.int .i64 0) (.slice none 0 0) (.slice none 0 0) (.slice none 0 0) (.map none))⟩
      · refine pl_one rfl (by rfl) (fun K hK => ?_)
        go_simp
        have X2 : Ext W0 (w1.alloc (.cells #[.int .i64 0, .slice none 0 0, .slice none 0 0, .slice none 0 0, .map none] 81)) := Ext.trans (X1) (Ext.alloc _ _)
        have B2 : Blk (w1.alloc (.cells #[.int .i64 0, .slice none 0 0, .slice none 0 0, .slice none 0 0, .map none] 81)) w1.heap.size 81 #[.int .i64 0, .slice none 0 0, .slice none 0 0, .slice none 0 0, .map none] := Blk.new _ _ _
        have hg2 : W0.heap.size ≤ w1.heap.size := Below.size (X1)
        have ha2 : (w1.alloc (.cells #[.int .i64 0, .slice none 0 0, .slice none 0 0, .slice none 0 0, .map none] 81)).heap.size = w1.heap.size + 1 := by simp
        refine hK.out _ _ (HH.out _ (X2)) ?_
        clear hK K
        (try simp only [Act.put, List.setIfInBounds_toArray, List.set_cons_zero, List.set_cons_succ])
        refine pl_one rfl (by rfl) (fun K hK => ?_)
        go_simp
        go_at_call 58
        refine (asked_ref B a1 a2 a3 c1 c2 c3 _ _ ((HB.out.ext E0).ext (X2)) ((HG.out.ext E0).ext (X2)) hne).mono ?_
        rintro e w3 ⟨rfl, hE3⟩
        have X3 : Ext W0 w3 := Ext.trans (X2) hE3
        have hz3 := hE3.size
        have B3 := Blk.ext (B2) hE3
        refine hK.out _ _ (HH.out _ (X3)) ?_
        clear hK K
        (try simp only [Act.put, List.setIfInBounds_toArray, List.set_cons_zero, List.set_cons_succ])
        refine pl_tames ?_
        (try simp only [Act.put, List.setIfInBounds_toArray, List.set_cons_zero, List.set_cons_succ])
        repeat (first
          | (refine pl_run (v := ?_) rfl ?_ (fun W hW => ?_) ?_; rotate_left; rfl; ((try dsimp only at hW); go_simp; try with_reducible rfl); (try simp only [Act.put, List.setIfInBounds_toArray, List.set_cons_zero, List.set_cons_succ]))
          | (refine pl_skip rfl ?_ ?_; rfl; (try simp only [Act.put, List.setIfInBounds_toArray, List.set_cons_zero, List.set_cons_succ])))
        refine pl_end ?_
        have BS : Blk w3 w1.heap.size 81 #[.int .i64 0, .slice none 0 0, .slice none 0 0, .slice none 0 0, .map none] := B3
        have XS : Ext W0 w3 := X3
        have gS : W0.heap.size ≤ w1.heap.size := by omega
        generalize w3 = WS at BS XS ⊢
        obtain ⟨kS0, kS1, kS2, kS3, kS4⟩ := BS.c5
        have fS0 := BS.frozen 0
        have fS1 := BS.frozen 1
        have fS2 := BS.frozen 2
        have fS3 := BS.frozen 3
        have fS4 := BS.frozen 4
        refine pl_one rfl (by rfl) (fun K hK => ?_)
        go_simp
        refine hK.out _ _ (HH.out _ (below5 XS gS (.int .i64 0) (.slice none 0 0) (.slice none 0 0) (.slice none 0 0) (.map none))) ?_
        clear hK K
        (try simp only [Act.put, List.setIfInBounds_toArray, List.set_cons_zero, List.set_cons_succ])
        refine pl_tames ?_
        (try simp only [Act.put, List.setIfInBounds_toArray, List.set_cons_zero, List.set_cons_succ])
        repeat (first
          | (refine pl_run (v := ?_) rfl ?_ (fun W hW => ?_) ?_; rotate_left; rfl; ((try dsimp only at hW); go_simp; try with_reducible rfl); (try simp only [Act.put, List.setIfInBounds_toArray, List.set_cons_zero, List.set_cons_succ]))
          | (refine pl_skip rfl ?_ ?_; rfl; (try simp only [Act.put, List.setIfInBounds_toArray, List.set_cons_zero, List.set_cons_succ])))
        refine pl_end ?_
        refine pl_done ?_
        (try simp only [Act.put])
        go_wp2
        go_meet
        case rel => exact ⟨w1.heap.size, rfl, rfl, (below5 XS gS (.int .i64 0) (.slice none 0 0) (.slice none 0 0) (.slice none 0 0) (.map none))⟩
    · refine pl_one rfl (by rfl) (fun K hK => ?_)
      go_simp
      have X1 : Ext W0 (W0.alloc (.cells #[.int .i64 0, .slice none 0 0, .slice none 0 0, .slice none 0 0, .map none] 81)).drew := Ext.trans (Ext.alloc _ _) (Ext.drew _)
      have B1 : Blk (W0.alloc (.cells #[.int .i64 0, .slice none 0 0, .slice none 0 0, .slice none 0 0, .map none] 81)).drew W0.heap.size 81 #[.int .i64 0, .slice none 0 0, .slice none 0 0, .slice none 0 0, .map none] := (Blk.new _ _ _).drew
      have ha1 : (W0.alloc (.cells #[.int .i64 0, .slice none 0 0, .slice none 0 0, .slice none 0 0, .map none] 81)).drew.heap.size = W0.heap.size + 1 := by simp
      refine hK.out _ _ (HH.out _ (X1)) ?_
      clear hK K
      (try simp only [Act.put, List.setIfInBounds_toArray, List.set_cons_zero, List.set_cons_succ])
      refine pl_one rfl (by rfl) (fun K hK => ?_)
      go_simp
      go_at_call 74
      refine (isSh_any B a1 a2 a3 c1 c2 c3 _ _ l3).mono ?_
      rintro e w2 ⟨rfl, hE2⟩
      have X2 : Ext W0 w2 := Ext.trans (X1) hE2
      have hz2 := hE2.size
      have B2 := Blk.ext (B1) hE2
      refine hK.out _ _ (HH.out _ (X2)) ?_
      clear hK K
      (try simp only [Act.put, List.setIfInBounds_toArray, List.set_cons_zero, List.set_cons_succ])
      refine pl_one rfl (by rfl) (fun K hK => ?_)
      go_simp
      go_at_call 58
      refine (asked_ref B a1 a2 a3 c1 c2 c3 _ _ ((HB.out.ext E0).ext (X2)) ((HG.out.ext E0).ext (X2)) hne).mono ?_
      rintro e w3 ⟨rfl, hE3⟩
      have X3 : Ext W0 w3 := Ext.trans (X2) hE3
      have hz3 := hE3.size
      have B3 := Blk.ext (B2) hE3
      refine hK.out _ _ (HH.out _ (X3)) ?_
      clear hK K
      (try simp only [Act.put, List.setIfInBounds_toArray, List.set_cons_zero, List.set_cons_succ])
      refine pl_tames ?_
      (try simp only [Act.put, List.setIfInBounds_toArray, List.set_cons_zero, List.set_cons_succ])
      repeat (first
        | (refine pl_run (v := ?_) rfl ?_ (fun W hW => ?_) ?_; rotate_left; rfl; ((try dsimp only at hW); go_simp; try with_reducible rfl); (try simp only [Act.put, List.setIfInBounds_toArray, List.set_cons_zero, List.set_cons_succ]))
        | (refine pl_skip rfl ?_ ?_; rfl; (try simp only [Act.put, List.setIfInBounds_toArray, List.set_cons_zero, List.set_cons_succ])))
      refine pl_end ?_
      have BS : Blk w3 W0.heap.size 81 #[.int .i64 0, .slice none 0 0, .slice none 0 0, .slice none 0 0, .map none] := B3
      have XS : Ext W0 w3 := X3
      have gS : W0.heap.size ≤ W0.heap.size := by omega
      generalize w3 = WS at BS XS ⊢
      obtain ⟨kS0, kS1, kS2, kS3, kS4⟩ := BS.c5
      have fS0 := BS.frozen 0
      have fS1 := BS.frozen 1
      have fS2 := BS.frozen 2
      have fS3 := BS.frozen 3
      have fS4 := BS.frozen 4
      refine pl_one rfl (by rfl) (fun K hK => ?_)
      go_simp
      refine hK.out _ _ (HH.out _ (below5 XS gS (.int .i64 0) (.slice none 0 0) (.slice none 0 0) (.slice none 0 0) (.map none))) ?_
      clear hK K
      (try simp only [Act.put, List.setIfInBounds_toArray, List.set_cons_zero, List.set_cons_succ])
      refine pl_tames ?_
      (try simp only [Act.put, List.setIfInBounds_toArray, List.set_cons_zero, List.set_cons_succ])
      repeat (first
        | (refine pl_run (v := ?_) rfl ?_ (fun W hW => ?_) ?_; rotate_left; rfl; ((try dsimp only at hW); go_simp; try with_reducible rfl); (try simp only [Act.put, List.setIfInBounds_toArray, List.set_cons_zero, List.set_cons_succ]))
        | (refine pl_skip rfl ?_ ?_; rfl; (try simp only [Act.put, List.setIfInBounds_toArray, List.set_cons_zero, List.set_cons_succ])))
      refine pl_end ?_
      refine pl_done ?_
      (try simp only [Act.put])
      go_wp2
      go_meet
      case rel => exact ⟨W0.heap.size, rfl, rfl, (below5 XS gS (.int .i64 0) (.slice none 0 0) (.slice none 0 0) (.slice none 0 0) (.map none))⟩
  case rest =>
    obtain ⟨g, rfl, rfl, hX⟩ := hcut
    obtain ⟨c, hc⟩ : ∃ c, c = askE B (isShB B m) := ⟨_, rfl⟩
    rw [← hc] at hne ⊢
    have hcn : (c != 0) = true := by simp [hne]
    go_wp2
    refine bodyPost_ret (v := .tuple #[.slice none 0 0, .int .i64 c]) ?_ rfl ⟨by rw [hc], E0.trans hX⟩
    simp [results, Tryd.results28, go_sem]
set_option maxRecDepth 100000 in
set_option maxHeartbeats 4000000 in
theorem hangs_yes (B : Bk) (a1 a2 a3 : Option Addr) (c1 c2 c3 : Nat) (k : Nat) (w : World) (h : BookA w B a1 a2 a3) (hG : Glob w) (hv : validB B = true) (hk : k < B.shots.length) :
    Calls Tryd.prog 28 #[.agg #[.int .i64 B.comp, .slice a1 B.bounds.length c1, .slice a2 B.orders.length c2, .slice a3 B.shots.length c3], .int .i64 k] w
      fun e w' => (∃ a cp, e = .returned (.tuple #[.slice a (hangsI B (sAt B.shots k) B.bounds.length).length cp, .int .i64 0]) ∧ IntA w' a (hangsI B (sAt B.shots k) B.bounds.length)) ∧ Ext w w' := by
  have hsh : isShB B k = true := by simp [isShB]; omega
  have HB := Lib.hid h
  have HG := Lib.hid hG
  have l2 := h.l2
  have l3 := h.l3
  clear h hG
  go_enter Tryd.func28, Tryd.ntmps28
  go_upto_region 1 with (fail)
  obtain ⟨W0, hW0⟩ : ∃ W0, W0 = w.alloc (.cells #[.int .i64 B.comp, .slice a1 B.bounds.length c1, .slice a2 B.orders.length c2, .slice a3 B.shots.length c3] 26) := ⟨_, rfl⟩
  have b0 : Blk W0 w.heap.size 26 #[.int .i64 B.comp, .slice a1 B.bounds.length c1, .slice a2 B.orders.length c2, .slice a3 B.shots.length c3] := by rw [hW0]; exact Blk.new _ _ _
  have E0 : Ext w W0 := by rw [hW0]; exact Ext.alloc _ _
  rw [← hW0]
  clear hW0
  have HH : Hid (∀ W, Ext W0 W → (W.cell? ⟨w.heap.size, 0, none⟩ = some (.int .i64 B.comp) ∧ W.cell? ⟨w.heap.size, 1, none⟩ = some (.slice a1 B.bounds.length c1) ∧ W.cell? ⟨w.heap.size, 2, none⟩ = some (.slice a2 B.orders.length c2) ∧ W.cell? ⟨w.heap.size, 3, none⟩ = some (.slice a3 B.shots.length c3))) := Lib.hid fun W e => (b0.ext e).c4
  go_cut [6, 7] (fun p e wx => ∃ g mp, p = .pointer (some ⟨g, 0, none⟩) ∧ e = .int .i64 0 ∧ Blk wx g 81 #[.int .i64 B.comp, .slice a1 B.bounds.length c1, .slice a2 B.orders.length c2, .slice a3 B.shots.length c3, .map (some mp)] ∧ MapA wx mp (ownL B.orders B.orders.length) ∧ w.heap.size < g ∧ Ext W0 wx)
  case first =>
    refine wp_plan (fun W => W.cell? ⟨w.heap.size, 0, none⟩ = some (.int .i64 B.comp) ∧ W.cell? ⟨w.heap.size, 1, none⟩ = some (.slice a1 B.bounds.length c1) ∧ W.cell? ⟨w.heap.size, 2, none⟩ = some (.slice a2 B.orders.length c2) ∧ W.cell? ⟨w.heap.size, 3, none⟩ = some (.slice a3 B.shots.length c3)) (.tames [0, 1, 2] (.two 3 8 (.two 4 8 (.tames [5, 6, 7] (.one 8 (.one 9 (.tames [10] (.done))))) (.one 4 (.tames [5, 6, 7] (.one 9 (.tames [10] (.done)))))) (.one 3 (.one 4 (.tames [5, 6, 7] (.one 9 (.tames [10] (.done)))))))) (by kernel_rfl) (by kernel_rfl) (by kernel_rfl) (fun c a d v w h => by cases d <;> exact h) ?_ ?_
    · exact HH.out _ (Ext.drew _)
    refine pl_tames ?_
    (try simp only [Act.put, List.setIfInBounds_toArray, List.set_cons_zero, List.set_cons_succ])
    repeat (first
      | (refine pl_run (v := ?_) rfl ?_ (fun W hW => ?_) ?_; rotate_left; rfl; ((try dsimp only at hW); go_simp; try with_reducible rfl); (try simp only [Act.put, List.setIfInBounds_toArray, List.set_cons_zero, List.set_cons_succ]))
      | (refine pl_skip rfl ?_ ?_; rfl; (try simp only [Act.put, List.setIfInBounds_toArray, List.set_cons_zero, List.set_cons_succ])))
    refine pl_end ?_
    refine pl_two ?_ ?_
    · refine pl_one rfl (by rfl) (fun K hK => ?_)
      go_simp
      go_at_call 74
      refine (isSh_yes B hsh a1 a2 a3 c1 c2 c3 _ l3).mono ?_
      rintro e w1 ⟨rfl, hE1⟩
      have X1 : Ext W0 w1 := Ext.trans (Ext.drew W0) hE1
      have hz1 := hE1.size
      refine hK.out _ _ (HH.out _ (X1)) ?_
      clear hK K
      (try simp only [Act.put, List.setIfInBounds_toArray, List.set_cons_zero, List.set_cons_succ])
      refine pl_two ?_ ?_
      · refine pl_one rfl (by rfl) (fun K hK => ?_)
        go_simp
        go_at_call 58
        refine (asked_yes B a1 a2 a3 c1 c2 c3 _ ((HB.out.ext E0).ext (X1)) ((HG.out.ext E0).ext (X1)) hv).mono ?_
        rintro e w2 ⟨⟨mp, rfl, hM2, hmp2⟩, hE2⟩
        have X2 : Ext W0 w2 := Ext.trans (X1) hE2
        have hz2 := hE2.size
        refine hK.out _ _ (HH.out _ (X2)) ?_
        clear hK K
        (try simp only [Act.put, List.setIfInBounds_toArray, List.set_cons_zero, List.set_cons_succ])
        refine pl_tames ?_
        (try simp only [Act.put, List.setIfInBounds_toArray, List.set_cons_zero, List.set_cons_succ])
        repeat (first
          | (refine pl_run (v := ?_) rfl ?_ (fun W hW => ?_) ?_; rotate_left; rfl; ((try dsimp only at hW); go_simp; try with_reducible rfl); (try simp only [Act.put, List.setIfInBounds_toArray, List.set_cons_zero, List.set_cons_succ]))
          | (refine pl_skip rfl ?_ ?_; rfl; (try simp only [Act.put, List.setIfInBounds_toArray, List.set_cons_zero, List.set_cons_succ])))
        refine pl_end ?_
        refine pl_one rfl (by rfl) (fun K hK => ?_)
        go_simp
        have X3 : Ext W0 (w2.alloc (.cells #[.int .i64 0, .slice none 0 0, .slice none 0 0, .slice none 0 0, .map none] 81)) := Ext.trans (X2) (Ext.alloc _ _)
        have B3 : Blk (w2.alloc (.cells #[.int .i64 0, .slice none 0 0, .slice none 0 0, .slice none 0 0, .map none] 81)) w2.heap.size 81 #[.int .i64 0, .slice none 0 0, .slice none 0 0, .slice none 0 0, .map none] := Blk.new _ _ _
        have hg3 : W0.heap.size ≤ w2.heap.size := Below.size (X2)
        have hl3 := MapA.lt (hM2)
        have M3 := MapA.ext (hM2) (Ext.alloc w2 (.cells #[.int .i64 0, .slice none 0 0, .slice none 0 0, .slice none 0 0, .map none] 81))
        have ha3 : (w2.alloc (.cells #[.int .i64 0, .slice none 0 0, .slice none 0 0, .slice none 0 0, .map none] 81)).heap.size = w2.heap.size + 1 := by simp
        refine hK.out _ _ (HH.out _ (X3)) ?_
        clear hK K
        (try simp only [Act.put, List.setIfInBounds_toArray, List.set_cons_zero, List.set_cons_succ])
        have BS : Blk (w2.alloc (.cells #[.int .i64 0, .slice none 0 0, .slice none 0 0, .slice none 0 0, .map none] 81)) w2.heap.size 81 #[.int .i64 0, .slice none 0 0, .slice none 0 0, .slice none 0 0, .map none] := B3
        have XS : Ext W0 (w2.alloc (.cells #[.int .i64 0, .slice none 0 0, .slice none 0 0, .slice none 0 0, .map none] 81)) := X3
        have gS : W0.heap.size ≤ w2.heap.size := by omega
        have MS : MapA (w2.alloc (.cells #[.int .i64 0, .slice none 0 0, .slice none 0 0, .slice none 0 0, .map none] 81)) mp (ownL B.orders B.orders.length) := M3
        have nS : mp ≠ w2.heap.size := by (first | omega | (simp at *; omega))
        generalize (w2.alloc (.cells #[.int .i64 0, .slice none 0 0, .slice none 0 0, .slice none 0 0, .map none] 81)) = WS at BS XS MS ⊢
        obtain ⟨kS0, kS1, kS2, kS3, kS4⟩ := BS.c5
        have fS0 := BS.frozen 0
        have fS1 := BS.frozen 1
        have fS2 := BS.frozen 2
        have fS3 := BS.frozen 3
        have fS4 := BS.frozen 4
        refine pl_one rfl (by rfl) (fun K hK => ?_)
        go_simp
        refine hK.out _ _ (HH.out _ (below5 XS gS (.int .i64 B.comp) (.slice a1 B.bounds.length c1) (.slice a2 B.orders.length c2) (.slice a3 B.shots.length c3) (.map (some mp)))) ?_
        clear hK K
        (try simp only [Act.put, List.setIfInBounds_toArray, List.set_cons_zero, List.set_cons_succ])
        refine pl_tames ?_
        (try simp only [Act.put, List.setIfInBounds_toArray, List.set_cons_zero, List.set_cons_succ])
        repeat (first
          | (refine pl_run (v := ?_) rfl ?_ (fun W hW => ?_) ?_; rotate_left; rfl; ((try dsimp only at hW); go_simp; try with_reducible rfl); (try simp only [Act.put, List.setIfInBounds_toArray, List.set_cons_zero, List.set_cons_succ]))
          | (refine pl_skip rfl ?_ ?_; rfl; (try simp only [Act.put, List.setIfInBounds_toArray, List.set_cons_zero, List.set_cons_succ])))
        refine pl_end ?_
        refine pl_done ?_
        (try simp only [Act.put])
        go_wp2
        go_meet
        case rel => exact ⟨w2.heap.size, mp, rfl, rfl, (puts5 BS (.int .i64 B.comp) (.slice a1 B.bounds.length c1) (.slice a2 B.orders.length c2) (.slice a3 B.shots.length c3) (.map (some mp))), (MS.puts5 nS (.int .i64 B.comp) (.slice a1 B.bounds.length c1) (.slice a2 B.orders.length c2) (.slice a3 B.shots.length c3) (.map (some mp))), by have := b0.lt; omega, (below5 XS gS (.int .i64 B.comp) (.slice a1 B.bounds.length c1) (.slice a2 B.orders.length c2) (.slice a3 B.shots.length c3) (.map (some mp)))⟩
      · refine pl_one rfl (by rfl) (fun K hK => ?_)
        go_simp
        have X2 : Ext W0 (w1.alloc (.cells #[.int .i64 0, .slice none 0 0, .slice none 0 0, .slice none 0 0, .map none] 81)) := Ext.trans (X1) (Ext.alloc _ _)
        have B2 : Blk (w1.alloc (.cells #[.int .i64 0, .slice none 0 0, .slice none 0 0, .slice none 0 0, .map none] 81)) w1.heap.size 81 #[.int .i64 0, .slice none 0 0, .slice none 0 0, .slice none 0 0, .map none] := Blk.new _ _ _
        have hg2 : W0.heap.size ≤ w1.heap.size := Below.size (X1)
        have ha2 : (w1.alloc (.cells #[.int .i64 0, .slice none 0 0, .slice none 0 0, .slice none 0 0, .map none] 81)).heap.size = w1.heap.size + 1 := by simp
        refine hK.out _ _ (HH.out _ (X2)) ?_
        clear hK K
        (try simp only [Act.put, List.setIfInBounds_toArray, List.set_cons_zero, List.set_cons_succ])
        refine pl_one rfl (by rfl) (fun K hK => ?_)
        go_simp
        go_at_call 58
        refine (asked_yes B a1 a2 a3 c1 c2 c3 _ ((HB.out.ext E0).ext (X2)) ((HG.out.ext E0).ext (X2)) hv).mono ?_
        rintro e w3 ⟨⟨mp, rfl, hM3, hmp3⟩, hE3⟩
        have X3 : Ext W0 w3 := Ext.trans (X2) hE3
        have hz3 := hE3.size
        have B3 := Blk.ext (B2) hE3
        refine hK.out _ _ (HH.out _ (X3)) ?_
        clear hK K
        (try simp only [Act.put, List.setIfInBounds_toArray, List.set_cons_zero, List.set_cons_succ])
        refine pl_tames ?_
        (try simp only [Act.put, List.setIfInBounds_toArray, List.set_cons_zero, List.set_cons_succ])
        repeat (first
          | (refine pl_run (v := ?_) rfl ?_ (fun W hW => ?_) ?_; rotate_left; rfl; ((try dsimp only at hW); go_simp; try with_reducible rfl); (try simp only [Act.put, List.setIfInBounds_toArray, List.set_cons_zero, List.set_cons_succ]))
          | (refine pl_skip rfl ?_ ?_; rfl; (try simp only [Act.put, List.setIfInBounds_toArray, List.set_cons_zero, List.set_cons_succ])))
        refine pl_end ?_
        have BS : Blk w3 w1.heap.size 81 #[.int .i64 0, .slice none 0 0, .slice none 0 0, .slice none 0 0, .map none] := B3
        have XS : Ext W0 w3 := X3
        have gS : W0.heap.size ≤ w1.heap.size := by omega
        have MS : MapA w3 mp (ownL B.orders B.orders.length) := hM3
        have nS : mp ≠ w1.heap.size := by (first | omega | (simp at *; omega))
        generalize w3 = WS at BS XS MS ⊢
        obtain ⟨kS0, kS1, kS2, kS3, kS4⟩ := BS.c5
        have fS0 := BS.frozen 0
        have fS1 := BS.frozen 1
        have fS2 := BS.frozen 2
        have fS3 := BS.frozen 3
        have fS4 := BS.frozen 4
        refine pl_one rfl (by rfl) (fun K hK => ?_)
        go_simp
        refine hK.out _ _ (HH.out _ (below5 XS gS (.int .i64 B.comp) (.slice a1 B.bounds.length c1) (.slice a2 B.orders.length c2) (.slice a3 B.shots.length c3) (.map (some mp)))) ?_
        clear hK K
        (try simp only [Act.put, List.setIfInBounds_toArray, List.set_cons_zero, List.set_cons_succ])
        refine pl_tames ?_
        (try simp only [Act.put, List.setIfInBounds_toArray, List.set_cons_zero, List.set_cons_succ])
        repeat (first
          | (refine pl_run (v := ?_) rfl ?_ (fun W hW => ?_) ?_; rotate_left; rfl; ((try dsimp only at hW); go_simp; try with_reducible rfl); (try simp only [Act.put, List.setIfInBounds_toArray, List.set_cons_zero, List.set_cons_succ]))
          | (refine pl_skip rfl ?_ ?_; rfl; (try simp only [Act.put, List.setIfInBounds_toArray, List.set_cons_zero, List.set_cons_succ])))
        refine pl_end ?_
        refine pl_done ?_
        (try simp only [Act.put])
        go_wp2
        go_meet
        case rel => exact ⟨w1.heap.size, mp, rfl, rfl, (puts5 BS (.int .i64 B.comp) (.slice a1 B.bounds.length c1) (.slice a2 B.orders.length c2) (.slice a3 B.shots.length c3) (.map (some mp))), (MS.puts5 nS (.int .i64 B.comp) (.slice a1 B.bounds.length c1) (.slice a2 B.orders.length c2) (.slice a3 B.shots.length c3) (.map (some mp))), by have := b0.lt; omega, (below5 XS gS (.int .i64 B.comp) (.slice a1 B.bounds.length c1) (.slice a2 B.orders.length c2) (.slice a3 B.shots.length c3) (.map (some mp)))⟩
    · refine pl_one rfl (by rfl) (fun K hK => ?_)
      go_simp
      have X1 : Ext W0 (W0.alloc (.cells #[.int .i64 0, .slice none 0 0, .slice none 0 0, .slice none 0 0, .map none] 81)).drew := Ext.trans (Ext.alloc _ _) (Ext.drew _)
      have B1 : Blk (W0.alloc (.cells #[.int .i64 0, .slice none 0 0, .slice none 0 0, .slice none 0 0, .map none] 81)).drew W0.heap.size 81 #[.int .i64 0, .slice none 0 0, .slice none 0 0, .slice none 0 0, .map none] := (Blk.new _ _ _).drew
      have ha1 : (W0.alloc (.cells #[.int .i64 0, .slice none 0 0, .slice none 0 0, .slice none 0 0, .map none] 81)).drew.heap.size = W0.heap.size + 1 := by simp
      refine hK.out _ _ (HH.out _ (X1)) ?_
      clear hK K
      (try simp only [Act.put, List.setIfInBounds_toArray, List.set_cons_zero, List.set_cons_succ])
      refine pl_one rfl (by rfl) (fun K hK => ?_)
      go_simp
      go_at_call 74
      refine (isSh_yes B hsh a1 a2 a3 c1 c2 c3 _ l3).mono ?_
      rintro e w2 ⟨rfl, hE2⟩
      have X2 : Ext W0 w2 := Ext.trans (X1) hE2
      have hz2 := hE2.size
      have B2 := Blk.ext (B1) hE2
      refine hK.out _ _ (HH.out _ (X2)) ?_
      clear hK K
      (try simp only [Act.put, List.setIfInBounds_toArray, List.set_cons_zero, List.set_cons_succ])
      refine pl_one rfl (by rfl) (fun K hK => ?_)
      go_simp
      go_at_call 58
      refine (asked_yes B a1 a2 a3 c1 c2 c3 _ ((HB.out.ext E0).ext (X2)) ((HG.out.ext E0).ext (X2)) hv).mono ?_
      rintro e w3 ⟨⟨mp, rfl, hM3, hmp3⟩, hE3⟩
      have X3 : Ext W0 w3 := Ext.trans (X2) hE3
      have hz3 := hE3.size
      have B3 := Blk.ext (B2) hE3
      refine hK.out _ _ (HH.out _ (X3)) ?_
      clear hK K
      (try simp only [Act.put, List.setIfInBounds_toArray, List.set_cons_zero, List.set_cons_succ])
      refine pl_tames ?_
      (try simp only [Act.put, List.setIfInBounds_toArray, List.set_cons_zero, List.set_cons_succ])
      repeat (first
        | (refine pl_run (v := ?_) rfl ?_ (fun W hW => ?_) ?_; rotate_left; rfl; ((try dsimp only at hW); go_simp; try with_reducible rfl); (try simp only [Act.put, List.setIfInBounds_toArray, List.set_cons_zero, List.set_cons_succ]))
        | (refine pl_skip rfl ?_ ?_; rfl; (try simp only [Act.put, List.setIfInBounds_toArray, List.set_cons_zero, List.set_cons_succ])))
      refine pl_end ?_
      have BS : Blk w3 W0.heap.size 81 #[.int .i64 0, .slice none 0 0, .slice none 0 0, .slice none 0 0, .map none] := B3
      have XS : Ext W0 w3 := X3
      have gS : W0.heap.size ≤ W0.heap.size := by omega
      have MS : MapA w3 mp (ownL B.orders B.orders.length) := hM3
      have nS : mp ≠ W0.heap.size := by (first | omega | (simp at *; omega))
      generalize w3 = WS at BS XS MS ⊢
      obtain ⟨kS0, kS1, kS2, kS3, kS4⟩ := BS.c5
      have fS0 := BS.frozen 0
      have fS1 := BS.frozen 1
      have fS2 := BS.frozen 2
      have fS3 := BS.frozen 3
      have fS4 := BS.frozen 4
      refine pl_one rfl (by rfl) (fun K hK => ?_)
      go_simp
      refine hK.out _ _ (HH.out _ (below5 XS gS (.int .i64 B.comp) (.slice a1 B.bounds.length c1) (.slice a2 B.orders.length c2) (.slice a3 B.shots.length c3) (.map (some mp)))) ?_
      clear hK K
      (try simp only [Act.put, List.setIfInBounds_toArray, List.set_cons_zero, List.set_cons_succ])
      refine pl_tames ?_
      (try simp only [Act.put, List.setIfInBounds_toArray, List.set_cons_zero, List.set_cons_succ])
      repeat (first
        | (refine pl_run (v := ?_) rfl ?_ (fun W hW => ?_) ?_; rotate_left; rfl; ((try dsimp only at hW); go_simp; try with_reducible rfl); (try simp only [Act.put, List.setIfInBounds_toArray, List.set_cons_zero, List.set_cons_succ]))
        | (refine pl_skip rfl ?_ ?_; rfl; (try simp only [Act.put, List.setIfInBounds_toArray, List.set_cons_zero, List.set_cons_succ])))
      refine pl_end ?_
      refine pl_done ?_
      (try simp only [Act.put])
      go_wp2
      go_meet
      case rel => exact ⟨W0.heap.size, mp, rfl, rfl, (puts5 BS (.int .i64 B.comp) (.slice a1 B.bounds.length c1) (.slice a2 B.orders.length c2) (.slice a3 B.shots.length c3) (.map (some mp))), (MS.puts5 nS (.int .i64 B.comp) (.slice a1 B.bounds.length c1) (.slice a2 B.orders.length c2) (.slice a3 B.shots.length c3) (.map (some mp))), by have := b0.lt; omega, (below5 XS gS (.int .i64 B.comp) (.slice a1 B.bounds.length c1) (.slice a2 B.orders.length c2) (.slice a3 B.shots.length c3) (.map (some mp)))⟩
  case rest =>
    obtain ⟨g, mp, rfl, rfl, hb, hM, hg, hX⟩ := hcut
    obtain ⟨h1, h2, h3, h4, h5, h6, h7, h8⟩ := valid_shot hv hk
    have hnb := (valid_sizes hv).2.2.2.2.1
    obtain ⟨i0, hi, hz0, hz1, hz2⟩ := info_parts int_info
    have HB2 := Lib.hid ((HB.out.ext E0).ext hX)
    have HG2 := Lib.hid ((HG.out.ext E0).ext hX)
    obtain ⟨b, o, rfl, hbl, hc⟩ := HB2.out.shots (by omega)
    obtain ⟨q0, q1, q2, q3⟩ := hc k hk
    obtain ⟨x0, x1, x2, x3, x4⟩ := hb.c5
    obtain ⟨y0, y1, y2, y3⟩ := (b0.ext hX).c4
    clear hc
    have HS : ∀ W, Ext wc W → ((W.cell? ⟨w.heap.size, 0, none⟩ = some (.int .i64 B.comp) ∧ W.cell? ⟨w.heap.size, 1, none⟩ = some (.slice a1 B.bounds.length c1) ∧ W.cell? ⟨w.heap.size, 2, none⟩ = some (.slice a2 B.orders.length c2) ∧ W.cell? ⟨w.heap.size, 3, none⟩ = some (.slice (some ⟨b, o, none⟩) B.shots.length c3)) ∧ (W.cell? ⟨g, 0, none⟩ = some (.int .i64 B.comp) ∧ W.cell? ⟨g, 1, none⟩ = some (.slice a1 B.bounds.length c1) ∧ W.cell? ⟨g, 2, none⟩ = some (.slice a2 B.orders.length c2) ∧ W.cell? ⟨g, 3, none⟩ = some (.slice (some ⟨b, o, none⟩) B.shots.length c3) ∧ W.cell? ⟨g, 4, none⟩ = some (.map (some mp))) ∧ (W.cell? ⟨b, o + k * 4, none⟩ = some (.int .i64 (sAt B.shots k).st) ∧ W.cell? ⟨b, o + k * 4 + 1, none⟩ = some (.int .i64 (sAt B.shots k).co) ∧ W.cell? ⟨b, o + k * 4 + 2, none⟩ = some (.int .i64 (sAt B.shots k).lo) ∧ W.cell? ⟨b, o + k * 4 + 3, none⟩ = some (.int .i64 (sAt B.shots k).hi))) := fun W e => ⟨⟨e.keep y0, e.keep y1, e.keep y2, e.keep y3⟩, ⟨e.keep x0, e.keep x1, e.keep x2, e.keep x3, e.keep x4⟩, e.keep q0, e.keep q1, e.keep q2, e.keep q3⟩
    have HS := Lib.hid HS
    go_wp2_with (fail)
    clear y0 y1 y2 y3 x0 x1 x2 x3 x4 q0 q1 q2 q3
    go_loopw [8, 24] (fun v i wr => ∃ j : Nat, j ≤ B.bounds.length ∧ i = .int .i64 j ∧ wr.ownsRow wc.heap.size 3 1 v (hangsI B (sAt B.shots k) j).length (ints (hangsI B (sAt B.shots k) j)) ∧ Ext wc wr) (fun _ i _ => B.bounds.length - (intOf i).toNat)
    case atStart => exact ⟨0, Nat.zero_le _, rfl, World.ownsRow_nil _ _ _ _, Ext.refl _⟩
    case round =>
      obtain ⟨j, hj, rfl, hown, hE⟩ := hrel
      have hlen := hangsI_len B (sAt B.shots k) j
      by_cases hlt : j < B.bounds.length
      · go_upto_region 8 with (fail)
        refine wp_plan (fun W => ((W.cell? ⟨w.heap.size, 0, none⟩ = some (.int .i64 B.comp) ∧ W.cell? ⟨w.heap.size, 1, none⟩ = some (.slice a1 B.bounds.length c1) ∧ W.cell? ⟨w.heap.size, 2, none⟩ = some (.slice a2 B.orders.length c2) ∧ W.cell? ⟨w.heap.size, 3, none⟩ = some (.slice (some ⟨b, o, none⟩) B.shots.length c3)) ∧ (W.cell? ⟨g, 0, none⟩ = some (.int .i64 B.comp) ∧ W.cell? ⟨g, 1, none⟩ = some (.slice a1 B.bounds.length c1) ∧ W.cell? ⟨g, 2, none⟩ = some (.slice a2 B.orders.length c2) ∧ W.cell? ⟨g, 3, none⟩ = some (.slice (some ⟨b, o, none⟩) B.shots.length c3) ∧ W.cell? ⟨g, 4, none⟩ = some (.map (some mp))) ∧ (W.cell? ⟨b, o + k * 4, none⟩ = some (.int .i64 (sAt B.shots k).st) ∧ W.cell? ⟨b, o + k * 4 + 1, none⟩ = some (.int .i64 (sAt B.shots k).co) ∧ W.cell? ⟨b, o + k * 4 + 2, none⟩ = some (.int .i64 (sAt B.shots k).lo) ∧ W.cell? ⟨b, o + k * 4 + 3, none⟩ = some (.int .i64 (sAt B.shots k).hi)))) (.tames [0, 1, 2, 3, 4, 5, 6] (.one 7 (.done))) (by kernel_rfl) (by kernel_rfl) (by kernel_rfl) (fun c a d v w h => by cases d <;> exact h) ?_ ?_
        · exact HS.out _ (Ext.trans hE (Ext.drew _))
        refine pl_tames ?_
        (try simp only [Act.put, List.setIfInBounds_toArray, List.set_cons_zero, List.set_cons_succ])
        repeat (first
          | (refine pl_run (v := ?_) rfl ?_ (fun W hW => ?_) ?_; rotate_left; rfl; ((try dsimp only at hW); go_simp; try with_reducible rfl); (try simp only [Act.put, List.setIfInBounds_toArray, List.set_cons_zero, List.set_cons_succ]))
          | (refine pl_skip rfl ?_ ?_; rfl; (try simp only [Act.put, List.setIfInBounds_toArray, List.set_cons_zero, List.set_cons_succ])))
        refine pl_end ?_
        refine pl_one rfl (by rfl) (fun K hK => ?_)
        go_simp
        go_at_call 78
        refine (hangs_any B a1 a2 _ c1 c2 c3 mp (sAt B.shots k) j _ ((HB2.out.ext hE).ext (Ext.drew _)) ((HG2.out.ext hE).ext (Ext.drew _)) ((hM.ext hE).ext (Ext.drew _)) hv ⟨h1, h2, h5, h6, h7⟩ hlt).mono ?_
        rintro e w5 ⟨rfl, hE5⟩
        have X5 : Ext wr w5 := Ext.trans (Ext.drew _) hE5
        refine hK.out _ _ (HS.out _ (Ext.trans hE X5)) (pl_done ?_)
        clear hK K
        (try simp only [Act.put, List.setIfInBounds_toArray, List.set_cons_zero, List.set_cons_succ])
        have hs := hangsI_succ B (sAt B.shots k) j
        have hown5 := ownsRow_ext hown X5
        obtain ⟨hn, av, cpv, rfl, hI⟩ := own_int hown5
        obtain ⟨p, hp⟩ : ∃ p, p = hangB B (sAt B.shots k) j := ⟨_, rfl⟩
        rw [← hp] at hs ⊢
        have Hs := Lib.hid hs
        clear hp hs hn
        have X6 := Ext.trans hE X5
        cases p with
        | true =>
          go_wp2_with (at_builtin; refine wpList_append_own _ rfl _ _ 34 rfl wc.heap.size 3 i0 (.int .i64 0) 1 8 Tryd.underlying34 hi hz0 hz1 hz2 rfl (by decide) _ _ _ rfl (hown5.alloc _) ⟨w5.heap.size, 0, none⟩ 1 1 [.int .i64 j] rfl rfl (cell_one_new _ _ _) (by simp [Value.oneCell']) (by unfold maxLen; omega) (by omega) (by have := X6.size; simp; omega) ?_)
          intro v' w7 hown' hgrow _
          have hE7 : Ext wc w7 := Below.grown (Ext.trans X6 (Ext.alloc w5 _)) hgrow (by have := X6.size; simp; omega) (own_base hown5)
          go_wp2
          go_roundw
          case rel => exact ⟨j + 1, by omega, by go_num, by rw [Hs.out]; simpa [ints] using hown', hE7⟩
          case measure => simp [intOf]; omega
        | false =>
          go_wp2_with (fail)
          go_roundw
          case rel => exact ⟨j + 1, by omega, by go_num, by rw [Hs.out]; exact hown5, X6⟩
          case measure => simp [intOf]; omega
      · obtain rfl : j = B.bounds.length := by omega
        have hI0 := own_int hown
        rcases Nat.eq_zero_or_pos (hangsI B (sAt B.shots k) B.bounds.length).length with h0 | h0
        · have Hh := Lib.hid h0
          rw [h0] at hown
          rcases hown.2 with ⟨rfl, _⟩ | ⟨gg, cap, cur, rfl, g1, g2, g3, g4, _⟩
          · clear h0
            go_wp2
            refine bodyPost_ret (v := .tuple #[.slice none 0 0, .int .i64 0]) ?_ rfl ⟨⟨_, ⟨0, by rw [Hh.out]⟩, fun hp => absurd hp (by rw [Hh.out]; omega)⟩, E0.trans (Ext.trans hX hE)⟩
            simp [results, Tryd.results28, go_sem]
          · unfold maxLen at g4
            clear h0
            go_wp2
            refine bodyPost_ret (v := .tuple #[.slice (some ⟨gg, 0, none⟩) 0 0, .int .i64 0]) ?_ rfl ⟨⟨_, ⟨0, by rw [Hh.out]⟩, fun hp => absurd hp (by rw [Hh.out]; omega)⟩, E0.trans (Ext.trans hX hE)⟩
            simp [results, Tryd.results28, go_sem]
        · obtain ⟨gg, cap, cur, rfl, g1, g2, g3, hbk, ht⟩ := own_open hown h0
          obtain ⟨hn, av, cpv, e1, hI⟩ := hI0
          unfold maxLen at g3
          simp only [Value.slice.injEq] at e1
          obtain ⟨rfl, -, rfl⟩ := e1
          go_wp2
          refine bodyPost_ret (v := .tuple #[.slice (some ⟨gg, 0, none⟩) (hangsI B (sAt B.shots k) B.bounds.length).length (hangsI B (sAt B.shots k) B.bounds.length).length, .int .i64 0]) ?_ rfl ⟨⟨_, ⟨_, rfl⟩, hI⟩, E0.trans (Ext.trans hX hE)⟩
          simp [results, Tryd.results28, go_sem]
end Go.Proofs.YtnhdcdhpfgdphaaDoor
