/-
  The reference's First, and both sides of it in one shape.
-/
import Derived.Test.YtnhdcdhpfgdphaaDoorMFa19
import Derived.Test.YtnhdcdhpfgdphaaDoorMFa14
import Derived.Test.YtnhdcdhpfgdphaaDoorMFa16
import Derived.Test.YtnhdcdhpfgdphaaDoorMFa15
set_option linter.unusedSimpArgs false
set_option linter.unusedVariables false
namespace Go.Proofs.YtnhdcdhpfgdphaaDoor
open Go Go.RowKit

def firstX (B : Bk) (i j : Int) : Int := if askE B (askFirst B i j) = 0 then firstN (sAt B.shots i.toNat) (sAt B.shots j.toNat) else 0
theorem ask_first {B : Bk} {i j : Int} (h : askE B (askFirst B i j) = 0) : validB B = true ∧ ∃ k l : Nat, i = k ∧ j = l ∧ k < B.shots.length ∧ l < B.shots.length ∧ k ≠ l := by
  obtain ⟨hv, hs⟩ := askE_zero.1 h
  simp only [askFirst, isShB, Bool.and_eq_true, decide_eq_true_eq, bne_iff_ne] at hs
  exact ⟨hv, i.toNat, j.toNat, by omega, by omega, by omega, by omega, by omega⟩
theorem first_all (B : Bk) (a1 a2 a3 : Option Addr) (c1 c2 c3 : Nat) (i j : Int) (w : World) (h : BookA w B a1 a2 a3) (hG : Glob w) :
    Calls Tryd.prog 30 #[.agg #[.int .i64 B.comp, .slice a1 B.bounds.length c1, .slice a2 B.orders.length c2, .slice a3 B.shots.length c3], .int .i64 i, .int .i64 j] w
      fun e w' => e = .returned (.tuple #[.int .i64 (firstX B i j), .int .i64 (askE B (askFirst B i j))]) ∧ Ext w w' := by
  unfold firstX
  by_cases hz : askE B (askFirst B i j) = 0
  · obtain ⟨hv, k, l, rfl, rfl, hk, hl, hkl⟩ := ask_first hz
    rw [if_pos hz, hz]
    exact first_yes B a1 a2 a3 c1 c2 c3 k l w h hG hv hk hl hkl
  · rw [if_neg hz]
    exact first_no B a1 a2 a3 c1 c2 c3 i j w h hG hz

set_option maxRecDepth 100000 in
set_option maxHeartbeats 8000000 in
theorem rFirst_all (B : Bk) (a1 a2 a3 : Option Addr) (c1 c2 c3 : Nat) (i j : Int) (w : World) (h : BookA w B a1 a2 a3) :
    Calls Tryd.prog 31 #[.agg #[.int .i64 B.comp, .slice a1 B.bounds.length c1, .slice a2 B.orders.length c2, .slice a3 B.shots.length c3], .int .i64 i, .int .i64 j] w
      fun e w' => e = .returned (.tuple #[.int .i64 (firstX B i j), .int .i64 (askE B (askFirst B i j))]) ∧ Ext w w' := by
  cases hs : isShB B i
  · have hq : askFirst B i j = false := by unfold askFirst; rw [hs]; rfl
    rw [hq]
    have HB := Lib.hid h
    have l2 := h.l2
    have l3 := h.l3
    clear h
    obtain ⟨c, hc⟩ : ∃ c, askE B false = c := ⟨_, rfl⟩
    have hask := fun W (hW : Ext w W) => rAsked_any B false a1 a2 a3 c1 c2 c3 W (HB.out.ext hW)
    simp only [hc] at hask ⊢
    have Hask := Lib.hid hask
    have Hc := Lib.hid hc
    clear hask hc
    go_enter Tryd.func31, Tryd.ntmps31
    go_upto_region 1 with (fail)
    obtain ⟨W0, hW0⟩ : ∃ W0, W0 = w.alloc (.cells #[.int .i64 B.comp, .slice a1 B.bounds.length c1, .slice a2 B.orders.length c2, .slice a3 B.shots.length c3] 26) := ⟨_, rfl⟩
    have b0 : Blk W0 w.heap.size 26 #[.int .i64 B.comp, .slice a1 B.bounds.length c1, .slice a2 B.orders.length c2, .slice a3 B.shots.length c3] := by rw [hW0]; exact Blk.new _ _ _
    have E0 : Ext w W0 := by rw [hW0]; exact Ext.alloc _ _
    rw [← hW0]
    clear hW0
    have HH : Hid (∀ W, Ext W0 W → (W.cell? ⟨w.heap.size, 0, none⟩ = some (.int .i64 B.comp) ∧ W.cell? ⟨w.heap.size, 1, none⟩ = some (.slice a1 B.bounds.length c1) ∧ W.cell? ⟨w.heap.size, 2, none⟩ = some (.slice a2 B.orders.length c2) ∧ W.cell? ⟨w.heap.size, 3, none⟩ = some (.slice a3 B.shots.length c3))) := Lib.hid fun W e => (b0.ext e).c4
    go_cut [8] (fun e wx => e = .int .i64 c ∧ Ext W0 wx)
    case first =>
      refine wp_plan (fun W => W.cell? ⟨w.heap.size, 0, none⟩ = some (.int .i64 B.comp) ∧ W.cell? ⟨w.heap.size, 1, none⟩ = some (.slice a1 B.bounds.length c1) ∧ W.cell? ⟨w.heap.size, 2, none⟩ = some (.slice a2 B.orders.length c2) ∧ W.cell? ⟨w.heap.size, 3, none⟩ = some (.slice a3 B.shots.length c3)) (.tames [0, 1, 2] (.one 3 (.tames [4, 5, 6] (.one 7 (.tames [8, 9, 10, 11, 12, 13] (.one 14 (.tames [15] (.done)))))))) (by kernel_rfl) (by kernel_rfl) (by kernel_rfl) (fun c a d v w h => by cases d <;> exact h) ?_ ?_
      · exact HH.out _ (Ext.drew _)
      refine pl_tames ?_
      (try simp only [Act.put, List.setIfInBounds_toArray, List.set_cons_zero, List.set_cons_succ])
      repeat (first
        | (refine pl_run (v := ?_) rfl ?_ (fun W hW => ?_) ?_; rotate_left; rfl; ((try dsimp only at hW); go_simp; try with_reducible rfl); (try simp only [Act.put, List.setIfInBounds_toArray, List.set_cons_zero, List.set_cons_succ]))
        | (refine pl_skip rfl ?_ ?_; rfl; (try simp only [Act.put, List.setIfInBounds_toArray, List.set_cons_zero, List.set_cons_succ])))
      refine pl_end ?_
      refine pl_one rfl (by rfl) (fun K hK => ?_)
      go_simp
      go_at_call 76
      refine ((rShot_any B a1 a2 a3 c1 c2 c3 i _ l3).mono (fun e w' q => (⟨by rw [q.1, hs], q.2⟩ : e = .returned (.bool false) ∧ _))).mono ?_
      rintro e w1 ⟨rfl, hE1⟩
      have X1 : Ext W0 w1 := Ext.trans (Ext.drew W0) hE1
      have hz1 := hE1.size
      refine hK.out _ _ (HH.out _ (X1)) ?_
      clear hK K
      (try simp only [Act.put, List.setIfInBounds_toArray, List.set_cons_zero, List.set_cons_succ])
      refine pl_tames ?_
      (try simp only [Act.put, List.setIfInBounds_toArray, List.set_cons_zero, List.set_cons_succ])
      repeat (first
        | (refine pl_run (v := ?_) rfl ?_ (fun W hW => ?_) ?_; rotate_left; rfl; ((try dsimp only at hW); go_simp; try with_reducible rfl); (try simp only [Act.put, List.setIfInBounds_toArray, List.set_cons_zero, List.set_cons_succ]))
        | (refine pl_skip rfl ?_ ?_; rfl; (try simp only [Act.put, List.setIfInBounds_toArray, List.set_cons_zero, List.set_cons_succ])))
      refine pl_end ?_
      refine pl_one_skip rfl (by rfl) (HH.out _ (X1)) ?_
      (try simp only [Act.put, List.setIfInBounds_toArray, List.set_cons_zero, List.set_cons_succ])
      refine pl_tames ?_
      (try simp only [Act.put, List.setIfInBounds_toArray, List.set_cons_zero, List.set_cons_succ])
      repeat (first
        | (refine pl_run (v := ?_) rfl ?_ (fun W hW => ?_) ?_; rotate_left; rfl; ((try dsimp only at hW); go_simp; try with_reducible rfl); (try simp only [Act.put, List.setIfInBounds_toArray, List.set_cons_zero, List.set_cons_succ]))
        | (refine pl_skip rfl ?_ ?_; rfl; (try simp only [Act.put, List.setIfInBounds_toArray, List.set_cons_zero, List.set_cons_succ])))
      refine pl_end ?_
      refine pl_one rfl (by rfl) (fun K hK => ?_)
      go_simp
      go_at_call 61
      refine (Hask.out _ (E0.trans (X1))).mono ?_
      rintro e w3 ⟨rfl, hE3⟩
      have X3 : Ext W0 w3 := Ext.trans (X1) hE3
      have hz3 := hE3.size
      refine hK.out _ _ (HH.out _ (X3)) ?_
      clear hK K
      (try simp only [Act.put, List.setIfInBounds_toArray, List.set_cons_zero, List.set_cons_succ])
      refine pl_tames ?_
      (try simp only [Act.put, List.setIfInBounds_toArray, List.set_cons_zero, List.set_cons_succ])
      repeat (first
        | (refine pl_run (v := ?_) rfl ?_ (fun W hW => ?_) ?_; rotate_left; rfl; ((try dsimp only at hW); go_simp; try with_reducible rfl); (try simp only [Act.put, List.setIfInBounds_toArray, List.set_cons_zero, List.set_cons_succ]))
        | (refine pl_skip rfl ?_ ?_; rfl; (try simp only [Act.put, List.setIfInBounds_toArray, List.set_cons_zero, List.set_cons_succ])))
      refine pl_end ?_
      refine pl_done ?_
      (try simp only [Act.put])
      go_wp2
      go_meet
      case rel => exact ⟨rfl, X3⟩
    case rest =>
      obtain ⟨rfl, hX⟩ := hcut
      have hz : c ≠ 0 := by rw [← Hc.out]; unfold askE; cases validB B <;> simp
      have Hf := Lib.hid (show firstX B i j = 0 by unfold firstX; rw [if_neg (by rw [hq, Hc.out]; exact hz)])
      have hcn : (c != 0) = true := by simp [hz]
      go_wp2
      refine bodyPost_ret (v := .tuple #[.int .i64 0, .int .i64 c]) ?_ rfl ⟨by rw [Hf.out], E0.trans hX⟩
      simp [results, Tryd.results31, go_sem]
  · cases hs2 : isShB B j
    · have hq : askFirst B i j = false := by unfold askFirst; rw [hs, hs2]; rfl
      rw [hq]
      have HB := Lib.hid h
      have l2 := h.l2
      have l3 := h.l3
      clear h
      obtain ⟨c, hc⟩ : ∃ c, askE B false = c := ⟨_, rfl⟩
      have hask := fun W (hW : Ext w W) => rAsked_any B false a1 a2 a3 c1 c2 c3 W (HB.out.ext hW)
      simp only [hc] at hask ⊢
      have Hask := Lib.hid hask
      have Hc := Lib.hid hc
      clear hask hc
      go_enter Tryd.func31, Tryd.ntmps31
      go_upto_region 1 with (fail)
      obtain ⟨W0, hW0⟩ : ∃ W0, W0 = w.alloc (.cells #[.int .i64 B.comp, .slice a1 B.bounds.length c1, .slice a2 B.orders.length c2, .slice a3 B.shots.length c3] 26) := ⟨_, rfl⟩
      have b0 : Blk W0 w.heap.size 26 #[.int .i64 B.comp, .slice a1 B.bounds.length c1, .slice a2 B.orders.length c2, .slice a3 B.shots.length c3] := by rw [hW0]; exact Blk.new _ _ _
      have E0 : Ext w W0 := by rw [hW0]; exact Ext.alloc _ _
      rw [← hW0]
      clear hW0
      have HH : Hid (∀ W, Ext W0 W → (W.cell? ⟨w.heap.size, 0, none⟩ = some (.int .i64 B.comp) ∧ W.cell? ⟨w.heap.size, 1, none⟩ = some (.slice a1 B.bounds.length c1) ∧ W.cell? ⟨w.heap.size, 2, none⟩ = some (.slice a2 B.orders.length c2) ∧ W.cell? ⟨w.heap.size, 3, none⟩ = some (.slice a3 B.shots.length c3))) := Lib.hid fun W e => (b0.ext e).c4
      go_cut [8] (fun e wx => e = .int .i64 c ∧ Ext W0 wx)
      case first =>
        refine wp_plan (fun W => W.cell? ⟨w.heap.size, 0, none⟩ = some (.int .i64 B.comp) ∧ W.cell? ⟨w.heap.size, 1, none⟩ = some (.slice a1 B.bounds.length c1) ∧ W.cell? ⟨w.heap.size, 2, none⟩ = some (.slice a2 B.orders.length c2) ∧ W.cell? ⟨w.heap.size, 3, none⟩ = some (.slice a3 B.shots.length c3)) (.tames [0, 1, 2] (.one 3 (.tames [4, 5, 6] (.one 7 (.tames [8, 9, 10, 11, 12, 13] (.one 14 (.tames [15] (.done)))))))) (by kernel_rfl) (by kernel_rfl) (by kernel_rfl) (fun c a d v w h => by cases d <;> exact h) ?_ ?_
        · exact HH.out _ (Ext.drew _)
        refine pl_tames ?_
        (try simp only [Act.put, List.setIfInBounds_toArray, List.set_cons_zero, List.set_cons_succ])
        repeat (first
          | (refine pl_run (v := ?_) rfl ?_ (fun W hW => ?_) ?_; rotate_left; rfl; ((try dsimp only at hW); go_simp; try with_reducible rfl); (try simp only [Act.put, List.setIfInBounds_toArray, List.set_cons_zero, List.set_cons_succ]))
          | (refine pl_skip rfl ?_ ?_; rfl; (try simp only [Act.put, List.setIfInBounds_toArray, List.set_cons_zero, List.set_cons_succ])))
        refine pl_end ?_
        refine pl_one rfl (by rfl) (fun K hK => ?_)
        go_simp
        go_at_call 76
        refine ((rShot_any B a1 a2 a3 c1 c2 c3 i _ l3).mono (fun e w' q => (⟨by rw [q.1, hs], q.2⟩ : e = .returned (.bool true) ∧ _))).mono ?_
        rintro e w1 ⟨rfl, hE1⟩
        have X1 : Ext W0 w1 := Ext.trans (Ext.drew W0) hE1
        have hz1 := hE1.size
        refine hK.out _ _ (HH.out _ (X1)) ?_
        clear hK K
        (try simp only [Act.put, List.setIfInBounds_toArray, List.set_cons_zero, List.set_cons_succ])
        refine pl_tames ?_
        (try simp only [Act.put, List.setIfInBounds_toArray, List.set_cons_zero, List.set_cons_succ])
        repeat (first
          | (refine pl_run (v := ?_) rfl ?_ (fun W hW => ?_) ?_; rotate_left; rfl; ((try dsimp only at hW); go_simp; try with_reducible rfl); (try simp only [Act.put, List.setIfInBounds_toArray, List.set_cons_zero, List.set_cons_succ]))
          | (refine pl_skip rfl ?_ ?_; rfl; (try simp only [Act.put, List.setIfInBounds_toArray, List.set_cons_zero, List.set_cons_succ])))
        refine pl_end ?_
        refine pl_one rfl (by rfl) (fun K hK => ?_)
        go_simp
        go_at_call 76
        refine ((rShot_any B a1 a2 a3 c1 c2 c3 j _ l3).mono (fun e w' q => (⟨by rw [q.1, hs2], q.2⟩ : e = .returned (.bool false) ∧ _))).mono ?_
        rintro e w2 ⟨rfl, hE2⟩
        have X2 : Ext W0 w2 := Ext.trans (X1) hE2
        have hz2 := hE2.size
        refine hK.out _ _ (HH.out _ (X2)) ?_
        clear hK K
        (try simp only [Act.put, List.setIfInBounds_toArray, List.set_cons_zero, List.set_cons_succ])
        refine pl_tames ?_
        (try simp only [Act.put, List.setIfInBounds_toArray, List.set_cons_zero, List.set_cons_succ])
        repeat (first
          | (refine pl_run (v := ?_) rfl ?_ (fun W hW => ?_) ?_; rotate_left; rfl; ((try dsimp only at hW); go_simp; try with_reducible rfl); (try simp only [Act.put, List.setIfInBounds_toArray, List.set_cons_zero, List.set_cons_succ]))
          | (refine pl_skip rfl ?_ ?_; rfl; (try simp only [Act.put, List.setIfInBounds_toArray, List.set_cons_zero, List.set_cons_succ])))
        refine pl_end ?_
        refine pl_one rfl (by rfl) (fun K hK => ?_)
        go_simp
        go_at_call 61
        refine (Hask.out _ (E0.trans (X2))).mono ?_
        rintro e w3 ⟨rfl, hE3⟩
        have X3 : Ext W0 w3 := Ext.trans (X2) hE3
        have hz3 := hE3.size
        refine hK.out _ _ (HH.out _ (X3)) ?_
        clear hK K
        (try simp only [Act.put, List.setIfInBounds_toArray, List.set_cons_zero, List.set_cons_succ])
        refine pl_tames ?_
        (try simp only [Act.put, List.setIfInBounds_toArray, List.set_cons_zero, List.set_cons_succ])
        repeat (first
          | (refine pl_run (v := ?_) rfl ?_ (fun W hW => ?_) ?_; rotate_left; rfl; ((try dsimp only at hW); go_simp; try with_reducible rfl); (try simp only [Act.put, List.setIfInBounds_toArray, List.set_cons_zero, List.set_cons_succ]))
          | (refine pl_skip rfl ?_ ?_; rfl; (try simp only [Act.put, List.setIfInBounds_toArray, List.set_cons_zero, List.set_cons_succ])))
        refine pl_end ?_
        refine pl_done ?_
        (try simp only [Act.put])
        go_wp2
        go_meet
        case rel => exact ⟨rfl, X3⟩
      case rest =>
        obtain ⟨rfl, hX⟩ := hcut
        have hz : c ≠ 0 := by rw [← Hc.out]; unfold askE; cases validB B <;> simp
        have Hf := Lib.hid (show firstX B i j = 0 by unfold firstX; rw [if_neg (by rw [hq, Hc.out]; exact hz)])
        have hcn : (c != 0) = true := by simp [hz]
        go_wp2
        refine bodyPost_ret (v := .tuple #[.int .i64 0, .int .i64 c]) ?_ rfl ⟨by rw [Hf.out], E0.trans hX⟩
        simp [results, Tryd.results31, go_sem]
    · have hq : askFirst B i j = (i != j) := by unfold askFirst; rw [hs, hs2]; rfl
      rw [hq]
      have HB := Lib.hid h
      have l2 := h.l2
      have l3 := h.l3
      clear h
      obtain ⟨c, hc⟩ : ∃ c, askE B (i != j) = c := ⟨_, rfl⟩
      have hask := fun W (hW : Ext w W) => rAsked_any B (i != j) a1 a2 a3 c1 c2 c3 W (HB.out.ext hW)
      simp only [hc] at hask ⊢
      have Hask := Lib.hid hask
      have Hc := Lib.hid hc
      clear hask hc
      go_enter Tryd.func31, Tryd.ntmps31
      go_upto_region 1 with (fail)
      obtain ⟨W0, hW0⟩ : ∃ W0, W0 = w.alloc (.cells #[.int .i64 B.comp, .slice a1 B.bounds.length c1, .slice a2 B.orders.length c2, .slice a3 B.shots.length c3] 26) := ⟨_, rfl⟩
      have b0 : Blk W0 w.heap.size 26 #[.int .i64 B.comp, .slice a1 B.bounds.length c1, .slice a2 B.orders.length c2, .slice a3 B.shots.length c3] := by rw [hW0]; exact Blk.new _ _ _
      have E0 : Ext w W0 := by rw [hW0]; exact Ext.alloc _ _
      rw [← hW0]
      clear hW0
      have HH : Hid (∀ W, Ext W0 W → (W.cell? ⟨w.heap.size, 0, none⟩ = some (.int .i64 B.comp) ∧ W.cell? ⟨w.heap.size, 1, none⟩ = some (.slice a1 B.bounds.length c1) ∧ W.cell? ⟨w.heap.size, 2, none⟩ = some (.slice a2 B.orders.length c2) ∧ W.cell? ⟨w.heap.size, 3, none⟩ = some (.slice a3 B.shots.length c3))) := Lib.hid fun W e => (b0.ext e).c4
      go_cut [8] (fun e wx => e = .int .i64 c ∧ Ext W0 wx)
      case first =>
        refine wp_plan (fun W => W.cell? ⟨w.heap.size, 0, none⟩ = some (.int .i64 B.comp) ∧ W.cell? ⟨w.heap.size, 1, none⟩ = some (.slice a1 B.bounds.length c1) ∧ W.cell? ⟨w.heap.size, 2, none⟩ = some (.slice a2 B.orders.length c2) ∧ W.cell? ⟨w.heap.size, 3, none⟩ = some (.slice a3 B.shots.length c3)) (.tames [0, 1, 2] (.one 3 (.tames [4, 5, 6] (.one 7 (.tames [8, 9, 10, 11, 12, 13] (.one 14 (.tames [15] (.done)))))))) (by kernel_rfl) (by kernel_rfl) (by kernel_rfl) (fun c a d v w h => by cases d <;> exact h) ?_ ?_
        · exact HH.out _ (Ext.drew _)
        refine pl_tames ?_
        (try simp only [Act.put, List.setIfInBounds_toArray, List.set_cons_zero, List.set_cons_succ])
        repeat (first
          | (refine pl_run (v := ?_) rfl ?_ (fun W hW => ?_) ?_; rotate_left; rfl; ((try dsimp only at hW); go_simp; try with_reducible rfl); (try simp only [Act.put, List.setIfInBounds_toArray, List.set_cons_zero, List.set_cons_succ]))
          | (refine pl_skip rfl ?_ ?_; rfl; (try simp only [Act.put, List.setIfInBounds_toArray, List.set_cons_zero, List.set_cons_succ])))
        refine pl_end ?_
        refine pl_one rfl (by rfl) (fun K hK => ?_)
        go_simp
        go_at_call 76
        refine ((rShot_any B a1 a2 a3 c1 c2 c3 i _ l3).mono (fun e w' q => (⟨by rw [q.1, hs], q.2⟩ : e = .returned (.bool true) ∧ _))).mono ?_
        rintro e w1 ⟨rfl, hE1⟩
        have X1 : Ext W0 w1 := Ext.trans (Ext.drew W0) hE1
        have hz1 := hE1.size
        refine hK.out _ _ (HH.out _ (X1)) ?_
        clear hK K
        (try simp only [Act.put, List.setIfInBounds_toArray, List.set_cons_zero, List.set_cons_succ])
        refine pl_tames ?_
        (try simp only [Act.put, List.setIfInBounds_toArray, List.set_cons_zero, List.set_cons_succ])
        repeat (first
          | (refine pl_run (v := ?_) rfl ?_ (fun W hW => ?_) ?_; rotate_left; rfl; ((try dsimp only at hW); go_simp; try with_reducible rfl); (try simp only [Act.put, List.setIfInBounds_toArray, List.set_cons_zero, List.set_cons_succ]))
          | (refine pl_skip rfl ?_ ?_; rfl; (try simp only [Act.put, List.setIfInBounds_toArray, List.set_cons_zero, List.set_cons_succ])))
        refine pl_end ?_
        refine pl_one rfl (by rfl) (fun K hK => ?_)
        go_simp
        go_at_call 76
        refine ((rShot_any B a1 a2 a3 c1 c2 c3 j _ l3).mono (fun e w' q => (⟨by rw [q.1, hs2], q.2⟩ : e = .returned (.bool true) ∧ _))).mono ?_
        rintro e w2 ⟨rfl, hE2⟩
        have X2 : Ext W0 w2 := Ext.trans (X1) hE2
        have hz2 := hE2.size
        refine hK.out _ _ (HH.out _ (X2)) ?_
        clear hK K
        (try simp only [Act.put, List.setIfInBounds_toArray, List.set_cons_zero, List.set_cons_succ])
        refine pl_tames ?_
        (try simp only [Act.put, List.setIfInBounds_toArray, List.set_cons_zero, List.set_cons_succ])
        repeat (first
          | (refine pl_run (v := ?_) rfl ?_ (fun W hW => ?_) ?_; rotate_left; rfl; ((try dsimp only at hW); go_simp; try with_reducible rfl); (try simp only [Act.put, List.setIfInBounds_toArray, List.set_cons_zero, List.set_cons_succ]))
          | (refine pl_skip rfl ?_ ?_; rfl; (try simp only [Act.put, List.setIfInBounds_toArray, List.set_cons_zero, List.set_cons_succ])))
        refine pl_end ?_
        refine pl_one rfl (by rfl) (fun K hK => ?_)
        go_simp
        go_at_call 61
        refine (Hask.out _ (E0.trans (X2))).mono ?_
        rintro e w3 ⟨rfl, hE3⟩
        have X3 : Ext W0 w3 := Ext.trans (X2) hE3
        have hz3 := hE3.size
        refine hK.out _ _ (HH.out _ (X3)) ?_
        clear hK K
        (try simp only [Act.put, List.setIfInBounds_toArray, List.set_cons_zero, List.set_cons_succ])
        refine pl_tames ?_
        (try simp only [Act.put, List.setIfInBounds_toArray, List.set_cons_zero, List.set_cons_succ])
        repeat (first
          | (refine pl_run (v := ?_) rfl ?_ (fun W hW => ?_) ?_; rotate_left; rfl; ((try dsimp only at hW); go_simp; try with_reducible rfl); (try simp only [Act.put, List.setIfInBounds_toArray, List.set_cons_zero, List.set_cons_succ]))
          | (refine pl_skip rfl ?_ ?_; rfl; (try simp only [Act.put, List.setIfInBounds_toArray, List.set_cons_zero, List.set_cons_succ])))
        refine pl_end ?_
        refine pl_done ?_
        (try simp only [Act.put])
        go_wp2
        go_meet
        case rel => exact ⟨rfl, X3⟩
      case rest =>
        obtain ⟨rfl, hX⟩ := hcut
        by_cases hz : c = 0
        · obtain ⟨hv, i, j, rfl, rfl, hi, hj, hij⟩ := ask_first (show askE B (askFirst B i j) = 0 by rw [hq, Hc.out]; exact hz)
          subst hz
          have Hf := Lib.hid (show firstX B i j = firstN (sAt B.shots i) (sAt B.shots j) by unfold firstX; rw [if_pos (by rw [hq]; exact Hc.out)]; rfl)
          obtain ⟨-, -, -, -, -, h7, -, -⟩ := valid_shot hv hi
          obtain ⟨-, -, -, -, -, h8, -, -⟩ := valid_shot hv hj
          have HB2 := Lib.hid ((HB.out.ext E0).ext hX)
          obtain ⟨b, o, rfl, hbl, hcs⟩ := HB2.out.shots (by omega)
          obtain ⟨-, -, q2, q3⟩ := hcs i hi
          obtain ⟨-, -, r2, r3⟩ := hcs j hj
          obtain ⟨y0, y1, y2, y3⟩ := (b0.ext hX).c4
          clear hcs HH
          have HS : ∀ W, Ext wc W → ((W.cell? ⟨w.heap.size, 0, none⟩ = some (.int .i64 B.comp) ∧ W.cell? ⟨w.heap.size, 1, none⟩ = some (.slice a1 B.bounds.length c1) ∧ W.cell? ⟨w.heap.size, 2, none⟩ = some (.slice a2 B.orders.length c2) ∧ W.cell? ⟨w.heap.size, 3, none⟩ = some (.slice (some ⟨b, o, none⟩) B.shots.length c3)) ∧ (W.cell? ⟨b, o + i * 4 + 2, none⟩ = some (.int .i64 (sAt B.shots i).lo) ∧ W.cell? ⟨b, o + i * 4 + 3, none⟩ = some (.int .i64 (sAt B.shots i).hi)) ∧ (W.cell? ⟨b, o + j * 4 + 2, none⟩ = some (.int .i64 (sAt B.shots j).lo) ∧ W.cell? ⟨b, o + j * 4 + 3, none⟩ = some (.int .i64 (sAt B.shots j).hi))) := fun W e => ⟨⟨e.keep y0, e.keep y1, e.keep y2, e.keep y3⟩, ⟨e.keep q2, e.keep q3⟩, e.keep r2, e.keep r3⟩
          have HS := Lib.hid HS
          clear y0 y1 y2 y3 q2 q3 r2 r3
          go_upto_region 4 with (fail)
          go_cut [9, 10] (fun p q wx => ∃ g1 g2, p = .pointer (some ⟨g1, 0, none⟩) ∧ q = .pointer (some ⟨g2, 0, none⟩) ∧ Blk wx g1 29 #[.int .i64 (sAt B.shots i).lo, .int .i64 (sAt B.shots i).hi] ∧ Blk wx g2 29 #[.int .i64 (sAt B.shots j).lo, .int .i64 (sAt B.shots j).hi] ∧ Ext wc wx)
          case first =>
            refine wp_plan (fun W => ((W.cell? ⟨w.heap.size, 0, none⟩ = some (.int .i64 B.comp) ∧ W.cell? ⟨w.heap.size, 1, none⟩ = some (.slice a1 B.bounds.length c1) ∧ W.cell? ⟨w.heap.size, 2, none⟩ = some (.slice a2 B.orders.length c2) ∧ W.cell? ⟨w.heap.size, 3, none⟩ = some (.slice (some ⟨b, o, none⟩) B.shots.length c3)) ∧ (W.cell? ⟨b, o + i * 4 + 2, none⟩ = some (.int .i64 (sAt B.shots i).lo) ∧ W.cell? ⟨b, o + i * 4 + 3, none⟩ = some (.int .i64 (sAt B.shots i).hi)) ∧ (W.cell? ⟨b, o + j * 4 + 2, none⟩ = some (.int .i64 (sAt B.shots j).lo) ∧ W.cell? ⟨b, o + j * 4 + 3, none⟩ = some (.int .i64 (sAt B.shots j).hi)))) (.tames [0, 1, 2, 3, 4, 5, 6, 7, 8, 9, 10, 11] (.two 12 13 (.one 13 (.one 14 (.one 15 (.done)))) (.one 12 (.one 14 (.one 15 (.done)))))) (by kernel_rfl) (by kernel_rfl) (by kernel_rfl) (fun c a d v w h => by cases d <;> exact h) ?_ ?_
            · exact HS.out _ (Ext.drew _)
            refine pl_tames ?_
            (try simp only [Act.put, List.setIfInBounds_toArray, List.set_cons_zero, List.set_cons_succ])
            repeat (first
              | (refine pl_run (v := ?_) rfl ?_ (fun W hW => ?_) ?_; rotate_left; rfl; ((try dsimp only at hW); go_simp; try with_reducible rfl); (try simp only [Act.put, List.setIfInBounds_toArray, List.set_cons_zero, List.set_cons_succ]))
              | (refine pl_skip rfl ?_ ?_; rfl; (try simp only [Act.put, List.setIfInBounds_toArray, List.set_cons_zero, List.set_cons_succ])))
            refine pl_end ?_
            refine pl_two ?_ ?_
            · refine pl_one rfl (by rfl) (fun K hK => ?_)
              go_simp
              have X1 : Ext wc (wc.alloc (.cells #[.int .i64 0, .int .i64 0] 29)).drew := Ext.trans (Ext.alloc _ _) (Ext.drew _)
              have B1 : Blk (wc.alloc (.cells #[.int .i64 0, .int .i64 0] 29)).drew wc.heap.size 29 #[.int .i64 0, .int .i64 0] := (Blk.new _ _ _).drew
              refine hK.out _ _ (HS.out _ X1) ?_
              clear hK K
              refine pl_one rfl (by rfl) (fun K hK => ?_)
              go_simp
              have X2 : Ext wc ((wc.alloc (.cells #[.int .i64 0, .int .i64 0] 29)).alloc (.cells #[.int .i64 0, .int .i64 0] 29)).drew := Ext.trans (Ext.trans (Ext.alloc _ _) (Ext.alloc _ _)) (Ext.drew _)
              have BA : Blk ((wc.alloc (.cells #[.int .i64 0, .int .i64 0] 29)).alloc (.cells #[.int .i64 0, .int .i64 0] 29)).drew wc.heap.size 29 #[.int .i64 0, .int .i64 0] := ((Blk.new _ _ _).alloc _).drew
              have BB : Blk ((wc.alloc (.cells #[.int .i64 0, .int .i64 0] 29)).alloc (.cells #[.int .i64 0, .int .i64 0] 29)).drew (wc.heap.size + 1) 29 #[.int .i64 0, .int .i64 0] := by have := (Blk.new (wc.alloc (.cells #[.int .i64 0, .int .i64 0] 29)) 29 #[.int .i64 0, .int .i64 0]).drew; simpa using this
              refine hK.out _ _ (HS.out _ X2) ?_
              clear hK K B1 X1
              (try simp only [Act.put, List.setIfInBounds_toArray, List.set_cons_zero, List.set_cons_succ])
              generalize ((wc.alloc (.cells #[.int .i64 0, .int .i64 0] 29)).alloc (.cells #[.int .i64 0, .int .i64 0] 29)).drew = W2 at X2 BA BB ⊢
              obtain ⟨k0, k1⟩ := Blk.c2 BA
              have f0 := Blk.frozen BA 0
              have f1 := Blk.frozen BA 1
              refine pl_one rfl (by rfl) (fun K hK => ?_)
              go_simp
              have X3 := below2 (g := wc.heap.size) X2 (by omega) (.int .i64 (sAt B.shots i).lo) (.int .i64 (sAt B.shots i).hi)
              have P3 := puts2 BA (.int .i64 (sAt B.shots i).lo) (.int .i64 (sAt B.shots i).hi)
              have Q3 := Blk.far (Blk.far BB (p := ⟨wc.heap.size, 0, none⟩) (by simp) (.int .i64 (sAt B.shots i).lo)) (p := ⟨wc.heap.size, 1, none⟩) (by simp) (.int .i64 (sAt B.shots i).hi)
              refine hK.out _ _ (HS.out _ X3) ?_
              clear hK K k0 k1 f0 f1 X2 BA BB
              (try simp only [Act.put, List.setIfInBounds_toArray, List.set_cons_zero, List.set_cons_succ])
              generalize (W2.setCell ⟨wc.heap.size, 0, none⟩ (.int .i64 (sAt B.shots i).lo)).setCell ⟨wc.heap.size, 1, none⟩ (.int .i64 (sAt B.shots i).hi) = W3 at X3 P3 Q3 ⊢
              obtain ⟨k0, k1⟩ := Q3.c2
              have f0 := Q3.frozen 0
              have f1 := Q3.frozen 1
              refine pl_one rfl (by rfl) (fun K hK => ?_)
              go_simp
              have X4 := below2 (g := wc.heap.size + 1) X3 (by omega) (.int .i64 (sAt B.shots j).lo) (.int .i64 (sAt B.shots j).hi)
              have Q4 := puts2 Q3 (.int .i64 (sAt B.shots j).lo) (.int .i64 (sAt B.shots j).hi)
              have P4 := Blk.far (Blk.far P3 (p := ⟨wc.heap.size + 1, 0, none⟩) (by simp) (.int .i64 (sAt B.shots j).lo)) (p := ⟨wc.heap.size + 1, 1, none⟩) (by simp) (.int .i64 (sAt B.shots j).hi)
              refine hK.out _ _ (HS.out _ X4) (pl_done ?_)
              clear hK K
              (try simp only [Act.put])
              go_wp2
              go_meet
              case rel => exact ⟨_, _, rfl, rfl, P4, Q4, X4⟩
            · refine pl_one rfl (by rfl) (fun K hK => ?_)
              go_simp
              have X1 : Ext wc (wc.alloc (.cells #[.int .i64 0, .int .i64 0] 29)).drew := Ext.trans (Ext.alloc _ _) (Ext.drew _)
              have B1 : Blk (wc.alloc (.cells #[.int .i64 0, .int .i64 0] 29)).drew wc.heap.size 29 #[.int .i64 0, .int .i64 0] := (Blk.new _ _ _).drew
              refine hK.out _ _ (HS.out _ X1) ?_
              clear hK K
              refine pl_one rfl (by rfl) (fun K hK => ?_)
              go_simp
              have X2 : Ext wc ((wc.alloc (.cells #[.int .i64 0, .int .i64 0] 29)).alloc (.cells #[.int .i64 0, .int .i64 0] 29)).drew := Ext.trans (Ext.trans (Ext.alloc _ _) (Ext.alloc _ _)) (Ext.drew _)
              have BA : Blk ((wc.alloc (.cells #[.int .i64 0, .int .i64 0] 29)).alloc (.cells #[.int .i64 0, .int .i64 0] 29)).drew wc.heap.size 29 #[.int .i64 0, .int .i64 0] := ((Blk.new _ _ _).alloc _).drew
              have BB : Blk ((wc.alloc (.cells #[.int .i64 0, .int .i64 0] 29)).alloc (.cells #[.int .i64 0, .int .i64 0] 29)).drew (wc.heap.size + 1) 29 #[.int .i64 0, .int .i64 0] := by have := (Blk.new (wc.alloc (.cells #[.int .i64 0, .int .i64 0] 29)) 29 #[.int .i64 0, .int .i64 0]).drew; simpa using this
              refine hK.out _ _ (HS.out _ X2) ?_
              clear hK K B1 X1
              (try simp only [Act.put, List.setIfInBounds_toArray, List.set_cons_zero, List.set_cons_succ])
              generalize ((wc.alloc (.cells #[.int .i64 0, .int .i64 0] 29)).alloc (.cells #[.int .i64 0, .int .i64 0] 29)).drew = W2 at X2 BA BB ⊢
              obtain ⟨k0, k1⟩ := Blk.c2 BB
              have f0 := Blk.frozen BB 0
              have f1 := Blk.frozen BB 1
              refine pl_one rfl (by rfl) (fun K hK => ?_)
              go_simp
              have X3 := below2 (g := wc.heap.size + 1) X2 (by omega) (.int .i64 (sAt B.shots i).lo) (.int .i64 (sAt B.shots i).hi)
              have P3 := puts2 BB (.int .i64 (sAt B.shots i).lo) (.int .i64 (sAt B.shots i).hi)
              have Q3 := Blk.far (Blk.far BA (p := ⟨wc.heap.size + 1, 0, none⟩) (by simp) (.int .i64 (sAt B.shots i).lo)) (p := ⟨wc.heap.size + 1, 1, none⟩) (by simp) (.int .i64 (sAt B.shots i).hi)
              refine hK.out _ _ (HS.out _ X3) ?_
              clear hK K k0 k1 f0 f1 X2 BA BB
              (try simp only [Act.put, List.setIfInBounds_toArray, List.set_cons_zero, List.set_cons_succ])
              generalize (W2.setCell ⟨wc.heap.size + 1, 0, none⟩ (.int .i64 (sAt B.shots i).lo)).setCell ⟨wc.heap.size + 1, 1, none⟩ (.int .i64 (sAt B.shots i).hi) = W3 at X3 P3 Q3 ⊢
              obtain ⟨k0, k1⟩ := Q3.c2
              have f0 := Q3.frozen 0
              have f1 := Q3.frozen 1
              refine pl_one rfl (by rfl) (fun K hK => ?_)
              go_simp
              have X4 := below2 (g := wc.heap.size) X3 (by omega) (.int .i64 (sAt B.shots j).lo) (.int .i64 (sAt B.shots j).hi)
              have Q4 := puts2 Q3 (.int .i64 (sAt B.shots j).lo) (.int .i64 (sAt B.shots j).hi)
              have P4 := Blk.far (Blk.far P3 (p := ⟨wc.heap.size, 0, none⟩) (by simp) (.int .i64 (sAt B.shots j).lo)) (p := ⟨wc.heap.size, 1, none⟩) (by simp) (.int .i64 (sAt B.shots j).hi)
              refine hK.out _ _ (HS.out _ X4) (pl_done ?_)
              clear hK K
              (try simp only [Act.put])
              go_wp2
              go_meet
              case rel => exact ⟨_, _, rfl, rfl, P4, Q4, X4⟩
          case rest =>
            obtain ⟨g1, g2, rfl, rfl, hb1, hb2, hX2⟩ := hcut
            obtain ⟨k0, k1⟩ := hb1.c2
            obtain ⟨m0, m1⟩ := hb2.c2
            have hfo := Hf.out
            obtain ⟨x, hx⟩ : ∃ x, sAt B.shots i = x := ⟨_, rfl⟩
            obtain ⟨y, hy⟩ : ∃ y, sAt B.shots j = y := ⟨_, rfl⟩
            rw [hx] at k0 k1 h7 hfo
            rw [hy] at m0 m1 h8 hfo
            have Hg := Lib.hid hfo
            clear hx hy hfo Hf
            by_cases hA : x.hi < y.lo
            · go_wp2
              refine bodyPost_ret (v := .tuple #[.int .i64 2, .int .i64 0]) ?_ rfl ⟨by rw [Hg.out]; unfold firstN wh; rw [decide_eq_true hA, decide_eq_true (show x.lo < y.hi by omega)]; rfl, E0.trans (hX.trans hX2)⟩
              simp [results, Tryd.results31, go_sem]
            · by_cases hB : x.lo < y.hi
              · go_wp2
                refine bodyPost_ret (v := .tuple #[.int .i64 1, .int .i64 0]) ?_ rfl ⟨by rw [Hg.out]; unfold firstN wh; rw [decide_eq_false (show ¬ (x.hi < y.lo) by omega)]; first | (rw [decide_eq_true (show x.lo < y.hi by omega)]; rfl) | (rw [decide_eq_false (show ¬ (x.lo < y.hi) by omega)]; rfl), E0.trans (hX.trans hX2)⟩
                simp [results, Tryd.results31, go_sem]
              · go_wp2
                refine bodyPost_ret (v := .tuple #[.int .i64 0, .int .i64 0]) ?_ rfl ⟨by rw [Hg.out]; unfold firstN wh; rw [decide_eq_false (show ¬ (x.hi < y.lo) by omega)]; first | (rw [decide_eq_true (show x.lo < y.hi by omega)]; rfl) | (rw [decide_eq_false (show ¬ (x.lo < y.hi) by omega)]; rfl), E0.trans (hX.trans hX2)⟩
                simp [results, Tryd.results31, go_sem]
        · have Hf := Lib.hid (show firstX B i j = 0 by unfold firstX; rw [if_neg (by rw [hq, Hc.out]; exact hz)])
          have hcn : (c != 0) = true := by simp [hz]
          go_wp2
          refine bodyPost_ret (v := .tuple #[.int .i64 0, .int .i64 c]) ?_ rfl ⟨by rw [Hf.out], E0.trans hX⟩
          simp [results, Tryd.results31, go_sem]
end Go.Proofs.YtnhdcdhpfgdphaaDoor

/-
  The chapter's examples, as plain data: what the nine functions answer.
-/
set_option linter.unusedSimpArgs false
set_option linter.unusedVariables false
namespace Go.Proofs.YtnhdcdhpfgdphaaDoor
open Go Go.RowKit

theorem own_valid : validB (bookB 541 543) = true := by kernel_rfl
theorem late_valid : validB (bookB 542 542) = true := by kernel_rfl
theorem torn_valid : validB tornB = true := by kernel_rfl
theorem ex_turn : tLo (bookB 541 543) 362 = 0 ∧ tHi (bookB 541 543) 362 = 1 := ⟨by kernel_rfl, by kernel_rfl⟩
theorem ex_owners : ownersL (bookB 541 543) 1 541 = [0, 2] := by kernel_rfl
theorem ex_fair0 : fairN (bookB 541 543) (sAt (bookB 541 543).shots 0) = 1 := by kernel_rfl
theorem ex_fair1 : fairN (bookB 541 543) (sAt (bookB 541 543).shots 1) = 2 := by kernel_rfl
theorem ex_hangs : hangsI (bookB 541 543) (sAt (bookB 541 543).shots 3) 2 = [1] := by kernel_rfl
theorem ex_first : firstN (sAt (bookB 541 543).shots 2) (sAt (bookB 541 543).shots 0) = 2 := by kernel_rfl
theorem ex_learn : learnV (bookB 542 542) = 1 ∧ learnE (bookB 542 542) = 0 := ⟨by kernel_rfl, by kernel_rfl⟩
theorem ex_wrong : wrongL tornB = [4] := by kernel_rfl

/-- Runs, from a minute on. -/
def runsFrom (B : Bk) (s : Nat) (c : Int) (k n : Nat) (R : List (Int × Int) × Bool) : List (Int × Int) × Bool := (List.range n).foldl (fun R i => runStep B s c R (k + i)) R
theorem runsK_add (B : Bk) (s : Nat) (c : Int) (k n : Nat) : runsK B s c (k + n) = runsFrom B s c k n (runsK B s c k) := by
  induction n with
  | zero => simp [runsFrom]
  | succ n ih =>
    rw [← Nat.add_assoc, runsK_succ, ih]
    simp [runsFrom, List.range_succ]
theorem ex_sure : runsL (bookB 541 543) 0 1 = [(364, 539)] := by kernel_rfl
end Go.Proofs.YtnhdcdhpfgdphaaDoor
