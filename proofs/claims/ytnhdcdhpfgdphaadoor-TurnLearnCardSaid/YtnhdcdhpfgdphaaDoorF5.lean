/-
  TurnLearn: the walk.
-/
import Derived.Test.YtnhdcdhpfgdphaaDoorLU
import Derived.Test.YtnhdcdhpfgdphaaDoorL5
import Derived.Test.YtnhdcdhpfgdphaaDoorL7
set_option linter.unusedSimpArgs false
set_option linter.unusedVariables false
namespace Go.Proofs.YtnhdcdhpfgdphaaDoor
open Go Go.RowKit

set_option maxRecDepth 100000 in
set_option maxHeartbeats 1000000 in
theorem turnLearn_no (B : Bk) (a1 a2 a3 : Option Addr) (c1 c2 c3 : Nat) (n0 : Int) (w : World) (h : BookA w B a1 a2 a3) (hG : Glob w) (hv : validB B = false) :
    Calls Tryd.prog 13 #[.agg #[.int .i64 B.comp, .slice a1 B.bounds.length c1, .slice a2 B.orders.length c2, .slice a3 B.shots.length c3], .int .i64 n0] w
      fun e w' => e = .returned (.bool true) ∧ Ext w w' := by
  have HB := Lib.hid h
  have HG := Lib.hid hG
  clear h hG
  go_enter Tryd.func13, Tryd.ntmps13
  go_upto_region 1 with (fail)
  obtain ⟨W0, hW0⟩ : ∃ W0, W0 = w.alloc (.cells #[.int .i64 B.comp, .slice a1 B.bounds.length c1, .slice a2 B.orders.length c2, .slice a3 B.shots.length c3] 26) := ⟨_, rfl⟩
  have b0 : Blk W0 w.heap.size 26 #[.int .i64 B.comp, .slice a1 B.bounds.length c1, .slice a2 B.orders.length c2, .slice a3 B.shots.length c3] := by rw [hW0]; exact Blk.new _ _ _
  have E0 : Ext w W0 := by rw [hW0]; exact Ext.alloc _ _
  rw [← hW0]
  clear hW0
  obtain ⟨gB, hgB⟩ : ∃ g, g = w.heap.size := ⟨_, rfl⟩
  rw [← hgB] at b0 ⊢
  clear hgB
  obtain ⟨x0, x1, x2, x3⟩ := b0.c4
  go_upto_region 2 with (go_at_call 34; refine (learn_no B a1 a2 a3 c1 c2 c3 _ (HB.out.ext E0) (HG.out.ext E0) hv).mono ?_; rintro e w1 ⟨rfl, hE1⟩)
  clear x0 x1 x2 x3
  obtain ⟨x0, x1, x2, x3⟩ := (b0.ext hE1).c4
  go_wp2_with (first | (go_at_call 36; refine (sound_no B a1 a2 a3 c1 c2 c3 _ ((HB.out.ext E0).ext hE1) hv).mono ?_; rintro e w2 ⟨rfl, hE2⟩) | (go_at_call 25; refine (shot_any _ ((HG.out.ext E0).ext (hE1.trans hE2))).mono ?_; rintro e w3 ⟨rfl, hE3⟩))
  go_ret
  exact ⟨rfl, E0.trans ((hE1.trans hE2).trans hE3)⟩
set_option maxRecDepth 100000 in
set_option maxHeartbeats 1000000 in
theorem turnLearn_bare (B : Bk) (a1 a2 a3 : Option Addr) (c1 c2 c3 : Nat) (n0 : Int) (w : World) (h : BookA w B a1 a2 a3) (hG : Glob w) (hv : validB B = true) (hb : B.bounds.length = 0) :
    Calls Tryd.prog 13 #[.agg #[.int .i64 B.comp, .slice a1 B.bounds.length c1, .slice a2 B.orders.length c2, .slice a3 B.shots.length c3], .int .i64 n0] w
      fun e w' => e = .returned (.bool true) ∧ Ext w w' := by
  have hl : learnV B = 0 ∧ learnE B = 4 := by simp [learnV, learnE, hb]
  have hle : B.bounds.length ≤ 0 := by omega
  clear hb
  have HB := Lib.hid h
  have HG := Lib.hid hG
  clear h hG
  go_enter Tryd.func13, Tryd.ntmps13
  go_upto_region 1 with (fail)
  obtain ⟨W0, hW0⟩ : ∃ W0, W0 = w.alloc (.cells #[.int .i64 B.comp, .slice a1 B.bounds.length c1, .slice a2 B.orders.length c2, .slice a3 B.shots.length c3] 26) := ⟨_, rfl⟩
  have b0 : Blk W0 w.heap.size 26 #[.int .i64 B.comp, .slice a1 B.bounds.length c1, .slice a2 B.orders.length c2, .slice a3 B.shots.length c3] := by rw [hW0]; exact Blk.new _ _ _
  have E0 : Ext w W0 := by rw [hW0]; exact Ext.alloc _ _
  rw [← hW0]
  clear hW0
  obtain ⟨gB, hgB⟩ : ∃ g, g = w.heap.size := ⟨_, rfl⟩
  rw [← hgB] at b0 ⊢
  clear hgB
  obtain ⟨x0, x1, x2, x3⟩ := b0.c4
  go_upto_region 2 with (go_at_call 34; refine (learn_yes B a1 a2 a3 c1 c2 c3 _ (HB.out.ext E0) (HG.out.ext E0) hv).mono ?_; rintro e w1 ⟨rfl, hE1⟩)
  clear x0 x1 x2 x3 hl
  obtain ⟨x0, x1, x2, x3⟩ := (b0.ext hE1).c4
  go_wp2_with (first | (go_at_call 36; refine (sound_yes B a1 a2 a3 c1 c2 c3 _ ((HB.out.ext E0).ext hE1) hv).mono ?_; rintro e w2 ⟨rfl, hE2⟩; obtain ⟨y0, y1, y2, y3⟩ := (b0.ext (hE1.trans hE2)).c4) | (go_at_call 25; refine (shot_any _ ((HG.out.ext E0).ext (hE1.trans hE2))).mono ?_; rintro e w3 ⟨rfl, hE3⟩))
  go_ret
  exact ⟨rfl, E0.trans ((hE1.trans hE2).trans hE3)⟩
set_option maxRecDepth 100000 in
set_option maxHeartbeats 2000000 in
theorem turnLearn_yes (B : Bk) (a1 a2 a3 : Option Addr) (c1 c2 c3 : Nat) (n0 : Int) (w : World) (h : BookA w B a1 a2 a3) (hG : Glob w) (hv : validB B = true) (hb : 0 < B.bounds.length) (k0 : -9223372036854775808 ≤ n0 ∧ n0 ≤ 9223372036854775807) :
    Calls Tryd.prog 13 #[.agg #[.int .i64 B.comp, .slice a1 B.bounds.length c1, .slice a2 B.orders.length c2, .slice a3 B.shots.length c3], .int .i64 n0] w
      fun e w' => e = .returned (.bool true) ∧ Ext w w' := by
  have hnb := (valid_sizes hv).2.2.2.2.1
  have hns := (valid_sizes hv).2.2.2.2.2
  obtain ⟨k, hk1, hkl, hk3, hk4⟩ := learn_best B B.bounds.length hb
  have hl : learnV B = k ∧ learnE B = 0 := by
    have : ¬ B.bounds.length = 0 := by omega
    simp [learnV, learnE, this, hk1]
  have hj := wheelZ_in n0 B.bounds.length (by omega)
  obtain ⟨j, hje⟩ : ∃ j : Nat, wheelZ n0 B.bounds.length = j := ⟨(wheelZ n0 B.bounds.length).toNat, by omega⟩
  rw [hje] at hj
  have hjl : j < B.bounds.length := by omega
  have hbest := hk4 j hjl
  have hwk : worstB B k ≤ B.shots.length := (worstN_in B k _).2
  have hin : inB (k : Int) 0 ((B.bounds.length : Int) - 1) = true := by simp [inB]; omega
  obtain ⟨x, hx⟩ : ∃ x, x = worstB B k := ⟨_, rfl⟩
  obtain ⟨y, hy⟩ : ∃ y, y = worstB B j := ⟨_, rfl⟩
  rw [← hx, ← hy] at hbest
  rw [← hx] at hwk
  have Hx := Lib.hid hx
  have Hy := Lib.hid hy
  have Hje := Lib.hid hje
  clear hk1 hk3 hk4 hx hy hje
  have HB := Lib.hid h
  have HG := Lib.hid hG
  clear h hG
  go_enter Tryd.func13, Tryd.ntmps13
  go_upto_region 1 with (fail)
  obtain ⟨W0, hW0⟩ : ∃ W0, W0 = w.alloc (.cells #[.int .i64 B.comp, .slice a1 B.bounds.length c1, .slice a2 B.orders.length c2, .slice a3 B.shots.length c3] 26) := ⟨_, rfl⟩
  have b0 : Blk W0 w.heap.size 26 #[.int .i64 B.comp, .slice a1 B.bounds.length c1, .slice a2 B.orders.length c2, .slice a3 B.shots.length c3] := by rw [hW0]; exact Blk.new _ _ _
  have E0 : Ext w W0 := by rw [hW0]; exact Ext.alloc _ _
  rw [← hW0]
  clear hW0
  obtain ⟨gB, hgB⟩ : ∃ g, g = w.heap.size := ⟨_, rfl⟩
  rw [← hgB] at b0 ⊢
  clear hgB
  obtain ⟨x0, x1, x2, x3⟩ := b0.c4
  go_upto_region 2 with (go_at_call 34; refine (learn_yes B a1 a2 a3 c1 c2 c3 _ (HB.out.ext E0) (HG.out.ext E0) hv).mono ?_; rintro e w1 ⟨rfl, hE1⟩)
  clear x0 x1 x2 x3 hl
  obtain ⟨x0, x1, x2, x3⟩ := (b0.ext hE1).c4
  go_upto_region 7 with (first | (go_at_call 36; refine (sound_yes B a1 a2 a3 c1 c2 c3 _ ((HB.out.ext E0).ext hE1) hv).mono ?_; rintro e w2 ⟨rfl, hE2⟩; obtain ⟨y0, y1, y2, y3⟩ := (b0.ext (hE1.trans hE2)).c4) | (go_at_call 44; refine (between_any _ _ _ _).mono ?_; rintro e w3 ⟨rfl, rfl⟩) | (go_at_call 37; refine (wheel_any _ _ _ k0 (by omega)).mono ?_; rintro e w3 ⟨rfl, rfl⟩))
  rw [Hje.out]
  have X2 := hE1.trans hE2
  have HS := Lib.hid (fun W (hW : Ext w2 W) => ((b0.ext (X2.trans hW)).c4 : (W.cell? ⟨gB, 0, none⟩ = some (.int .i64 B.comp) ∧ W.cell? ⟨gB, 1, none⟩ = some (.slice a1 B.bounds.length c1) ∧ W.cell? ⟨gB, 2, none⟩ = some (.slice a2 B.orders.length c2) ∧ W.cell? ⟨gB, 3, none⟩ = some (.slice a3 B.shots.length c3))))
  clear x0 x1 x2 x3 y0 y1 y2 y3
  refine wp_plan (fun W => (W.cell? ⟨gB, 0, none⟩ = some (.int .i64 B.comp) ∧ W.cell? ⟨gB, 1, none⟩ = some (.slice a1 B.bounds.length c1) ∧ W.cell? ⟨gB, 2, none⟩ = some (.slice a2 B.orders.length c2) ∧ W.cell? ⟨gB, 3, none⟩ = some (.slice a3 B.shots.length c3))) (.tames [0, 1, 3, 4] (.one 2 (.one 5 (.tames [6, 7] (.done))))) (by kernel_rfl) (by kernel_rfl) (by kernel_rfl) (fun c a d v w h => by cases d <;> exact h) ?_ ?_
  · exact HS.out _ (Ext.drew _)
  refine pl_tames ?_
  (try simp only [Act.put, List.setIfInBounds_toArray, List.set_cons_zero, List.set_cons_succ])
  repeat (first
    | (refine pl_run (v := ?_) rfl ?_ (fun W hW => ?_) ?_; rotate_left; rfl; ((try dsimp only at hW); go_simp; try with_reducible rfl); (try simp only [Act.put, List.setIfInBounds_toArray, List.set_cons_zero, List.set_cons_succ]))
    | (refine pl_skip rfl ?_ ?_; rfl; (try simp only [Act.put, List.setIfInBounds_toArray, List.set_cons_zero, List.set_cons_succ])))
  refine pl_end ?_
  refine pl_one rfl (by rfl) (fun K hK => ?_)
  go_simp
  (go_at_call 53; refine (undecided_any B a1 a2 a3 c1 c2 c3 k _ (((HB.out.ext E0).ext X2).ext (Ext.drew _)) (((HG.out.ext E0).ext X2).ext (Ext.drew _)) hv hkl).mono ?_; rintro e w3 ⟨rfl, hE3⟩)
  refine hK.out _ _ (HS.out _ ((Ext.drew _).trans hE3)) ?_
  clear hK K
  (try refine pl_tames ?_)
  (try simp only [Act.put, List.setIfInBounds_toArray, List.set_cons_zero, List.set_cons_succ])
  try ((repeat (first   | (refine pl_run (v := ?_) rfl ?_ (fun W hW => ?_) ?_; rotate_left; rfl; ((try dsimp only at hW); go_simp; try with_reducible rfl); (try simp only [Act.put, List.setIfInBounds_toArray, List.set_cons_zero, List.set_cons_succ]))   | (refine pl_skip rfl ?_ ?_; rfl; (try simp only [Act.put, List.setIfInBounds_toArray, List.set_cons_zero, List.set_cons_succ])))); refine pl_end ?_)
  refine pl_one rfl (by rfl) (fun K hK => ?_)
  go_simp
  (go_at_call 53; refine (undecided_any B a1 a2 a3 c1 c2 c3 j _ (((HB.out.ext E0).ext X2).ext ((Ext.drew _).trans hE3)) (((HG.out.ext E0).ext X2).ext ((Ext.drew _).trans hE3)) hv hjl).mono ?_; rintro e w4 ⟨rfl, hE4⟩)
  refine hK.out _ _ (HS.out _ (((Ext.drew _).trans hE3).trans hE4)) ?_
  clear hK K
  (try refine pl_tames ?_)
  (try simp only [Act.put, List.setIfInBounds_toArray, List.set_cons_zero, List.set_cons_succ])
  try ((repeat (first   | (refine pl_run (v := ?_) rfl ?_ (fun W hW => ?_) ?_; rotate_left; rfl; ((try dsimp only at hW); go_simp; try with_reducible rfl); (try simp only [Act.put, List.setIfInBounds_toArray, List.set_cons_zero, List.set_cons_succ]))   | (refine pl_skip rfl ?_ ?_; rfl; (try simp only [Act.put, List.setIfInBounds_toArray, List.set_cons_zero, List.set_cons_succ])))); refine pl_end ?_)
  refine pl_done ?_
  (try simp only [Act.put])
  rw [← Hx.out, ← Hy.out]
  have X4 := X2.trans (((Ext.drew w2).trans hE3).trans hE4)
  obtain ⟨x0, x1, x2, x3⟩ := HS.out _ (((Ext.drew w2).trans hE3).trans hE4)
  clear HS
  rcases hbest with hb1 | ⟨hb1, hb2⟩
  · go_wp2_with (go_at_call 25; refine (shot_any _ ((HG.out.ext E0).ext X4)).mono ?_; rintro e w5 ⟨rfl, hE5⟩)
    go_ret
    exact ⟨rfl, E0.trans (X4.trans hE5)⟩
  · have hb3 : x ≤ y := by omega
    have hb4 : y ≤ x := by omega
    have hb5 : (k : Int) ≤ (j : Int) := by omega
    clear hb1
    go_wp2_with (go_at_call 25; refine (shot_any _ ((HG.out.ext E0).ext X4)).mono ?_; rintro e w5 ⟨rfl, hE5⟩)
    go_ret
    exact ⟨rfl, E0.trans (X4.trans hE5)⟩
theorem turnLearn_walk (B : Bk) (a1 a2 a3 : Option Addr) (c1 c2 c3 : Nat) (n0 : Int) (w : World) (h : BookA w B a1 a2 a3) (hG : Glob w) (k0 : -9223372036854775808 ≤ n0 ∧ n0 ≤ 9223372036854775807) :
    Calls Tryd.prog 13 #[.agg #[.int .i64 B.comp, .slice a1 B.bounds.length c1, .slice a2 B.orders.length c2, .slice a3 B.shots.length c3], .int .i64 n0] w
      fun e w' => e = .returned (.bool true) ∧ Ext w w' := by
  cases hv : validB B with
  | false => exact turnLearn_no B a1 a2 a3 c1 c2 c3 n0 w h hG hv
  | true =>
    rcases Nat.eq_zero_or_pos B.bounds.length with hb | hb
    · exact turnLearn_bare B a1 a2 a3 c1 c2 c3 n0 w h hG hv hb
    · exact turnLearn_yes B a1 a2 a3 c1 c2 c3 n0 w h hG hv hb k0
end Go.Proofs.YtnhdcdhpfgdphaaDoor
