/-
  TurnFirst: the walk.
-/
import Derived.Test.YtnhdcdhpfgdphaaDoorL5
import Derived.Test.YtnhdcdhpfgdphaaDoorL7
import Derived.Test.YtnhdcdhpfgdphaaDoorA4
set_option linter.unusedSimpArgs false
set_option linter.unusedVariables false
namespace Go.Proofs.YtnhdcdhpfgdphaaDoor
open Go Go.RowKit

theorem wheel_other {n i : Nat} {t : Int} (hn : 2 ≤ n) (hn5 : n ≤ 5) (hi : i < n) (h0 : 0 ≤ t) (h1 : t < (n : Int) - 1) :
    ∃ j : Nat, wheelZ ((i : Int) + 1 + t) n = j ∧ j < n ∧ i ≠ j := by
  refine ⟨(wheelZ ((i : Int) + 1 + t) n).toNat, ?_, ?_, ?_⟩
  all_goals
    have h := wheelZ_in ((i : Int) + 1 + t) n (by omega)
    unfold wheelZ at *
    rw [if_neg (by omega)] at *
    rcases (by omega : n = 2 ∨ n = 3 ∨ n = 4 ∨ n = 5) with rfl | rfl | rfl | rfl <;> omega

def intOk (n : Int) : Prop := -9223372036854775808 ≤ n ∧ n ≤ 9223372036854775807

set_option maxRecDepth 100000 in
set_option maxHeartbeats 4000000 in
theorem turnFirst_no (B : Bk) (a1 a2 a3 : Option Addr) (c1 c2 c3 : Nat) (n0 n1 n2 n3 : Int) (w : World) (h : BookA w B a1 a2 a3) (hG : Glob w) (hv : validB B = false) :
    Calls Tryd.prog 12 #[.agg #[.int .i64 B.comp, .slice a1 B.bounds.length c1, .slice a2 B.orders.length c2, .slice a3 B.shots.length c3], .agg #[.int .i64 n0, .int .i64 n1, .int .i64 n2, .int .i64 n3]] w
      fun e w' => e = .returned (.bool true) ∧ Ext w w' := by
  have HB := Lib.hid h
  have HG := Lib.hid hG
  clear h hG
  go_enter Tryd.func12, Tryd.ntmps12
  go_upto_region 1 with (fail)
  obtain ⟨W0, hW0⟩ : ∃ W0, W0 = (w.alloc (.cells #[.int .i64 B.comp, .slice a1 B.bounds.length c1, .slice a2 B.orders.length c2, .slice a3 B.shots.length c3] 26)).alloc (.cells #[.int .i64 n0, .int .i64 n1, .int .i64 n2, .int .i64 n3] 70) := ⟨_, rfl⟩
  have b0 : Blk W0 w.heap.size 26 #[.int .i64 B.comp, .slice a1 B.bounds.length c1, .slice a2 B.orders.length c2, .slice a3 B.shots.length c3] := by rw [hW0]; exact (Blk.new _ _ _).alloc _
  have m0 : Blk W0 (w.heap.size + 1) 70 #[.int .i64 n0, .int .i64 n1, .int .i64 n2, .int .i64 n3] := by rw [hW0]; have := Blk.new (w.alloc (.cells #[.int .i64 B.comp, .slice a1 B.bounds.length c1, .slice a2 B.orders.length c2, .slice a3 B.shots.length c3] 26)) 70 #[.int .i64 n0, .int .i64 n1, .int .i64 n2, .int .i64 n3]; simpa using this
  have E0 : Ext w W0 := by rw [hW0]; exact (Ext.alloc _ _).trans (Ext.alloc _ _)
  rw [← hW0]
  clear hW0
  obtain ⟨x0, x1, x2, x3⟩ := b0.c4
  go_wp2_with (first | (go_at_call 36; refine (sound_no B a1 a2 a3 c1 c2 c3 _ (HB.out.ext E0) hv).mono ?_; rintro e w1 ⟨rfl, hE1⟩) | (go_at_call 25; refine (shot_any _ (HG.out.ext (E0.trans hE1))).mono ?_; rintro e w2 ⟨rfl, hE2⟩))
  go_ret
  exact ⟨rfl, E0.trans (hE1.trans hE2)⟩
set_option maxRecDepth 100000 in
set_option maxHeartbeats 4000000 in
theorem turnFirst_few (B : Bk) (a1 a2 a3 : Option Addr) (c1 c2 c3 : Nat) (n0 n1 n2 n3 : Int) (w : World) (h : BookA w B a1 a2 a3) (hG : Glob w) (hv : validB B = true) (hn : B.shots.length < 2) :
    Calls Tryd.prog 12 #[.agg #[.int .i64 B.comp, .slice a1 B.bounds.length c1, .slice a2 B.orders.length c2, .slice a3 B.shots.length c3], .agg #[.int .i64 n0, .int .i64 n1, .int .i64 n2, .int .i64 n3]] w
      fun e w' => e = .returned (.bool true) ∧ Ext w w' := by
  have HB := Lib.hid h
  have HG := Lib.hid hG
  clear h hG
  go_enter Tryd.func12, Tryd.ntmps12
  go_upto_region 1 with (fail)
  obtain ⟨W0, hW0⟩ : ∃ W0, W0 = (w.alloc (.cells #[.int .i64 B.comp, .slice a1 B.bounds.length c1, .slice a2 B.orders.length c2, .slice a3 B.shots.length c3] 26)).alloc (.cells #[.int .i64 n0, .int .i64 n1, .int .i64 n2, .int .i64 n3] 70) := ⟨_, rfl⟩
  have b0 : Blk W0 w.heap.size 26 #[.int .i64 B.comp, .slice a1 B.bounds.length c1, .slice a2 B.orders.length c2, .slice a3 B.shots.length c3] := by rw [hW0]; exact (Blk.new _ _ _).alloc _
  have m0 : Blk W0 (w.heap.size + 1) 70 #[.int .i64 n0, .int .i64 n1, .int .i64 n2, .int .i64 n3] := by rw [hW0]; have := Blk.new (w.alloc (.cells #[.int .i64 B.comp, .slice a1 B.bounds.length c1, .slice a2 B.orders.length c2, .slice a3 B.shots.length c3] 26)) 70 #[.int .i64 n0, .int .i64 n1, .int .i64 n2, .int .i64 n3]; simpa using this
  have E0 : Ext w W0 := by rw [hW0]; exact (Ext.alloc _ _).trans (Ext.alloc _ _)
  rw [← hW0]
  clear hW0
  obtain ⟨x0, x1, x2, x3⟩ := b0.c4
  go_wp2_with (first | (go_at_call 36; refine (sound_yes B a1 a2 a3 c1 c2 c3 _ (HB.out.ext E0) hv).mono ?_; rintro e w1 ⟨rfl, hE1⟩; obtain ⟨z0, z1, z2, z3⟩ := (b0.ext hE1).c4) | (go_at_call 25; refine (shot_any _ (HG.out.ext (E0.trans hE1))).mono ?_; rintro e w2 ⟨rfl, hE2⟩))
  go_ret
  exact ⟨rfl, E0.trans (hE1.trans hE2)⟩
set_option maxRecDepth 100000 in
set_option maxHeartbeats 8000000 in
theorem turnFirst_yes (B : Bk) (a1 a2 a3 : Option Addr) (c1 c2 c3 : Nat) (n0 n1 n2 n3 : Int) (w : World) (h : BookA w B a1 a2 a3) (hG : Glob w) (hv : validB B = true) (hn : 2 ≤ B.shots.length) (k0 : intOk n0) (k1 : intOk n1) (k2 : intOk n2) (k3 : intOk n3) :
    Calls Tryd.prog 12 #[.agg #[.int .i64 B.comp, .slice a1 B.bounds.length c1, .slice a2 B.orders.length c2, .slice a3 B.shots.length c3], .agg #[.int .i64 n0, .int .i64 n1, .int .i64 n2, .int .i64 n3]] w
      fun e w' => e = .returned (.bool true) ∧ Ext w w' := by
  have hn5 := (valid_sizes hv).2.2.2.2.2
  have hi := wheelZ_in n0 B.shots.length (by omega)
  obtain ⟨i, hie⟩ : ∃ i : Nat, wheelZ n0 B.shots.length = i := ⟨(wheelZ n0 B.shots.length).toNat, by omega⟩
  have ht := wheelZ_in n1 ((B.shots.length : Int) - 1) (by omega)
  obtain ⟨t, hte⟩ : ∃ t, wheelZ n1 ((B.shots.length : Int) - 1) = t := ⟨_, rfl⟩
  rw [hie] at hi
  rw [hte] at ht
  have hil : i < B.shots.length := by omega
  obtain ⟨j, hje, hjl, hij⟩ := wheel_other hn hn5 hil ht.1 ht.2
  have hw0 := fun w => wheel_any n0 B.shots.length w k0 (by omega)
  have hw1 := fun w => wheel_any n1 ((B.shots.length : Int) - 1) w k1 (by omega)
  have hw2 := fun w => wheel_any ((i : Int) + 1 + t) B.shots.length w (by omega) (by omega)
  rw [hie] at hw0
  rw [hte] at hw1
  rw [hje] at hw2
  have Hw0 := Lib.hid hw0
  have hte' := hte
  have hje' := hje
  unfold intOk at k0 k1 k2 k3
  have Hw1 := Lib.hid hw1
  have Hw2 := Lib.hid hw2
  clear hw0 hw1 hw2 hie hte hje hi
  have HB := Lib.hid h
  have HG := Lib.hid hG
  clear h hG
  go_enter Tryd.func12, Tryd.ntmps12
  go_upto_region 1 with (fail)
  obtain ⟨W0, hW0⟩ : ∃ W0, W0 = (w.alloc (.cells #[.int .i64 B.comp, .slice a1 B.bounds.length c1, .slice a2 B.orders.length c2, .slice a3 B.shots.length c3] 26)).alloc (.cells #[.int .i64 n0, .int .i64 n1, .int .i64 n2, .int .i64 n3] 70) := ⟨_, rfl⟩
  have b0 : Blk W0 w.heap.size 26 #[.int .i64 B.comp, .slice a1 B.bounds.length c1, .slice a2 B.orders.length c2, .slice a3 B.shots.length c3] := by rw [hW0]; exact (Blk.new _ _ _).alloc _
  have m0 : Blk W0 (w.heap.size + 1) 70 #[.int .i64 n0, .int .i64 n1, .int .i64 n2, .int .i64 n3] := by rw [hW0]; have := Blk.new (w.alloc (.cells #[.int .i64 B.comp, .slice a1 B.bounds.length c1, .slice a2 B.orders.length c2, .slice a3 B.shots.length c3] 26)) 70 #[.int .i64 n0, .int .i64 n1, .int .i64 n2, .int .i64 n3]; simpa using this
  have E0 : Ext w W0 := by rw [hW0]; exact (Ext.alloc _ _).trans (Ext.alloc _ _)
  rw [← hW0]
  clear hW0
  obtain ⟨x0, x1, x2, x3⟩ := b0.c4
  go_upto_region 4 with (first | (go_at_call 36; refine (sound_yes B a1 a2 a3 c1 c2 c3 _ (HB.out.ext E0) hv).mono ?_; rintro e w1 ⟨rfl, hE1⟩; obtain ⟨z0, z1, z2, z3⟩ := (b0.ext hE1).c4; obtain ⟨y0, y1, y2, y3⟩ := (m0.ext hE1).c4) | (go_at_call 37; refine (Hw0.out _).mono ?_; rintro e w2 ⟨rfl, rfl⟩))
  clear x0 x1 x2 x3
  have Hte := Lib.hid hte'
  have Hje := Lib.hid hje'
  go_quiet ((go_at_call 37; exact (wheel_any _ _ _ (by omega) (by omega)).mono fun e w' q => ⟨q.1, _, q.2.symm⟩))
  rw [hje', hte']
  clear hte' hje' Hw0 Hw1 Hw2 Hte Hje y0 y1 y2 y3 z0 z1 z2 z3
  obtain ⟨i1, i2, i3, i4, i5, i6, i7, i8⟩ := valid_shot hv hil
  obtain ⟨j1, j2, j3, j4, j5, j6, j7, j8⟩ := valid_shot hv hjl
  have EA := E0.trans (hE1.trans (Ext.drewN _ nq))
  have hX := someZ_in n2 i6
  have hY := someZ_in n3 j6
  obtain ⟨W1, hW1⟩ : ∃ W1, W1 = w1.drewN nq := ⟨_, rfl⟩
  have hE1' : Ext W0 W1 := by rw [hW1]; exact hE1.trans (Ext.drewN _ _)
  rw [← hW1]
  clear hW1 EA hE1
  rcases (by omega : (sAt B.shots i).hi < (sAt B.shots j).lo ∨ (sAt B.shots j).hi ≤ (sAt B.shots i).lo ∨ ((sAt B.shots j).lo ≤ (sAt B.shots i).hi ∧ (sAt B.shots i).lo < (sAt B.shots j).hi)) with hc | hc | hc
  · have hk : firstN (sAt B.shots i) (sAt B.shots j) = 2 := by simp only [firstN]; rw [decide_eq_true (by omega), decide_eq_true (by omega)]; rfl
    have hm : 0 ≤ firstN (sAt B.shots j) (sAt B.shots i) ∧ firstN (sAt B.shots j) (sAt B.shots i) ≤ 0 := by simp only [firstN]; rw [decide_eq_false (by omega), decide_eq_false (by omega)]; simp [wh]
    obtain ⟨m, hme⟩ : ∃ m, firstN (sAt B.shots j) (sAt B.shots i) = m := ⟨_, rfl⟩
    rw [hme] at hm
    have Hk := Lib.hid hk
    have Hme := Lib.hid hme
    clear hk hme
    obtain ⟨x0, x1, x2, x3⟩ := (b0.ext hE1').c4
    have HB1 := (HB.out.ext E0).ext hE1'
    go_upto_region 6 with (go_at_call 30; refine (first_yes B a1 a2 a3 c1 c2 c3 i j _ HB1 ((HG.out.ext E0).ext hE1') hv hil hjl hij).mono ?_; rintro e w2 ⟨rfl, hE2⟩)
    rw [Hk.out]
    obtain ⟨z0, z1, z2, z3⟩ := (b0.ext (hE1'.trans hE2)).c4
    go_upto_region 7 with (go_at_call 30; refine (first_yes B a1 a2 a3 c1 c2 c3 j i _ (HB1.ext hE2) (((HG.out.ext E0).ext hE1').ext hE2) hv hjl hil (Ne.symm hij)).mono ?_; rintro e w3 ⟨rfl, hE3⟩)
    rw [Hme.out]
    have E3 := hE1'.trans (hE2.trans hE3)
    clear x0 x1 x2 x3 z0 z1 z2 z3 HB1
    obtain ⟨b, o, rfl, hbl, hcc⟩ := ((HB.out.ext E0).ext E3).shots (by omega)
    obtain ⟨p0, p1, p2, p3⟩ := hcc i hil
    obtain ⟨q0, q1, q2, q3⟩ := hcc j hjl
    have HS := Lib.hid (fun W (hW : Ext w3 W) => (⟨((b0.ext E3).ext hW).c4, ((m0.ext E3).ext hW).c4, ⟨hW.keep p2, hW.keep p3⟩, hW.keep q2, hW.keep q3⟩ : (W.cell? ⟨w.heap.size, 0, none⟩ = some (.int .i64 B.comp) ∧ W.cell? ⟨w.heap.size, 1, none⟩ = some (.slice a1 B.bounds.length c1) ∧ W.cell? ⟨w.heap.size, 2, none⟩ = some (.slice a2 B.orders.length c2) ∧ W.cell? ⟨w.heap.size, 3, none⟩ = some (.slice (some ⟨b, o, none⟩) B.shots.length c3)) ∧ (W.cell? ⟨w.heap.size + 1, 0, none⟩ = some (.int .i64 n0) ∧ W.cell? ⟨w.heap.size + 1, 1, none⟩ = some (.int .i64 n1) ∧ W.cell? ⟨w.heap.size + 1, 2, none⟩ = some (.int .i64 n2) ∧ W.cell? ⟨w.heap.size + 1, 3, none⟩ = some (.int .i64 n3)) ∧ (W.cell? ⟨b, o + i * 4 + 2, none⟩ = some (.int .i64 (sAt B.shots i).lo) ∧ W.cell? ⟨b, o + i * 4 + 3, none⟩ = some (.int .i64 (sAt B.shots i).hi)) ∧ (W.cell? ⟨b, o + j * 4 + 2, none⟩ = some (.int .i64 (sAt B.shots j).lo) ∧ W.cell? ⟨b, o + j * 4 + 3, none⟩ = some (.int .i64 (sAt B.shots j).hi))))
    clear p0 p1 p2 p3 q0 q1 q2 q3 hcc
    refine wp_plan (fun W => ((W.cell? ⟨w.heap.size, 0, none⟩ = some (.int .i64 B.comp) ∧ W.cell? ⟨w.heap.size, 1, none⟩ = some (.slice a1 B.bounds.length c1) ∧ W.cell? ⟨w.heap.size, 2, none⟩ = some (.slice a2 B.orders.length c2) ∧ W.cell? ⟨w.heap.size, 3, none⟩ = some (.slice (some ⟨b, o, none⟩) B.shots.length c3)) ∧ (W.cell? ⟨w.heap.size + 1, 0, none⟩ = some (.int .i64 n0) ∧ W.cell? ⟨w.heap.size + 1, 1, none⟩ = some (.int .i64 n1) ∧ W.cell? ⟨w.heap.size + 1, 2, none⟩ = some (.int .i64 n2) ∧ W.cell? ⟨w.heap.size + 1, 3, none⟩ = some (.int .i64 n3)) ∧ (W.cell? ⟨b, o + i * 4 + 2, none⟩ = some (.int .i64 (sAt B.shots i).lo) ∧ W.cell? ⟨b, o + i * 4 + 3, none⟩ = some (.int .i64 (sAt B.shots i).hi)) ∧ (W.cell? ⟨b, o + j * 4 + 2, none⟩ = some (.int .i64 (sAt B.shots j).lo) ∧ W.cell? ⟨b, o + j * 4 + 3, none⟩ = some (.int .i64 (sAt B.shots j).hi)))) (.tames [0, 1, 2, 3, 4, 5, 6, 7, 9, 10, 11, 12, 13, 14, 15, 16] (.one 8 (.one 17 (.tames [18, 19] (.done))))) (by kernel_rfl) (by kernel_rfl) (by kernel_rfl) (fun c a d v w h => by cases d <;> exact h) ?_ ?_
    · exact HS.out _ (Ext.drew _)
    refine pl_tames ?_
    (try simp only [Act.put, List.setIfInBounds_toArray, List.set_cons_zero, List.set_cons_succ])
    repeat (first
      | (refine pl_run (v := ?_) rfl ?_ (fun W hW => ?_) ?_; rotate_left; rfl; ((try dsimp only at hW); go_simp; try with_reducible rfl); (try simp only [Act.put, List.setIfInBounds_toArray, List.set_cons_zero, List.set_cons_succ]))
      | (refine pl_skip rfl ?_ ?_; rfl; (try simp only [Act.put, List.setIfInBounds_toArray, List.set_cons_zero, List.set_cons_succ])))
    refine pl_end ?_
    refine pl_one rfl (by rfl) (fun K hK => ?_)
    go_simp
    (go_at_call 42; refine (some_any _ _ n2 _ i5 i6 i7 k2).mono ?_; rintro e v1 ⟨rfl, hV1⟩)
    refine hK.out _ _ (HS.out _ ((Ext.drew _).trans hV1)) ?_
    clear hK K
    (try refine pl_tames ?_)
    (try simp only [Act.put, List.setIfInBounds_toArray, List.set_cons_zero, List.set_cons_succ])
    try ((repeat (first   | (refine pl_run (v := ?_) rfl ?_ (fun W hW => ?_) ?_; rotate_left; rfl; ((try dsimp only at hW); go_simp; try with_reducible rfl); (try simp only [Act.put, List.setIfInBounds_toArray, List.set_cons_zero, List.set_cons_succ]))   | (refine pl_skip rfl ?_ ?_; rfl; (try simp only [Act.put, List.setIfInBounds_toArray, List.set_cons_zero, List.set_cons_succ])))); refine pl_end ?_)
    refine pl_one rfl (by rfl) (fun K hK => ?_)
    go_simp
    (go_at_call 42; refine (some_any _ _ n3 _ j5 j6 j7 k3).mono ?_; rintro e v2 ⟨rfl, hV2⟩)
    refine hK.out _ _ (HS.out _ (((Ext.drew _).trans hV1).trans hV2)) ?_
    clear hK K
    (try refine pl_tames ?_)
    (try simp only [Act.put, List.setIfInBounds_toArray, List.set_cons_zero, List.set_cons_succ])
    try ((repeat (first   | (refine pl_run (v := ?_) rfl ?_ (fun W hW => ?_) ?_; rotate_left; rfl; ((try dsimp only at hW); go_simp; try with_reducible rfl); (try simp only [Act.put, List.setIfInBounds_toArray, List.set_cons_zero, List.set_cons_succ]))   | (refine pl_skip rfl ?_ ?_; rfl; (try simp only [Act.put, List.setIfInBounds_toArray, List.set_cons_zero, List.set_cons_succ])))); refine pl_end ?_)
    refine pl_done ?_
    (try simp only [Act.put])
    have EV := ((Ext.drew w3).trans hV1).trans hV2
    obtain ⟨⟨x0, x1, x2, x3⟩, ⟨y0, y1, y2, y3⟩, ⟨p2, p3⟩, q2, q3⟩ := HS.out _ EV
    clear HS
    have hK : inB 2 0 2 = true := by decide
    have hM : inB m 0 2 = true := by simp [inB]; omega
    obtain ⟨X, hXe⟩ : ∃ X, X = someZ (sAt B.shots i).lo (sAt B.shots i).hi n2 := ⟨_, rfl⟩
    obtain ⟨Y, hYe⟩ : ∃ Y, Y = someZ (sAt B.shots j).lo (sAt B.shots j).hi n3 := ⟨_, rfl⟩
    rw [← hXe] at hX ⊢
    rw [← hYe] at hY ⊢
    clear hXe hYe
    go_upto_region 10 with (go_at_call 44; refine (between_any _ _ _ _).mono ?_; rintro e w4 ⟨rfl, rfl⟩)
    go_cut [13, 14] (fun p q wx => ∃ g1 g2, p = .pointer (some ⟨g1, 0, none⟩) ∧ q = .pointer (some ⟨g2, 0, none⟩) ∧ Blk wx g1 29 #[.int .i64 (sAt B.shots i).lo, .int .i64 (sAt B.shots i).hi] ∧ Blk wx g2 29 #[.int .i64 (sAt B.shots j).lo, .int .i64 (sAt B.shots j).hi] ∧ Ext W0 wx)
    case first =>
      have HS := Lib.hid (fun W (hW : Ext v2 W) => (⟨⟨hW.keep x0, hW.keep x1, hW.keep x2, hW.keep x3⟩, ⟨hW.keep p2, hW.keep p3⟩, hW.keep q2, hW.keep q3⟩ : ((W.cell? ⟨w.heap.size, 0, none⟩ = some (.int .i64 B.comp) ∧ W.cell? ⟨w.heap.size, 1, none⟩ = some (.slice a1 B.bounds.length c1) ∧ W.cell? ⟨w.heap.size, 2, none⟩ = some (.slice a2 B.orders.length c2) ∧ W.cell? ⟨w.heap.size, 3, none⟩ = some (.slice (some ⟨b, o, none⟩) B.shots.length c3)) ∧ (W.cell? ⟨b, o + i * 4 + 2, none⟩ = some (.int .i64 (sAt B.shots i).lo) ∧ W.cell? ⟨b, o + i * 4 + 3, none⟩ = some (.int .i64 (sAt B.shots i).hi)) ∧ (W.cell? ⟨b, o + j * 4 + 2, none⟩ = some (.int .i64 (sAt B.shots j).lo) ∧ W.cell? ⟨b, o + j * 4 + 3, none⟩ = some (.int .i64 (sAt B.shots j).hi)))))
      have K1 : Ext v2 (v2.alloc (.cells #[.int .i64 0, .int .i64 0] 29)).drew := (Ext.alloc _ _).trans (Ext.drew _)
      have K2 : Ext v2 ((v2.alloc (.cells #[.int .i64 0, .int .i64 0] 29)).alloc (.cells #[.int .i64 0, .int .i64 0] 29)).drew := ((Ext.alloc _ _).trans (Ext.alloc _ _)).trans (Ext.drew _)
      have B1 : Blk ((v2.alloc (.cells #[.int .i64 0, .int .i64 0] 29)).alloc (.cells #[.int .i64 0, .int .i64 0] 29)).drew v2.heap.size 29 #[.int .i64 0, .int .i64 0] := ((Blk.new _ _ _).alloc _).drew
      have B2 : Blk ((v2.alloc (.cells #[.int .i64 0, .int .i64 0] 29)).alloc (.cells #[.int .i64 0, .int .i64 0] 29)).drew (v2.heap.size + 1) 29 #[.int .i64 0, .int .i64 0] := by
        have := (Blk.new (v2.alloc (.cells #[.int .i64 0, .int .i64 0] 29)) 29 #[.int .i64 0, .int .i64 0]).drew
        simpa using this
      have hne : v2.heap.size ≠ v2.heap.size + 1 := by omega
      clear x0 x1 x2 x3 y0 y1 y2 y3 p2 p3 q2 q3
      refine wp_plan (fun W => ((W.cell? ⟨w.heap.size, 0, none⟩ = some (.int .i64 B.comp) ∧ W.cell? ⟨w.heap.size, 1, none⟩ = some (.slice a1 B.bounds.length c1) ∧ W.cell? ⟨w.heap.size, 2, none⟩ = some (.slice a2 B.orders.length c2) ∧ W.cell? ⟨w.heap.size, 3, none⟩ = some (.slice (some ⟨b, o, none⟩) B.shots.length c3)) ∧ (W.cell? ⟨b, o + i * 4 + 2, none⟩ = some (.int .i64 (sAt B.shots i).lo) ∧ W.cell? ⟨b, o + i * 4 + 3, none⟩ = some (.int .i64 (sAt B.shots i).hi)) ∧ (W.cell? ⟨b, o + j * 4 + 2, none⟩ = some (.int .i64 (sAt B.shots j).lo) ∧ W.cell? ⟨b, o + j * 4 + 3, none⟩ = some (.int .i64 (sAt B.shots j).hi)))) (.tames [0, 1, 2, 3, 4, 5, 6, 7, 8, 9, 10, 11] (.two 12 13 (.one 13 (.one 14 (.one 15 (.done)))) (.one 12 (.one 14 (.one 15 (.done)))))) (by kernel_rfl) (by kernel_rfl) (by kernel_rfl) (fun c a d v w h => by cases d <;> exact h) ?_ ?_
      · exact HS.out _ (Ext.drew _)
      refine pl_tames ?_
      (try simp only [Act.put, List.setIfInBounds_toArray, List.set_cons_zero, List.set_cons_succ])
      repeat (first
        | (refine pl_run (v := ?_) rfl ?_ (fun W hW => ?_) ?_; rotate_left; rfl; ((try dsimp only at hW); go_simp; try with_reducible rfl); (try simp only [Act.put, List.setIfInBounds_toArray, List.set_cons_zero, List.set_cons_succ]))
        | (refine pl_skip rfl ?_ ?_; rfl; (try simp only [Act.put, List.setIfInBounds_toArray, List.set_cons_zero, List.set_cons_succ])))
      refine pl_end ?_
      refine pl_two ?_ ?_
      · refine pl_one rfl (by rfl) (fun K hK => ?_)
        go_simp
        refine hK.out _ _ (HS.out _ K1) ?_
        clear hK K
        (try simp only [Act.put, List.setIfInBounds_toArray, List.set_cons_zero, List.set_cons_succ])
        refine pl_one rfl (by rfl) (fun K hK => ?_)
        go_simp
        refine hK.out _ _ (HS.out _ K2) ?_
        clear hK K
        (try simp only [Act.put, List.setIfInBounds_toArray, List.set_cons_zero, List.set_cons_succ])
        generalize hV4 : ((v2.alloc (.cells #[.int .i64 0, .int .i64 0] 29)).alloc (.cells #[.int .i64 0, .int .i64 0] 29)).drew = V4 at B1 B2 K2 ⊢
        obtain ⟨u0, u1⟩ := B1.c2
        obtain ⟨u2, u3⟩ := B2.c2
        have f0 := B1.frozen 0
        have f1 := B1.frozen 1
        have f2 := B2.frozen 0
        have f3 := B2.frozen 1
        clear hV4
        have C1 := (((puts2 B1 (.int .i64 (sAt B.shots i).lo) (.int .i64 (sAt B.shots i).hi)).far (p := ⟨v2.heap.size + 1, 0, none⟩) hne (.int .i64 (sAt B.shots j).lo)).far (p := ⟨v2.heap.size + 1, 1, none⟩) hne (.int .i64 (sAt B.shots j).hi) : Blk _ v2.heap.size _ _)
        have C2 := puts2 ((B2.far (p := ⟨v2.heap.size, 0, none⟩) (Ne.symm hne) (.int .i64 (sAt B.shots i).lo)).far (p := ⟨v2.heap.size, 1, none⟩) (Ne.symm hne) (.int .i64 (sAt B.shots i).hi)) (.int .i64 (sAt B.shots j).lo) (.int .i64 (sAt B.shots j).hi)
        have KA : Ext v2 _ := below2 K2 (by first | exact Nat.le_refl _ | exact Nat.le_succ _) (g := v2.heap.size) (.int .i64 (sAt B.shots i).lo) (.int .i64 (sAt B.shots i).hi)
        have KB : Ext v2 _ := below2 KA (by first | exact Nat.le_refl _ | exact Nat.le_succ _) (g := v2.heap.size + 1) (.int .i64 (sAt B.shots j).lo) (.int .i64 (sAt B.shots j).hi)
        refine pl_one rfl (by rfl) (fun K hK => ?_)
        go_simp
        refine hK.out _ _ (HS.out _ KA) ?_
        clear hK K
        (try simp only [Act.put, List.setIfInBounds_toArray, List.set_cons_zero, List.set_cons_succ])
        refine pl_one rfl (by rfl) (fun K hK => ?_)
        go_simp
        refine hK.out _ _ (HS.out _ KB) ?_
        clear hK K
        refine pl_done ?_
        (try simp only [Act.put, List.setIfInBounds_toArray, List.set_cons_zero, List.set_cons_succ])
        go_wp2
        go_meet
        case rel => exact ⟨_, _, rfl, rfl, C1, C2, (E3.trans EV).trans KB⟩
      · refine pl_one rfl (by rfl) (fun K hK => ?_)
        go_simp
        refine hK.out _ _ (HS.out _ K1) ?_
        clear hK K
        (try simp only [Act.put, List.setIfInBounds_toArray, List.set_cons_zero, List.set_cons_succ])
        refine pl_one rfl (by rfl) (fun K hK => ?_)
        go_simp
        refine hK.out _ _ (HS.out _ K2) ?_
        clear hK K
        (try simp only [Act.put, List.setIfInBounds_toArray, List.set_cons_zero, List.set_cons_succ])
        generalize hV4 : ((v2.alloc (.cells #[.int .i64 0, .int .i64 0] 29)).alloc (.cells #[.int .i64 0, .int .i64 0] 29)).drew = V4 at B1 B2 K2 ⊢
        obtain ⟨u0, u1⟩ := B1.c2
        obtain ⟨u2, u3⟩ := B2.c2
        have f0 := B1.frozen 0
        have f1 := B1.frozen 1
        have f2 := B2.frozen 0
        have f3 := B2.frozen 1
        clear hV4
        have C1 := (((puts2 B2 (.int .i64 (sAt B.shots i).lo) (.int .i64 (sAt B.shots i).hi)).far (p := ⟨v2.heap.size, 0, none⟩) (Ne.symm hne) (.int .i64 (sAt B.shots j).lo)).far (p := ⟨v2.heap.size, 1, none⟩) (Ne.symm hne) (.int .i64 (sAt B.shots j).hi) : Blk _ (v2.heap.size + 1) _ _)
        have C2 := puts2 ((B1.far (p := ⟨v2.heap.size + 1, 0, none⟩) hne (.int .i64 (sAt B.shots i).lo)).far (p := ⟨v2.heap.size + 1, 1, none⟩) hne (.int .i64 (sAt B.shots i).hi)) (.int .i64 (sAt B.shots j).lo) (.int .i64 (sAt B.shots j).hi)
        have KA : Ext v2 _ := below2 K2 (by first | exact Nat.le_refl _ | exact Nat.le_succ _) (g := v2.heap.size + 1) (.int .i64 (sAt B.shots i).lo) (.int .i64 (sAt B.shots i).hi)
        have KB : Ext v2 _ := below2 KA (by first | exact Nat.le_refl _ | exact Nat.le_succ _) (g := v2.heap.size) (.int .i64 (sAt B.shots j).lo) (.int .i64 (sAt B.shots j).hi)
        refine pl_one rfl (by rfl) (fun K hK => ?_)
        go_simp
        refine hK.out _ _ (HS.out _ KA) ?_
        clear hK K
        (try simp only [Act.put, List.setIfInBounds_toArray, List.set_cons_zero, List.set_cons_succ])
        refine pl_one rfl (by rfl) (fun K hK => ?_)
        go_simp
        refine hK.out _ _ (HS.out _ KB) ?_
        clear hK K
        refine pl_done ?_
        (try simp only [Act.put, List.setIfInBounds_toArray, List.set_cons_zero, List.set_cons_succ])
        go_wp2
        go_meet
        case rel => exact ⟨_, _, rfl, rfl, C1, C2, (E3.trans EV).trans KB⟩
    case rest =>
      obtain ⟨g1, g2, rfl, rfl, B1, B2, EC⟩ := hcut
      obtain ⟨u0, u1⟩ := B1.c2
      obtain ⟨u2, u3⟩ := B2.c2
      clear x0 x1 x2 x3 y0 y1 y2 y3 p2 p3 q2 q3
      go_wp2_with (go_at_call 25; refine (shot_any _ ((HG.out.ext E0).ext EC)).mono ?_; rintro e w5 ⟨rfl, hE5⟩)
      go_ret
      refine ⟨?_, E0.trans (EC.trans hE5)⟩
      show Ending.returned (Value.bool _) = _
      congr 2
      simp
      omega
  · have hk : firstN (sAt B.shots i) (sAt B.shots j) = 0 := by simp only [firstN]; rw [decide_eq_false (by omega), decide_eq_false (by omega)]; rfl
    have hm : 0 ≤ firstN (sAt B.shots j) (sAt B.shots i) ∧ firstN (sAt B.shots j) (sAt B.shots i) ≤ 2 := by have h1 := wh_le (decide ((sAt B.shots j).lo < (sAt B.shots i).hi)); have h2 := wh_le (decide ((sAt B.shots j).hi < (sAt B.shots i).lo)); simp only [firstN]; omega
    obtain ⟨m, hme⟩ : ∃ m, firstN (sAt B.shots j) (sAt B.shots i) = m := ⟨_, rfl⟩
    rw [hme] at hm
    have Hk := Lib.hid hk
    have Hme := Lib.hid hme
    clear hk hme
    obtain ⟨x0, x1, x2, x3⟩ := (b0.ext hE1').c4
    have HB1 := (HB.out.ext E0).ext hE1'
    go_upto_region 6 with (go_at_call 30; refine (first_yes B a1 a2 a3 c1 c2 c3 i j _ HB1 ((HG.out.ext E0).ext hE1') hv hil hjl hij).mono ?_; rintro e w2 ⟨rfl, hE2⟩)
    rw [Hk.out]
    obtain ⟨z0, z1, z2, z3⟩ := (b0.ext (hE1'.trans hE2)).c4
    go_upto_region 7 with (go_at_call 30; refine (first_yes B a1 a2 a3 c1 c2 c3 j i _ (HB1.ext hE2) (((HG.out.ext E0).ext hE1').ext hE2) hv hjl hil (Ne.symm hij)).mono ?_; rintro e w3 ⟨rfl, hE3⟩)
    rw [Hme.out]
    have E3 := hE1'.trans (hE2.trans hE3)
    clear x0 x1 x2 x3 z0 z1 z2 z3 HB1
    obtain ⟨b, o, rfl, hbl, hcc⟩ := ((HB.out.ext E0).ext E3).shots (by omega)
    obtain ⟨p0, p1, p2, p3⟩ := hcc i hil
    obtain ⟨q0, q1, q2, q3⟩ := hcc j hjl
    have HS := Lib.hid (fun W (hW : Ext w3 W) => (⟨((b0.ext E3).ext hW).c4, ((m0.ext E3).ext hW).c4, ⟨hW.keep p2, hW.keep p3⟩, hW.keep q2, hW.keep q3⟩ : (W.cell? ⟨w.heap.size, 0, none⟩ = some (.int .i64 B.comp) ∧ W.cell? ⟨w.heap.size, 1, none⟩ = some (.slice a1 B.bounds.length c1) ∧ W.cell? ⟨w.heap.size, 2, none⟩ = some (.slice a2 B.orders.length c2) ∧ W.cell? ⟨w.heap.size, 3, none⟩ = some (.slice (some ⟨b, o, none⟩) B.shots.length c3)) ∧ (W.cell? ⟨w.heap.size + 1, 0, none⟩ = some (.int .i64 n0) ∧ W.cell? ⟨w.heap.size + 1, 1, none⟩ = some (.int .i64 n1) ∧ W.cell? ⟨w.heap.size + 1, 2, none⟩ = some (.int .i64 n2) ∧ W.cell? ⟨w.heap.size + 1, 3, none⟩ = some (.int .i64 n3)) ∧ (W.cell? ⟨b, o + i * 4 + 2, none⟩ = some (.int .i64 (sAt B.shots i).lo) ∧ W.cell? ⟨b, o + i * 4 + 3, none⟩ = some (.int .i64 (sAt B.shots i).hi)) ∧ (W.cell? ⟨b, o + j * 4 + 2, none⟩ = some (.int .i64 (sAt B.shots j).lo) ∧ W.cell? ⟨b, o + j * 4 + 3, none⟩ = some (.int .i64 (sAt B.shots j).hi))))
    clear p0 p1 p2 p3 q0 q1 q2 q3 hcc
    refine wp_plan (fun W => ((W.cell? ⟨w.heap.size, 0, none⟩ = some (.int .i64 B.comp) ∧ W.cell? ⟨w.heap.size, 1, none⟩ = some (.slice a1 B.bounds.length c1) ∧ W.cell? ⟨w.heap.size, 2, none⟩ = some (.slice a2 B.orders.length c2) ∧ W.cell? ⟨w.heap.size, 3, none⟩ = some (.slice (some ⟨b, o, none⟩) B.shots.length c3)) ∧ (W.cell? ⟨w.heap.size + 1, 0, none⟩ = some (.int .i64 n0) ∧ W.cell? ⟨w.heap.size + 1, 1, none⟩ = some (.int .i64 n1) ∧ W.cell? ⟨w.heap.size + 1, 2, none⟩ = some (.int .i64 n2) ∧ W.cell? ⟨w.heap.size + 1, 3, none⟩ = some (.int .i64 n3)) ∧ (W.cell? ⟨b, o + i * 4 + 2, none⟩ = some (.int .i64 (sAt B.shots i).lo) ∧ W.cell? ⟨b, o + i * 4 + 3, none⟩ = some (.int .i64 (sAt B.shots i).hi)) ∧ (W.cell? ⟨b, o + j * 4 + 2, none⟩ = some (.int .i64 (sAt B.shots j).lo) ∧ W.cell? ⟨b, o + j * 4 + 3, none⟩ = some (.int .i64 (sAt B.shots j).hi)))) (.tames [0, 1, 2, 3, 4, 5, 6, 7, 9, 10, 11, 12, 13, 14, 15, 16] (.one 8 (.one 17 (.tames [18, 19] (.done))))) (by kernel_rfl) (by kernel_rfl) (by kernel_rfl) (fun c a d v w h => by cases d <;> exact h) ?_ ?_
    · exact HS.out _ (Ext.drew _)
    refine pl_tames ?_
    (try simp only [Act.put, List.setIfInBounds_toArray, List.set_cons_zero, List.set_cons_succ])
    repeat (first
      | (refine pl_run (v := ?_) rfl ?_ (fun W hW => ?_) ?_; rotate_left; rfl; ((try dsimp only at hW); go_simp; try with_reducible rfl); (try simp only [Act.put, List.setIfInBounds_toArray, List.set_cons_zero, List.set_cons_succ]))
      | (refine pl_skip rfl ?_ ?_; rfl; (try simp only [Act.put, List.setIfInBounds_toArray, List.set_cons_zero, List.set_cons_succ])))
    refine pl_end ?_
    refine pl_one rfl (by rfl) (fun K hK => ?_)
    go_simp
    (go_at_call 42; refine (some_any _ _ n2 _ i5 i6 i7 k2).mono ?_; rintro e v1 ⟨rfl, hV1⟩)
    refine hK.out _ _ (HS.out _ ((Ext.drew _).trans hV1)) ?_
    clear hK K
    (try refine pl_tames ?_)
    (try simp only [Act.put, List.setIfInBounds_toArray, List.set_cons_zero, List.set_cons_succ])
    try ((repeat (first   | (refine pl_run (v := ?_) rfl ?_ (fun W hW => ?_) ?_; rotate_left; rfl; ((try dsimp only at hW); go_simp; try with_reducible rfl); (try simp only [Act.put, List.setIfInBounds_toArray, List.set_cons_zero, List.set_cons_succ]))   | (refine pl_skip rfl ?_ ?_; rfl; (try simp only [Act.put, List.setIfInBounds_toArray, List.set_cons_zero, List.set_cons_succ])))); refine pl_end ?_)
    refine pl_one rfl (by rfl) (fun K hK => ?_)
    go_simp
    (go_at_call 42; refine (some_any _ _ n3 _ j5 j6 j7 k3).mono ?_; rintro e v2 ⟨rfl, hV2⟩)
    refine hK.out _ _ (HS.out _ (((Ext.drew _).trans hV1).trans hV2)) ?_
    clear hK K
    (try refine pl_tames ?_)
    (try simp only [Act.put, List.setIfInBounds_toArray, List.set_cons_zero, List.set_cons_succ])
    try ((repeat (first   | (refine pl_run (v := ?_) rfl ?_ (fun W hW => ?_) ?_; rotate_left; rfl; ((try dsimp only at hW); go_simp; try with_reducible rfl); (try simp only [Act.put, List.setIfInBounds_toArray, List.set_cons_zero, List.set_cons_succ]))   | (refine pl_skip rfl ?_ ?_; rfl; (try simp only [Act.put, List.setIfInBounds_toArray, List.set_cons_zero, List.set_cons_succ])))); refine pl_end ?_)
    refine pl_done ?_
    (try simp only [Act.put])
    have EV := ((Ext.drew w3).trans hV1).trans hV2
    obtain ⟨⟨x0, x1, x2, x3⟩, ⟨y0, y1, y2, y3⟩, ⟨p2, p3⟩, q2, q3⟩ := HS.out _ EV
    clear HS
    have hK : inB 0 0 2 = true := by decide
    have hM : inB m 0 2 = true := by simp [inB]; omega
    obtain ⟨X, hXe⟩ : ∃ X, X = someZ (sAt B.shots i).lo (sAt B.shots i).hi n2 := ⟨_, rfl⟩
    obtain ⟨Y, hYe⟩ : ∃ Y, Y = someZ (sAt B.shots j).lo (sAt B.shots j).hi n3 := ⟨_, rfl⟩
    rw [← hXe] at hX ⊢
    rw [← hYe] at hY ⊢
    clear hXe hYe
    go_upto_region 10 with (go_at_call 44; refine (between_any _ _ _ _).mono ?_; rintro e w4 ⟨rfl, rfl⟩)
    go_cut [13, 14] (fun p q wx => ∃ g1 g2, p = .pointer (some ⟨g1, 0, none⟩) ∧ q = .pointer (some ⟨g2, 0, none⟩) ∧ Blk wx g1 29 #[.int .i64 (sAt B.shots i).lo, .int .i64 (sAt B.shots i).hi] ∧ Blk wx g2 29 #[.int .i64 (sAt B.shots j).lo, .int .i64 (sAt B.shots j).hi] ∧ Ext W0 wx)
    case first =>
      have HS := Lib.hid (fun W (hW : Ext v2 W) => (⟨⟨hW.keep x0, hW.keep x1, hW.keep x2, hW.keep x3⟩, ⟨hW.keep p2, hW.keep p3⟩, hW.keep q2, hW.keep q3⟩ : ((W.cell? ⟨w.heap.size, 0, none⟩ = some (.int .i64 B.comp) ∧ W.cell? ⟨w.heap.size, 1, none⟩ = some (.slice a1 B.bounds.length c1) ∧ W.cell? ⟨w.heap.size, 2, none⟩ = some (.slice a2 B.orders.length c2) ∧ W.cell? ⟨w.heap.size, 3, none⟩ = some (.slice (some ⟨b, o, none⟩) B.shots.length c3)) ∧ (W.cell? ⟨b, o + i * 4 + 2, none⟩ = some (.int .i64 (sAt B.shots i).lo) ∧ W.cell? ⟨b, o + i * 4 + 3, none⟩ = some (.int .i64 (sAt B.shots i).hi)) ∧ (W.cell? ⟨b, o + j * 4 + 2, none⟩ = some (.int .i64 (sAt B.shots j).lo) ∧ W.cell? ⟨b, o + j * 4 + 3, none⟩ = some (.int .i64 (sAt B.shots j).hi)))))
      have K1 : Ext v2 (v2.alloc (.cells #[.int .i64 0, .int .i64 0] 29)).drew := (Ext.alloc _ _).trans (Ext.drew _)
      have K2 : Ext v2 ((v2.alloc (.cells #[.int .i64 0, .int .i64 0] 29)).alloc (.cells #[.int .i64 0, .int .i64 0] 29)).drew := ((Ext.alloc _ _).trans (Ext.alloc _ _)).trans (Ext.drew _)
      have B1 : Blk ((v2.alloc (.cells #[.int .i64 0, .int .i64 0] 29)).alloc (.cells #[.int .i64 0, .int .i64 0] 29)).drew v2.heap.size 29 #[.int .i64 0, .int .i64 0] := ((Blk.new _ _ _).alloc _).drew
      have B2 : Blk ((v2.alloc (.cells #[.int .i64 0, .int .i64 0] 29)).alloc (.cells #[.int .i64 0, .int .i64 0] 29)).drew (v2.heap.size + 1) 29 #[.int .i64 0, .int .i64 0] := by
        have := (Blk.new (v2.alloc (.cells #[.int .i64 0, .int .i64 0] 29)) 29 #[.int .i64 0, .int .i64 0]).drew
        simpa using this
      have hne : v2.heap.size ≠ v2.heap.size + 1 := by omega
      clear x0 x1 x2 x3 y0 y1 y2 y3 p2 p3 q2 q3
      refine wp_plan (fun W => ((W.cell? ⟨w.heap.size, 0, none⟩ = some (.int .i64 B.comp) ∧ W.cell? ⟨w.heap.size, 1, none⟩ = some (.slice a1 B.bounds.length c1) ∧ W.cell? ⟨w.heap.size, 2, none⟩ = some (.slice a2 B.orders.length c2) ∧ W.cell? ⟨w.heap.size, 3, none⟩ = some (.slice (some ⟨b, o, none⟩) B.shots.length c3)) ∧ (W.cell? ⟨b, o + i * 4 + 2, none⟩ = some (.int .i64 (sAt B.shots i).lo) ∧ W.cell? ⟨b, o + i * 4 + 3, none⟩ = some (.int .i64 (sAt B.shots i).hi)) ∧ (W.cell? ⟨b, o + j * 4 + 2, none⟩ = some (.int .i64 (sAt B.shots j).lo) ∧ W.cell? ⟨b, o + j * 4 + 3, none⟩ = some (.int .i64 (sAt B.shots j).hi)))) (.tames [0, 1, 2, 3, 4, 5, 6, 7, 8, 9, 10, 11] (.two 12 13 (.one 13 (.one 14 (.one 15 (.done)))) (.one 12 (.one 14 (.one 15 (.done)))))) (by kernel_rfl) (by kernel_rfl) (by kernel_rfl) (fun c a d v w h => by cases d <;> exact h) ?_ ?_
      · exact HS.out _ (Ext.drew _)
      refine pl_tames ?_
      (try simp only [Act.put, List.setIfInBounds_toArray, List.set_cons_zero, List.set_cons_succ])
      repeat (first
        | (refine pl_run (v := ?_) rfl ?_ (fun W hW => ?_) ?_; rotate_left; rfl; ((try dsimp only at hW); go_simp; try with_reducible rfl); (try simp only [Act.put, List.setIfInBounds_toArray, List.set_cons_zero, List.set_cons_succ]))
        | (refine pl_skip rfl ?_ ?_; rfl; (try simp only [Act.put, List.setIfInBounds_toArray, List.set_cons_zero, List.set_cons_succ])))
      refine pl_end ?_
      refine pl_two ?_ ?_
      · refine pl_one rfl (by rfl) (fun K hK => ?_)
        go_simp
        refine hK.out _ _ (HS.out _ K1) ?_
        clear hK K
        (try simp only [Act.put, List.setIfInBounds_toArray, List.set_cons_zero, List.set_cons_succ])
        refine pl_one rfl (by rfl) (fun K hK => ?_)
        go_simp
        refine hK.out _ _ (HS.out _ K2) ?_
        clear hK K
        (try simp only [Act.put, List.setIfInBounds_toArray, List.set_cons_zero, List.set_cons_succ])
        generalize hV4 : ((v2.alloc (.cells #[.int .i64 0, .int .i64 0] 29)).alloc (.cells #[.int .i64 0, .int .i64 0] 29)).drew = V4 at B1 B2 K2 ⊢
        obtain ⟨u0, u1⟩ := B1.c2
        obtain ⟨u2, u3⟩ := B2.c2
        have f0 := B1.frozen 0
        have f1 := B1.frozen 1
        have f2 := B2.frozen 0
        have f3 := B2.frozen 1
        clear hV4
        have C1 := (((puts2 B1 (.int .i64 (sAt B.shots i).lo) (.int .i64 (sAt B.shots i).hi)).far (p := ⟨v2.heap.size + 1, 0, none⟩) hne (.int .i64 (sAt B.shots j).lo)).far (p := ⟨v2.heap.size + 1, 1, none⟩) hne (.int .i64 (sAt B.shots j).hi) : Blk _ v2.heap.size _ _)
        have C2 := puts2 ((B2.far (p := ⟨v2.heap.size, 0, none⟩) (Ne.symm hne) (.int .i64 (sAt B.shots i).lo)).far (p := ⟨v2.heap.size, 1, none⟩) (Ne.symm hne) (.int .i64 (sAt B.shots i).hi)) (.int .i64 (sAt B.shots j).lo) (.int .i64 (sAt B.shots j).hi)
        have KA : Ext v2 _ := below2 K2 (by first | exact Nat.le_refl _ | exact Nat.le_succ _) (g := v2.heap.size) (.int .i64 (sAt B.shots i).lo) (.int .i64 (sAt B.shots i).hi)
        have KB : Ext v2 _ := below2 KA (by first | exact Nat.le_refl _ | exact Nat.le_succ _) (g := v2.heap.size + 1) (.int .i64 (sAt B.shots j).lo) (.int .i64 (sAt B.shots j).hi)
        refine pl_one rfl (by rfl) (fun K hK => ?_)
        go_simp
        refine hK.out _ _ (HS.out _ KA) ?_
        clear hK K
        (try simp only [Act.put, List.setIfInBounds_toArray, List.set_cons_zero, List.set_cons_succ])
        refine pl_one rfl (by rfl) (fun K hK => ?_)
        go_simp
        refine hK.out _ _ (HS.out _ KB) ?_
        clear hK K
        refine pl_done ?_
        (try simp only [Act.put, List.setIfInBounds_toArray, List.set_cons_zero, List.set_cons_succ])
        go_wp2
        go_meet
        case rel => exact ⟨_, _, rfl, rfl, C1, C2, (E3.trans EV).trans KB⟩
      · refine pl_one rfl (by rfl) (fun K hK => ?_)
        go_simp
        refine hK.out _ _ (HS.out _ K1) ?_
        clear hK K
        (try simp only [Act.put, List.setIfInBounds_toArray, List.set_cons_zero, List.set_cons_succ])
        refine pl_one rfl (by rfl) (fun K hK => ?_)
        go_simp
        refine hK.out _ _ (HS.out _ K2) ?_
        clear hK K
        (try simp only [Act.put, List.setIfInBounds_toArray, List.set_cons_zero, List.set_cons_succ])
        generalize hV4 : ((v2.alloc (.cells #[.int .i64 0, .int .i64 0] 29)).alloc (.cells #[.int .i64 0, .int .i64 0] 29)).drew = V4 at B1 B2 K2 ⊢
        obtain ⟨u0, u1⟩ := B1.c2
        obtain ⟨u2, u3⟩ := B2.c2
        have f0 := B1.frozen 0
        have f1 := B1.frozen 1
        have f2 := B2.frozen 0
        have f3 := B2.frozen 1
        clear hV4
        have C1 := (((puts2 B2 (.int .i64 (sAt B.shots i).lo) (.int .i64 (sAt B.shots i).hi)).far (p := ⟨v2.heap.size, 0, none⟩) (Ne.symm hne) (.int .i64 (sAt B.shots j).lo)).far (p := ⟨v2.heap.size, 1, none⟩) (Ne.symm hne) (.int .i64 (sAt B.shots j).hi) : Blk _ (v2.heap.size + 1) _ _)
        have C2 := puts2 ((B1.far (p := ⟨v2.heap.size + 1, 0, none⟩) hne (.int .i64 (sAt B.shots i).lo)).far (p := ⟨v2.heap.size + 1, 1, none⟩) hne (.int .i64 (sAt B.shots i).hi)) (.int .i64 (sAt B.shots j).lo) (.int .i64 (sAt B.shots j).hi)
        have KA : Ext v2 _ := below2 K2 (by first | exact Nat.le_refl _ | exact Nat.le_succ _) (g := v2.heap.size + 1) (.int .i64 (sAt B.shots i).lo) (.int .i64 (sAt B.shots i).hi)
        have KB : Ext v2 _ := below2 KA (by first | exact Nat.le_refl _ | exact Nat.le_succ _) (g := v2.heap.size) (.int .i64 (sAt B.shots j).lo) (.int .i64 (sAt B.shots j).hi)
        refine pl_one rfl (by rfl) (fun K hK => ?_)
        go_simp
        refine hK.out _ _ (HS.out _ KA) ?_
        clear hK K
        (try simp only [Act.put, List.setIfInBounds_toArray, List.set_cons_zero, List.set_cons_succ])
        refine pl_one rfl (by rfl) (fun K hK => ?_)
        go_simp
        refine hK.out _ _ (HS.out _ KB) ?_
        clear hK K
        refine pl_done ?_
        (try simp only [Act.put, List.setIfInBounds_toArray, List.set_cons_zero, List.set_cons_succ])
        go_wp2
        go_meet
        case rel => exact ⟨_, _, rfl, rfl, C1, C2, (E3.trans EV).trans KB⟩
    case rest =>
      obtain ⟨g1, g2, rfl, rfl, B1, B2, EC⟩ := hcut
      obtain ⟨u0, u1⟩ := B1.c2
      obtain ⟨u2, u3⟩ := B2.c2
      clear x0 x1 x2 x3 y0 y1 y2 y3 p2 p3 q2 q3
      go_wp2_with (go_at_call 25; refine (shot_any _ ((HG.out.ext E0).ext EC)).mono ?_; rintro e w5 ⟨rfl, hE5⟩)
      go_ret
      refine ⟨?_, E0.trans (EC.trans hE5)⟩
      show Ending.returned (Value.bool _) = _
      congr 2
      simp
      omega
  · have hk : firstN (sAt B.shots i) (sAt B.shots j) = 1 := by simp only [firstN]; rw [decide_eq_true (by omega), decide_eq_false (by omega)]; rfl
    have hm : 0 ≤ firstN (sAt B.shots j) (sAt B.shots i) ∧ firstN (sAt B.shots j) (sAt B.shots i) ≤ 2 := by have h1 := wh_le (decide ((sAt B.shots j).lo < (sAt B.shots i).hi)); have h2 := wh_le (decide ((sAt B.shots j).hi < (sAt B.shots i).lo)); simp only [firstN]; omega
    obtain ⟨m, hme⟩ : ∃ m, firstN (sAt B.shots j) (sAt B.shots i) = m := ⟨_, rfl⟩
    rw [hme] at hm
    have Hk := Lib.hid hk
    have Hme := Lib.hid hme
    clear hk hme
    obtain ⟨x0, x1, x2, x3⟩ := (b0.ext hE1').c4
    have HB1 := (HB.out.ext E0).ext hE1'
    go_upto_region 6 with (go_at_call 30; refine (first_yes B a1 a2 a3 c1 c2 c3 i j _ HB1 ((HG.out.ext E0).ext hE1') hv hil hjl hij).mono ?_; rintro e w2 ⟨rfl, hE2⟩)
    rw [Hk.out]
    obtain ⟨z0, z1, z2, z3⟩ := (b0.ext (hE1'.trans hE2)).c4
    go_upto_region 7 with (go_at_call 30; refine (first_yes B a1 a2 a3 c1 c2 c3 j i _ (HB1.ext hE2) (((HG.out.ext E0).ext hE1').ext hE2) hv hjl hil (Ne.symm hij)).mono ?_; rintro e w3 ⟨rfl, hE3⟩)
    rw [Hme.out]
    have E3 := hE1'.trans (hE2.trans hE3)
    clear x0 x1 x2 x3 z0 z1 z2 z3 HB1
    obtain ⟨b, o, rfl, hbl, hcc⟩ := ((HB.out.ext E0).ext E3).shots (by omega)
    obtain ⟨p0, p1, p2, p3⟩ := hcc i hil
    obtain ⟨q0, q1, q2, q3⟩ := hcc j hjl
    have HS := Lib.hid (fun W (hW : Ext w3 W) => (⟨((b0.ext E3).ext hW).c4, ((m0.ext E3).ext hW).c4, ⟨hW.keep p2, hW.keep p3⟩, hW.keep q2, hW.keep q3⟩ : (W.cell? ⟨w.heap.size, 0, none⟩ = some (.int .i64 B.comp) ∧ W.cell? ⟨w.heap.size, 1, none⟩ = some (.slice a1 B.bounds.length c1) ∧ W.cell? ⟨w.heap.size, 2, none⟩ = some (.slice a2 B.orders.length c2) ∧ W.cell? ⟨w.heap.size, 3, none⟩ = some (.slice (some ⟨b, o, none⟩) B.shots.length c3)) ∧ (W.cell? ⟨w.heap.size + 1, 0, none⟩ = some (.int .i64 n0) ∧ W.cell? ⟨w.heap.size + 1, 1, none⟩ = some (.int .i64 n1) ∧ W.cell? ⟨w.heap.size + 1, 2, none⟩ = some (.int .i64 n2) ∧ W.cell? ⟨w.heap.size + 1, 3, none⟩ = some (.int .i64 n3)) ∧ (W.cell? ⟨b, o + i * 4 + 2, none⟩ = some (.int .i64 (sAt B.shots i).lo) ∧ W.cell? ⟨b, o + i * 4 + 3, none⟩ = some (.int .i64 (sAt B.shots i).hi)) ∧ (W.cell? ⟨b, o + j * 4 + 2, none⟩ = some (.int .i64 (sAt B.shots j).lo) ∧ W.cell? ⟨b, o + j * 4 + 3, none⟩ = some (.int .i64 (sAt B.shots j).hi))))
    clear p0 p1 p2 p3 q0 q1 q2 q3 hcc
    refine wp_plan (fun W => ((W.cell? ⟨w.heap.size, 0, none⟩ = some (.int .i64 B.comp) ∧ W.cell? ⟨w.heap.size, 1, none⟩ = some (.slice a1 B.bounds.length c1) ∧ W.cell? ⟨w.heap.size, 2, none⟩ = some (.slice a2 B.orders.length c2) ∧ W.cell? ⟨w.heap.size, 3, none⟩ = some (.slice (some ⟨b, o, none⟩) B.shots.length c3)) ∧ (W.cell? ⟨w.heap.size + 1, 0, none⟩ = some (.int .i64 n0) ∧ W.cell? ⟨w.heap.size + 1, 1, none⟩ = some (.int .i64 n1) ∧ W.cell? ⟨w.heap.size + 1, 2, none⟩ = some (.int .i64 n2) ∧ W.cell? ⟨w.heap.size + 1, 3, none⟩ = some (.int .i64 n3)) ∧ (W.cell? ⟨b, o + i * 4 + 2, none⟩ = some (.int .i64 (sAt B.shots i).lo) ∧ W.cell? ⟨b, o + i * 4 + 3, none⟩ = some (.int .i64 (sAt B.shots i).hi)) ∧ (W.cell? ⟨b, o + j * 4 + 2, none⟩ = some (.int .i64 (sAt B.shots j).lo) ∧ W.cell? ⟨b, o + j * 4 + 3, none⟩ = some (.int .i64 (sAt B.shots j).hi)))) (.tames [0, 1, 2, 3, 4, 5, 6, 7, 9, 10, 11, 12, 13, 14, 15, 16] (.one 8 (.one 17 (.tames [18, 19] (.done))))) (by kernel_rfl) (by kernel_rfl) (by kernel_rfl) (fun c a d v w h => by cases d <;> exact h) ?_ ?_
    · exact HS.out _ (Ext.drew _)
    refine pl_tames ?_
    (try simp only [Act.put, List.setIfInBounds_toArray, List.set_cons_zero, List.set_cons_succ])
    repeat (first
      | (refine pl_run (v := ?_) rfl ?_ (fun W hW => ?_) ?_; rotate_left; rfl; ((try dsimp only at hW); go_simp; try with_reducible rfl); (try simp only [Act.put, List.setIfInBounds_toArray, List.set_cons_zero, List.set_cons_succ]))
      | (refine pl_skip rfl ?_ ?_; rfl; (try simp only [Act.put, List.setIfInBounds_toArray, List.set_cons_zero, List.set_cons_succ])))
    refine pl_end ?_
    refine pl_one rfl (by rfl) (fun K hK => ?_)
    go_simp
    (go_at_call 42; refine (some_any _ _ n2 _ i5 i6 i7 k2).mono ?_; rintro e v1 ⟨rfl, hV1⟩)
    refine hK.out _ _ (HS.out _ ((Ext.drew _).trans hV1)) ?_
    clear hK K
    (try refine pl_tames ?_)
    (try simp only [Act.put, List.setIfInBounds_toArray, List.set_cons_zero, List.set_cons_succ])
    try ((repeat (first   | (refine pl_run (v := ?_) rfl ?_ (fun W hW => ?_) ?_; rotate_left; rfl; ((try dsimp only at hW); go_simp; try with_reducible rfl); (try simp only [Act.put, List.setIfInBounds_toArray, List.set_cons_zero, List.set_cons_succ]))   | (refine pl_skip rfl ?_ ?_; rfl; (try simp only [Act.put, List.setIfInBounds_toArray, List.set_cons_zero, List.set_cons_succ])))); refine pl_end ?_)
    refine pl_one rfl (by rfl) (fun K hK => ?_)
    go_simp
    (go_at_call 42; refine (some_any _ _ n3 _ j5 j6 j7 k3).mono ?_; rintro e v2 ⟨rfl, hV2⟩)
    refine hK.out _ _ (HS.out _ (((Ext.drew _).trans hV1).trans hV2)) ?_
    clear hK K
    (try refine pl_tames ?_)
    (try simp only [Act.put, List.setIfInBounds_toArray, List.set_cons_zero, List.set_cons_succ])
    try ((repeat (first   | (refine pl_run (v := ?_) rfl ?_ (fun W hW => ?_) ?_; rotate_left; rfl; ((try dsimp only at hW); go_simp; try with_reducible rfl); (try simp only [Act.put, List.setIfInBounds_toArray, List.set_cons_zero, List.set_cons_succ]))   | (refine pl_skip rfl ?_ ?_; rfl; (try simp only [Act.put, List.setIfInBounds_toArray, List.set_cons_zero, List.set_cons_succ])))); refine pl_end ?_)
    refine pl_done ?_
    (try simp only [Act.put])
    have EV := ((Ext.drew w3).trans hV1).trans hV2
    obtain ⟨⟨x0, x1, x2, x3⟩, ⟨y0, y1, y2, y3⟩, ⟨p2, p3⟩, q2, q3⟩ := HS.out _ EV
    clear HS
    have hK : inB 1 0 2 = true := by decide
    have hM : inB m 0 2 = true := by simp [inB]; omega
    obtain ⟨X, hXe⟩ : ∃ X, X = someZ (sAt B.shots i).lo (sAt B.shots i).hi n2 := ⟨_, rfl⟩
    obtain ⟨Y, hYe⟩ : ∃ Y, Y = someZ (sAt B.shots j).lo (sAt B.shots j).hi n3 := ⟨_, rfl⟩
    rw [← hXe] at hX ⊢
    rw [← hYe] at hY ⊢
    clear hXe hYe
    go_upto_region 10 with (go_at_call 44; refine (between_any _ _ _ _).mono ?_; rintro e w4 ⟨rfl, rfl⟩)
    go_cut [13, 14] (fun p q wx => ∃ g1 g2, p = .pointer (some ⟨g1, 0, none⟩) ∧ q = .pointer (some ⟨g2, 0, none⟩) ∧ Blk wx g1 29 #[.int .i64 (sAt B.shots i).lo, .int .i64 (sAt B.shots i).hi] ∧ Blk wx g2 29 #[.int .i64 (sAt B.shots j).lo, .int .i64 (sAt B.shots j).hi] ∧ Ext W0 wx)
    case first =>
      have HS := Lib.hid (fun W (hW : Ext v2 W) => (⟨⟨hW.keep x0, hW.keep x1, hW.keep x2, hW.keep x3⟩, ⟨hW.keep p2, hW.keep p3⟩, hW.keep q2, hW.keep q3⟩ : ((W.cell? ⟨w.heap.size, 0, none⟩ = some (.int .i64 B.comp) ∧ W.cell? ⟨w.heap.size, 1, none⟩ = some (.slice a1 B.bounds.length c1) ∧ W.cell? ⟨w.heap.size, 2, none⟩ = some (.slice a2 B.orders.length c2) ∧ W.cell? ⟨w.heap.size, 3, none⟩ = some (.slice (some ⟨b, o, none⟩) B.shots.length c3)) ∧ (W.cell? ⟨b, o + i * 4 + 2, none⟩ = some (.int .i64 (sAt B.shots i).lo) ∧ W.cell? ⟨b, o + i * 4 + 3, none⟩ = some (.int .i64 (sAt B.shots i).hi)) ∧ (W.cell? ⟨b, o + j * 4 + 2, none⟩ = some (.int .i64 (sAt B.shots j).lo) ∧ W.cell? ⟨b, o + j * 4 + 3, none⟩ = some (.int .i64 (sAt B.shots j).hi)))))
      have K1 : Ext v2 (v2.alloc (.cells #[.int .i64 0, .int .i64 0] 29)).drew := (Ext.alloc _ _).trans (Ext.drew _)
      have K2 : Ext v2 ((v2.alloc (.cells #[.int .i64 0, .int .i64 0] 29)).alloc (.cells #[.int .i64 0, .int .i64 0] 29)).drew := ((Ext.alloc _ _).trans (Ext.alloc _ _)).trans (Ext.drew _)
      have B1 : Blk ((v2.alloc (.cells #[.int .i64 0, .int .i64 0] 29)).alloc (.cells #[.int .i64 0, .int .i64 0] 29)).drew v2.heap.size 29 #[.int .i64 0, .int .i64 0] := ((Blk.new _ _ _).alloc _).drew
      have B2 : Blk ((v2.alloc (.cells #[.int .i64 0, .int .i64 0] 29)).alloc (.cells #[.int .i64 0, .int .i64 0] 29)).drew (v2.heap.size + 1) 29 #[.int .i64 0, .int .i64 0] := by
        have := (Blk.new (v2.alloc (.cells #[.int .i64 0, .int .i64 0] 29)) 29 #[.int .i64 0, .int .i64 0]).drew
        simpa using this
      have hne : v2.heap.size ≠ v2.heap.size + 1 := by omega
      clear x0 x1 x2 x3 y0 y1 y2 y3 p2 p3 q2 q3
      refine wp_plan (fun W => ((W.cell? ⟨w.heap.size, 0, none⟩ = some (.int .i64 B.comp) ∧ W.cell? ⟨w.heap.size, 1, none⟩ = some (.slice a1 B.bounds.length c1) ∧ W.cell? ⟨w.heap.size, 2, none⟩ = some (.slice a2 B.orders.length c2) ∧ W.cell? ⟨w.heap.size, 3, none⟩ = some (.slice (some ⟨b, o, none⟩) B.shots.length c3)) ∧ (W.cell? ⟨b, o + i * 4 + 2, none⟩ = some (.int .i64 (sAt B.shots i).lo) ∧ W.cell? ⟨b, o + i * 4 + 3, none⟩ = some (.int .i64 (sAt B.shots i).hi)) ∧ (W.cell? ⟨b, o + j * 4 + 2, none⟩ = some (.int .i64 (sAt B.shots j).lo) ∧ W.cell? ⟨b, o + j * 4 + 3, none⟩ = some (.int .i64 (sAt B.shots j).hi)))) (.tames [0, 1, 2, 3, 4, 5, 6, 7, 8, 9, 10, 11] (.two 12 13 (.one 13 (.one 14 (.one 15 (.done)))) (.one 12 (.one 14 (.one 15 (.done)))))) (by kernel_rfl) (by kernel_rfl) (by kernel_rfl) (fun c a d v w h => by cases d <;> exact h) ?_ ?_
      · exact HS.out _ (Ext.drew _)
      refine pl_tames ?_
      (try simp only [Act.put, List.setIfInBounds_toArray, List.set_cons_zero, List.set_cons_succ])
      repeat (first
        | (refine pl_run (v := ?_) rfl ?_ (fun W hW => ?_) ?_; rotate_left; rfl; ((try dsimp only at hW); go_simp; try with_reducible rfl); (try simp only [Act.put, List.setIfInBounds_toArray, List.set_cons_zero, List.set_cons_succ]))
        | (refine pl_skip rfl ?_ ?_; rfl; (try simp only [Act.put, List.setIfInBounds_toArray, List.set_cons_zero, List.set_cons_succ])))
      refine pl_end ?_
      refine pl_two ?_ ?_
      · refine pl_one rfl (by rfl) (fun K hK => ?_)
        go_simp
        refine hK.out _ _ (HS.out _ K1) ?_
        clear hK K
        (try simp only [Act.put, List.setIfInBounds_toArray, List.set_cons_zero, List.set_cons_succ])
        refine pl_one rfl (by rfl) (fun K hK => ?_)
        go_simp
        refine hK.out _ _ (HS.out _ K2) ?_
        clear hK K
        (try simp only [Act.put, List.setIfInBounds_toArray, List.set_cons_zero, List.set_cons_succ])
        generalize hV4 : ((v2.alloc (.cells #[.int .i64 0, .int .i64 0] 29)).alloc (.cells #[.int .i64 0, .int .i64 0] 29)).drew = V4 at B1 B2 K2 ⊢
        obtain ⟨u0, u1⟩ := B1.c2
        obtain ⟨u2, u3⟩ := B2.c2
        have f0 := B1.frozen 0
        have f1 := B1.frozen 1
        have f2 := B2.frozen 0
        have f3 := B2.frozen 1
        clear hV4
        have C1 := (((puts2 B1 (.int .i64 (sAt B.shots i).lo) (.int .i64 (sAt B.shots i).hi)).far (p := ⟨v2.heap.size + 1, 0, none⟩) hne (.int .i64 (sAt B.shots j).lo)).far (p := ⟨v2.heap.size + 1, 1, none⟩) hne (.int .i64 (sAt B.shots j).hi) : Blk _ v2.heap.size _ _)
        have C2 := puts2 ((B2.far (p := ⟨v2.heap.size, 0, none⟩) (Ne.symm hne) (.int .i64 (sAt B.shots i).lo)).far (p := ⟨v2.heap.size, 1, none⟩) (Ne.symm hne) (.int .i64 (sAt B.shots i).hi)) (.int .i64 (sAt B.shots j).lo) (.int .i64 (sAt B.shots j).hi)
        have KA : Ext v2 _ := below2 K2 (by first | exact Nat.le_refl _ | exact Nat.le_succ _) (g := v2.heap.size) (.int .i64 (sAt B.shots i).lo) (.int .i64 (sAt B.shots i).hi)
        have KB : Ext v2 _ := below2 KA (by first | exact Nat.le_refl _ | exact Nat.le_succ _) (g := v2.heap.size + 1) (.int .i64 (sAt B.shots j).lo) (.int .i64 (sAt B.shots j).hi)
        refine pl_one rfl (by rfl) (fun K hK => ?_)
        go_simp
        refine hK.out _ _ (HS.out _ KA) ?_
        clear hK K
        (try simp only [Act.put, List.setIfInBounds_toArray, List.set_cons_zero, List.set_cons_succ])
        refine pl_one rfl (by rfl) (fun K hK => ?_)
        go_simp
        refine hK.out _ _ (HS.out _ KB) ?_
        clear hK K
        refine pl_done ?_
        (try simp only [Act.put, List.setIfInBounds_toArray, List.set_cons_zero, List.set_cons_succ])
        go_wp2
        go_meet
        case rel => exact ⟨_, _, rfl, rfl, C1, C2, (E3.trans EV).trans KB⟩
      · refine pl_one rfl (by rfl) (fun K hK => ?_)
        go_simp
        refine hK.out _ _ (HS.out _ K1) ?_
        clear hK K
        (try simp only [Act.put, List.setIfInBounds_toArray, List.set_cons_zero, List.set_cons_succ])
        refine pl_one rfl (by rfl) (fun K hK => ?_)
        go_simp
        refine hK.out _ _ (HS.out _ K2) ?_
        clear hK K
        (try simp only [Act.put, List.setIfInBounds_toArray, List.set_cons_zero, List.set_cons_succ])
        generalize hV4 : ((v2.alloc (.cells #[.int .i64 0, .int .i64 0] 29)).alloc (.cells #[.int .i64 0, .int .i64 0] 29)).drew = V4 at B1 B2 K2 ⊢
        obtain ⟨u0, u1⟩ := B1.c2
        obtain ⟨u2, u3⟩ := B2.c2
        have f0 := B1.frozen 0
        have f1 := B1.frozen 1
        have f2 := B2.frozen 0
        have f3 := B2.frozen 1
        clear hV4
        have C1 := (((puts2 B2 (.int .i64 (sAt B.shots i).lo) (.int .i64 (sAt B.shots i).hi)).far (p := ⟨v2.heap.size, 0, none⟩) (Ne.symm hne) (.int .i64 (sAt B.shots j).lo)).far (p := ⟨v2.heap.size, 1, none⟩) (Ne.symm hne) (.int .i64 (sAt B.shots j).hi) : Blk _ (v2.heap.size + 1) _ _)
        have C2 := puts2 ((B1.far (p := ⟨v2.heap.size + 1, 0, none⟩) hne (.int .i64 (sAt B.shots i).lo)).far (p := ⟨v2.heap.size + 1, 1, none⟩) hne (.int .i64 (sAt B.shots i).hi)) (.int .i64 (sAt B.shots j).lo) (.int .i64 (sAt B.shots j).hi)
        have KA : Ext v2 _ := below2 K2 (by first | exact Nat.le_refl _ | exact Nat.le_succ _) (g := v2.heap.size + 1) (.int .i64 (sAt B.shots i).lo) (.int .i64 (sAt B.shots i).hi)
        have KB : Ext v2 _ := below2 KA (by first | exact Nat.le_refl _ | exact Nat.le_succ _) (g := v2.heap.size) (.int .i64 (sAt B.shots j).lo) (.int .i64 (sAt B.shots j).hi)
        refine pl_one rfl (by rfl) (fun K hK => ?_)
        go_simp
        refine hK.out _ _ (HS.out _ KA) ?_
        clear hK K
        (try simp only [Act.put, List.setIfInBounds_toArray, List.set_cons_zero, List.set_cons_succ])
        refine pl_one rfl (by rfl) (fun K hK => ?_)
        go_simp
        refine hK.out _ _ (HS.out _ KB) ?_
        clear hK K
        refine pl_done ?_
        (try simp only [Act.put, List.setIfInBounds_toArray, List.set_cons_zero, List.set_cons_succ])
        go_wp2
        go_meet
        case rel => exact ⟨_, _, rfl, rfl, C1, C2, (E3.trans EV).trans KB⟩
    case rest =>
      obtain ⟨g1, g2, rfl, rfl, B1, B2, EC⟩ := hcut
      obtain ⟨u0, u1⟩ := B1.c2
      obtain ⟨u2, u3⟩ := B2.c2
      clear x0 x1 x2 x3 y0 y1 y2 y3 p2 p3 q2 q3
      go_wp2_with (go_at_call 25; refine (shot_any _ ((HG.out.ext E0).ext EC)).mono ?_; rintro e w5 ⟨rfl, hE5⟩)
      go_ret
      refine ⟨?_, E0.trans (EC.trans hE5)⟩
      show Ending.returned (Value.bool _) = _
      congr 2
      simp
      omega
end Go.Proofs.YtnhdcdhpfgdphaaDoor
