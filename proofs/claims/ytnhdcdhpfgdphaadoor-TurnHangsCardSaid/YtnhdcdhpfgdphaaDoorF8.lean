/-
  TurnHangs: the walk.
-/
import Derived.Test.YtnhdcdhpfgdphaaDoorP6
import Derived.Test.YtnhdcdhpfgdphaaDoorLX
import Derived.Test.YtnhdcdhpfgdphaaDoorL5
import Derived.Test.YtnhdcdhpfgdphaaDoorL7
set_option linter.unusedSimpArgs false
set_option linter.unusedVariables false
namespace Go.Proofs.YtnhdcdhpfgdphaaDoor
open Go Go.RowKit

set_option maxRecDepth 100000 in
set_option maxHeartbeats 1000000 in
theorem turnHangs_no (B : Bk) (a1 a2 a3 : Option Addr) (c1 c2 c3 : Nat) (n0 n1 : Int) (w : World) (h : BookA w B a1 a2 a3) (hG : Glob w) (hv : validB B = false) :
    Calls Tryd.prog 8 #[.agg #[.int .i64 B.comp, .slice a1 B.bounds.length c1, .slice a2 B.orders.length c2, .slice a3 B.shots.length c3], .agg #[.int .i64 n0, .int .i64 n1]] w
      fun e w' => e = .returned (.bool true) ∧ Ext w w' := by
  have HB := Lib.hid h
  have HG := Lib.hid hG
  clear h hG
  go_enter Tryd.func8, Tryd.ntmps8
  go_upto_region 1 with (fail)
  obtain ⟨W0, hW0⟩ : ∃ W0, W0 = (w.alloc (.cells #[.int .i64 B.comp, .slice a1 B.bounds.length c1, .slice a2 B.orders.length c2, .slice a3 B.shots.length c3] 26)).alloc (.cells #[.int .i64 n0, .int .i64 n1] 51) := ⟨_, rfl⟩
  have b0 : Blk W0 w.heap.size 26 #[.int .i64 B.comp, .slice a1 B.bounds.length c1, .slice a2 B.orders.length c2, .slice a3 B.shots.length c3] := by rw [hW0]; exact (Blk.new _ _ _).alloc _
  have m0 : Blk W0 (w.heap.size + 1) 51 #[.int .i64 n0, .int .i64 n1] := by rw [hW0]; have := Blk.new (w.alloc (.cells #[.int .i64 B.comp, .slice a1 B.bounds.length c1, .slice a2 B.orders.length c2, .slice a3 B.shots.length c3] 26)) 51 #[.int .i64 n0, .int .i64 n1]; simpa using this
  have E0 : Ext w W0 := by rw [hW0]; exact (Ext.alloc _ _).trans (Ext.alloc _ _)
  rw [← hW0]
  clear hW0
  obtain ⟨gN, hgN⟩ : ∃ g, g = w.heap.size + 1 := ⟨_, rfl⟩
  rw [← hgN] at m0 ⊢
  clear hgN
  obtain ⟨gB, hgB⟩ : ∃ g, g = w.heap.size := ⟨_, rfl⟩
  rw [← hgB] at b0 ⊢
  clear hgB
  obtain ⟨x0, x1, x2, x3⟩ := b0.c4
  go_wp2_with (first | (go_at_call 36; refine (sound_no B a1 a2 a3 c1 c2 c3 _ (HB.out.ext E0) hv).mono ?_; rintro e w1 ⟨rfl, hE1⟩) | (go_at_call 25; refine (shot_any _ (HG.out.ext (E0.trans hE1))).mono ?_; rintro e w2 ⟨rfl, hE2⟩))
  go_ret
  exact ⟨rfl, E0.trans (hE1.trans hE2)⟩
set_option maxRecDepth 100000 in
set_option maxHeartbeats 1000000 in
theorem turnHangs_bare (B : Bk) (a1 a2 a3 : Option Addr) (c1 c2 c3 : Nat) (n0 n1 : Int) (w : World) (h : BookA w B a1 a2 a3) (hG : Glob w) (hv : validB B = true) (hn : B.shots.length = 0) :
    Calls Tryd.prog 8 #[.agg #[.int .i64 B.comp, .slice a1 B.bounds.length c1, .slice a2 B.orders.length c2, .slice a3 B.shots.length c3], .agg #[.int .i64 n0, .int .i64 n1]] w
      fun e w' => e = .returned (.bool true) ∧ Ext w w' := by
  have hle : B.shots.length ≤ 0 := by omega
  have hz : ((B.shots.length : Int) == 0) = true := by rw [beq_iff_eq]; omega
  clear hn
  have HB := Lib.hid h
  have HG := Lib.hid hG
  clear h hG
  go_enter Tryd.func8, Tryd.ntmps8
  go_upto_region 1 with (fail)
  obtain ⟨W0, hW0⟩ : ∃ W0, W0 = (w.alloc (.cells #[.int .i64 B.comp, .slice a1 B.bounds.length c1, .slice a2 B.orders.length c2, .slice a3 B.shots.length c3] 26)).alloc (.cells #[.int .i64 n0, .int .i64 n1] 51) := ⟨_, rfl⟩
  have b0 : Blk W0 w.heap.size 26 #[.int .i64 B.comp, .slice a1 B.bounds.length c1, .slice a2 B.orders.length c2, .slice a3 B.shots.length c3] := by rw [hW0]; exact (Blk.new _ _ _).alloc _
  have m0 : Blk W0 (w.heap.size + 1) 51 #[.int .i64 n0, .int .i64 n1] := by rw [hW0]; have := Blk.new (w.alloc (.cells #[.int .i64 B.comp, .slice a1 B.bounds.length c1, .slice a2 B.orders.length c2, .slice a3 B.shots.length c3] 26)) 51 #[.int .i64 n0, .int .i64 n1]; simpa using this
  have E0 : Ext w W0 := by rw [hW0]; exact (Ext.alloc _ _).trans (Ext.alloc _ _)
  rw [← hW0]
  clear hW0
  obtain ⟨gN, hgN⟩ : ∃ g, g = w.heap.size + 1 := ⟨_, rfl⟩
  rw [← hgN] at m0 ⊢
  clear hgN
  obtain ⟨gB, hgB⟩ : ∃ g, g = w.heap.size := ⟨_, rfl⟩
  rw [← hgB] at b0 ⊢
  clear hgB
  obtain ⟨x0, x1, x2, x3⟩ := b0.c4
  go_wp2_with (first | (go_at_call 36; refine (sound_yes B a1 a2 a3 c1 c2 c3 _ (HB.out.ext E0) hv).mono ?_; rintro e w1 ⟨rfl, hE1⟩; clear x0 x1 x2 x3; obtain ⟨x0, x1, x2, x3⟩ := (b0.ext hE1).c4) | (go_at_call 25; refine (shot_any _ (HG.out.ext (E0.trans hE1))).mono ?_; rintro e w2 ⟨rfl, hE2⟩))
  go_ret
  exact ⟨rfl, E0.trans (hE1.trans hE2)⟩
set_option maxRecDepth 100000 in
set_option maxHeartbeats 4000000 in
theorem turnHangs_yes (B : Bk) (a1 a2 a3 : Option Addr) (c1 c2 c3 : Nat) (n0 n1 : Int) (w : World) (h : BookA w B a1 a2 a3) (hG : Glob w) (hv : validB B = true) (hn : 0 < B.shots.length)
    (k0 : -9223372036854775808 ≤ n0 ∧ n0 ≤ 9223372036854775807) (k1 : -9223372036854775808 ≤ n1 ∧ n1 ≤ 9223372036854775807) :
    Calls Tryd.prog 8 #[.agg #[.int .i64 B.comp, .slice a1 B.bounds.length c1, .slice a2 B.orders.length c2, .slice a3 B.shots.length c3], .agg #[.int .i64 n0, .int .i64 n1]] w
      fun e w' => e = .returned (.bool true) ∧ Ext w w' := by
  obtain ⟨z1, z2, z3, z4, z5, z6⟩ := valid_sizes hv
  obtain ⟨k, hke⟩ : ∃ k : Nat, wheelZ n0 B.shots.length = k := ⟨(wheelZ n0 B.shots.length).toNat, by have := wheelZ_in n0 B.shots.length (by omega); omega⟩
  have hkl : k < B.shots.length := by have := wheelZ_in n0 B.shots.length (by omega); omega
  have Hke := Lib.hid hke
  clear hke
  have HB := Lib.hid h
  have HG := Lib.hid hG
  clear h hG
  go_enter Tryd.func8, Tryd.ntmps8
  go_upto_region 1 with (fail)
  obtain ⟨W0, hW0⟩ : ∃ W0, W0 = (w.alloc (.cells #[.int .i64 B.comp, .slice a1 B.bounds.length c1, .slice a2 B.orders.length c2, .slice a3 B.shots.length c3] 26)).alloc (.cells #[.int .i64 n0, .int .i64 n1] 51) := ⟨_, rfl⟩
  have b0 : Blk W0 w.heap.size 26 #[.int .i64 B.comp, .slice a1 B.bounds.length c1, .slice a2 B.orders.length c2, .slice a3 B.shots.length c3] := by rw [hW0]; exact (Blk.new _ _ _).alloc _
  have m0 : Blk W0 (w.heap.size + 1) 51 #[.int .i64 n0, .int .i64 n1] := by rw [hW0]; have := Blk.new (w.alloc (.cells #[.int .i64 B.comp, .slice a1 B.bounds.length c1, .slice a2 B.orders.length c2, .slice a3 B.shots.length c3] 26)) 51 #[.int .i64 n0, .int .i64 n1]; simpa using this
  have E0 : Ext w W0 := by rw [hW0]; exact (Ext.alloc _ _).trans (Ext.alloc _ _)
  rw [← hW0]
  clear hW0
  obtain ⟨gN, hgN⟩ : ∃ g, g = w.heap.size + 1 := ⟨_, rfl⟩
  rw [← hgN] at m0 ⊢
  clear hgN
  obtain ⟨gB, hgB⟩ : ∃ g, g = w.heap.size := ⟨_, rfl⟩
  rw [← hgB] at b0 ⊢
  clear hgB
  obtain ⟨x0, x1, x2, x3⟩ := b0.c4
  have hnz : ((B.shots.length : Int) == 0) = false := by rw [beq_eq_false_iff_ne]; omega
  go_upto_region 3 with (go_at_call 36; refine (sound_yes B a1 a2 a3 c1 c2 c3 _ (HB.out.ext E0) hv).mono ?_; rintro e w1 ⟨rfl, hE1⟩; clear x0 x1 x2 x3; obtain ⟨x0, x1, x2, x3⟩ := (b0.ext hE1).c4)
  obtain ⟨y0, y1⟩ := (m0.ext hE1).c2
  go_upto_region 4 with (go_at_call 37; refine (wheel_any _ _ _ k0 (by omega)).mono ?_; rintro e w2 ⟨rfl, rfl⟩)
  rw [Hke.out]
  have b1 := b0.ext hE1
  have m1 := m0.ext hE1
  have HB1 := Lib.hid ((HB.out.ext E0).ext hE1)
  have HG1 := Lib.hid ((HG.out.ext E0).ext hE1)
  have EW := E0.trans hE1
  clear x0 x1 x2 x3 y0 y1 b0 m0 HB HG hE1 E0 Hke k0 hnz
  obtain ⟨r1, r2, r3, r4, v1, v2, v3, v4⟩ := valid_shot hv hkl
  obtain ⟨l1, l2⟩ := someZ_in n1 v2
  have hsa := fun W => some_any (sAt B.shots k).lo (sAt B.shots k).hi n1 W v1 v2 v3 k1
  obtain ⟨m, hm⟩ : ∃ m, someZ (sAt B.shots k).lo (sAt B.shots k).hi n1 = m := ⟨_, rfl⟩
  rw [hm] at l1 l2
  simp only [hm] at hsa
  have Hsa := Lib.hid hsa
  have HT := Lib.hid (only_tight hv hkl l1 l2)
  have hlaw := hangs_law hv hkl l1 l2
  have hsx : sAt (onlyB B k m).shots k = atX (sAt B.shots k) m := by rw [onlyB, sAt_set _ hkl, if_pos rfl]
  have Hsx := Lib.hid hsx
  have Hlaw := Lib.hid hlaw
  clear hsa hm l1 l2 hsx hlaw r1 r2 r3 r4 v1 v2 v3 v4
  obtain ⟨b, o, rfl, hbl, hc⟩ := HB1.out.shots (by omega)
  obtain ⟨-, -, q0, q1⟩ := hc k hkl
  have HS := Lib.hid (fun W (hW : Ext w1 W) => (⟨(b1.ext hW).c4, (m1.ext hW).c2, hW.keep q0, hW.keep q1⟩ : ((W.cell? ⟨gB, 0, none⟩ = some (.int .i64 B.comp) ∧ W.cell? ⟨gB, 1, none⟩ = some (.slice a1 B.bounds.length c1) ∧ W.cell? ⟨gB, 2, none⟩ = some (.slice a2 B.orders.length c2) ∧ W.cell? ⟨gB, 3, none⟩ = some (.slice (some ⟨b, o, none⟩) B.shots.length c3)) ∧ (W.cell? ⟨gN, 0, none⟩ = some (.int .i64 n0) ∧ W.cell? ⟨gN, 1, none⟩ = some (.int .i64 n1)) ∧ (W.cell? ⟨b, o + k * 4 + 2, none⟩ = some (.int .i64 (sAt B.shots k).lo) ∧ W.cell? ⟨b, o + k * 4 + 2 + 1, none⟩ = some (.int .i64 (sAt B.shots k).hi)))))
  clear q0 q1 hc
  refine wp_plan (fun W => ((W.cell? ⟨gB, 0, none⟩ = some (.int .i64 B.comp) ∧ W.cell? ⟨gB, 1, none⟩ = some (.slice a1 B.bounds.length c1) ∧ W.cell? ⟨gB, 2, none⟩ = some (.slice a2 B.orders.length c2) ∧ W.cell? ⟨gB, 3, none⟩ = some (.slice (some ⟨b, o, none⟩) B.shots.length c3)) ∧ (W.cell? ⟨gN, 0, none⟩ = some (.int .i64 n0) ∧ W.cell? ⟨gN, 1, none⟩ = some (.int .i64 n1)) ∧ (W.cell? ⟨b, o + k * 4 + 2, none⟩ = some (.int .i64 (sAt B.shots k).lo) ∧ W.cell? ⟨b, o + k * 4 + 2 + 1, none⟩ = some (.int .i64 (sAt B.shots k).hi)))) (.tames [0, 1, 2, 3, 4, 5, 6, 7] (.one 8 (.tames [9] (.done)))) (by kernel_rfl) (by kernel_rfl) (by kernel_rfl) (fun c a d v w h => by cases d <;> exact h) ?_ ?_
  · exact HS.out _ (Ext.drew _)
  refine pl_tames ?_
  (try simp only [Act.put, List.setIfInBounds_toArray, List.set_cons_zero, List.set_cons_succ])
  repeat (first
    | (refine pl_run (v := ?_) rfl ?_ (fun W hW => ?_) ?_; rotate_left; rfl; ((try dsimp only at hW); go_simp; try with_reducible rfl); (try simp only [Act.put, List.setIfInBounds_toArray, List.set_cons_zero, List.set_cons_succ]))
    | (refine pl_skip rfl ?_ ?_; rfl; (try simp only [Act.put, List.setIfInBounds_toArray, List.set_cons_zero, List.set_cons_succ])))
  refine pl_end ?_
  refine pl_one rfl (by rfl) (fun K hK => ?_)
  go_simp
  (go_at_call 42; refine (Hsa.out _).mono ?_; rintro e w3 ⟨rfl, hE3⟩)
  refine hK.out _ _ (HS.out _ ((Ext.drew _).trans hE3)) ?_
  clear hK K
  (try refine pl_tames ?_)
  (try simp only [Act.put, List.setIfInBounds_toArray, List.set_cons_zero, List.set_cons_succ])
  try ((repeat (first   | (refine pl_run (v := ?_) rfl ?_ (fun W hW => ?_) ?_; rotate_left; rfl; ((try dsimp only at hW); go_simp; try with_reducible rfl); (try simp only [Act.put, List.setIfInBounds_toArray, List.set_cons_zero, List.set_cons_succ]))   | (refine pl_skip rfl ?_ ?_; rfl; (try simp only [Act.put, List.setIfInBounds_toArray, List.set_cons_zero, List.set_cons_succ])))); refine pl_end ?_)
  refine pl_done ?_
  (try simp only [Act.put])
  have X3 := (Ext.drew w1).trans hE3
  clear HS
  obtain ⟨x0, x1, x2, x3⟩ := (b1.ext X3).c4
  go_upto_region 6 with (go_at_call 47; refine (only_any B a1 a2 _ c1 c2 c3 k m _ (HB1.out.ext X3) hkl (by omega)).mono ?_; rintro e w4 ⟨⟨ao, co, rfl, hBo⟩, hE4⟩)
  obtain ⟨W5, hW5⟩ : ∃ W5, W5 = w4.alloc (.cells #[.int .i64 B.comp, .slice a1 B.bounds.length c1, .slice a2 B.orders.length c2, .slice ao B.shots.length co] 26) := ⟨_, rfl⟩
  have X5 : Ext w1 W5 := by rw [hW5]; exact (X3.trans hE4).trans (Ext.alloc _ _)
  have y5 : Blk W5 w4.heap.size 26 #[.int .i64 B.comp, .slice a1 B.bounds.length c1, .slice a2 B.orders.length c2, .slice ao B.shots.length co] := by rw [hW5]; exact Blk.new _ _ _
  have hB5 := Lib.hid (hBo.ext (show Ext w4 W5 by rw [hW5]; exact Ext.alloc _ _))
  rw [← hW5]
  clear hW5 x0 x1 x2 x3 hBo
  obtain ⟨gX, hgX⟩ : ∃ g, g = w4.heap.size := ⟨_, rfl⟩
  rw [← hgX] at y5 ⊢
  clear hgX
  have HFx := Lib.hid (fun W (hW : Ext W5 W) => fair_as HT.out a1 a2 ao c1 c2 co k W (hB5.out.ext hW) (HG1.out.ext (X5.trans hW)) hkl)
  have hHx := fun W (hW : Ext W5 W) => hangs_as HT.out a1 a2 ao c1 c2 co k W (hB5.out.ext hW) (HG1.out.ext (X5.trans hW)) hkl
  have hHb := fun W (hW : Ext W5 W) => hangs_yes B a1 a2 (some ⟨b, o, none⟩) c1 c2 c3 k W (HB1.out.ext (X5.trans hW)) (HG1.out.ext (X5.trans hW)) hv hkl
  have hmr := hangsI_rises B (sAt B.shots k) B.bounds.length
  have hml := hangsI_len B (sAt B.shots k) B.bounds.length
  have hlaw := Hlaw.out
  have hFx := HFx.out
  rw [Hsx.out] at hHx hFx
  obtain ⟨M, hM⟩ : ∃ M, hangsI B (sAt B.shots k) B.bounds.length = M := ⟨_, rfl⟩
  obtain ⟨L, hL⟩ : ∃ L, hangsI (onlyB B k m) (atX (sAt B.shots k) m) B.bounds.length = L := ⟨_, rfl⟩
  obtain ⟨kd, hkd⟩ : ∃ kd, fairN (onlyB B k m) (atX (sAt B.shots k) m) = kd := ⟨_, rfl⟩
  simp only [hM] at hHb
  simp only [hL] at hHx
  simp only [hkd] at hFx
  rw [hL, hkd, hM] at hlaw
  rw [hM] at hmr hml
  have HHx := Lib.hid hHx
  have HHb := Lib.hid hHb
  have HFx2 := Lib.hid hFx
  have Hlaw2 := Lib.hid hlaw
  have hri := fun a cp W (hI : IntA W a M) => rises_any a M cp B.bounds.length W hI (by omega) (by omega)
  simp only [hmr] at hri
  have Hri := Lib.hid hri
  have hEB : hangsI B (sAt B.shots k) B.bounds.length = M := hM
  clear hFx hHx hHb hM hL hkd hlaw HFx Hlaw hri hmr hEB
  obtain ⟨s0, s1, s2, s3⟩ := y5.c4
  go_upto_region 7 with (go_at_call 26; refine (HFx2.out _ (Ext.refl _)).mono ?_; rintro e w6 ⟨rfl, hE6⟩)
  clear s0 s1 s2 s3
  obtain ⟨s0, s1, s2, s3⟩ := (y5.ext hE6).c4
  go_upto_region 8 with (go_at_call 28; refine (HHx.out _ hE6).mono ?_; rintro e w7 ⟨⟨aL, cL, rfl, hIL⟩, hE7⟩)
  clear s0 s1 s2 s3
  have HIL := Lib.hid hIL
  clear hIL
  obtain ⟨x0, x1, x2, x3⟩ := (b1.ext (X5.trans (hE6.trans hE7))).c4
  go_upto_region 9 with (go_at_call 28; refine (HHb.out _ (hE6.trans hE7)).mono ?_; rintro e w8 ⟨⟨aM, cM, rfl, hIM⟩, hE8⟩)
  clear x0 x1 x2 x3
  have HIM := Lib.hid hIM
  have E58 := (hE6.trans hE7).trans hE8
  clear hIM
  obtain ⟨x0, x1, x2, x3⟩ := (b1.ext (X5.trans E58)).c4
  rcases Hlaw2.out with ⟨hk1, rfl⟩ | ⟨rfl, p, hp, hp1, hp2, rfl, hp3, hp4⟩
  · have hk2 : (kd == 1) = false := by simpa using hk1
    clear hk1 Hlaw2
    go_wp2_with (first | (go_at_call 40; refine (Hri.out _ _ _ HIM.out).mono ?_; rintro e w9 ⟨rfl, rfl⟩) | (go_at_call 25; refine (shot_any _ (HG1.out.ext (X5.trans E58))).mono ?_; rintro e w10 ⟨rfl, hE10⟩))
    go_ret
    exact ⟨rfl, EW.trans ((X5.trans E58).trans hE10)⟩
  · have hpa := fun W hI => place_any aM M cM (p : Int) W hI (by omega)
    obtain ⟨pl, hpl⟩ : ∃ pl, placeL M (p : Int) = pl := ⟨_, rfl⟩
    rw [hpl] at hp3
    simp only [hpl] at hpa
    have Hpa := Lib.hid hpa
    have Hp4 := Lib.hid hp4
    clear Hlaw2 hpa hpl hp4 HHx HHb HFx2
    obtain ⟨b3, o3, rfl, hb3, hc3⟩ := HIL.out (by simp)
    have q3 : w8.cell? ⟨b3, o3, none⟩ = some (.int .i64 p) := by have := hE8.keep (hc3 0 (by simp)); simpa [nAt] using this
    clear hc3
    rw [show ([(p : Int)] : List Int).length = 1 from rfl]
    go_upto_region 16 with (first | (go_at_call 40; refine (Hri.out _ _ _ HIM.out).mono ?_; rintro e w9 ⟨rfl, rfl⟩) | (go_at_call 41; refine (Hpa.out _ HIM.out).mono ?_; rintro e w9 ⟨rfl, rfl⟩))
    clear q3 x0 x1 x2 x3 HIM Hri Hpa HIL
    have X8 := X5.trans E58
    have hX := HT.out.valid
    have hpv := valid_bound hv hp
    have hkn := fun v (i1 : bLo B.bounds p ≤ v) (i2 : v ≤ bHi B.bounds p) => (known_tight (B := onlyB B k m) hX (k := p) hp (m := v) i1 i2).trans HT.out
    have T1 := Lib.hid (hkn _ (Int.le_refl _) hpv.2.1)
    have T2 := Lib.hid (hkn _ hpv.2.1 (Int.le_refl _))
    have hf1 := fun W ak ck (hK : BookA W (knownB (onlyB B k m) p (bLo B.bounds p)) ak a2 ao) hG => fair_as T1.out ak a2 ao ck c2 co k W hK hG hkl
    have hf2 := fun W ak ck (hK : BookA W (knownB (onlyB B k m) p (bHi B.bounds p)) ak a2 ao) hG => fair_as T2.out ak a2 ao ck c2 co k W hK hG hkl
    have hs1 : ∀ v, sAt (knownB (onlyB B k m) p v).shots k = atX (sAt B.shots k) m := fun v => Hsx.out
    simp only [hs1] at hf1 hf2
    have hp4 := Hp4.out
    obtain ⟨f1, hf1e⟩ : ∃ f, fairN (knownB (onlyB B k m) p (bLo B.bounds p)) (atX (sAt B.shots k) m) = f := ⟨_, rfl⟩
    obtain ⟨f2, hf2e⟩ : ∃ f, fairN (knownB (onlyB B k m) p (bHi B.bounds p)) (atX (sAt B.shots k) m) = f := ⟨_, rfl⟩
    simp only [hf1e] at hf1
    simp only [hf2e] at hf2
    rw [hf1e, hf2e] at hp4
    have Hf1 := Lib.hid hf1
    have Hf2 := Lib.hid hf2
    have Hp5 := Lib.hid hp4
    clear Hp4 hf1 hf2 hf1e hf2e hs1 hp4 hkn hpv hX Hsx
    have HKn := Lib.hid (fun v W (hW : Ext W5 W) => known_as HT.out a1 a2 ao c1 c2 co p v W (hB5.out.ext hW) hp (by omega))
    obtain ⟨b2, o2, rfl, hb2, hc2⟩ := HB1.out.bounds (by omega)
    obtain ⟨q0, q1⟩ := hc2 p hp
    have HS := Lib.hid (fun W (hW : Ext W5 W) => (⟨(b1.ext (X5.trans hW)).c4, (y5.ext hW).c4, (X5.trans hW).keep q0, (X5.trans hW).keep q1⟩ : ((W.cell? ⟨gB, 0, none⟩ = some (.int .i64 B.comp) ∧ W.cell? ⟨gB, 1, none⟩ = some (.slice (some ⟨b2, o2, none⟩) B.bounds.length c1) ∧ W.cell? ⟨gB, 2, none⟩ = some (.slice a2 B.orders.length c2) ∧ W.cell? ⟨gB, 3, none⟩ = some (.slice (some ⟨b, o, none⟩) B.shots.length c3)) ∧ (W.cell? ⟨gX, 0, none⟩ = some (.int .i64 B.comp) ∧ W.cell? ⟨gX, 1, none⟩ = some (.slice (some ⟨b2, o2, none⟩) B.bounds.length c1) ∧ W.cell? ⟨gX, 2, none⟩ = some (.slice a2 B.orders.length c2) ∧ W.cell? ⟨gX, 3, none⟩ = some (.slice ao B.shots.length co)) ∧ (W.cell? ⟨b2, o2 + p * 2, none⟩ = some (.int .i64 (bLo B.bounds p)) ∧ W.cell? ⟨b2, o2 + p * 2 + 1, none⟩ = some (.int .i64 (bHi B.bounds p))))))
    clear q0 q1 hc2
    refine wp_plan (fun W => ((W.cell? ⟨gB, 0, none⟩ = some (.int .i64 B.comp) ∧ W.cell? ⟨gB, 1, none⟩ = some (.slice (some ⟨b2, o2, none⟩) B.bounds.length c1) ∧ W.cell? ⟨gB, 2, none⟩ = some (.slice a2 B.orders.length c2) ∧ W.cell? ⟨gB, 3, none⟩ = some (.slice (some ⟨b, o, none⟩) B.shots.length c3)) ∧ (W.cell? ⟨gX, 0, none⟩ = some (.int .i64 B.comp) ∧ W.cell? ⟨gX, 1, none⟩ = some (.slice (some ⟨b2, o2, none⟩) B.bounds.length c1) ∧ W.cell? ⟨gX, 2, none⟩ = some (.slice a2 B.orders.length c2) ∧ W.cell? ⟨gX, 3, none⟩ = some (.slice ao B.shots.length co)) ∧ (W.cell? ⟨b2, o2 + p * 2, none⟩ = some (.int .i64 (bLo B.bounds p)) ∧ W.cell? ⟨b2, o2 + p * 2 + 1, none⟩ = some (.int .i64 (bHi B.bounds p))))) (.tames [0, 1, 2, 3, 4, 5, 6, 7, 9] (.one 8 (.one 10 (.tames [11, 12, 13, 14, 15] (.done))))) (by kernel_rfl) (by kernel_rfl) (by kernel_rfl) (fun c a d v w h => by cases d <;> exact h) ?_ ?_
    · exact HS.out _ (E58.trans (Ext.drew _))
    refine pl_tames ?_
    (try simp only [Act.put, List.setIfInBounds_toArray, List.set_cons_zero, List.set_cons_succ])
    repeat (first
      | (refine pl_run (v := ?_) rfl ?_ (fun W hW => ?_) ?_; rotate_left; rfl; ((try dsimp only at hW); go_simp; try with_reducible rfl); (try simp only [Act.put, List.setIfInBounds_toArray, List.set_cons_zero, List.set_cons_succ]))
      | (refine pl_skip rfl ?_ ?_; rfl; (try simp only [Act.put, List.setIfInBounds_toArray, List.set_cons_zero, List.set_cons_succ])))
    refine pl_end ?_
    refine pl_one rfl (by rfl) (fun K hK => ?_)
    go_simp
    (go_at_call 48; refine (HKn.out _ _ (E58.trans (Ext.drew _))).mono ?_; rintro e w10 ⟨⟨ak, ck, rfl, hK1⟩, hE10⟩)
    refine hK.out _ _ (HS.out _ ((E58.trans (Ext.drew _)).trans hE10)) ?_
    clear hK K
    (try refine pl_tames ?_)
    (try simp only [Act.put, List.setIfInBounds_toArray, List.set_cons_zero, List.set_cons_succ])
    try ((repeat (first   | (refine pl_run (v := ?_) rfl ?_ (fun W hW => ?_) ?_; rotate_left; rfl; ((try dsimp only at hW); go_simp; try with_reducible rfl); (try simp only [Act.put, List.setIfInBounds_toArray, List.set_cons_zero, List.set_cons_succ]))   | (refine pl_skip rfl ?_ ?_; rfl; (try simp only [Act.put, List.setIfInBounds_toArray, List.set_cons_zero, List.set_cons_succ])))); refine pl_end ?_)
    refine pl_one rfl (by rfl) (fun K hK => ?_)
    go_simp
    (go_at_call 26; refine (Hf1.out _ _ _ hK1 (HG1.out.ext (X5.trans ((E58.trans (Ext.drew _)).trans hE10)))).mono ?_; rintro e w11 ⟨rfl, hE11⟩)
    refine hK.out _ _ (HS.out _ (((E58.trans (Ext.drew _)).trans hE10).trans hE11)) ?_
    clear hK K
    (try refine pl_tames ?_)
    (try simp only [Act.put, List.setIfInBounds_toArray, List.set_cons_zero, List.set_cons_succ])
    try ((repeat (first   | (refine pl_run (v := ?_) rfl ?_ (fun W hW => ?_) ?_; rotate_left; rfl; ((try dsimp only at hW); go_simp; try with_reducible rfl); (try simp only [Act.put, List.setIfInBounds_toArray, List.set_cons_zero, List.set_cons_succ]))   | (refine pl_skip rfl ?_ ?_; rfl; (try simp only [Act.put, List.setIfInBounds_toArray, List.set_cons_zero, List.set_cons_succ])))); refine pl_end ?_)
    refine pl_done ?_
    (try simp only [Act.put])
    have E511 := ((E58.trans (Ext.drew _)).trans hE10).trans hE11
    go_upto_region 17 with (fail)
    refine wp_plan (fun W => ((W.cell? ⟨gB, 0, none⟩ = some (.int .i64 B.comp) ∧ W.cell? ⟨gB, 1, none⟩ = some (.slice (some ⟨b2, o2, none⟩) B.bounds.length c1) ∧ W.cell? ⟨gB, 2, none⟩ = some (.slice a2 B.orders.length c2) ∧ W.cell? ⟨gB, 3, none⟩ = some (.slice (some ⟨b, o, none⟩) B.shots.length c3)) ∧ (W.cell? ⟨gX, 0, none⟩ = some (.int .i64 B.comp) ∧ W.cell? ⟨gX, 1, none⟩ = some (.slice (some ⟨b2, o2, none⟩) B.bounds.length c1) ∧ W.cell? ⟨gX, 2, none⟩ = some (.slice a2 B.orders.length c2) ∧ W.cell? ⟨gX, 3, none⟩ = some (.slice ao B.shots.length co)) ∧ (W.cell? ⟨b2, o2 + p * 2, none⟩ = some (.int .i64 (bLo B.bounds p)) ∧ W.cell? ⟨b2, o2 + p * 2 + 1, none⟩ = some (.int .i64 (bHi B.bounds p))))) (.tames [0, 1, 2, 3, 4, 5, 6, 7, 9] (.one 8 (.one 10 (.tames [11, 12, 13, 14, 15] (.done))))) (by kernel_rfl) (by kernel_rfl) (by kernel_rfl) (fun c a d v w h => by cases d <;> exact h) ?_ ?_
    · exact HS.out _ (E511.trans (Ext.drew _))
    refine pl_tames ?_
    (try simp only [Act.put, List.setIfInBounds_toArray, List.set_cons_zero, List.set_cons_succ])
    repeat (first
      | (refine pl_run (v := ?_) rfl ?_ (fun W hW => ?_) ?_; rotate_left; rfl; ((try dsimp only at hW); go_simp; try with_reducible rfl); (try simp only [Act.put, List.setIfInBounds_toArray, List.set_cons_zero, List.set_cons_succ]))
      | (refine pl_skip rfl ?_ ?_; rfl; (try simp only [Act.put, List.setIfInBounds_toArray, List.set_cons_zero, List.set_cons_succ])))
    refine pl_end ?_
    refine pl_one rfl (by rfl) (fun K hK => ?_)
    go_simp
    (go_at_call 48; refine (HKn.out _ _ (E511.trans (Ext.drew _))).mono ?_; rintro e w12 ⟨⟨ah, ch, rfl, hK2⟩, hE12⟩)
    refine hK.out _ _ (HS.out _ ((E511.trans (Ext.drew _)).trans hE12)) ?_
    clear hK K
    (try refine pl_tames ?_)
    (try simp only [Act.put, List.setIfInBounds_toArray, List.set_cons_zero, List.set_cons_succ])
    try ((repeat (first   | (refine pl_run (v := ?_) rfl ?_ (fun W hW => ?_) ?_; rotate_left; rfl; ((try dsimp only at hW); go_simp; try with_reducible rfl); (try simp only [Act.put, List.setIfInBounds_toArray, List.set_cons_zero, List.set_cons_succ]))   | (refine pl_skip rfl ?_ ?_; rfl; (try simp only [Act.put, List.setIfInBounds_toArray, List.set_cons_zero, List.set_cons_succ])))); refine pl_end ?_)
    refine pl_one rfl (by rfl) (fun K hK => ?_)
    go_simp
    (go_at_call 26; refine (Hf2.out _ _ _ hK2 (HG1.out.ext (X5.trans ((E511.trans (Ext.drew _)).trans hE12)))).mono ?_; rintro e w13 ⟨rfl, hE13⟩)
    refine hK.out _ _ (HS.out _ (((E511.trans (Ext.drew _)).trans hE12).trans hE13)) ?_
    clear hK K
    (try refine pl_tames ?_)
    (try simp only [Act.put, List.setIfInBounds_toArray, List.set_cons_zero, List.set_cons_succ])
    try ((repeat (first   | (refine pl_run (v := ?_) rfl ?_ (fun W hW => ?_) ?_; rotate_left; rfl; ((try dsimp only at hW); go_simp; try with_reducible rfl); (try simp only [Act.put, List.setIfInBounds_toArray, List.set_cons_zero, List.set_cons_succ]))   | (refine pl_skip rfl ?_ ?_; rfl; (try simp only [Act.put, List.setIfInBounds_toArray, List.set_cons_zero, List.set_cons_succ])))); refine pl_end ?_)
    refine pl_done ?_
    (try simp only [Act.put])
    have E513 := ((E511.trans (Ext.drew _)).trans hE12).trans hE13
    obtain ⟨⟨x0, x1, x2, x3⟩, -, q0, q1⟩ := HS.out _ E513
    clear HS hK1 hK2 HKn Hf1 Hf2
    rcases Hp5.out with ⟨rfl, rfl⟩ | ⟨rfl, rfl⟩
    · go_wp2_with (go_at_call 25; refine (shot_any _ (HG1.out.ext (X5.trans E513))).mono ?_; rintro e w14 ⟨rfl, hE14⟩)
      go_ret
      exact ⟨rfl, EW.trans ((X5.trans E513).trans hE14)⟩
    · go_wp2_with (go_at_call 25; refine (shot_any _ (HG1.out.ext (X5.trans E513))).mono ?_; rintro e w14 ⟨rfl, hE14⟩)
      go_ret
      exact ⟨rfl, EW.trans ((X5.trans E513).trans hE14)⟩
theorem turnHangs_walk (B : Bk) (a1 a2 a3 : Option Addr) (c1 c2 c3 : Nat) (n0 n1 : Int) (w : World) (h : BookA w B a1 a2 a3) (hG : Glob w)
    (k0 : -9223372036854775808 ≤ n0 ∧ n0 ≤ 9223372036854775807) (k1 : -9223372036854775808 ≤ n1 ∧ n1 ≤ 9223372036854775807) :
    Calls Tryd.prog 8 #[.agg #[.int .i64 B.comp, .slice a1 B.bounds.length c1, .slice a2 B.orders.length c2, .slice a3 B.shots.length c3], .agg #[.int .i64 n0, .int .i64 n1]] w
      fun e w' => e = .returned (.bool true) ∧ Ext w w' := by
  cases hv : validB B with
  | false => exact turnHangs_no B a1 a2 a3 c1 c2 c3 n0 n1 w h hG hv
  | true =>
    rcases Nat.eq_zero_or_pos B.shots.length with hn | hn
    · exact turnHangs_bare B a1 a2 a3 c1 c2 c3 n0 n1 w h hG hv hn
    · exact turnHangs_yes B a1 a2 a3 c1 c2 c3 n0 n1 w h hG hv hn k0 k1
end Go.Proofs.YtnhdcdhpfgdphaaDoor
