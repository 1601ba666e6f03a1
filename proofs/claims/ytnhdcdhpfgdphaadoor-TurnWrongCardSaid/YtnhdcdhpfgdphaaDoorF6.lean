/-
  TurnWrong: the walk.
-/
import Derived.Test.YtnhdcdhpfgdphaaDoorP4
import Derived.Test.YtnhdcdhpfgdphaaDoorLB
import Derived.Test.YtnhdcdhpfgdphaaDoorL5
import Derived.Test.YtnhdcdhpfgdphaaDoorL7
import Derived.Test.YtnhdcdhpfgdphaaDoorA1
set_option linter.unusedSimpArgs false
set_option linter.unusedVariables false
namespace Go.Proofs.YtnhdcdhpfgdphaaDoor
open Go Go.RowKit

theorem wrong_without (B : Bk) (l : List Int) (a1 a2 a3 : Option Addr) (c1 c2 c3 : Nat) (w : World) (h : BookA w (withoutB B l) a1 a2 a3) (hG : Glob w) (hv : validB B = true) :
    Calls Tryd.prog 32 #[.agg #[.int .i64 B.comp, .slice a1 B.bounds.length c1, .slice a2 B.orders.length c2, .slice a3 (withoutB B l).shots.length c3]] w
      fun e w' => (∃ a cp, e = .returned (.tuple #[.slice a (wrongL (withoutB B l)).length cp, .int .i64 0]) ∧ IntA w' a (wrongL (withoutB B l))) ∧ Ext w w' :=
  wrong_yes (withoutB B l) a1 a2 a3 c1 c2 c3 w h hG (without_valid hv l)

set_option maxRecDepth 100000 in
set_option maxHeartbeats 1000000 in
theorem turnWrong_no (B : Bk) (a1 a2 a3 : Option Addr) (c1 c2 c3 : Nat) (n0 : Int) (w : World) (h : BookA w B a1 a2 a3) (hG : Glob w) (hv : validB B = false) :
    Calls Tryd.prog 9 #[.agg #[.int .i64 B.comp, .slice a1 B.bounds.length c1, .slice a2 B.orders.length c2, .slice a3 B.shots.length c3], .int .i64 n0] w
      fun e w' => e = .returned (.bool true) ∧ Ext w w' := by
  have HB := Lib.hid h
  have HG := Lib.hid hG
  clear h hG
  go_enter Tryd.func9, Tryd.ntmps9
  go_upto_region 1 with (fail)
  obtain ⟨W0, hW0⟩ : ∃ W0, W0 = w.alloc (.cells #[.int .i64 B.comp, .slice a1 B.bounds.length c1, .slice a2 B.orders.length c2, .slice a3 B.shots.length c3] 26) := ⟨_, rfl⟩
  have b0 : Blk W0 w.heap.size 26 #[.int .i64 B.comp, .slice a1 B.bounds.length c1, .slice a2 B.orders.length c2, .slice a3 B.shots.length c3] := by rw [hW0]; exact Blk.new _ _ _
  have E0 : Ext w W0 := by rw [hW0]; exact Ext.alloc _ _
  rw [← hW0]
  clear hW0
  obtain ⟨gB, hgB⟩ : ∃ g, g = w.heap.size := ⟨_, rfl⟩
  rw [← hgB] at b0 ⊢
  clear hgB
  obtain ⟨x0, x1, x2, x3⟩ := b0.c4
  go_upto_region 2 with (go_at_call 32; refine (wrong_no B a1 a2 a3 c1 c2 c3 _ (HB.out.ext E0) (HG.out.ext E0) hv).mono ?_; rintro e w1 ⟨rfl, hE1⟩)
  clear x0 x1 x2 x3
  obtain ⟨x0, x1, x2, x3⟩ := (b0.ext hE1).c4
  go_wp2_with (first | (go_at_call 36; refine (sound_no B a1 a2 a3 c1 c2 c3 _ ((HB.out.ext E0).ext hE1) hv).mono ?_; rintro e w2 ⟨rfl, hE2⟩) | (go_at_call 25; refine (shot_any _ ((HG.out.ext E0).ext (hE1.trans hE2))).mono ?_; rintro e w3 ⟨rfl, hE3⟩))
  go_ret
  exact ⟨rfl, E0.trans ((hE1.trans hE2).trans hE3)⟩
set_option maxRecDepth 100000 in
set_option maxHeartbeats 2000000 in
theorem turnWrong_yes (B : Bk) (a1 a2 a3 : Option Addr) (c1 c2 c3 : Nat) (n0 : Int) (w : World) (h : BookA w B a1 a2 a3) (hG : Glob w) (hv : validB B = true) (k0 : -9223372036854775808 ≤ n0 ∧ n0 ≤ 9223372036854775807) :
    Calls Tryd.prog 9 #[.agg #[.int .i64 B.comp, .slice a1 B.bounds.length c1, .slice a2 B.orders.length c2, .slice a3 B.shots.length c3], .int .i64 n0] w
      fun e w' => e = .returned (.bool true) ∧ Ext w w' := by
  have hns := (valid_sizes hv).2.2.2.2.2
  have hwl := wrong_len B
  have hri := wrong_rises hv
  have hz := fun k (hk : k < B.shots.length) => wrong_zero hv (k := k) hk
  have hrest := wrong_rest hv
  obtain ⟨L, hL⟩ : ∃ L, wrongL B = L := ⟨_, rfl⟩
  have hWy := wrong_yes B a1 a2 a3 c1 c2 c3
  have hless := fun m (hm : m < 2 ^ B.shots.length) => wrong_less hv (m := m) hm
  rw [hL] at hwl hri hrest hWy
  simp only [hL] at hz hless
  have Hz := Lib.hid hz
  have Hless := Lib.hid hless
  have Hrest := Lib.hid hrest
  have HWy := Lib.hid hWy
  clear hz hless hrest hL hWy
  have HB := Lib.hid h
  have HG := Lib.hid hG
  clear h hG
  go_enter Tryd.func9, Tryd.ntmps9
  go_upto_region 1 with (fail)
  obtain ⟨W0, hW0⟩ : ∃ W0, W0 = w.alloc (.cells #[.int .i64 B.comp, .slice a1 B.bounds.length c1, .slice a2 B.orders.length c2, .slice a3 B.shots.length c3] 26) := ⟨_, rfl⟩
  have b0 : Blk W0 w.heap.size 26 #[.int .i64 B.comp, .slice a1 B.bounds.length c1, .slice a2 B.orders.length c2, .slice a3 B.shots.length c3] := by rw [hW0]; exact Blk.new _ _ _
  have E0 : Ext w W0 := by rw [hW0]; exact Ext.alloc _ _
  rw [← hW0]
  clear hW0
  obtain ⟨gB, hgB⟩ : ∃ g, g = w.heap.size := ⟨_, rfl⟩
  rw [← hgB] at b0 ⊢
  clear hgB
  obtain ⟨x0, x1, x2, x3⟩ := b0.c4
  go_upto_region 2 with (go_at_call 32; refine (HWy.out _ (HB.out.ext E0) (HG.out.ext E0) hv).mono ?_; rintro e w1 ⟨⟨aw, cw, rfl, hI⟩, hE1⟩)
  have HI := Lib.hid hI
  clear x0 x1 x2 x3 hI
  obtain ⟨x0, x1, x2, x3⟩ := (b0.ext hE1).c4
  go_upto_region 7 with (first | (go_at_call 36; refine (sound_yes B a1 a2 a3 c1 c2 c3 _ ((HB.out.ext E0).ext hE1) hv).mono ?_; rintro e w2 ⟨rfl, hE2⟩; obtain ⟨y0, y1, y2, y3⟩ := (b0.ext (hE1.trans hE2)).c4) | (go_at_call 40; refine (rises_any aw L cw B.shots.length _ (HI.out.ext hE2) (by omega) (by omega)).mono ?_; rintro e w3 ⟨rfl, rfl⟩))
  have X2 := hE1.trans hE2
  have HI2 := Lib.hid (HI.out.ext hE2)
  clear x0 x1 x2 x3 y0 y1 y2 y3 HI hri
  go_loopw [7] (fun i wr => ∃ k : Nat, k ≤ B.shots.length ∧ i = .int .i64 k ∧ Ext w2 wr) (fun i _ => B.shots.length - (intOf i).toNat)
  case atStart => exact ⟨0, Nat.zero_le _, rfl, Ext.refl _⟩
  case round =>
    obtain ⟨k, hk, rfl, hE⟩ := hrel
    have XR := X2.trans hE
    obtain ⟨x0, x1, x2, x3⟩ := (b0.ext XR).c4
    by_cases hlt : k < B.shots.length
    · have hzk := Hz.out k hlt
      have hfy := fair_yes B a1 a2 a3 c1 c2 c3 k wr ((HB.out.ext E0).ext XR) ((HG.out.ext E0).ext XR) hv hlt
      obtain ⟨kd, hkd⟩ : ∃ kd, fairN B (sAt B.shots k) = kd := ⟨_, rfl⟩
      rw [hkd] at hzk hfy
      have Hfy := Lib.hid hfy
      clear hfy hkd
      by_cases hk0 : kd = 0
      · subst hk0
        have hpl := hzk rfl
        have hpa := fun W (hW : Ext wr W) => place_any aw L cw (k : Int) W ((HI2.out.ext hE).ext hW) (by omega)
        obtain ⟨pl, hple⟩ : ∃ pl, placeL L (k : Int) = pl := ⟨_, rfl⟩
        rw [hple] at hpl hpa
        have Hpa := Lib.hid hpa
        clear hple hpa hzk
        go_wp2_with (first | (go_at_call 26; refine Hfy.out.mono ?_; rintro e w3 ⟨rfl, hE3⟩) | (go_at_call 41; refine (Hpa.out _ hE3).mono ?_; rintro e w4 ⟨rfl, rfl⟩))
        go_roundw
        case rel => exact ⟨k + 1, by omega, by go_num, hE.trans hE3⟩
        case measure => simp [intOf]; omega
      · have hk1 : (kd == 0) = false := by simpa using hk0
        clear hzk hk0
        go_wp2_with (go_at_call 26; refine Hfy.out.mono ?_; rintro e w3 ⟨rfl, hE3⟩)
        go_roundw
        case rel => exact ⟨k + 1, by omega, by go_num, hE.trans hE3⟩
        case measure => simp [intOf]; omega
    · obtain rfl : k = B.shots.length := by omega
      have hr0 : (wrongL (withoutB B L)).length = 0 := by rw [Hrest.out]; rfl
      go_upto_region 13 with (first | (go_at_call 49; refine (without_any B a1 a2 a3 aw c1 c2 c3 cw L _ ((HB.out.ext E0).ext XR) (HI2.out.ext hE) (by omega) hns).mono ?_; rintro e w3 ⟨⟨av, cv, rfl, hB3⟩, hE3⟩) | (go_at_call 32; refine (wrong_without B L a1 a2 av c1 c2 cv _ hB3 ((HG.out.ext E0).ext (XR.trans hE3)) hv).mono ?_; rintro e w4 ⟨⟨ar, cr, rfl, hIr⟩, hE4⟩))
      have X4 := XR.trans (hE3.trans hE4)
      have hp5 : (2 : Nat) ^ B.shots.length ≤ 2 ^ 5 := Nat.pow_le_pow_right (by decide) hns
      have hp1 : 0 < (2 : Nat) ^ B.shots.length := Nat.two_pow_pos _
      have hwp : IntKind.i64.wrap ((2 : Int) ^ B.shots.length) = ((2 ^ B.shots.length : Nat) : Int) := by
        have e : ((2 : Int) ^ B.shots.length) = ((2 ^ B.shots.length : Nat) : Int) := by rw [Int.natCast_pow]; rfl
        rw [e]
        exact wr64 _ (by omega)
      obtain ⟨m, hme⟩ : ∃ m : Nat, wheelZ n0 ((2 ^ B.shots.length : Nat) : Int) = m := ⟨(wheelZ n0 ((2 ^ B.shots.length : Nat) : Int)).toNat, by have := wheelZ_in n0 ((2 ^ B.shots.length : Nat) : Int) (by omega); omega⟩
      have hml : m < 2 ^ B.shots.length := by have := wheelZ_in n0 ((2 ^ B.shots.length : Nat) : Int) (by omega); omega
      have hwh := fun W => wheel_any n0 ((2 ^ B.shots.length : Nat) : Int) W k0 (by omega)
      rw [hme] at hwh
      rw [show ((2 ^ B.shots.length : Nat) : Int) = (2 : Int) ^ B.shots.length by rw [Int.natCast_pow]; rfl] at hwh
      have Hwh := Lib.hid hwh
      have Hle := Lib.hid (Hless.out m hml)
      have hm32 : m < 32 := by omega
      have HS := Lib.hid (fun W (hW : Ext w4 W) => ((b0.ext (X4.trans hW)).c4 : (W.cell? ⟨gB, 0, none⟩ = some (.int .i64 B.comp) ∧ W.cell? ⟨gB, 1, none⟩ = some (.slice a1 B.bounds.length c1) ∧ W.cell? ⟨gB, 2, none⟩ = some (.slice a2 B.orders.length c2) ∧ W.cell? ⟨gB, 3, none⟩ = some (.slice a3 B.shots.length c3))))
      clear x0 x1 x2 x3 hwh hme hml
      refine wp_plan (fun W => (W.cell? ⟨gB, 0, none⟩ = some (.int .i64 B.comp) ∧ W.cell? ⟨gB, 1, none⟩ = some (.slice a1 B.bounds.length c1) ∧ W.cell? ⟨gB, 2, none⟩ = some (.slice a2 B.orders.length c2) ∧ W.cell? ⟨gB, 3, none⟩ = some (.slice a3 B.shots.length c3))) (.tames [0, 1, 2, 3, 4, 6, 7, 8] (.one 5 (.one 9 (.tames [10] (.done))))) (by kernel_rfl) (by kernel_rfl) (by kernel_rfl) (fun c a d v w h => by cases d <;> exact h) ?_ ?_
      · exact HS.out _ (Ext.drew _)
      refine pl_tames ?_
      (try simp only [Act.put, List.setIfInBounds_toArray, List.set_cons_zero, List.set_cons_succ])
      repeat (first
        | (refine pl_run (v := ?_) rfl ?_ (fun W hW => ?_) ?_; rotate_left; rfl; ((try dsimp only at hW); go_simp; try with_reducible rfl); (try simp only [Act.put, List.setIfInBounds_toArray, List.set_cons_zero, List.set_cons_succ]))
        | (refine pl_skip rfl ?_ ?_; rfl; (try simp only [Act.put, List.setIfInBounds_toArray, List.set_cons_zero, List.set_cons_succ])))
      refine pl_end ?_
      refine pl_one rfl (by rfl) (fun K hK => ?_)
      go_simp
      (go_at_call 37; refine (Hwh.out _).mono ?_; rintro e w5 ⟨rfl, rfl⟩)
      refine hK.out _ _ (HS.out _ (Ext.drew _)) ?_
      clear hK K
      (try refine pl_tames ?_)
      (try simp only [Act.put, List.setIfInBounds_toArray, List.set_cons_zero, List.set_cons_succ])
      try ((repeat (first   | (refine pl_run (v := ?_) rfl ?_ (fun W hW => ?_) ?_; rotate_left; rfl; ((try dsimp only at hW); go_simp; try with_reducible rfl); (try simp only [Act.put, List.setIfInBounds_toArray, List.set_cons_zero, List.set_cons_succ]))   | (refine pl_skip rfl ?_ ?_; rfl; (try simp only [Act.put, List.setIfInBounds_toArray, List.set_cons_zero, List.set_cons_succ])))); refine pl_end ?_)
      refine pl_one rfl (by rfl) (fun K hK => ?_)
      go_simp
      (go_at_call 50; refine (bits_any m B.shots.length hm32 hns _).mono ?_; rintro e w6 ⟨⟨ao, co, rfl, hIo⟩, hE6⟩)
      refine hK.out _ _ (HS.out _ ((Ext.drew w4).trans hE6)) ?_
      clear hK K
      (try refine pl_tames ?_)
      (try simp only [Act.put, List.setIfInBounds_toArray, List.set_cons_zero, List.set_cons_succ])
      try ((repeat (first   | (refine pl_run (v := ?_) rfl ?_ (fun W hW => ?_) ?_; rotate_left; rfl; ((try dsimp only at hW); go_simp; try with_reducible rfl); (try simp only [Act.put, List.setIfInBounds_toArray, List.set_cons_zero, List.set_cons_succ]))   | (refine pl_skip rfl ?_ ?_; rfl; (try simp only [Act.put, List.setIfInBounds_toArray, List.set_cons_zero, List.set_cons_succ])))); refine pl_end ?_)
      refine pl_done ?_
      (try simp only [Act.put])
      have X6 := X4.trans ((Ext.drew w4).trans hE6)
      have hol := outK_len m B.shots.length
      obtain ⟨x0, x1, x2, x3⟩ := b0.ext X6 |>.c4
      have HIo := Lib.hid hIo
      clear HS hIo
      obtain ⟨O, hO⟩ : ∃ O, outK m B.shots.length = O := ⟨_, rfl⟩
      rw [hO] at Hle HIo hol ⊢
      clear hO hwp hp5 hp1
      go_upto_region 15 with (first | (go_at_call 49; refine (without_any B a1 a2 a3 ao c1 c2 c3 co O _ ((HB.out.ext E0).ext X6) HIo.out (by omega) hns).mono ?_; rintro e w7 ⟨⟨av7, cv7, rfl, hB7⟩, hE7⟩) | (go_at_call 32; refine (wrong_without B O a1 a2 av7 c1 c2 cv7 _ hB7 ((HG.out.ext E0).ext (X6.trans hE7)) hv).mono ?_; rintro e w8 ⟨⟨a8, c8, rfl, hI8⟩, hE8⟩))
      have X8 := X6.trans (hE7.trans hE8)
      have EF := hE7.trans hE8
      have EW := hE.trans (hE3.trans (hE4.trans ((Ext.drew w4).trans (hE6.trans EF))))
      clear x0 x1 x2 x3 hI8 hB7
      have hfw := fun W hI hI' => fewerL_any ao aw O L co cw W hI hI' (by omega) (by omega)
      cases hf : fewerB O L with
      | false =>
        rw [hf] at hfw
        have Hfw := Lib.hid hfw
        clear hfw hf Hle
        go_wp2_with (first | (go_at_call 51; refine (Hfw.out _ (HIo.out.ext EF) (HI2.out.ext EW)).mono ?_; rintro e w9 ⟨rfl, hE9⟩) | (go_at_call 25; refine (shot_any _ ((HG.out.ext E0).ext (X8.trans hE9))).mono ?_; rintro e w10 ⟨rfl, hE10⟩))
        go_ret
        exact ⟨rfl, E0.trans (X8.trans (hE9.trans hE10))⟩
      | true =>
        have hne := Hle.out hf
        have hpos : 0 < (wrongL (withoutB B O)).length := List.length_pos_iff.2 hne
        rw [hf] at hfw
        have Hfw := Lib.hid hfw
        clear hfw hf Hle hne
        go_wp2_with (first | (go_at_call 51; refine (Hfw.out _ (HIo.out.ext EF) (HI2.out.ext EW)).mono ?_; rintro e w9 ⟨rfl, hE9⟩) | (go_at_call 25; refine (shot_any _ ((HG.out.ext E0).ext (X8.trans hE9))).mono ?_; rintro e w10 ⟨rfl, hE10⟩))
        go_ret
        exact ⟨rfl, E0.trans (X8.trans (hE9.trans hE10))⟩
theorem turnWrong_walk (B : Bk) (a1 a2 a3 : Option Addr) (c1 c2 c3 : Nat) (n0 : Int) (w : World) (h : BookA w B a1 a2 a3) (hG : Glob w) (k0 : -9223372036854775808 ≤ n0 ∧ n0 ≤ 9223372036854775807) :
    Calls Tryd.prog 9 #[.agg #[.int .i64 B.comp, .slice a1 B.bounds.length c1, .slice a2 B.orders.length c2, .slice a3 B.shots.length c3], .int .i64 n0] w
      fun e w' => e = .returned (.bool true) ∧ Ext w w' := by
  cases hv : validB B with
  | false => exact turnWrong_no B a1 a2 a3 c1 c2 c3 n0 w h hG hv
  | true => exact turnWrong_yes B a1 a2 a3 c1 c2 c3 n0 w h hG hv k0
end Go.Proofs.YtnhdcdhpfgdphaaDoor
