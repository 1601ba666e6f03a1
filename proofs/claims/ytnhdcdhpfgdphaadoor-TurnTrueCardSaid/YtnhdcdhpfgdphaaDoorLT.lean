/-
  truly: the company that has the turn, in a truth that numbers choose.
-/
import Derived.Test.YtnhdcdhpfgdphaaDoorP3
import Derived.Test.YtnhdcdhpfgdphaaDoorL5
set_option linter.unusedSimpArgs false
set_option linter.unusedVariables false
namespace Go.Proofs.YtnhdcdhpfgdphaaDoor
open Go Go.RowKit

theorem pick_in {xs : List Int} (h : ∀ x ∈ xs, -9223372036854775808 ≤ x ∧ x ≤ 9223372036854775807) (n : Int) : -9223372036854775808 ≤ pickL xs n ∧ pickL xs n ≤ 9223372036854775807 := by
  unfold pickL
  split
  · omega
  · have hi := wheelZ_in n xs.length (by omega)
    have hl : (wheelZ n xs.length).toNat < xs.length := by omega
    refine h _ ?_
    simp only [nAt, List.getD_eq_getElem?_getD, List.getElem?_eq_getElem hl, Option.getD_some]
    exact List.getElem_mem hl

set_option maxRecDepth 100000 in
set_option maxHeartbeats 4000000 in
theorem truly_any (B : Bk) (a1 a2 a3 ab : Option Addr) (c1 c2 c3 cb : Nat) (bits : List Int) (s : Nat) (m : Int) (w : World) (h : BookA w B a1 a2 a3) (hv : validB B = true) (hs : s < B.orders.length) (hI : IntA w ab bits) (hbl : bits.length ≤ 9223372036854775807)
    (hbi : ∀ x ∈ bits, -9223372036854775808 ≤ x ∧ x ≤ 9223372036854775807) :
    Calls Tryd.prog 38 #[.agg #[.int .i64 B.comp, .slice a1 B.bounds.length c1, .slice a2 B.orders.length c2, .slice a3 B.shots.length c3], .int .i64 s, .int .i64 m, .slice ab bits.length cb] w
      fun e w' => e = .returned (.tuple #[.int .i64 (nAt (oAt B.orders s) (trueN B bits m)), .int .i64 (trueN B bits m)]) ∧ Ext w w' := by
  have hnb := (valid_sizes hv).2.2.2.2.1
  have HB := Lib.hid h
  have HI := Lib.hid hI
  clear h hI
  go_enter Tryd.func38, Tryd.ntmps38
  go_upto_region 1 with (fail)
  obtain ⟨W0, hW0⟩ : ∃ W0, W0 = w.alloc (.cells #[.int .i64 B.comp, .slice a1 B.bounds.length c1, .slice a2 B.orders.length c2, .slice a3 B.shots.length c3] 26) := ⟨_, rfl⟩
  have b0 : Blk W0 w.heap.size 26 #[.int .i64 B.comp, .slice a1 B.bounds.length c1, .slice a2 B.orders.length c2, .slice a3 B.shots.length c3] := by rw [hW0]; exact Blk.new _ _ _
  have E0 : Ext w W0 := by rw [hW0]; exact Ext.alloc _ _
  rw [← hW0]
  clear hW0
  obtain ⟨gB, hgB⟩ : ∃ g, g = w.heap.size := ⟨_, rfl⟩
  rw [← hgB] at b0 ⊢
  clear hgB
  go_upto_region 3 with (fail)
  go_loopw [10, 11] (fun n i wr => ∃ k : Nat, k ≤ B.bounds.length ∧ n = .int .i64 k ∧ i = .int .i64 k ∧ (∀ i, i < k → nAt (chosenL B bits) i ≤ m) ∧ Ext W0 wr) (fun _ i _ => B.bounds.length - (intOf i).toNat)
  case atStart => exact ⟨0, Nat.zero_le _, rfl, rfl, fun i hi => by omega, Ext.refl _⟩
  case round =>
    obtain ⟨k, hk, rfl, rfl, hle, hE⟩ := hrel
    have Hle := Lib.hid hle
    clear hle
    by_cases hlt : k < B.bounds.length
    · obtain ⟨h1, h2, h3, h4⟩ := valid_bound hv hlt
      have hch := chosen_at B bits hlt
      have hcin := chosen_in hv bits k hlt
      have hpk := pick_in hbi (k : Int)
      obtain ⟨b, o, rfl, hbb, hc⟩ := ((HB.out.ext E0).ext hE).bounds (by omega)
      obtain ⟨q0, q1⟩ := hc k hlt
      have HS := Lib.hid (fun W (hW : Ext wr W) => (⟨((b0.ext hE).ext hW).c4, hW.keep q0, hW.keep q1⟩ : (W.cell? ⟨gB, 0, none⟩ = some (.int .i64 B.comp) ∧ W.cell? ⟨gB, 1, none⟩ = some (.slice (some ⟨b, o, none⟩) B.bounds.length c1) ∧ W.cell? ⟨gB, 2, none⟩ = some (.slice a2 B.orders.length c2) ∧ W.cell? ⟨gB, 3, none⟩ = some (.slice a3 B.shots.length c3)) ∧ W.cell? ⟨b, o + k * 2, none⟩ = some (.int .i64 (bLo B.bounds k)) ∧ W.cell? ⟨b, o + k * 2 + 1, none⟩ = some (.int .i64 (bHi B.bounds k))))
      have Hch := Lib.hid hch
      have Hcin := Lib.hid hcin
      clear hc q0 q1 hch hcin
      have hIr := HI.out.ext (E0.trans hE)
      go_upto_region 3 with (fail)
      refine wp_plan (fun W => ((W.cell? ⟨gB, 0, none⟩ = some (.int .i64 B.comp) ∧ W.cell? ⟨gB, 1, none⟩ = some (.slice (some ⟨b, o, none⟩) B.bounds.length c1) ∧ W.cell? ⟨gB, 2, none⟩ = some (.slice a2 B.orders.length c2) ∧ W.cell? ⟨gB, 3, none⟩ = some (.slice a3 B.shots.length c3)) ∧ W.cell? ⟨b, o + k * 2, none⟩ = some (.int .i64 (bLo B.bounds k)) ∧ W.cell? ⟨b, o + k * 2 + 1, none⟩ = some (.int .i64 (bHi B.bounds k)))) (.tames [0, 1, 2, 3, 4, 5, 6, 7, 8, 9, 10, 11, 12, 15] (.one 13 (.one 14 (.tames [16, 17] (.done))))) (by kernel_rfl) (by kernel_rfl) (by kernel_rfl) (fun c a d v w h => by cases d <;> exact h) ?_ ?_
      · exact HS.out _ (Ext.drew _)
      refine pl_tames ?_
      (try simp only [Act.put, List.setIfInBounds_toArray, List.set_cons_zero, List.set_cons_succ])
      repeat (first
        | (refine pl_run (v := ?_) rfl ?_ (fun W hW => ?_) ?_; rotate_left; rfl; ((try dsimp only at hW); go_simp; try with_reducible rfl); (try simp only [Act.put, List.setIfInBounds_toArray, List.set_cons_zero, List.set_cons_succ]))
        | (refine pl_skip rfl ?_ ?_; rfl; (try simp only [Act.put, List.setIfInBounds_toArray, List.set_cons_zero, List.set_cons_succ])))
      refine pl_end ?_
      refine pl_one rfl (by rfl) (fun K hK => ?_)
      go_simp
      (go_at_call 43; refine (pick_any ab bits cb (k : Int) _ (hIr.ext (Ext.drew _)) hbl (by omega)).mono ?_; rintro e v1 ⟨rfl, rfl⟩)
      refine hK.out _ _ (HS.out _ (Ext.drew _)) ?_
      clear hK K
      (try refine pl_tames ?_)
      (try simp only [Act.put, List.setIfInBounds_toArray, List.set_cons_zero, List.set_cons_succ])
      try ((repeat (first   | (refine pl_run (v := ?_) rfl ?_ (fun W hW => ?_) ?_; rotate_left; rfl; ((try dsimp only at hW); go_simp; try with_reducible rfl); (try simp only [Act.put, List.setIfInBounds_toArray, List.set_cons_zero, List.set_cons_succ]))   | (refine pl_skip rfl ?_ ?_; rfl; (try simp only [Act.put, List.setIfInBounds_toArray, List.set_cons_zero, List.set_cons_succ])))); refine pl_end ?_)
      refine pl_one rfl (by rfl) (fun K hK => ?_)
      go_simp
      (go_at_call 42; refine (some_any _ _ (pickL bits k) _ h1 h2 h3 hpk).mono ?_; rintro e v2 ⟨rfl, hV2⟩)
      refine hK.out _ _ (HS.out _ ((Ext.drew _).trans hV2)) ?_
      clear hK K
      (try refine pl_tames ?_)
      (try simp only [Act.put, List.setIfInBounds_toArray, List.set_cons_zero, List.set_cons_succ])
      try ((repeat (first   | (refine pl_run (v := ?_) rfl ?_ (fun W hW => ?_) ?_; rotate_left; rfl; ((try dsimp only at hW); go_simp; try with_reducible rfl); (try simp only [Act.put, List.setIfInBounds_toArray, List.set_cons_zero, List.set_cons_succ]))   | (refine pl_skip rfl ?_ ?_; rfl; (try simp only [Act.put, List.setIfInBounds_toArray, List.set_cons_zero, List.set_cons_succ])))); refine pl_end ?_)
      refine pl_done ?_
      (try simp only [Act.put])
      rw [← Hch.out]
      have hcin := Hcin.out
      obtain ⟨x, hx⟩ : ∃ x, x = nAt (chosenL B bits) k := ⟨_, rfl⟩
      rw [← hx] at hcin ⊢
      have Hx := Lib.hid hx
      have hE2 := hE.trans ((Ext.drew wr).trans hV2)
      clear HS Hch Hcin hx
      obtain ⟨x0, x1, x2, x3⟩ := (b0.ext hE2).c4
      by_cases hxm : x ≤ m
      · go_wp2
        go_roundw
        case rel => exact ⟨k + 1, by omega, by go_num, by go_num, fun i hi => (by
          rcases (by omega : i < k ∨ i = k) with h | rfl
          · exact Hle.out i h
          · rw [← Hx.out]; exact hxm), hE2⟩
        case measure => simp [intOf]; omega
      · have hn := Lib.hid (cT_eq hv (chosen_in hv bits) m hk Hle.out (fun _ => by rw [← Hx.out]; omega))
        obtain ⟨b2, o2, rfl, hbb2, hc2⟩ := ((HB.out.ext E0).ext hE2).orders (by omega)
        obtain ⟨ra, rc, q0, q1, hRow⟩ := hc2 s hs
        have hrl := (valid_row hv hs).1
        obtain ⟨b3, o3, rfl, hbb3, hc3⟩ := hRow (by omega)
        have q2 := hc3 k (by omega)
        have hkl : k < (oAt B.orders s).length := by omega
        clear hc2 hc3 hRow hrl
        go_wp2
        go_ret2
        exact ⟨by unfold trueN; rw [hn.out]; rfl, E0.trans hE2⟩
    · obtain rfl : k = B.bounds.length := by omega
      have hn := Lib.hid (cT_eq hv (chosen_in hv bits) m hk Hle.out (fun h => by omega))
      have HS := Lib.hid (fun W (hW : Ext wr W) => (((b0.ext hE).ext hW).c4 : (W.cell? ⟨gB, 0, none⟩ = some (.int .i64 B.comp) ∧ W.cell? ⟨gB, 1, none⟩ = some (.slice a1 B.bounds.length c1) ∧ W.cell? ⟨gB, 2, none⟩ = some (.slice a2 B.orders.length c2) ∧ W.cell? ⟨gB, 3, none⟩ = some (.slice a3 B.shots.length c3))))
      go_upto_region 3 with (fail)
      refine wp_plan (fun W => (W.cell? ⟨gB, 0, none⟩ = some (.int .i64 B.comp) ∧ W.cell? ⟨gB, 1, none⟩ = some (.slice a1 B.bounds.length c1) ∧ W.cell? ⟨gB, 2, none⟩ = some (.slice a2 B.orders.length c2) ∧ W.cell? ⟨gB, 3, none⟩ = some (.slice a3 B.shots.length c3))) (.tames [0, 1, 2, 3, 4, 5, 6, 7, 8, 9, 10, 11, 12, 15] (.one 13 (.one 14 (.tames [16, 17] (.done))))) (by kernel_rfl) (by kernel_rfl) (by kernel_rfl) (fun c a d v w h => by cases d <;> exact h) ?_ ?_
      · exact HS.out _ (Ext.drew _)
      refine pl_tames ?_
      (try simp only [Act.put, List.setIfInBounds_toArray, List.set_cons_zero, List.set_cons_succ])
      repeat (first
        | (refine pl_run (v := ?_) rfl ?_ (fun W hW => ?_) ?_; rotate_left; rfl; ((try dsimp only at hW); go_simp; try with_reducible rfl); (try simp only [Act.put, List.setIfInBounds_toArray, List.set_cons_zero, List.set_cons_succ]))
        | (refine pl_skip rfl ?_ ?_; rfl; (try simp only [Act.put, List.setIfInBounds_toArray, List.set_cons_zero, List.set_cons_succ])))
      refine pl_end ?_
      refine pl_one_skip rfl (by rfl) (HS.out _ (Ext.drew _)) ?_
      (try simp only [Act.put, List.setIfInBounds_toArray, List.set_cons_zero, List.set_cons_succ])
      refine pl_one_skip rfl (by rfl) (HS.out _ (Ext.drew _)) ?_
      (try simp only [Act.put, List.setIfInBounds_toArray, List.set_cons_zero, List.set_cons_succ])
      refine pl_tames ?_
      repeat (first
        | (refine pl_run (v := ?_) rfl ?_ (fun W hW => ?_) ?_; rotate_left; rfl; ((try dsimp only at hW); go_simp; try with_reducible rfl); (try simp only [Act.put, List.setIfInBounds_toArray, List.set_cons_zero, List.set_cons_succ]))
        | (refine pl_skip rfl ?_ ?_; rfl; (try simp only [Act.put, List.setIfInBounds_toArray, List.set_cons_zero, List.set_cons_succ])))
      refine pl_end ?_
      refine pl_done ?_
      (try simp only [Act.put])
      have hE2 := hE.trans (Ext.drew wr)
      clear HS
      obtain ⟨x0, x1, x2, x3⟩ := (b0.ext hE2).c4
      obtain ⟨b2, o2, rfl, hbb2, hc2⟩ := ((HB.out.ext E0).ext hE2).orders (by omega)
      obtain ⟨ra, rc, q0, q1, hRow⟩ := hc2 s hs
      have hrl := (valid_row hv hs).1
      obtain ⟨b3, o3, rfl, hbb3, hc3⟩ := hRow (by omega)
      have q2 := hc3 B.bounds.length (by omega)
      have hkl : B.bounds.length < (oAt B.orders s).length := by omega
      clear hc2 hc3 hRow hrl
      go_wp2
      go_ret2
      exact ⟨by unfold trueN; rw [hn.out]; rfl, E0.trans hE2⟩
end Go.Proofs.YtnhdcdhpfgdphaaDoor
