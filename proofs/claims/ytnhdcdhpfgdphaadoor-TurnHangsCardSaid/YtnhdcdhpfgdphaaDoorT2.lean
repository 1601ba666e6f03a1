/-
  turn.Check answers as validB says.
-/
import Derived.Test.YtnhdcdhpfgdphaaDoorT1
import Derived.Test.YtnhdcdhpfgdphaaDoorR
import Derived.Deep.RegionHeld3
import Derived.Deep.RegionWith
import Derived.Deep.LoopGhost
import Derived.Deep.DeepCutAuto
set_option linter.unusedSimpArgs false
set_option linter.unusedVariables false
namespace Go.Proofs.YtnhdcdhpfgdphaaDoor
open Go Go.RowKit

theorem ok0_comp {B : Bk} (h : ok0 B = true) : 1 ≤ B.comp ∧ B.comp ≤ 4 ∧ 1 ≤ B.orders.length ∧ B.orders.length ≤ 3 ∧ B.bounds.length ≤ 4 ∧ B.shots.length ≤ 5 := by
  simp [ok0, inB] at h
  omega

set_option maxRecDepth 100000 in
set_option maxHeartbeats 4000000 in
theorem check_any (B : Bk) (a1 a2 a3 : Option Addr) (c1 c2 c3 : Nat) (w : World) (h : BookA w B a1 a2 a3) :
    Calls Tryd.prog 17 #[.agg #[.int .i64 B.comp, .slice a1 B.bounds.length c1, .slice a2 B.orders.length c2, .slice a3 B.shots.length c3]] w
      fun e w' => e = .returned (.int .i64 (checkRes B)) ∧ Ext w w' := by
  have l1 := h.l1
  have l2 := h.l2
  have l3 := h.l3
  go_enter Tryd.func17, Tryd.ntmps17
  go_upto_region 1 with (fail)
  go_cut [3] (fun s wx => s = .bool (ok0 B) ∧ wx = w.alloc (.cells #[.int .i64 B.comp, .slice a1 B.bounds.length c1, .slice a2 B.orders.length c2, .slice a3 B.shots.length c3] 26))
  case first =>
    go_wp2_with (go_at_call 64; refine (on_any _ _ _ _).mono ?_; rintro e w' ⟨rfl, rfl⟩)
    all_goals
      go_wp2
      go_meet
      refine ⟨?_, rfl⟩
      congr 1
      simp_all [ok0, inB]
      try omega
  case rest =>
    obtain ⟨rfl, rfl⟩ := hcut
    obtain ⟨X, hX⟩ : ∃ X, X = w.alloc (.cells #[.int .i64 B.comp, .slice a1 B.bounds.length c1, .slice a2 B.orders.length c2, .slice a3 B.shots.length c3] 26) := ⟨_, rfl⟩
    go_wp2_with (fail)
    go_loopw [3, 36] (fun s i wr => ∃ k : Nat, k ≤ B.bounds.length ∧ i = .int .i64 k ∧ s = .bool (ok0 B && okBounds B.bounds k) ∧ Below (w.heap.size + 1) X wr) (fun _ i _ => B.bounds.length - (intOf i).toNat)
    case atStart => exact ⟨0, Nat.zero_le _, rfl, by simp [okBounds], by rw [hX]; exact Below.refl _ _⟩
    case round =>
      obtain ⟨k, hk, rfl, rfl, hb⟩ := hrel
      have hsz := box_size hX hb
      obtain ⟨x0, x1, x2, x3⟩ := box_cells4 hX hb
      have hB := h.ext (box_ext hX hb)
      obtain ⟨g, hg⟩ : ∃ g, g = (ok0 B && okBounds B.bounds k) := ⟨_, rfl⟩
      rw [← hg]
      have Hg := Lib.hid hg
      have HX := Lib.hid hX
      clear hg hX
      by_cases hlt : k < B.bounds.length
      · obtain ⟨b, o, rfl, hbl, hc⟩ := hB.bounds (by omega)
        have q1 := (hc k hlt).1
        have q2 := (hc k hlt).2
        go_upto_region 5 with (fail)
        have hbx : Below (w.heap.size + 1) X (wr.alloc (.cells #[.int .i64 (bLo B.bounds k), .int .i64 (bHi B.bounds k)] 29)) := hb.alloc (by omega) _
        cases g with
        | false =>
          go_quiet (fail)
          go_wp2
          go_roundw
          case rel => exact ⟨k + 1, by omega, by go_num, by rw [okB_succ, ← Hg.out]; rfl, hbx.trans ((Ext.drewN _ _).mono (by simp; omega))⟩
          case measure => simp [intOf]; omega
        | true =>
          obtain ⟨sp, hsp⟩ : ∃ sp, sp = isSpanB (bLo B.bounds k) (bHi B.bounds k) := ⟨_, rfl⟩
          have Hsp := Lib.hid hsp
          clear hsp
          cases sp with
          | false =>
            refine wp_plan (fun W => W.cell? ⟨wr.heap.size, 0, none⟩ = some (.int .i64 (bLo B.bounds k)) ∧ W.cell? ⟨wr.heap.size, 1, none⟩ = some (.int .i64 (bHi B.bounds k))) (.tames [0, 1, 2] (.one 3 (.tames [4, 5, 6, 7, 8, 9, 10, 11, 12, 13, 14, 15, 16, 17, 18, 19, 20, 21] (.done)))) (by kernel_rfl) (by kernel_rfl) (by kernel_rfl) (fun c a d v w h => by cases d <;> exact h) ?_ ?_
            · simp [go_sem]
            refine pl_tames ?_
            (try simp only [Act.put, List.setIfInBounds_toArray, List.set_cons_zero, List.set_cons_succ])
            repeat (first
              | (refine pl_run (v := ?_) rfl ?_ (fun W hW => ?_) ?_; rotate_left; rfl; ((try dsimp only at hW); go_simp; try with_reducible rfl); (try simp only [Act.put, List.setIfInBounds_toArray, List.set_cons_zero, List.set_cons_succ]))
              | (refine pl_skip rfl ?_ ?_; rfl; (try simp only [Act.put, List.setIfInBounds_toArray, List.set_cons_zero, List.set_cons_succ])))
            refine pl_end ?_
            refine pl_one rfl (by rfl) (fun K hK => ?_)
            go_simp
            go_at_call 65; refine (isSpan_is _ _ _ Hsp.out.symm _).mono ?_; rintro e w' ⟨rfl, rfl⟩
            refine hK.out _ _ (by simp [go_sem]) ?_
            clear hK K
            (try refine pl_tames ?_)
            (try simp only [Act.put, List.setIfInBounds_toArray, List.set_cons_zero, List.set_cons_succ])
            try ((repeat (first   | (refine pl_run (v := ?_) rfl ?_ (fun W hW => ?_) ?_; rotate_left; rfl; ((try dsimp only at hW); go_simp; try with_reducible rfl); (try simp only [Act.put, List.setIfInBounds_toArray, List.set_cons_zero, List.set_cons_succ]))   | (refine pl_skip rfl ?_ ?_; rfl; (try simp only [Act.put, List.setIfInBounds_toArray, List.set_cons_zero, List.set_cons_succ])))); refine pl_end ?_)
            refine pl_done ?_
            go_wp2
            go_roundw
            case rel => exact ⟨k + 1, by omega, by go_num, by rw [okB_succ, ← Hg.out]; simp [okBound, ← Hsp.out], (hbx.drew).alloc (by simp; omega) _⟩
            case measure => simp [intOf]; omega
          | true =>
            by_cases hk0 : k = 0
            · subst hk0
              refine wp_plan (fun W => W.cell? ⟨wr.heap.size, 0, none⟩ = some (.int .i64 (bLo B.bounds 0)) ∧ W.cell? ⟨wr.heap.size, 1, none⟩ = some (.int .i64 (bHi B.bounds 0))) (.tames [0, 1, 2] (.one 3 (.tames [4, 5, 6, 7, 8, 9, 10, 11, 12, 13, 14, 15, 16, 17, 18, 19, 20, 21] (.done)))) (by kernel_rfl) (by kernel_rfl) (by kernel_rfl) (fun c a d v w h => by cases d <;> exact h) ?_ ?_
              · simp [go_sem]
              refine pl_tames ?_
              (try simp only [Act.put, List.setIfInBounds_toArray, List.set_cons_zero, List.set_cons_succ])
              repeat (first
                | (refine pl_run (v := ?_) rfl ?_ (fun W hW => ?_) ?_; rotate_left; rfl; ((try dsimp only at hW); go_simp; try with_reducible rfl); (try simp only [Act.put, List.setIfInBounds_toArray, List.set_cons_zero, List.set_cons_succ]))
                | (refine pl_skip rfl ?_ ?_; rfl; (try simp only [Act.put, List.setIfInBounds_toArray, List.set_cons_zero, List.set_cons_succ])))
              refine pl_end ?_
              refine pl_one rfl (by rfl) (fun K hK => ?_)
              go_simp
              go_at_call 65; refine (isSpan_is _ _ _ Hsp.out.symm _).mono ?_; rintro e w' ⟨rfl, rfl⟩
              refine hK.out _ _ (by simp [go_sem]) ?_
              clear hK K
              (try refine pl_tames ?_)
              (try simp only [Act.put, List.setIfInBounds_toArray, List.set_cons_zero, List.set_cons_succ])
              try ((repeat (first   | (refine pl_run (v := ?_) rfl ?_ (fun W hW => ?_) ?_; rotate_left; rfl; ((try dsimp only at hW); go_simp; try with_reducible rfl); (try simp only [Act.put, List.setIfInBounds_toArray, List.set_cons_zero, List.set_cons_succ]))   | (refine pl_skip rfl ?_ ?_; rfl; (try simp only [Act.put, List.setIfInBounds_toArray, List.set_cons_zero, List.set_cons_succ])))); refine pl_end ?_)
              refine pl_done ?_
              go_wp2
              go_roundw
              case rel => exact ⟨0 + 1, by omega, by go_num, by rw [okB_succ, ← Hg.out]; simp [okBound, ← Hsp.out], (hbx.drew).alloc (by simp; omega) _⟩
              case measure => simp [intOf]; omega
            · have q3 := (hc (k - 1) (by omega)).2
              obtain ⟨m, rfl⟩ : ∃ m, k = m + 1 := ⟨k - 1, by omega⟩
              have q4 : wr.cell? ⟨b, o + m * 2 + 1, none⟩ = some (.int .i64 (bHi B.bounds m)) := by simpa using q3
              clear q3
              have hk1 : ((m : Int) + 1 == 0) = false := by rw [beq_eq_false_iff_ne]; omega
              have hm1 : IntKind.i64.wrap (m : Int) = m := wr64 _ (by omega)
              have hm2 : (0 : Int) ≤ m := by omega
              have hm3 : (m : Int) < B.bounds.length := by omega
              refine wp_plan (fun W => W.cell? ⟨wr.heap.size, 0, none⟩ = some (.int .i64 (bLo B.bounds (m + 1))) ∧ W.cell? ⟨wr.heap.size, 1, none⟩ = some (.int .i64 (bHi B.bounds (m + 1))) ∧ W.cell? ⟨w.heap.size, 1, none⟩ = some (.slice (some ⟨b, o, none⟩) B.bounds.length c1) ∧ W.cell? ⟨b, o + m * 2 + 1, none⟩ = some (.int .i64 (bHi B.bounds m))) (.tames [0, 1, 2] (.one 3 (.tames [4, 5, 6, 7, 8, 9, 10, 11, 12, 13, 14, 15, 16, 17, 18, 19, 20, 21] (.done)))) (by kernel_rfl) (by kernel_rfl) (by kernel_rfl) (fun c a d v w h => by cases d <;> exact h) ?_ ?_
              · (simp [go_sem, cell_alloc_some, x1, q4])
              refine pl_tames ?_
              (try simp only [Act.put, List.setIfInBounds_toArray, List.set_cons_zero, List.set_cons_succ])
              repeat (first
                | (refine pl_run (v := ?_) rfl ?_ (fun W hW => ?_) ?_; rotate_left; rfl; ((try dsimp only at hW); go_simp; try with_reducible rfl); (try simp only [Act.put, List.setIfInBounds_toArray, List.set_cons_zero, List.set_cons_succ]))
                | (refine pl_skip rfl ?_ ?_; rfl; (try simp only [Act.put, List.setIfInBounds_toArray, List.set_cons_zero, List.set_cons_succ])))
              refine pl_end ?_
              refine pl_one rfl (by rfl) (fun K hK => ?_)
              go_simp
              go_at_call 65; refine (isSpan_is _ _ _ Hsp.out.symm _).mono ?_; rintro e w' ⟨rfl, rfl⟩
              refine hK.out _ _ (by simp [go_sem, cell_alloc_some, x1, q4]) ?_
              clear hK K
              (try refine pl_tames ?_)
              (try simp only [Act.put, List.setIfInBounds_toArray, List.set_cons_zero, List.set_cons_succ])
              try ((repeat (first   | (refine pl_run (v := ?_) rfl ?_ (fun W hW => ?_) ?_; rotate_left; rfl; ((try dsimp only at hW); go_simp; try with_reducible rfl); (try simp only [Act.put, List.setIfInBounds_toArray, List.set_cons_zero, List.set_cons_succ]))   | (refine pl_skip rfl ?_ ?_; rfl; (try simp only [Act.put, List.setIfInBounds_toArray, List.set_cons_zero, List.set_cons_succ])))); refine pl_end ?_)
              repeat (first
                | (refine pl_run (v := ?_) rfl ?_ (fun W hW => ?_) ?_; rotate_left; rfl; ((try dsimp only at hW); go_simp; try with_reducible rfl); (try simp only [Act.put, List.setIfInBounds_toArray, List.set_cons_zero, List.set_cons_succ]))
                | (refine pl_skip rfl ?_ ?_; rfl; (try simp only [Act.put, List.setIfInBounds_toArray, List.set_cons_zero, List.set_cons_succ])))
              refine pl_end ?_
              refine pl_done ?_
              go_wp2
              go_roundw
              case rel => exact ⟨m + 1 + 1, by omega, by go_num, by rw [okB_succ, ← Hg.out]; simp [okBound, ← Hsp.out], (hbx.drew).alloc (by simp; omega) _⟩
              case measure => simp [intOf]; omega
      · obtain rfl : k = B.bounds.length := by omega
        go_wp2_with (fail)
        clear x0 x1 x2 x3 hB
        go_loopw [3, 66] (fun s i wr => ∃ k : Nat, k ≤ B.orders.length ∧ i = .int .i64 k ∧ s = .bool (g && okRows B.comp B.bounds.length B.orders k) ∧ Below (w.heap.size + 1) X wr) (fun _ i _ => B.orders.length - (intOf i).toNat)
        case atStart => exact ⟨0, Nat.zero_le _, rfl, by simp [okRows], hb⟩
        case round =>
          clear hb hsz
          obtain ⟨k, hk, rfl, rfl, hb⟩ := hrel
          have hsz := box_size HX.out hb
          obtain ⟨x0, x1, x2, x3⟩ := box_cells4 HX.out hb
          have hB := h.ext (box_ext HX.out hb)
          obtain ⟨g1, hg1⟩ : ∃ g1, g1 = (g && okRows B.comp B.bounds.length B.orders k) := ⟨_, rfl⟩
          rw [← hg1]
          have Hg1 := Lib.hid hg1
          clear hg1
          by_cases hlt : k < B.orders.length
          · obtain ⟨b, o, rfl, hbl, hc⟩ := hB.orders (by omega)
            obtain ⟨ra, rc, q1, ql, qi⟩ := hc k hlt
            go_upto_region 10 with (fail)
            go_cut [3] (fun s wx => s = .bool (g1 && decide ((oAt B.orders k).length = B.bounds.length + 1)) ∧ wx = wr)
            case first =>
              cases g1 with
              | false =>
                go_wp2
                go_meet
                case rel => exact ⟨rfl, rfl⟩
              | true =>
                have hok : ok0 B = true := by
                  have e1 := Hg1.out
                  have e2 := Hg.out
                  simp only [e2, Bool.true_eq, Bool.and_eq_true] at e1
                  exact e1.1.1
                have hnb := (ok0_comp hok).2.2.2.2.1
                clear hok
                go_wp2
                go_meet
                case rel => exact ⟨congrArg Value.bool (by rw [Bool.eq_iff_iff]; simp; omega), rfl⟩
            case rest =>
              obtain ⟨rfl, rfl⟩ := hcut
              obtain ⟨g2, hg2⟩ : ∃ g2, g2 = (g1 && decide ((oAt B.orders k).length = B.bounds.length + 1)) := ⟨_, rfl⟩
              rw [← hg2]
              have Hg2 := Lib.hid hg2
              clear hg2
              go_wp2_with (fail)
              clear x1 x2 x3
              go_loopw [3, 82] (fun s i wr => ∃ j : Nat, j ≤ (oAt B.orders k).length ∧ i = .int .i64 j ∧ s = .bool (g2 && okNums B.comp (oAt B.orders k) j) ∧ wr = wc) (fun _ i _ => (oAt B.orders k).length - (intOf i).toNat)
              case atStart => exact ⟨0, Nat.zero_le _, rfl, by simp [okNums], rfl⟩
              case round =>
                obtain ⟨j, hj, rfl, rfl, rfl⟩ := hrel
                obtain ⟨g3, hg3⟩ : ∃ g3, g3 = (g2 && okNums B.comp (oAt B.orders k) j) := ⟨_, rfl⟩
                rw [← hg3]
                have Hg3 := Lib.hid hg3
                clear hg3
                by_cases hjl : j < (oAt B.orders k).length
                · obtain ⟨b2, o2, rfl, hbl2, hc2⟩ := qi (by omega)
                  have q2 := hc2 j hjl
                  cases g3 with
                  | false =>
                    go_wp2
                    go_roundw
                    case rel => exact ⟨j + 1, by omega, by go_num, by rw [okNums_succ, ← Hg3.out]; rfl, by trivial⟩
                    case measure => simp [intOf]; omega
                  | true =>
                    have hok : ok0 B = true := by
                      have e1 := Hg3.out
                      have e2 := Hg2.out
                      have e3 := Hg1.out
                      have e4 := Hg.out
                      simp only [e2, e3, e4, Bool.true_eq, Bool.and_eq_true] at e1
                      exact e1.1.1.1.1
                    have hC1 := (ok0_comp hok).1
                    have hC2 := (ok0_comp hok).2.1
                    clear hok
                    go_wp2_with (go_at_call 64; refine (on_any _ _ _ _).mono ?_; rintro e w' ⟨rfl, rfl⟩)
                    go_roundw
                    case rel => exact ⟨j + 1, by omega, by go_num, by rw [okNums_succ, ← Hg3.out]; rfl, by trivial⟩
                    case measure => simp [intOf]; omega
                · obtain rfl : j = (oAt B.orders k).length := by omega
                  go_wp2_with (fail)
                  go_roundw
                  case rel => exact ⟨k + 1, by omega, by go_num, by rw [okRows_succ, ← Hg1.out, ← Hg2.out, ← Hg3.out], hb⟩
                  case measure => simp [intOf]; omega
          · obtain rfl : k = B.orders.length := by omega
            go_wp2_with (fail)
            clear x0 x1 x2 x3 hB
            go_loopw [3, 99] (fun s i wr => ∃ k : Nat, k ≤ B.shots.length ∧ i = .int .i64 k ∧ s = .bool (g1 && okShots B k) ∧ Below (w.heap.size + 1) X wr) (fun _ i _ => B.shots.length - (intOf i).toNat)
            case atStart => exact ⟨0, Nat.zero_le _, rfl, by simp [okShots], hb⟩
            case round =>
              clear hb hsz
              obtain ⟨k, hk, rfl, rfl, hb⟩ := hrel
              have hsz := box_size HX.out hb
              obtain ⟨x0, x1, x2, x3⟩ := box_cells4 HX.out hb
              have hB := h.ext (box_ext HX.out hb)
              obtain ⟨g2, hg2⟩ : ∃ g2, g2 = (g1 && okShots B k) := ⟨_, rfl⟩
              rw [← hg2]
              have Hg2 := Lib.hid hg2
              clear hg2
              by_cases hlt : k < B.shots.length
              · obtain ⟨b, o, rfl, hbl, hc⟩ := hB.shots (by omega)
                obtain ⟨q0, q1, q2, q3⟩ := hc k hlt
                go_upto_region 20 with (fail)
                have hbx : Below (w.heap.size + 1) X (wr.alloc (.cells #[.int .i64 (sAt B.shots k).st, .int .i64 (sAt B.shots k).co, .int .i64 (sAt B.shots k).lo, .int .i64 (sAt B.shots k).hi] 59)) := hb.alloc (by omega) _
                cases g2 with
                | false =>
                  go_wp2
                  go_roundw
                  case rel => exact ⟨k + 1, by omega, by go_num, by rw [okShots_succ, ← Hg2.out]; rfl, hbx⟩
                  case measure => simp [intOf]; omega
                | true =>
                  have hok : ok0 B = true := by
                    have e1 := Hg2.out
                    have e3 := Hg1.out
                    have e4 := Hg.out
                    simp only [e3, e4, Bool.true_eq, Bool.and_eq_true] at e1
                    exact e1.1.1.1
                  have hC1 := (ok0_comp hok).1
                  have hC2 := (ok0_comp hok).2.1
                  clear hok
                  go_wp2_with (first | (go_at_call 64; refine (on_any _ _ _ _).mono ?_; rintro e w' ⟨rfl, rfl⟩) | (go_at_call 65; refine (isSpan_any _ _ _).mono ?_; rintro e w' ⟨rfl, rfl⟩))
                  · go_roundw
                    case rel => exact ⟨k + 1, by omega, by go_num, by rw [okShots_succ, ← Hg2.out, okShot_1 (by assumption) (by assumption)]; rfl, hbx.alloc (by simp; omega) _⟩
                    case measure => simp [intOf]; omega
                  · go_roundw
                    case rel => exact ⟨k + 1, by omega, by go_num, by rw [okShots_succ, ← Hg2.out, okShot_2 (by assumption)]; rfl, hbx⟩
                    case measure => simp [intOf]; omega
                  · go_roundw
                    case rel => exact ⟨k + 1, by omega, by go_num, by rw [okShots_succ, ← Hg2.out, okShot_3 (by assumption)]; rfl, hbx⟩
                    case measure => simp [intOf]; omega
              · obtain rfl : k = B.shots.length := by omega
                have hv : validB B = g2 := by
                  rw [Hg2.out, Hg1.out, Hg.out]
                  rfl
                have Hv := Lib.hid hv
                clear hv
                cases g2 with
                | false =>
                  go_wp2
                  go_ret
                  exact ⟨by rw [checkRes, Hv.out]; rfl, box_ext HX.out hb⟩
                | true =>
                  go_wp2
                  go_ret
                  exact ⟨by rw [checkRes, Hv.out]; rfl, box_ext HX.out hb⟩
end Go.Proofs.YtnhdcdhpfgdphaaDoor
