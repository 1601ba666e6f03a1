/-
  The reference's small questions, Check and asked.
-/
import Derived.Test.YtnhdcdhpfgdphaaDoorMOw9
import Derived.Test.YtnhdcdhpfgdphaaDoorMOw8
import Derived.Test.YtnhdcdhpfgdphaaDoorMOw11
import Derived.Deep.RegionLawGrows
set_option linter.unusedSimpArgs false
set_option linter.unusedVariables false
namespace Go.Proofs.YtnhdcdhpfgdphaaDoor
open Go Go.RowKit

set_option maxHeartbeats 1000000 in
theorem rStation_any (B : Bk) (a1 a2 a3 : Option Addr) (c1 c2 c3 : Nat) (n : Int) (w : World) (hl : B.orders.length ≤ 9223372036854775807) :
    Calls Tryd.prog 68 #[.agg #[.int .i64 B.comp, .slice a1 B.bounds.length c1, .slice a2 B.orders.length c2, .slice a3 B.shots.length c3], .int .i64 n] w fun e w' => e = .returned (.bool (isStB B n)) ∧ Ext w w' := by
  go_enter Tryd.func68, Tryd.ntmps68
  go_wp2_with (go_at_call 44; refine (between_any _ _ _ _).mono ?_; rintro e w' ⟨rfl, rfl⟩)
  go_ret
  exact ⟨rfl, Ext.alloc _ _⟩
set_option maxHeartbeats 1000000 in
theorem rShot_any (B : Bk) (a1 a2 a3 : Option Addr) (c1 c2 c3 : Nat) (n : Int) (w : World) (hl : B.shots.length ≤ 9223372036854775807) :
    Calls Tryd.prog 76 #[.agg #[.int .i64 B.comp, .slice a1 B.bounds.length c1, .slice a2 B.orders.length c2, .slice a3 B.shots.length c3], .int .i64 n] w fun e w' => e = .returned (.bool (isShB B n)) ∧ Ext w w' := by
  go_enter Tryd.func76, Tryd.ntmps76
  go_wp2_with (go_at_call 44; refine (between_any _ _ _ _).mono ?_; rintro e w' ⟨rfl, rfl⟩)
  go_ret
  exact ⟨rfl, Ext.alloc _ _⟩
set_option maxHeartbeats 1000000 in
theorem rComp_any (B : Bk) (a1 a2 a3 : Option Addr) (c1 c2 c3 : Nat) (n : Int) (w : World) :
    Calls Tryd.prog 67 #[.agg #[.int .i64 B.comp, .slice a1 B.bounds.length c1, .slice a2 B.orders.length c2, .slice a3 B.shots.length c3], .int .i64 n] w fun e w' => e = .returned (.bool (inB n 0 (IntKind.i64.wrap (B.comp - 1)))) ∧ Ext w w' := by
  obtain ⟨cw, hcw⟩ : ∃ cw, IntKind.i64.wrap (B.comp - 1) = cw := ⟨_, rfl⟩
  go_enter Tryd.func67, Tryd.ntmps67
  go_wp2_with (go_at_call 44; refine (between_any _ _ _ _).mono ?_; rintro e w' ⟨rfl, rfl⟩)
  go_ret
  exact ⟨by first | rfl | (simp [hcw]) | (rw [← hcw]), Ext.alloc _ _⟩
set_option maxHeartbeats 1000000 in
theorem rMinute_any (lo hi : Int) (w : World) : Calls Tryd.prog 66 #[.agg #[.int .i64 lo, .int .i64 hi]] w fun e w' => e = .returned (.bool (isSpanB lo hi)) ∧ Ext w w' := by
  have hsa := sane_any lo hi 0 1439
  by_cases h : 0 ≤ lo ∧ hi ≤ 1439 ∧ lo ≤ hi
  · have hr : isSpanB lo hi = decide (hi - lo ≤ 10) := by
      unfold isSpanB
      rw [Bool.eq_iff_iff]; simp; omega
    rw [decide_eq_true h] at hsa
    have Hsa := Lib.hid hsa
    have Hr := Lib.hid hr
    obtain ⟨h1, h2, h3⟩ := h
    clear hsa hr
    go_enter Tryd.func66, Tryd.ntmps66
    go_upto_region 1 with (fail)
    obtain ⟨W0, hW0⟩ : ∃ W0, W0 = w.alloc (.cells #[.int .i64 lo, .int .i64 hi] 29) := ⟨_, rfl⟩
    have b0 : Blk W0 w.heap.size 29 #[.int .i64 lo, .int .i64 hi] := by rw [hW0]; exact Blk.new _ _ _
    have E0 : Ext w W0 := by rw [hW0]; exact Ext.alloc _ _
    rw [← hW0]
    clear hW0
    obtain ⟨x0, x1⟩ := b0.c2
    go_wp2_with (go_at_call 52; refine (Hsa.out _).mono ?_; rintro e w2 ⟨rfl, hE2⟩; obtain ⟨y0, y1⟩ := (b0.ext hE2).c2)
    go_ret
    exact ⟨by rw [Hr.out]; rfl, E0.trans hE2⟩
  · have hr : isSpanB lo hi = false := by
      unfold isSpanB
      simp; omega
    rw [decide_eq_false h] at hsa
    have Hsa := Lib.hid hsa
    have Hr := Lib.hid hr
    clear hsa hr
    go_enter Tryd.func66, Tryd.ntmps66
    go_upto_region 1 with (fail)
    obtain ⟨W0, hW0⟩ : ∃ W0, W0 = w.alloc (.cells #[.int .i64 lo, .int .i64 hi] 29) := ⟨_, rfl⟩
    have b0 : Blk W0 w.heap.size 29 #[.int .i64 lo, .int .i64 hi] := by rw [hW0]; exact Blk.new _ _ _
    have E0 : Ext w W0 := by rw [hW0]; exact Ext.alloc _ _
    rw [← hW0]
    clear hW0
    obtain ⟨x0, x1⟩ := b0.c2
    go_wp2_with (go_at_call 52; refine (Hsa.out _).mono ?_; rintro e w2 ⟨rfl, hE2⟩)
    go_ret
    exact ⟨by rw [Hr.out]; rfl, E0.trans hE2⟩

/-! ### Where a book fails -/
theorem not_valid0 {B : Bk} (h : ok0 B = false) : validB B = false := by simp [validB, h]
theorem all_range_false {p : Nat → Bool} {n k : Nat} (hk : k < n) (h : p k = false) : (List.range n).all p = false := by
  rw [Bool.eq_false_iff]
  intro hh
  have := List.all_eq_true.1 hh k (List.mem_range.2 hk)
  rw [h] at this
  cases this
theorem not_valid1 {B : Bk} {k : Nat} (hk : k < B.bounds.length) (h : okBound B.bounds k = false) : validB B = false := by
  have : okBounds B.bounds B.bounds.length = false := all_range_false hk h
  simp [validB, this]
theorem not_valid2 {B : Bk} {k : Nat} (hk : k < B.orders.length) (h : okRow B.comp B.bounds.length (oAt B.orders k) = false) : validB B = false := by
  have : okRows B.comp B.bounds.length B.orders B.orders.length = false := all_range_false (p := fun i => okRow B.comp B.bounds.length (oAt B.orders i)) hk h
  simp [validB, this]
theorem not_valid3 {B : Bk} {k : Nat} (hk : k < B.shots.length) (h : okShot B (sAt B.shots k) = false) : validB B = false := by
  have : okShots B B.shots.length = false := all_range_false (p := fun i => okShot B (sAt B.shots i)) hk h
  simp [validB, this]
theorem not_row1 {C : Int} {n : Nat} {xs : List Int} (h : decide (xs.length = n + 1) = false) : okRow C n xs = false := by simp [okRow, h]
theorem not_row2 {C : Int} {n j : Nat} {xs : List Int} (hj : j < xs.length) (h : inB (nAt xs j) 0 (C - 1) = false) : okRow C n xs = false := by
  have : okNums C xs xs.length = false := all_range_false (p := fun i => inB (nAt xs i) 0 (C - 1)) hj h
  simp [okRow, this]

set_option maxRecDepth 100000 in
set_option maxHeartbeats 4000000 in
theorem rCheck_any (B : Bk) (a1 a2 a3 : Option Addr) (c1 c2 c3 : Nat) (w : World) (h : BookA w B a1 a2 a3) :
    Calls Tryd.prog 18 #[.agg #[.int .i64 B.comp, .slice a1 B.bounds.length c1, .slice a2 B.orders.length c2, .slice a3 B.shots.length c3]] w fun e w' => e = .returned (.int .i64 (checkRes B)) ∧ Ext w w' := by
  have l1 := h.l1
  have l2 := h.l2
  have l3 := h.l3
  have HB := Lib.hid h
  clear h
  go_enter Tryd.func18, Tryd.ntmps18
  go_upto_region 1 with (fail)
  obtain ⟨W0, hW0⟩ : ∃ W0, W0 = w.alloc (.cells #[.int .i64 B.comp, .slice a1 B.bounds.length c1, .slice a2 B.orders.length c2, .slice a3 B.shots.length c3] 26) := ⟨_, rfl⟩
  have b0 : Blk W0 w.heap.size 26 #[.int .i64 B.comp, .slice a1 B.bounds.length c1, .slice a2 B.orders.length c2, .slice a3 B.shots.length c3] := by rw [hW0]; exact Blk.new _ _ _
  have E0 : Ext w W0 := by rw [hW0]; exact Ext.alloc _ _
  rw [← hW0]
  clear hW0
  obtain ⟨gB, hgB⟩ : ∃ g, g = w.heap.size := ⟨_, rfl⟩
  rw [← hgB] at b0 ⊢
  clear hgB
  obtain ⟨x0, x1, x2, x3⟩ := b0.c4
  go_cut [3] (fun s wx => s = .bool (ok0 B) ∧ wx = W0)
  case first =>
    go_wp2_with (go_at_call 44; refine (between_any _ _ _ _).mono ?_; rintro e w' ⟨rfl, rfl⟩)
    all_goals
      go_meet
      refine ⟨?_, rfl⟩
      congr 1
      simp_all [ok0, inB]
      try omega
  case rest =>
    obtain ⟨rfl, rfl⟩ := hcut
    obtain ⟨p0, hp0⟩ : ∃ p, p = ok0 B := ⟨_, rfl⟩
    rw [← hp0]
    clear x0 x1 x2 x3
    cases p0 with
    | false =>
      have Hv := Lib.hid (not_valid0 hp0.symm)
      clear hp0
      go_upto_region 3 with (fail)
      go_loopw [3, 4] (fun s i wx => s = .bool false ∧ Ext w wx) (fun _ i _ => 0)
      case atStart => exact ⟨rfl, E0⟩
      case round =>
        obtain ⟨rfl, hEx⟩ := hrel
        go_upto_region 7 with (fail)
        go_loopw [3, 5] (fun s i wy => s = .bool false ∧ Ext w wy) (fun _ i _ => 0)
        case atStart => exact ⟨rfl, hEx⟩
        case round =>
          obtain ⟨rfl, hEy⟩ := hrel
          go_upto_region 15 with (fail)
          go_loopw [3, 7] (fun s i wz => s = .bool false ∧ Ext w wz) (fun _ i _ => 0)
          case atStart => exact ⟨rfl, hEy⟩
          case round =>
            obtain ⟨rfl, hEz⟩ := hrel
            go_wp2
            go_ret
            exact ⟨by rw [checkRes, Hv.out]; rfl, hEz⟩
    | true =>
      have Hk0 := Lib.hid hp0.symm
      clear hp0
      go_upto_region 3 with (fail)
      go_loopw [3, 4] (fun s i wr => ∃ (k : Nat) (p : Bool), k ≤ B.bounds.length ∧ i = .int .i64 k ∧ s = .bool p ∧ Hid (p = true → okBounds B.bounds k = true) ∧ Hid (p = false → validB B = false) ∧ Ext wc wr) (fun _ i _ => B.bounds.length - (intOf i).toNat)
      case atStart => exact ⟨0, true, Nat.zero_le _, rfl, rfl, Lib.hid fun _ => by simp [okBounds], Lib.hid fun h => by (cases h), Ext.refl _⟩
      case round =>
        obtain ⟨k, p, hk, rfl, rfl, hp1, hp2, hE⟩ := hrel
        obtain ⟨x0, x1, x2, x3⟩ := (b0.ext hE).c4
        cases p with
        | false =>
          have Hv := Lib.hid (hp2.out rfl)
          clear hp1 hp2
          go_upto_region 7 with (fail)
          go_loopw [3, 5] (fun s i wy => s = .bool false ∧ Ext w wy) (fun _ i _ => 0)
          case atStart => exact ⟨rfl, (E0.trans hE)⟩
          case round =>
            obtain ⟨rfl, hEy⟩ := hrel
            go_upto_region 15 with (fail)
            go_loopw [3, 7] (fun s i wz => s = .bool false ∧ Ext w wz) (fun _ i _ => 0)
            case atStart => exact ⟨rfl, hEy⟩
            case round =>
              obtain ⟨rfl, hEz⟩ := hrel
              go_wp2
              go_ret
              exact ⟨by rw [checkRes, Hv.out]; rfl, hEz⟩
        | true =>
          have hok := hp1.out rfl
          have Hok := Lib.hid hok
          clear hok hp1 hp2
          by_cases hlt : k < B.bounds.length
          · obtain ⟨b, o, rfl, hbl, hc⟩ := HB.out.bounds (by omega)
            obtain ⟨q0, q1⟩ := hc k hlt
            obtain ⟨sp, hsp⟩ : ∃ sp, isSpanB (bLo B.bounds k) (bHi B.bounds k) = sp := ⟨_, rfl⟩
            have hmi := fun W => rMinute_any (bLo B.bounds k) (bHi B.bounds k) W
            simp only [hsp] at hmi
            have Hmi := Lib.hid hmi
            have Hsp := Lib.hid hsp
            clear hmi hsp
            go_upto_region 5 with (fail)
            cases sp with
            | false =>
              have HS := Lib.hid (fun W (hW : Ext wr W) => (⟨((b0.ext hE).ext hW).c4, ((E0.trans hE).trans hW).keep q0, ((E0.trans hE).trans hW).keep q1⟩ : ((W.cell? ⟨gB, 0, none⟩ = some (.int .i64 B.comp) ∧ W.cell? ⟨gB, 1, none⟩ = some (.slice (some ⟨b, o, none⟩) B.bounds.length c1) ∧ W.cell? ⟨gB, 2, none⟩ = some (.slice a2 B.orders.length c2) ∧ W.cell? ⟨gB, 3, none⟩ = some (.slice a3 B.shots.length c3)) ∧ W.cell? ⟨b, o + k * 2, none⟩ = some (.int .i64 (bLo B.bounds k)) ∧ W.cell? ⟨b, o + k * 2 + 1, none⟩ = some (.int .i64 (bHi B.bounds k)))))
              clear q0 q1 x0 x1 x2 x3
              refine wp_plan (fun W => ((W.cell? ⟨gB, 0, none⟩ = some (.int .i64 B.comp) ∧ W.cell? ⟨gB, 1, none⟩ = some (.slice (some ⟨b, o, none⟩) B.bounds.length c1) ∧ W.cell? ⟨gB, 2, none⟩ = some (.slice a2 B.orders.length c2) ∧ W.cell? ⟨gB, 3, none⟩ = some (.slice a3 B.shots.length c3)) ∧ W.cell? ⟨b, o + k * 2, none⟩ = some (.int .i64 (bLo B.bounds k)) ∧ W.cell? ⟨b, o + k * 2 + 1, none⟩ = some (.int .i64 (bHi B.bounds k)))) (.tames [0, 1, 2, 3, 4] (.one 5 (.tames [6, 7, 8, 9, 10, 11, 12, 13, 14, 15, 16, 17, 18, 19, 20, 21, 22, 23, 24, 25, 26] (.done)))) (by kernel_rfl) (by kernel_rfl) (by kernel_rfl) (fun c a d v w h => by cases d <;> exact h) ?_ ?_
              · exact HS.out _ (Ext.drew _)
              refine pl_tames ?_
              (try simp only [Act.put, List.setIfInBounds_toArray, List.set_cons_zero, List.set_cons_succ])
              repeat (first
                | (refine pl_run (v := ?_) rfl ?_ (fun W hW => ?_) ?_; rotate_left; rfl; ((try dsimp only at hW); go_simp; try with_reducible rfl); (try simp only [Act.put, List.setIfInBounds_toArray, List.set_cons_zero, List.set_cons_succ]))
                | (refine pl_skip rfl ?_ ?_; rfl; (try simp only [Act.put, List.setIfInBounds_toArray, List.set_cons_zero, List.set_cons_succ])))
              refine pl_end ?_
              refine pl_one rfl (by rfl) (fun K hK => ?_)
              go_simp
              (go_at_call 66; refine (Hmi.out _).mono ?_; rintro e w2 ⟨rfl, hE2⟩)
              refine hK.out _ _ (HS.out _ ((Ext.drew _).trans hE2)) ?_
              clear hK K
              (try refine pl_tames ?_)
              (try simp only [Act.put, List.setIfInBounds_toArray, List.set_cons_zero, List.set_cons_succ])
              try ((repeat (first   | (refine pl_run (v := ?_) rfl ?_ (fun W hW => ?_) ?_; rotate_left; rfl; ((try dsimp only at hW); go_simp; try with_reducible rfl); (try simp only [Act.put, List.setIfInBounds_toArray, List.set_cons_zero, List.set_cons_succ]))   | (refine pl_skip rfl ?_ ?_; rfl; (try simp only [Act.put, List.setIfInBounds_toArray, List.set_cons_zero, List.set_cons_succ])))); refine pl_end ?_)
              refine pl_done ?_
              (try simp only [Act.put])
              clear HS
              go_wp2
              go_roundw
              case rel => exact ⟨k + 1, false, by omega, by go_num, rfl, Lib.hid fun h => by (cases h), Lib.hid fun _ => not_valid1 hlt (by simp [okBound, Hsp.out]), hE.trans ((Ext.drew _).trans hE2)⟩
              case measure => simp [intOf]; omega
            | true =>
              by_cases hk0 : k = 0
              · subst hk0
                have HS := Lib.hid (fun W (hW : Ext wr W) => (⟨((b0.ext hE).ext hW).c4, ((E0.trans hE).trans hW).keep q0, ((E0.trans hE).trans hW).keep q1⟩ : ((W.cell? ⟨gB, 0, none⟩ = some (.int .i64 B.comp) ∧ W.cell? ⟨gB, 1, none⟩ = some (.slice (some ⟨b, o, none⟩) B.bounds.length c1) ∧ W.cell? ⟨gB, 2, none⟩ = some (.slice a2 B.orders.length c2) ∧ W.cell? ⟨gB, 3, none⟩ = some (.slice a3 B.shots.length c3)) ∧ W.cell? ⟨b, o + 0 * 2, none⟩ = some (.int .i64 (bLo B.bounds 0)) ∧ W.cell? ⟨b, o + 0 * 2 + 1, none⟩ = some (.int .i64 (bHi B.bounds 0)))))
                clear q0 q1 x0 x1 x2 x3
                simp only [Nat.zero_mul, Nat.add_zero] at HS
                refine wp_plan (fun W => ((W.cell? ⟨gB, 0, none⟩ = some (.int .i64 B.comp) ∧ W.cell? ⟨gB, 1, none⟩ = some (.slice (some ⟨b, o, none⟩) B.bounds.length c1) ∧ W.cell? ⟨gB, 2, none⟩ = some (.slice a2 B.orders.length c2) ∧ W.cell? ⟨gB, 3, none⟩ = some (.slice a3 B.shots.length c3)) ∧ W.cell? ⟨b, o, none⟩ = some (.int .i64 (bLo B.bounds 0)) ∧ W.cell? ⟨b, o + 1, none⟩ = some (.int .i64 (bHi B.bounds 0)))) (.tames [0, 1, 2, 3, 4] (.one 5 (.tames [6, 7, 8, 9, 10, 11, 12, 13, 14, 15, 16, 17, 18, 19, 20, 21, 22, 23, 24, 25, 26] (.done)))) (by kernel_rfl) (by kernel_rfl) (by kernel_rfl) (fun c a d v w h => by cases d <;> exact h) ?_ ?_
                · exact HS.out _ (Ext.drew _)
                refine pl_tames ?_
                (try simp only [Act.put, List.setIfInBounds_toArray, List.set_cons_zero, List.set_cons_succ])
                repeat (first
                  | (refine pl_run (v := ?_) rfl ?_ (fun W hW => ?_) ?_; rotate_left; rfl; ((try dsimp only at hW); go_simp; try with_reducible rfl); (try simp only [Act.put, List.setIfInBounds_toArray, List.set_cons_zero, List.set_cons_succ]))
                  | (refine pl_skip rfl ?_ ?_; rfl; (try simp only [Act.put, List.setIfInBounds_toArray, List.set_cons_zero, List.set_cons_succ])))
                refine pl_end ?_
                refine pl_one rfl (by rfl) (fun K hK => ?_)
                go_simp
                (go_at_call 66; refine (Hmi.out _).mono ?_; rintro e w2 ⟨rfl, hE2⟩)
                refine hK.out _ _ (HS.out _ ((Ext.drew _).trans hE2)) ?_
                clear hK K
                (try refine pl_tames ?_)
                (try simp only [Act.put, List.setIfInBounds_toArray, List.set_cons_zero, List.set_cons_succ])
                try ((repeat (first   | (refine pl_run (v := ?_) rfl ?_ (fun W hW => ?_) ?_; rotate_left; rfl; ((try dsimp only at hW); go_simp; try with_reducible rfl); (try simp only [Act.put, List.setIfInBounds_toArray, List.set_cons_zero, List.set_cons_succ]))   | (refine pl_skip rfl ?_ ?_; rfl; (try simp only [Act.put, List.setIfInBounds_toArray, List.set_cons_zero, List.set_cons_succ])))); refine pl_end ?_)
                refine pl_done ?_
                (try simp only [Act.put])
                clear HS
                go_wp2
                go_roundw
                case rel => exact ⟨0 + 1, true, by omega, by go_num, rfl, Lib.hid fun _ => by simp [okBounds, okBound, Hsp.out], Lib.hid fun h => by (cases h), hE.trans ((Ext.drew _).trans hE2)⟩
                case measure => simp [intOf]; omega
              · obtain ⟨m, rfl⟩ : ∃ m, k = m + 1 := ⟨k - 1, by omega⟩
                obtain ⟨q2, q3⟩ := hc m (by omega)
                have hk1 : ((m : Int) + 1 == 0) = false := by rw [beq_eq_false_iff_ne]; omega
                have hm1 : IntKind.i64.wrap (m : Int) = m := wr64 _ (by omega)
                have hm2 : (0 : Int) ≤ m := by omega
                have hm3 : (m : Int) < B.bounds.length := by omega
                have hm4 : (0 : Int) ≤ (m : Int) + 1 := by omega
                have hm5 : (m : Int) + 1 < B.bounds.length := by omega
                have HS := Lib.hid (fun W (hW : Ext wr W) => (⟨((b0.ext hE).ext hW).c4, ((E0.trans hE).trans hW).keep q0, ((E0.trans hE).trans hW).keep q1, ((E0.trans hE).trans hW).keep q3⟩ : ((W.cell? ⟨gB, 0, none⟩ = some (.int .i64 B.comp) ∧ W.cell? ⟨gB, 1, none⟩ = some (.slice (some ⟨b, o, none⟩) B.bounds.length c1) ∧ W.cell? ⟨gB, 2, none⟩ = some (.slice a2 B.orders.length c2) ∧ W.cell? ⟨gB, 3, none⟩ = some (.slice a3 B.shots.length c3)) ∧ W.cell? ⟨b, o + (m + 1) * 2, none⟩ = some (.int .i64 (bLo B.bounds (m + 1))) ∧ W.cell? ⟨b, o + (m + 1) * 2 + 1, none⟩ = some (.int .i64 (bHi B.bounds (m + 1))) ∧ W.cell? ⟨b, o + m * 2 + 1, none⟩ = some (.int .i64 (bHi B.bounds m)))))
                clear q0 q1 q2 q3 x0 x1 x2 x3
                refine wp_plan (fun W => ((W.cell? ⟨gB, 0, none⟩ = some (.int .i64 B.comp) ∧ W.cell? ⟨gB, 1, none⟩ = some (.slice (some ⟨b, o, none⟩) B.bounds.length c1) ∧ W.cell? ⟨gB, 2, none⟩ = some (.slice a2 B.orders.length c2) ∧ W.cell? ⟨gB, 3, none⟩ = some (.slice a3 B.shots.length c3)) ∧ W.cell? ⟨b, o + (m + 1) * 2, none⟩ = some (.int .i64 (bLo B.bounds (m + 1))) ∧ W.cell? ⟨b, o + (m + 1) * 2 + 1, none⟩ = some (.int .i64 (bHi B.bounds (m + 1))) ∧ W.cell? ⟨b, o + m * 2 + 1, none⟩ = some (.int .i64 (bHi B.bounds m)))) (.tames [0, 1, 2, 3, 4] (.one 5 (.tames [6, 7, 8, 9, 10, 11, 12, 13, 14, 15, 16, 17, 18, 19, 20, 21, 22, 23, 24, 25, 26] (.done)))) (by kernel_rfl) (by kernel_rfl) (by kernel_rfl) (fun c a d v w h => by cases d <;> exact h) ?_ ?_
                · exact HS.out _ (Ext.drew _)
                refine pl_tames ?_
                (try simp only [Act.put, List.setIfInBounds_toArray, List.set_cons_zero, List.set_cons_succ])
                repeat (first
                  | (refine pl_run (v := ?_) rfl ?_ (fun W hW => ?_) ?_; rotate_left; rfl; ((try dsimp only at hW); go_simp; try with_reducible rfl); (try simp only [Act.put, List.setIfInBounds_toArray, List.set_cons_zero, List.set_cons_succ]))
                  | (refine pl_skip rfl ?_ ?_; rfl; (try simp only [Act.put, List.setIfInBounds_toArray, List.set_cons_zero, List.set_cons_succ])))
                refine pl_end ?_
                refine pl_one rfl (by rfl) (fun K hK => ?_)
                go_simp
                (go_at_call 66; refine (Hmi.out _).mono ?_; rintro e w2 ⟨rfl, hE2⟩)
                refine hK.out _ _ (HS.out _ ((Ext.drew _).trans hE2)) ?_
                clear hK K
                (try refine pl_tames ?_)
                (try simp only [Act.put, List.setIfInBounds_toArray, List.set_cons_zero, List.set_cons_succ])
                try ((repeat (first   | (refine pl_run (v := ?_) rfl ?_ (fun W hW => ?_) ?_; rotate_left; rfl; ((try dsimp only at hW); go_simp; try with_reducible rfl); (try simp only [Act.put, List.setIfInBounds_toArray, List.set_cons_zero, List.set_cons_succ]))   | (refine pl_skip rfl ?_ ?_; rfl; (try simp only [Act.put, List.setIfInBounds_toArray, List.set_cons_zero, List.set_cons_succ])))); refine pl_end ?_)
                refine pl_done ?_
                (try simp only [Act.put])
                clear HS
                go_wp2
                go_roundw
                case rel => exact ⟨m + 1 + 1, decide (bHi B.bounds m < bLo B.bounds (m + 1)), by omega, by go_num, rfl, Lib.hid fun h => by rw [show okBounds B.bounds (m + 1 + 1) = (okBounds B.bounds (m + 1) && okBound B.bounds (m + 1)) from by simp [okBounds, range_all_succ], Hok.out]; simp [okBound, Hsp.out]; simpa using h, Lib.hid fun h => not_valid1 hlt (by simp [okBound, Hsp.out]; simpa using h), hE.trans ((Ext.drew _).trans hE2)⟩
                case measure => simp [intOf]; omega
          · obtain rfl : k = B.bounds.length := by omega
            have hsz := ok0_comp Hk0.out
            go_upto_region 7 with (fail)
            clear x0 x1 x2 x3
            have E1 := E0.trans hE
            have b1 := b0.ext hE
            go_loopw [3, 5] (fun s i wx => ∃ (k : Nat) (p : Bool), k ≤ B.orders.length ∧ i = .int .i64 k ∧ s = .bool p ∧ Hid (p = true → okRows B.comp B.bounds.length B.orders k = true) ∧ Hid (p = false → validB B = false) ∧ Ext wr wx) (fun _ i _ => B.orders.length - (intOf i).toNat)
            case atStart => exact ⟨0, true, Nat.zero_le _, rfl, rfl, Lib.hid fun _ => by simp [okRows], Lib.hid fun h => by (cases h), Ext.refl _⟩
            case round =>
              clear hE
              obtain ⟨k, p, hk, rfl, rfl, hp1, hp2, hE⟩ := hrel
              obtain ⟨x0, x1, x2, x3⟩ := (b1.ext hE).c4
              cases p with
              | false =>
                have Hv := Lib.hid (hp2.out rfl)
                clear hp1 hp2
                go_upto_region 15 with (fail)
                go_loopw [3, 7] (fun s i wz => s = .bool false ∧ Ext w wz) (fun _ i _ => 0)
                case atStart => exact ⟨rfl, (E1.trans hE)⟩
                case round =>
                  obtain ⟨rfl, hEz⟩ := hrel
                  go_wp2
                  go_ret
                  exact ⟨by rw [checkRes, Hv.out]; rfl, hEz⟩
              | true =>
                have hrow := hp1.out rfl
                have Hrow := Lib.hid hrow
                clear hrow hp1 hp2
                by_cases hlt : k < B.orders.length
                · obtain ⟨b, o, rfl, hbl, hc⟩ := HB.out.orders (by omega)
                  obtain ⟨ra, rc, q1, ql, qi⟩ := hc k hlt
                  have q1' := (E1.trans hE).keep q1
                  go_upto_region 9 with (fail)
                  by_cases hlen : (oAt B.orders k).length = B.bounds.length + 1
                  · have hq : (((oAt B.orders k).length : Int) == (B.bounds.length : Int) + 1) = true := by rw [beq_iff_eq]; omega
                    have Hlen := Lib.hid hlen
                    clear hlen
                    go_quiet (fail)
                    go_upto_region 11 with (fail)
                    clear q1' x0 x1 x2 x3 hq
                    obtain ⟨W1, hW1⟩ : ∃ W1, W1 = wr.drewN nq := ⟨_, rfl⟩
                    have hE1 := hE.trans (show Ext wr W1 by rw [hW1]; exact Ext.drewN _ _)
                    rw [← hW1]
                    clear hW1
                    go_loopw [3, 6] (fun s i wx => ∃ (j : Nat) (p : Bool), j ≤ (oAt B.orders k).length ∧ i = .int .i64 j ∧ s = .bool p ∧ Hid (p = true → okNums B.comp (oAt B.orders k) j = true) ∧ Hid (p = false → validB B = false) ∧ Ext W1 wx) (fun _ i _ => (oAt B.orders k).length - (intOf i).toNat)
                    case atStart => exact ⟨0, true, Nat.zero_le _, rfl, rfl, Lib.hid fun _ => by simp [okNums], Lib.hid fun h => by (cases h), Ext.refl _⟩
                    case round =>
                      obtain ⟨j, p, hj, rfl, rfl, hp1, hp2, hE2⟩ := hrel
                      have hE3 := hE1.trans hE2
                      obtain ⟨x0, x1, x2, x3⟩ := (b1.ext hE3).c4
                      have q1' := (E1.trans hE3).keep q1
                      cases p with
                      | false =>
                        have Hv := Lib.hid (hp2.out rfl)
                        clear hp1 hp2
                        go_wp2_with (fail)
                        go_roundw
                        case rel => exact ⟨k + 1, false, by omega, by go_num, rfl, Lib.hid fun h => by (cases h), Lib.hid fun _ => Hv.out, hE3⟩
                        case measure => simp [intOf]; omega
                      | true =>
                        have hnum := hp1.out rfl
                        have Hnum := Lib.hid hnum
                        clear hnum hp1 hp2
                        by_cases hjl : j < (oAt B.orders k).length
                        · obtain ⟨b2, o2, rfl, hbl2, hc2⟩ := qi (by omega)
                          have q2 := hc2 j hjl
                          have hco := fun W => rComp_any B a1 (some ⟨b, o, none⟩) a3 c1 c2 c3 (nAt (oAt B.orders k) j) W
                          have hcw : IntKind.i64.wrap (B.comp - 1) = B.comp - 1 := wr64 _ (by omega)
                          obtain ⟨r, hr⟩ : ∃ r, inB (nAt (oAt B.orders k) j) 0 (B.comp - 1) = r := ⟨_, rfl⟩
                          simp only [hcw, hr] at hco
                          have Hco := Lib.hid hco
                          have Hr := Lib.hid hr
                          clear hco hcw hr
                          have HS := Lib.hid (fun W (hW : Ext wr W) => (⟨(b1.ext (hE3.trans hW)).c4, (E1.trans (hE3.trans hW)).keep q1, (E1.trans (hE3.trans hW)).keep q2⟩ : ((W.cell? ⟨gB, 0, none⟩ = some (.int .i64 B.comp) ∧ W.cell? ⟨gB, 1, none⟩ = some (.slice a1 B.bounds.length c1) ∧ W.cell? ⟨gB, 2, none⟩ = some (.slice (some ⟨b, o, none⟩) B.orders.length c2) ∧ W.cell? ⟨gB, 3, none⟩ = some (.slice a3 B.shots.length c3)) ∧ W.cell? ⟨b, o + k, none⟩ = some (.slice (some ⟨b2, o2, none⟩) (oAt B.orders k).length rc) ∧ W.cell? ⟨b2, o2 + j, none⟩ = some (.int .i64 (nAt (oAt B.orders k) j)))))
                          go_upto_region 13 with (fail)
                          clear x0 x1 x2 x3 q1' q2
                          refine wp_plan (fun W => ((W.cell? ⟨gB, 0, none⟩ = some (.int .i64 B.comp) ∧ W.cell? ⟨gB, 1, none⟩ = some (.slice a1 B.bounds.length c1) ∧ W.cell? ⟨gB, 2, none⟩ = some (.slice (some ⟨b, o, none⟩) B.orders.length c2) ∧ W.cell? ⟨gB, 3, none⟩ = some (.slice a3 B.shots.length c3)) ∧ W.cell? ⟨b, o + k, none⟩ = some (.slice (some ⟨b2, o2, none⟩) (oAt B.orders k).length rc) ∧ W.cell? ⟨b2, o2 + j, none⟩ = some (.int .i64 (nAt (oAt B.orders k) j)))) (.tames [0, 1, 2, 3, 4, 5, 6, 7, 8] (.one 9 (.tames [10] (.done)))) (by kernel_rfl) (by kernel_rfl) (by kernel_rfl) (fun c a d v w h => by cases d <;> exact h) ?_ ?_
                          · exact HS.out _ (Ext.drew _)
                          refine pl_tames ?_
                          (try simp only [Act.put, List.setIfInBounds_toArray, List.set_cons_zero, List.set_cons_succ])
                          repeat (first
                            | (refine pl_run (v := ?_) rfl ?_ (fun W hW => ?_) ?_; rotate_left; rfl; ((try dsimp only at hW); go_simp; try with_reducible rfl); (try simp only [Act.put, List.setIfInBounds_toArray, List.set_cons_zero, List.set_cons_succ]))
                            | (refine pl_skip rfl ?_ ?_; rfl; (try simp only [Act.put, List.setIfInBounds_toArray, List.set_cons_zero, List.set_cons_succ])))
                          refine pl_end ?_
                          refine pl_one rfl (by rfl) (fun K hK => ?_)
                          go_simp
                          (go_at_call 67; refine (Hco.out _).mono ?_; rintro e w2 ⟨rfl, hE4⟩)
                          refine hK.out _ _ (HS.out _ ((Ext.drew _).trans hE4)) ?_
                          clear hK K
                          (try refine pl_tames ?_)
                          (try simp only [Act.put, List.setIfInBounds_toArray, List.set_cons_zero, List.set_cons_succ])
                          try ((repeat (first   | (refine pl_run (v := ?_) rfl ?_ (fun W hW => ?_) ?_; rotate_left; rfl; ((try dsimp only at hW); go_simp; try with_reducible rfl); (try simp only [Act.put, List.setIfInBounds_toArray, List.set_cons_zero, List.set_cons_succ]))   | (refine pl_skip rfl ?_ ?_; rfl; (try simp only [Act.put, List.setIfInBounds_toArray, List.set_cons_zero, List.set_cons_succ])))); refine pl_end ?_)
                          refine pl_done ?_
                          (try simp only [Act.put])
                          clear HS
                          go_wp2
                          go_roundw
                          case rel => exact ⟨j + 1, r, by omega, by go_num, rfl, Lib.hid fun h => by rw [show okNums B.comp (oAt B.orders k) (j + 1) = (okNums B.comp (oAt B.orders k) j && inB (nAt (oAt B.orders k) j) 0 (B.comp - 1)) from by simp [okNums, range_all_succ], Hnum.out, Hr.out, h]; rfl, Lib.hid fun h => not_valid2 hlt (not_row2 hjl (by rw [Hr.out, h])), hE2.trans ((Ext.drew _).trans hE4)⟩
                          case measure => simp [intOf]; omega
                        · obtain rfl : j = (oAt B.orders k).length := by omega
                          go_wp2_with (fail)
                          go_roundw
                          case rel => exact ⟨k + 1, true, by omega, by go_num, rfl, Lib.hid fun _ => by rw [show okRows B.comp B.bounds.length B.orders (k + 1) = (okRows B.comp B.bounds.length B.orders k && okRow B.comp B.bounds.length (oAt B.orders k)) from by simp [okRows, range_all_succ], Hrow.out, okRow, Hnum.out, decide_eq_true Hlen.out]; rfl, Lib.hid fun h => by (cases h), hE3⟩
                          case measure => simp [intOf]; omega
                  · have hq : (((oAt B.orders k).length : Int) == (B.bounds.length : Int) + 1) = false := by rw [beq_eq_false_iff_ne]; omega
                    have Hv := Lib.hid (not_valid2 hlt (not_row1 (decide_eq_false hlen)))
                    clear hlen
                    go_quiet (fail)
                    go_upto_region 11 with (fail)
                    clear q1' x0 x1 x2 x3 hq
                    obtain ⟨W1, hW1⟩ : ∃ W1, W1 = wr.drewN nq := ⟨_, rfl⟩
                    have hE1 := hE.trans (show Ext wr W1 by rw [hW1]; exact Ext.drewN _ _)
                    rw [← hW1]
                    clear hW1
                    go_loopw [3, 6] (fun s i wx => s = .bool false ∧ Ext W1 wx) (fun _ i _ => 0)
                    case atStart => exact ⟨rfl, Ext.refl _⟩
                    case round =>
                      obtain ⟨rfl, hE2⟩ := hrel
                      go_wp2_with (fail)
                      go_roundw
                      case rel => exact ⟨k + 1, false, by omega, by go_num, rfl, Lib.hid fun h => by (cases h), Lib.hid fun _ => Hv.out, hE1.trans hE2⟩
                      case measure => simp [intOf]; omega
                · obtain rfl : k = B.orders.length := by omega
                  go_upto_region 15 with (fail)
                  clear x0 x1 x2 x3
                  have E2 := E1.trans hE
                  have b2 := b1.ext hE
                  go_loopw [3, 7] (fun s i wx => ∃ (k : Nat) (p : Bool), k ≤ B.shots.length ∧ i = .int .i64 k ∧ s = .bool p ∧ Hid (p = true → okShots B k = true) ∧ Hid (p = false → validB B = false) ∧ Ext wr wx) (fun _ i _ => B.shots.length - (intOf i).toNat)
                  case atStart => exact ⟨0, true, Nat.zero_le _, rfl, rfl, Lib.hid fun _ => by simp [okShots], Lib.hid fun h => by (cases h), Ext.refl _⟩
                  case round =>
                    clear hE
                    obtain ⟨k, p, hk, rfl, rfl, hp1, hp2, hE⟩ := hrel
                    obtain ⟨x0, x1, x2, x3⟩ := (b2.ext hE).c4
                    cases p with
                    | false =>
                      have Hv := Lib.hid (hp2.out rfl)
                      clear hp1 hp2
                      go_wp2
                      go_ret
                      exact ⟨by rw [checkRes, Hv.out]; rfl, E2.trans hE⟩
                    | true =>
                      have hsh := hp1.out rfl
                      have Hsh := Lib.hid hsh
                      clear hsh hp1 hp2
                      by_cases hlt : k < B.shots.length
                      · obtain ⟨b, o, rfl, hbl, hc⟩ := HB.out.shots (by omega)
                        obtain ⟨q0, q1, q2, q3⟩ := hc k hlt
                        have q0' := (E2.trans hE).keep q0
                        have q1' := (E2.trans hE).keep q1
                        have q2' := (E2.trans hE).keep q2
                        have q3' := (E2.trans hE).keep q3
                        go_upto_region 18 with (fail)
                        obtain ⟨W5, hW5⟩ : ∃ W5, W5 = wr.alloc (.cells #[.int .i64 (sAt B.shots k).st, .int .i64 (sAt B.shots k).co, .int .i64 (sAt B.shots k).lo, .int .i64 (sAt B.shots k).hi] 59) := ⟨_, rfl⟩
                        have X5 : Ext wr W5 := by rw [hW5]; exact Ext.alloc _ _
                        have s5 : Blk W5 wr.heap.size 59 #[.int .i64 (sAt B.shots k).st, .int .i64 (sAt B.shots k).co, .int .i64 (sAt B.shots k).lo, .int .i64 (sAt B.shots k).hi] := by rw [hW5]; exact Blk.new _ _ _
                        rw [← hW5]
                        clear hW5 q0 q1 q2 q3 q0' q1' q2' q3' x0 x1 x2 x3
                        have E5 := hE.trans X5
                        obtain ⟨x0, x1, x2, x3⟩ := (b2.ext E5).c4
                        obtain ⟨y0, y1, y2, y3⟩ := s5.c4
                        have hst := fun W => rStation_any B a1 a2 (some ⟨b, o, none⟩) c1 c2 c3 (sAt B.shots k).st W (by omega)
                        have hco := fun W => rComp_any B a1 a2 (some ⟨b, o, none⟩) c1 c2 c3 (sAt B.shots k).co W
                        have hmi := fun W => rMinute_any (sAt B.shots k).lo (sAt B.shots k).hi W
                        have hcw : IntKind.i64.wrap (B.comp - 1) = B.comp - 1 := wr64 _ (by omega)
                        have hos : okShot B (sAt B.shots k) = (isStB B (sAt B.shots k).st && inB (sAt B.shots k).co 0 (B.comp - 1) && isSpanB (sAt B.shots k).lo (sAt B.shots k).hi) := rfl
                        obtain ⟨r1, hr1⟩ : ∃ r, isStB B (sAt B.shots k).st = r := ⟨_, rfl⟩
                        obtain ⟨r2, hr2⟩ : ∃ r, inB (sAt B.shots k).co 0 (B.comp - 1) = r := ⟨_, rfl⟩
                        obtain ⟨r3, hr3⟩ : ∃ r, isSpanB (sAt B.shots k).lo (sAt B.shots k).hi = r := ⟨_, rfl⟩
                        simp only [hr1] at hst
                        simp only [hcw, hr2] at hco
                        simp only [hr3] at hmi
                        rw [hr1, hr2, hr3] at hos
                        have Hst := Lib.hid hst
                        have Hco := Lib.hid hco
                        have Hmi := Lib.hid hmi
                        have Hos := Lib.hid hos
                        have hsuc : okShots B (k + 1) = (okShots B k && okShot B (sAt B.shots k)) := by simp [okShots, range_all_succ]
                        have Hsuc := Lib.hid hsuc
                        clear hst hco hmi hcw hos hr1 hr2 hr3 hsuc
                        cases r1 with
                        | false =>
                          go_wp2_with (go_at_call 68; refine (Hst.out _).mono ?_; rintro e w6 ⟨rfl, hE6⟩)
                          go_roundw
                          case rel => exact ⟨k + 1, false, by omega, by go_num, rfl, Lib.hid fun h => by (cases h), Lib.hid fun _ => not_valid3 hlt (by rw [Hos.out]; rfl), E5.trans hE6⟩
                          case measure => simp [intOf]; omega
                        | true =>
                          cases r2 with
                          | false =>
                            go_wp2_with (first | (go_at_call 68; refine (Hst.out _).mono ?_; rintro e w6 ⟨rfl, hE6⟩; clear x0 x1 x2 x3 y0 y1 y2 y3; obtain ⟨x0, x1, x2, x3⟩ := (b2.ext (E5.trans hE6)).c4; obtain ⟨y0, y1, y2, y3⟩ := (s5.ext hE6).c4) | (go_at_call 67; refine (Hco.out _).mono ?_; rintro e w7 ⟨rfl, hE7⟩))
                            go_roundw
                            case rel => exact ⟨k + 1, false, by omega, by go_num, rfl, Lib.hid fun h => by (cases h), Lib.hid fun _ => not_valid3 hlt (by rw [Hos.out]; rfl), E5.trans (hE6.trans hE7)⟩
                            case measure => simp [intOf]; omega
                          | true =>
                            go_wp2_with (first | (go_at_call 68; refine (Hst.out _).mono ?_; rintro e w6 ⟨rfl, hE6⟩; clear x0 x1 x2 x3 y0 y1 y2 y3; obtain ⟨x0, x1, x2, x3⟩ := (b2.ext (E5.trans hE6)).c4; obtain ⟨y0, y1, y2, y3⟩ := (s5.ext hE6).c4) | (go_at_call 67; refine (Hco.out _).mono ?_; rintro e w7 ⟨rfl, hE7⟩; clear y0 y1 y2 y3; obtain ⟨y0, y1, y2, y3⟩ := (s5.ext (hE6.trans hE7)).c4) | (go_at_call 66; refine (Hmi.out _).mono ?_; rintro e w8 ⟨rfl, hE8⟩))
                            go_roundw
                            case rel => exact ⟨k + 1, r3, by omega, by go_num, rfl, Lib.hid fun h => by rw [Hsuc.out, Hsh.out, Hos.out, h]; rfl, Lib.hid fun h => not_valid3 hlt (by rw [Hos.out, h]; rfl), E5.trans ((hE6.trans hE7).trans hE8)⟩
                            case measure => simp [intOf]; omega
                      · obtain rfl : k = B.shots.length := by omega
                        have Hv : Hid (validB B = true) := Lib.hid (by unfold validB; rw [Hk0.out, Hok.out, Hrow.out, Hsh.out]; rfl)
                        go_wp2
                        go_ret
                        exact ⟨by rw [checkRes, Hv.out]; rfl, E2.trans hE⟩
set_option maxHeartbeats 1000000 in
theorem rAsked_any (B : Bk) (is : Bool) (a1 a2 a3 : Option Addr) (c1 c2 c3 : Nat) (w : World) (h : BookA w B a1 a2 a3) :
    Calls Tryd.prog 61 #[.agg #[.int .i64 B.comp, .slice a1 B.bounds.length c1, .slice a2 B.orders.length c2, .slice a3 B.shots.length c3], .bool is] w fun e w' => e = .returned (.int .i64 (askE B is)) ∧ Ext w w' := by
  have hc := fun W (hW : Ext w W) => rCheck_any B a1 a2 a3 c1 c2 c3 W (h.ext hW)
  have E0 := Ext.alloc w (.cells #[.int .i64 B.comp, .slice a1 B.bounds.length c1, .slice a2 B.orders.length c2, .slice a3 B.shots.length c3] 26)
  unfold checkRes at hc
  unfold askE
  cases hv : validB B with
  | false =>
    simp only [hv] at hc
    have Hc := Lib.hid hc
    clear hc h hv
    go_enter Tryd.func61, Tryd.ntmps61
    go_wp2_with (go_at_call 18; refine (Hc.out _ E0).mono ?_; rintro e w' ⟨rfl, hE⟩)
    go_ret
    exact ⟨rfl, E0.trans hE⟩
  | true =>
    simp only [hv] at hc
    have Hc := Lib.hid hc
    clear hc h hv
    cases is <;>
    · go_enter Tryd.func61, Tryd.ntmps61
      go_wp2_with (go_at_call 18; refine (Hc.out _ E0).mono ?_; rintro e w' ⟨rfl, hE⟩)
      go_ret
      exact ⟨rfl, E0.trans hE⟩
end Go.Proofs.YtnhdcdhpfgdphaaDoor

/-
  Bits, Sooner, Fewer: contracts.
-/
set_option linter.unusedSimpArgs false
set_option linter.unusedVariables false
namespace Go.Proofs.YtnhdcdhpfgdphaaDoor
open Go Go.RowKit

theorem bit_all : ((List.range 32).all fun m => (List.range 5).all fun k => (((m : Int) / 2 ^ k).tmod 2 == 1) == bitB m k) = true := by kernel_rfl
theorem bit_eq {m k : Nat} (hm : m < 32) (hk : k < 5) : (((m : Int) / 2 ^ k).tmod 2 == 1) = bitB m k := by
  have h := bit_all
  simp only [List.all_eq_true, List.mem_range, beq_iff_eq] at h
  exact h m hm k hk
theorem bit_any {m k : Nat} (hm : m < 32) (hk : k < 5) (w : World) : Calls Tryd.prog 89 #[.int .i64 m, .int .i64 k] w fun e w' => e = .returned (.bool (bitB m k)) ∧ w = w' := by
  have hb := bit_eq hm hk
  have Hb := Lib.hid hb
  clear hb
  go_enter Tryd.func89, Tryd.ntmps89
  go_wp2
  go_ret
  exact ⟨by rw [← Hb.out]; rfl, rfl⟩
set_option maxRecDepth 100000 in
set_option maxHeartbeats 1000000 in
theorem bits_any (m n : Nat) (hm : m < 32) (hn : n ≤ 5) (w : World) : Calls Tryd.prog 50 #[.int .i64 m, .int .i64 n] w
    fun e w' => (∃ a cp, e = .returned (.slice a (outK m n).length cp) ∧ IntA w' a (outK m n)) ∧ Ext w w' := by
  obtain ⟨i0, hi, hz0, hz1, hz2⟩ := info_parts int_info
  go_enter Tryd.func50, Tryd.ntmps50
  go_upto_region 3 with (fail)
  have hown : (w.alloc (.cells #[] 3)).ownsRow w.heap.size 3 1 (.slice (some ⟨w.heap.size, 0, none⟩) 0 0) 0 [] :=
    ⟨rfl, .inr ⟨w.heap.size, 0, #[], rfl, Nat.le_refl _, heap_new w _, Nat.le_refl _, Nat.zero_le _, rfl, rfl⟩⟩
  go_loopw [5, 6] (fun v i wr => ∃ k : Nat, k ≤ n ∧ i = .int .i64 k ∧ wr.ownsRow w.heap.size 3 1 v (outK m k).length (ints (outK m k)) ∧ Ext w wr) (fun _ i _ => n - (intOf i).toNat)
  case atStart => exact ⟨0, Nat.zero_le _, rfl, hown, Ext.alloc _ _⟩
  case round =>
    obtain ⟨k, hk, rfl, ho, hE⟩ := hrel
    clear hown
    by_cases hlt : k < n
    · have hos := outK_succ m k
      have hol := outK_len m k
      have hbit := bit_any hm (show k < 5 by omega) wr
      obtain ⟨p, hp⟩ : ∃ p, p = bitB m k := ⟨_, rfl⟩
      rw [← hp] at hos hbit
      have Hos := Lib.hid hos
      have Hbit := Lib.hid hbit
      obtain ⟨hnn, av, cpv, rfl, hI⟩ := own_int ho
      clear hp hos hbit hI hnn
      cases p with
      | true =>
        go_wp2_with (first | (go_at_call 89; refine Hbit.out.mono ?_; rintro e w2 ⟨rfl, rfl⟩) | (at_builtin; refine wpList_append_own _ rfl _ _ 34 rfl w.heap.size 3 i0 (.int .i64 0) 1 8 Tryd.underlying34 hi hz0 hz1 hz2 rfl (by decide) _ _ _ rfl (ho.alloc _) ⟨wr.heap.size, 0, none⟩ 1 1 [.int .i64 k] rfl rfl (cell_one_new _ _ _) (by simp [Value.oneCell']) (by unfold maxLen; omega) (by omega) (by have := hE.size; simp; omega) ?_))
        intro v' w7 hown' hgrow _
        have hE7 : Ext w w7 := Below.grown (Ext.trans hE (Ext.alloc wr _)) hgrow (by have := hE.size; simp; omega) (own_base ho)
        go_wp2
        go_roundw
        case rel => exact ⟨k + 1, by omega, by go_num, by rw [Hos.out]; simpa [ints] using hown', hE7⟩
        case measure => simp [intOf]; omega
      | false =>
        go_wp2_with (go_at_call 89; refine Hbit.out.mono ?_; rintro e w2 ⟨rfl, rfl⟩)
        go_roundw
        case rel => exact ⟨k + 1, by omega, by go_num, by rw [Hos.out]; exact ho, hE⟩
        case measure => simp [intOf]; omega
    · obtain rfl : k = n := by omega
      obtain ⟨hnn, av, cpv, rfl, hI⟩ := own_int ho
      clear hnn
      go_wp2
      go_ret
      exact ⟨⟨_, _, rfl, hI⟩, hE⟩

set_option maxRecDepth 100000 in
set_option maxHeartbeats 1000000 in
theorem sooner_any (a b : Option Addr) (xs ys : List Int) (cp cq : Nat) (w : World) (h : IntA w a xs) (h2 : IntA w b ys) (hm : xs.length ≤ 9223372036854775807) (hm2 : ys.length ≤ 9223372036854775807) :
    Calls Tryd.prog 90 #[.slice a xs.length cp, .slice b ys.length cq] w fun e w' => e = .returned (.bool (decide (cmpL xs ys < 0))) ∧ Ext w w' := by
  go_enter Tryd.func90, Tryd.ntmps90
  go_upto_region 2 with (fail)
  go_loopw [5] (fun i wr => ∃ k : Nat, k ≤ xs.length ∧ k ≤ ys.length ∧ i = .int .i64 k ∧ cmpL xs ys = cmpL (xs.drop k) (ys.drop k) ∧ Ext w wr) (fun i _ => xs.length - (intOf i).toNat)
  case atStart => exact ⟨0, Nat.zero_le _, Nat.zero_le _, rfl, rfl, Ext.refl _⟩
  case round =>
    obtain ⟨k, hk, hk2, rfl, hn, hE⟩ := hrel
    by_cases hlt : k < xs.length
    · rw [drop_at hlt] at hn
      obtain ⟨b1, o1, rfl, hb1, hc1⟩ := (h.ext hE) (by omega)
      have q1 := hc1 k hlt
      clear hc1
      by_cases hlt2 : k < ys.length
      · rw [drop_at hlt2, cmpL] at hn
        obtain ⟨b2, o2, rfl, hb2, hc2⟩ := (h2.ext hE) (by omega)
        have q2 := hc2 k hlt2
        obtain ⟨x, hx⟩ : ∃ x, x = nAt xs k := ⟨_, rfl⟩
        obtain ⟨y, hy⟩ : ∃ y, y = nAt ys k := ⟨_, rfl⟩
        rw [← hx] at hn q1
        rw [← hy] at hn q2
        clear hc2 hx hy
        rcases (by omega : x = y ∨ x < y ∨ y < x) with hc | hc | hc
        · have Hn : Hid (cmpL xs ys = cmpL (xs.drop (k + 1)) (ys.drop (k + 1))) := Lib.hid (by rw [hn, if_neg (by omega), if_neg (by omega)])
          subst hc
          clear hn
          go_upto_region 2 with (fail)
          go_quiet (fail)
          go_wp2
          go_roundw
          case rel => exact ⟨k + 1, by omega, by omega, by go_num, Hn.out, hE.trans (Ext.drewN _ _)⟩
          case measure => simp [intOf]; omega
        · have Hn : Hid (decide (cmpL xs ys < 0) = true) := Lib.hid (by rw [hn, if_pos hc]; rfl)
          have hne : (x == y) = false := by simp; omega
          have hkl : ((k : Int) == (xs.length : Int)) = false := by simp; omega
          clear hn
          go_upto_region 2 with (fail)
          go_quiet (fail)
          go_upto_region 4 with (fail)
          go_quiet (fail)
          go_wp2
          go_ret
          refine ⟨?_, hE.trans ((Ext.drewN _ _).trans (Ext.drewN _ _))⟩
          rw [Hn.out]
          first | rfl | (show Ending.returned (Value.bool (decide _)) = _; congr 2; simp; omega)
        · have Hn : Hid (decide (cmpL xs ys < 0) = false) := Lib.hid (by rw [hn, if_neg (by omega), if_pos hc]; rfl)
          have hne : (x == y) = false := by simp; omega
          have hkl : ((k : Int) == (xs.length : Int)) = false := by simp; omega
          clear hn
          go_upto_region 2 with (fail)
          go_quiet (fail)
          go_upto_region 4 with (fail)
          go_quiet (fail)
          go_wp2
          go_ret
          refine ⟨?_, hE.trans ((Ext.drewN _ _).trans (Ext.drewN _ _))⟩
          rw [Hn.out]
          first | rfl | (show Ending.returned (Value.bool (decide _)) = _; congr 2; simp; omega)
      · obtain rfl : k = ys.length := by omega
        rw [List.drop_length] at hn
        have Hn : Hid (decide (cmpL xs ys < 0) = false) := Lib.hid (by rw [hn]; rfl)
        clear hn
        go_upto_region 2 with (fail)
        go_quiet (fail)
        go_upto_region 4 with (fail)
        go_quiet (fail)
        go_wp2
        go_ret
        exact ⟨by rw [Hn.out]; rfl, hE.trans ((Ext.drewN _ _).trans (Ext.drewN _ _))⟩
    · obtain rfl : k = xs.length := by omega
      rw [List.drop_length] at hn
      by_cases hlt2 : xs.length < ys.length
      · rw [drop_at hlt2] at hn
        have Hn : Hid (decide (cmpL xs ys < 0) = true) := Lib.hid (by rw [hn]; rfl)
        clear hn
        go_upto_region 2 with (fail)
        go_quiet (fail)
        go_upto_region 4 with (fail)
        go_quiet (fail)
        go_wp2
        go_ret
        exact ⟨by rw [Hn.out]; rfl, hE.trans ((Ext.drewN _ _).trans (Ext.drewN _ _))⟩
      · have e : ys.length = xs.length := by omega
        rw [← e, List.drop_length] at hn
        have Hn : Hid (decide (cmpL xs ys < 0) = false) := Lib.hid (by rw [hn]; rfl)
        clear hn e
        go_upto_region 2 with (fail)
        go_quiet (fail)
        go_upto_region 4 with (fail)
        go_quiet (fail)
        go_wp2
        go_ret
        exact ⟨by rw [Hn.out]; rfl, hE.trans ((Ext.drewN _ _).trans (Ext.drewN _ _))⟩

def fewerB (xs ys : List Int) : Bool := decide (xs.length < ys.length) || (decide (xs.length = ys.length) && decide (cmpL xs ys < 0))
theorem fewer_better (xs ys : List Int) : fewerB xs ys = true ↔ better xs ys := by simp [fewerB, better]
set_option maxRecDepth 100000 in
set_option maxHeartbeats 1000000 in
theorem fewerL_any (a b : Option Addr) (xs ys : List Int) (cp cq : Nat) (w : World) (h : IntA w a xs) (h2 : IntA w b ys) (hm : xs.length ≤ 9223372036854775807) (hm2 : ys.length ≤ 9223372036854775807) :
    Calls Tryd.prog 51 #[.slice a xs.length cp, .slice b ys.length cq] w fun e w' => e = .returned (.bool (fewerB xs ys)) ∧ Ext w w' := by
  rcases (by omega : xs.length < ys.length ∨ ys.length < xs.length ∨ xs.length = ys.length) with hc | hc | hc
  · have Hr : Hid (fewerB xs ys = true) := Lib.hid (by simp [fewerB, hc])
    go_enter Tryd.func51, Tryd.ntmps51
    go_wp2_with (fail)
    go_ret
    exact ⟨by rw [Hr.out]; rfl, Ext.refl _⟩
  · have Hr : Hid (fewerB xs ys = false) := Lib.hid (by simp [fewerB]; omega)
    have hne : ((xs.length : Int) == (ys.length : Int)) = false := by simp; omega
    go_enter Tryd.func51, Tryd.ntmps51
    go_wp2_with (fail)
    go_ret
    have hd : decide (xs.length < ys.length) = false := by simp; omega
    refine ⟨?_, Ext.refl _⟩
    rw [Hr.out, ← hd]
    rfl
  · have Hr : Hid (fewerB xs ys = decide (cmpL xs ys < 0)) := Lib.hid (by simp [fewerB, hc])
    have hs := Lib.hid (sooner_any a b xs ys cp cq w h h2 hm hm2)
    have heq : ((xs.length : Int) == (ys.length : Int)) = true := by simp; omega
    have h3 : xs.length ≤ ys.length := by omega
    have h4 : ys.length ≤ xs.length := by omega
    clear hc
    go_enter Tryd.func51, Tryd.ntmps51
    go_wp2_with (go_at_call 90; refine hs.out.mono ?_; rintro e w2 ⟨rfl, hE2⟩)
    go_ret
    have hd : decide (xs.length < ys.length) = false := by simp; omega
    refine ⟨?_, hE2⟩
    show Ending.returned (Value.bool (decide (xs.length < ys.length) || decide (cmpL xs ys < 0))) = _
    rw [Hr.out, hd, Bool.false_or]

theorem step_append_own {P : Program} {ops : Array Oper} {o : Oper} {a : Act} {w : World} {K : Act → World → Prop} {Q : Exit → Act → World → Prop} {E : Prop}
    (hg : o.guard = none) (s x : Operand) (t : TypeId) (hop : o.op = Op.call { callee := Callee.builtin Builtin.append, args := #[s, x], argTypes := #[t, t] })
    (base : Nat) (e : TypeId) (i : TypeInfo) (z : Value) (size bytes : Nat) (h1 : P.underlying t = some (.slice e)) (h2 : P.info? e = some i) (h3 : i.zero = some z) (h4 : i.size = size) (h5 : i.bytes = bytes) (h6 : z.cells.size = size) (h7 : 0 < size)
    (v : Value) (n : Nat) (xs : List Value) (hs : a.eval s = v) (hown : w.ownsRow base e size v n xs)
    (ad : Addr) (m c : Nat) (news : List Value) (hx : a.eval x = .slice (some ad) m c) (hn : news.length = m * size) (hc : ∀ j u, news[j]? = some u → w.cell? (ad.add j) = some u) (h1c : ∀ u ∈ news, u.oneCell' = true)
    (b1 : n + m ≤ maxLen) (b2 : (n + m) * bytes ≤ 140737488355328) (hb : base ≤ w.heap.size)
    (hK : ∀ v' w', w'.ownsRow base e size v' (n + m) (xs ++ news) → w.grownBy w' v.ownBlock → K (a.put o.dst v') w') :
    if Region.wanted o (yielded ops a.tmps) = true then Oper.wp P o a w K Q else E := by
  have hw : Region.wanted o (yielded ops a.tmps) = true := by simp [Region.wanted, hg]
  rw [if_pos hw]
  obtain ⟨v', w', hrun, r1, r2, _⟩ := run_append_own (P := P) w base t o.type e i z size bytes h1 h2 h3 h4 h5 h6 h7 v n xs hown ad m c news hn hc h1c b1 b2 hb
  unfold Oper.wp
  simp [execOp, hop, resolve, invoke, builtin, hs, hx, hrun, Result.andThen]
  exact hK v' w' r1 r2
theorem wp_append_own {P : Program} {o : Oper} {a : Act} {w : World} {K : Act → World → Prop} {Q : Exit → Act → World → Prop}
    (s x : Operand) (t : TypeId) (hop : o.op = Op.call { callee := Callee.builtin Builtin.append, args := #[s, x], argTypes := #[t, t] })
    (base : Nat) (e : TypeId) (i : TypeInfo) (z : Value) (size bytes : Nat) (h1 : P.underlying t = some (.slice e)) (h2 : P.info? e = some i) (h3 : i.zero = some z) (h4 : i.size = size) (h5 : i.bytes = bytes) (h6 : z.cells.size = size) (h7 : 0 < size)
    (v : Value) (n : Nat) (xs : List Value) (hs : a.eval s = v) (hown : w.ownsRow base e size v n xs)
    (ad : Addr) (m c : Nat) (news : List Value) (hx : a.eval x = .slice (some ad) m c) (hn : news.length = m * size) (hc : ∀ j u, news[j]? = some u → w.cell? (ad.add j) = some u) (h1c : ∀ u ∈ news, u.oneCell' = true)
    (b1 : n + m ≤ maxLen) (b2 : (n + m) * bytes ≤ 140737488355328) (hb : base ≤ w.heap.size)
    (hK : ∀ v' w', w'.ownsRow base e size v' (n + m) (xs ++ news) → w.grownBy w' v.ownBlock → K (a.put o.dst v') w') :
    Oper.wp P o a w K Q := by
  obtain ⟨v', w', hrun, r1, r2, _⟩ := run_append_own (P := P) w base t o.type e i z size bytes h1 h2 h3 h4 h5 h6 h7 v n xs hown ad m c news hn hc h1c b1 b2 hb
  unfold Oper.wp
  simp [execOp, hop, resolve, invoke, builtin, hs, hx, hrun, Result.andThen]
  exact hK v' w' r1 r2
end Go.Proofs.YtnhdcdhpfgdphaaDoor

/-
  The reference's turn and truths; And.
-/
set_option linter.unusedSimpArgs false
set_option linter.unusedVariables false
namespace Go.Proofs.YtnhdcdhpfgdphaaDoor
open Go Go.RowKit

set_option maxHeartbeats 1000000 in
theorem rTurn_any (a : Option Addr) (xs : List Int) (cp : Nat) (m : Int) (w : World) (h : IntA w a xs) (hm : xs.length ≤ 1000) :
    Calls Tryd.prog 63 #[.slice a xs.length cp, .int .i64 m] w fun e w' => e = .returned (.int .i64 (cT xs m xs.length)) ∧ w = w' := by
  have HI := Lib.hid h
  clear h
  go_enter Tryd.func63, Tryd.ntmps63
  go_wp2_with (fail)
  go_loop [5, 6] (fun c i => ∃ k : Nat, k ≤ xs.length ∧ i = .int .i64 k ∧ c = .int .i64 (cT xs m k)) (fun _ i => xs.length - (intOf i).toNat)
  case atStart => exact ⟨0, Nat.zero_le _, rfl, rfl⟩
  case round =>
    obtain ⟨k, hk, rfl, rfl⟩ := hrel
    by_cases hlt : k < xs.length
    · obtain ⟨b, o, rfl, hb, hc⟩ := HI.out (by omega)
      have q := hc k hlt
      have hs := cT_succ xs m k
      have hl := cT_le xs m k
      have Hs := Lib.hid hs
      obtain ⟨c, hcc⟩ : ∃ c, cT xs m k = c := ⟨_, rfl⟩
      rw [hcc] at hl ⊢
      have Hc := Lib.hid hcc
      clear hc hs hcc
      by_cases hle : nAt xs k ≤ m
      · go_wp2
        go_round
        case rel => exact ⟨k + 1, by omega, by go_num, by rw [Hs.out, Hc.out, if_pos hle]; go_num⟩
        case measure => simp [intOf]; omega
      · go_wp2
        go_round
        case rel => exact ⟨k + 1, by omega, by go_num, by rw [Hs.out, Hc.out, if_neg hle]; go_num⟩
        case measure => simp [intOf]; omega
    · obtain rfl : k = xs.length := by omega
      go_wp2
      go_ret
      exact ⟨rfl, rfl⟩

/-! ### Typed rows -/
/-- Whole numbers in a block that holds nothing else. -/
def TIntA (w : World) (a : Option Addr) (xs : List Int) : Prop :=
  0 < xs.length → ∃ b o cs, a = some ⟨b, o, none⟩ ∧ Blk w b 3 cs ∧ ∀ i, i < xs.length → cs[o + i]? = some (.int .i64 (nAt xs i))
theorem TIntA.plain {w : World} {a : Option Addr} {xs : List Int} (h : TIntA w a xs) : IntA w a xs := fun hp => by
  obtain ⟨b, o, cs, rfl, hb, hc⟩ := h hp
  exact ⟨b, o, rfl, hb.lt, fun i hi => hb.cell (hc i hi)⟩
theorem TIntA.ext {w w' : World} {a : Option Addr} {xs : List Int} (h : TIntA w a xs) (hE : Ext w w') : TIntA w' a xs := fun hp => by
  obtain ⟨b, o, cs, rfl, hb, hc⟩ := h hp
  exact ⟨b, o, cs, rfl, hb.ext hE, hc⟩
theorem own_ne {w : World} {base e s n g : Nat} {t : TypeId} {v : Value} {xs : List Value} {cs : Array Value} (h : w.ownsRow base e s v n xs) (hb : Blk w g t cs) (hne : e ≠ t) : some g ≠ v.ownBlock := by
  rcases h.2 with ⟨rfl, _⟩ | ⟨g', cap, cur, rfl, hg, hh, _⟩
  · simp [Value.ownBlock]
  · intro he
    have : g = g' := by simpa [Value.ownBlock] using he
    subst this
    have hb' : w.heap[g]? = some (.cells cs t (0, 0)) := hb
    have hh' : w.heap[g]? = some (.cells cur e (0, 0)) := hh
    rw [hb'] at hh'
    simp only [Option.some.injEq, Obj.cells.injEq] at hh'
    exact hne hh'.2.1.symm
theorem TIntA.grown {w w' : World} {base e s n : Nat} {v : Value} {ys : List Value} {a : Option Addr} {xs : List Int} (h : TIntA w a xs) (ho : w.ownsRow base e s v n ys) (hne : e ≠ 3) (hg : w.grownBy w' v.ownBlock) : TIntA w' a xs := fun hp => by
  obtain ⟨b, o, cs, rfl, hb, hc⟩ := h hp
  exact ⟨b, o, cs, rfl, hb.grown hg (own_ne ho hb hne), hc⟩
theorem own_tint {w : World} {base n : Nat} {v : Value} {xs : List Int} (h : w.ownsRow base 3 1 v n (ints xs)) (hn : 0 < n) : ∃ g cp, v = .slice (some ⟨g, 0, none⟩) xs.length cp ∧ TIntA w (some ⟨g, 0, none⟩) xs := by
  have hl : n = xs.length := by have := h.1; simp [ints] at this; omega
  subst hl
  rcases h.2 with ⟨_, h1⟩ | ⟨g, cap, cur, rfl, hg, hh, h1, h2, h3, h4⟩
  · omega
  · refine ⟨g, cap, rfl, fun _ => ⟨g, 0, cur, rfl, hh, fun i hi => ?_⟩⟩
    have f : (ints xs)[i]? = some (.int .i64 (nAt xs i)) := by simp [ints, nAt, List.getD, hi]
    rw [← h4, List.getElem?_take, if_pos (by omega)] at f
    simpa using f

theorem ints_at (xs : List Int) {j : Nat} {u : Value} (h : (ints xs)[j]? = some u) : j < xs.length ∧ u = .int .i64 (nAt xs j) := by
  have hj := (List.getElem?_eq_some_iff.1 h).1
  have hl : j < xs.length := by simpa [ints] using hj
  refine ⟨hl, ?_⟩
  simp [ints, hl] at h
  simp [nAt, List.getD, hl, h]
set_option maxRecDepth 100000 in
set_option maxHeartbeats 1000000 in
theorem and_any (ad : Addr) (xs : List Int) (cp : Nat) (n : Int) (w : World) (h : IntA w (some ad) xs) (hm : xs.length ≤ 1000) :
    Calls Tryd.prog 92 #[.slice (some ad) xs.length cp, .int .i64 n] w
      fun e w' => (∃ g cp, e = .returned (.slice (some ⟨g, 0, none⟩) (xs ++ [n]).length cp) ∧ TIntA w' (some ⟨g, 0, none⟩) (xs ++ [n])) ∧ Ext w w' := by
  obtain ⟨i0, hi, hz0, hz1, hz2⟩ := info_parts int_info
  have HI := Lib.hid h
  clear h
  have hc1 : ((xs.length : Int) + 1) = ((xs.length + 1 : Nat) : Int) := by omega
  have Hc1 := Lib.hid hc1
  clear hc1
  go_enter Tryd.func92, Tryd.ntmps92
  go_upto_region 2 with (at_make; refine wpList_make_own _ rfl _ _ 34 rfl w.heap.size 3 i0 (.int .i64 0) 1 Tryd.underlying34 hi hz0 hz1 .i64 .i64 _ (xs.length + 1) rfl rfl (by first | exact Hc1.out | omega) (by rw [hz2]; omega) (by unfold maxLen; omega) (Nat.le_refl _) ?_; intro w1 hown1 hgrow1)
  have E1 : Ext w w1 := Below.grown (Ext.refl w) hgrow1 (Nat.le_refl _) (fun k e => by cases e)
  have hnews : ∀ j u, (ints xs)[j]? = some u → w1.cell? (ad.add j) = some u := by
    intro j u hj
    obtain ⟨hl, rfl⟩ := ints_at xs hj
    obtain ⟨b, o, e, hb, hc⟩ := HI.out (by omega)
    simp only [Option.some.injEq] at e
    rw [e, add_at]
    exact E1.keep (hc j hl)
  have hone : ∀ u ∈ ints xs, u.oneCell' = true := by
    intro u hu
    simp only [ints, List.mem_map] at hu
    obtain ⟨x, _, rfl⟩ := hu
    rfl
  have hsz := E1.size
  go_upto_region 3 with (at_builtin; refine wpList_append_own _ rfl _ _ 34 rfl w.heap.size 3 i0 (.int .i64 0) 1 8 Tryd.underlying34 hi hz0 hz1 hz2 rfl (by decide) _ _ _ rfl hown1 ad xs.length cp (ints xs) rfl (by simp [ints]) hnews hone (by unfold maxLen; omega) (by omega) hsz ?_; intro v2 w2 hown2 hgrow2 _)
  have E2 : Ext w w2 := Below.grown E1 hgrow2 hsz (fun k e => by cases e; exact Nat.le_refl _)
  have hsz2 := E2.size
  rw [Nat.zero_add, List.nil_append] at hown2
  have Hown2 := Lib.hid hown2
  clear hnews hone hown2 hown1
  obtain ⟨⟨a2, c2, e2⟩, hb2⟩ : (∃ a cp, v2 = .slice a xs.length cp) ∧ ∀ k, v2.ownBlock = some k → w.heap.size ≤ k := by
    obtain ⟨h1, a, cp, e, _⟩ := own_int Hown2.out
    exact ⟨⟨a, cp, e⟩, own_base Hown2.out⟩
  subst e2
  go_wp2_with (at_builtin; refine wpList_append_own _ rfl _ _ 34 rfl w.heap.size 3 i0 (.int .i64 0) 1 8 Tryd.underlying34 hi hz0 hz1 hz2 rfl (by decide) _ _ _ rfl (Hown2.out.alloc _) ⟨w2.heap.size, 0, none⟩ 1 1 [.int .i64 n] rfl rfl (cell_one_new _ _ _) (by simp [Value.oneCell']) (by unfold maxLen; omega) (by omega) (by simp; omega) ?_)
  intro v3 w3 hown3 hgrow3 _
  have E3 : Ext w w3 := Below.grown (E2.trans (Ext.alloc w2 _)) hgrow3 (by simp; omega) hb2
  have hown4 : w3.ownsRow w.heap.size 3 1 v3 (xs.length + 1) (ints (xs ++ [n])) := by simpa [ints] using hown3
  obtain ⟨g, cg, rfl, hT⟩ := own_tint hown4 (by omega)
  go_wp2
  go_ret
  exact ⟨⟨g, cg, rfl, hT⟩, E3⟩
end Go.Proofs.YtnhdcdhpfgdphaaDoor
