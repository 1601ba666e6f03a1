/-
  The reference's can.
-/
import Derived.Test.YtnhdcdhpfgdphaaDoorMWg13
import Derived.Test.YtnhdcdhpfgdphaaDoorMWg12
import Derived.Test.YtnhdcdhpfgdphaaDoorMWg17
import Derived.Test.YtnhdcdhpfgdphaaDoorMWg10
import Derived.Test.YtnhdcdhpfgdphaaDoorMWg16
set_option linter.unusedSimpArgs false
set_option linter.unusedVariables false
namespace Go.Proofs.YtnhdcdhpfgdphaaDoor
open Go Go.RowKit

/-- Are the first k shots, but those of a set, fair in truth i? -/
def allJ (B : Bk) (m i k : Nat) : Bool := (List.range k).all fun j => bitB m j || canX B (tAt B i) (sAt B.shots j)
theorem allJ_succ (B : Bk) (m i k : Nat) : allJ B m i (k + 1) = (allJ B m i k && (bitB m k || canX B (tAt B i) (sAt B.shots k))) := by simp [allJ, List.range_succ]
theorem restK_iff {ss : List Sh} {m k : Nat} {x : Sh} : x ∈ restK ss m k ↔ ∃ j, j < k ∧ bitB m j = false ∧ sAt ss j = x := by
  unfold restK
  simp only [List.mem_map, List.mem_filter, List.mem_range, Bool.not_eq_true']
  constructor
  · rintro ⟨j, ⟨h1, h2⟩, h3⟩; exact ⟨j, h1, h2, h3⟩
  · rintro ⟨j, h1, h2, h3⟩; exact ⟨j, ⟨h1, h2⟩, h3⟩
theorem can_tog (B : Bk) (m : Nat) : togB B (restK B.shots m B.shots.length) = true ↔ ∃ i, i < (truthsL B).length ∧ allJ B m i B.shots.length = true := by
  rw [togB_iff]
  constructor
  · rintro ⟨t, ht, h⟩
    obtain ⟨i, hi, rfl⟩ := mem_tAt ht
    refine ⟨i, hi, ?_⟩
    simp only [allJ, List.all_eq_true, List.mem_range, Bool.or_eq_true]
    intro j hj
    cases hb : bitB m j with
    | true => exact .inl rfl
    | false => exact .inr (h _ (restK_iff.2 ⟨j, hj, hb, rfl⟩))
  · rintro ⟨i, hi, h⟩
    refine ⟨_, tAt_mem hi, fun x hx => ?_⟩
    obtain ⟨j, hj, hb, rfl⟩ := restK_iff.1 hx
    simp only [allJ, List.all_eq_true, List.mem_range, Bool.or_eq_true] at h
    rcases h j hj with h | h
    · rw [h] at hb; cases hb
    · exact h

set_option maxRecDepth 100000 in
set_option maxHeartbeats 4000000 in
theorem can_ref (B : Bk) (hv : validB B = true) (a1 a2 a3 : Option Addr) (c1 c2 c3 : Nat) (m : Nat) (hm : m < 32) (w : World) (h : BookA w B a1 a2 a3) :
    Calls Tryd.prog 83 #[.agg #[.int .i64 B.comp, .slice a1 B.bounds.length c1, .slice a2 B.orders.length c2, .slice a3 B.shots.length c3], .int .i64 m] w fun e w' => e = .returned (.bool (togB B (restK B.shots m B.shots.length))) ∧ Ext w w' := by
  have h5 := (valid_sizes hv).2.2.2.2.2
  have Hres := Lib.hid (can_tog B m)
  have HB := Lib.hid h
  have hmost := truths_most hv
  have l3 := h.l3
  clear h
  go_enter Tryd.func83, Tryd.ntmps83
  go_upto_region 1 with (fail)
  obtain ⟨W0, hW0⟩ : ∃ W0, W0 = w.alloc (.cells #[.int .i64 B.comp, .slice a1 B.bounds.length c1, .slice a2 B.orders.length c2, .slice a3 B.shots.length c3] 26) := ⟨_, rfl⟩
  have b0 : Blk W0 w.heap.size 26 #[.int .i64 B.comp, .slice a1 B.bounds.length c1, .slice a2 B.orders.length c2, .slice a3 B.shots.length c3] := by rw [hW0]; exact Blk.new _ _ _
  have E0 : Ext w W0 := by rw [hW0]; exact Ext.alloc _ _
  rw [← hW0]
  clear hW0
  obtain ⟨gB, hgB⟩ : ∃ g, g = w.heap.size := ⟨_, rfl⟩
  rw [← hgB] at b0 ⊢
  clear hgB
  obtain ⟨x0, x1, x2, x3⟩ := b0.c4
  have Htr := Lib.hid (fun ad cp W (hW : Ext w W) => truths_all B hv a1 a2 a3 c1 c2 c3 ad cp W (HB.out.ext hW))
  go_upto_region 3 with (go_at_call 62; refine (Htr.out _ _ _ (E0.trans (Ext.alloc _ _))).mono ?_; rintro e w1 ⟨⟨b, o, ct, rfl, hT⟩, hE1⟩)
  have E1 : Ext W0 w1 := (Ext.alloc W0 _).trans hE1
  have HT := Lib.hid hT
  clear x0 x1 x2 x3 hT hE1
  obtain ⟨N, hN⟩ : ∃ N, (truthsL B).length = N := ⟨_, rfl⟩
  have Htat := Lib.hid (show ∀ i, i < N → ∃ ra rc, w1.cell? ⟨b, o + i, none⟩ = some (.slice ra B.bounds.length rc) ∧ IntA w1 ra (rowQ B (tAt B i)) from fun i hi => HT.out i (by omega))
  rw [hN] at Hres hmost ⊢
  clear hN HT
  have EW := E0.trans E1
  have HB1 := Lib.hid (HB.out.ext EW)
  go_loopw [6] (fun i wr => ∃ i' : Nat, i' ≤ N ∧ i = .int .i64 i' ∧ Hid (∀ i, i < i' → allJ B m i B.shots.length = false) ∧ Ext w1 wr) (fun i _ => N - (intOf i).toNat)
  case atStart => exact ⟨0, Nat.zero_le _, rfl, Lib.hid fun i hi => by omega, Ext.refl _⟩
  case round =>
    obtain ⟨i, hil, rfl, hI1, hE⟩ := hrel
    by_cases hlt : i < N
    · obtain ⟨ra, rc, qr, hI⟩ := Htat.out i hlt
      have HI := Lib.hid hI
      obtain ⟨x0, x1, x2, x3⟩ := (b0.ext (E1.trans hE)).c4
      clear hI
      go_upto_region 7 with (fail)
      clear x0 x1 x2 x3
      go_loopw [7, 8] (fun a v wx => ∃ k : Nat, k ≤ B.shots.length ∧ v = .int .i64 k ∧ a = .bool (allJ B m i k) ∧ Ext w1 wx) (fun _ v _ => B.shots.length - (intOf v).toNat)
      case atStart => exact ⟨0, Nat.zero_le _, rfl, by simp [allJ], hE⟩
      case round =>
        obtain ⟨k, hk, rfl, rfl, hE2⟩ := hrel
        obtain ⟨x0, x1, x2, x3⟩ := (b0.ext (E1.trans hE2)).c4
        obtain ⟨p, hp⟩ : ∃ p, allJ B m i k = p := ⟨_, rfl⟩
        have hps := allJ_succ B m i k
        rw [hp] at hps ⊢
        by_cases hlt2 : k < B.shots.length
        · have Hps := Lib.hid hps
          clear hps hp
          obtain ⟨g1, g2, g3, g4, g5, g6, g7, g8⟩ := valid_shot hv hlt2
          obtain ⟨sb, so, rfl, hsb, hcs⟩ := HB1.out.shots (by omega)
          obtain ⟨q0, q1, q2, q3⟩ := hcs k hlt2
          have HS := Lib.hid (fun W (hW : Ext w1 W) => (⟨(b0.ext (E1.trans hW)).c4, hW.keep qr, hW.keep q0, hW.keep q1, hW.keep q2, hW.keep q3⟩ : ((W.cell? ⟨gB, 0, none⟩ = some (.int .i64 B.comp) ∧ W.cell? ⟨gB, 1, none⟩ = some (.slice a1 B.bounds.length c1) ∧ W.cell? ⟨gB, 2, none⟩ = some (.slice a2 B.orders.length c2) ∧ W.cell? ⟨gB, 3, none⟩ = some (.slice (some ⟨sb, so, none⟩) B.shots.length c3)) ∧ W.cell? ⟨b, o + i, none⟩ = some (.slice ra B.bounds.length rc) ∧ W.cell? ⟨sb, so + k * 4, none⟩ = some (.int .i64 (sAt B.shots k).st) ∧ W.cell? ⟨sb, so + k * 4 + 1, none⟩ = some (.int .i64 (sAt B.shots k).co) ∧ W.cell? ⟨sb, so + k * 4 + 2, none⟩ = some (.int .i64 (sAt B.shots k).lo) ∧ W.cell? ⟨sb, so + k * 4 + 3, none⟩ = some (.int .i64 (sAt B.shots k).hi))))
          have q2' := hE2.keep q2
          have hbit := bit_any (m := m) (k := k) hm (by omega)
          obtain ⟨bt, hbt⟩ : ∃ bt, bitB m k = bt := ⟨_, rfl⟩
          rw [hbt] at hbit
          rw [hbt] at Hps
          have Hbit := Lib.hid hbit
          clear hcs hbit hbt q0 q1 q2 q3
          go_upto_region 11 with (go_at_call 89; refine (Hbit.out _).mono ?_; rintro e w2 ⟨rfl, rfl⟩)
          clear x0 x1 x2 x3 q2'
          obtain ⟨x, hxe⟩ : ∃ x, sAt B.shots k = x := ⟨_, rfl⟩
          rw [hxe] at HS Hps g1 g2 g3 g4 g5 g6 g7 g8 ⊢
          clear hxe
          obtain ⟨wd, hwd⟩ : ∃ wd, wd = (x.hi - x.lo + 1).toNat := ⟨_, rfl⟩
          have Hcx := Lib.hid (show canX B (tAt B i) x = canK B (tAt B i) x wd by rw [hwd]; rfl)
          go_loopw [9, 10] (fun s v wy => ∃ n : Nat, n ≤ wd ∧ v = .int .i64 (x.lo + n) ∧ s = .bool (bt || canK B (tAt B i) x n) ∧ Ext w1 wy) (fun _ v _ => (x.hi + 1 - intOf v).toNat)
          case atStart => exact ⟨0, Nat.zero_le _, by simp, by simp [canK], hE2⟩
          case round =>
            obtain ⟨n, hn, rfl, rfl, hE3⟩ := hrel
            obtain ⟨⟨x0, x1, x2, x3⟩, z0, y0, y1, y2, y3⟩ := HS.out _ hE3
            obtain ⟨s, hs⟩ : ∃ s, (bt || canK B (tAt B i) x n) = s := ⟨_, rfl⟩
            have hss : (bt || canK B (tAt B i) x (n + 1)) = (s || fitX B (tAt B i) x (x.lo + n)) := by rw [canK_succ, ← Bool.or_assoc, hs]
            rw [hs]
            by_cases hlt3 : n < wd
            · have hrt := fun W (hW : Ext w1 W) => right_ref B hv a1 a2 (some ⟨sb, so, none⟩) c1 c2 c3 x ⟨g1, g2⟩ (tAt B i) ra rc (x.lo + n) W (HB1.out.ext hW) (HI.out.ext hW)
              obtain ⟨r, hr⟩ : ∃ r, fitX B (tAt B i) x (x.lo + n) = r := ⟨_, rfl⟩
              simp only [hr] at hrt hss
              have Hrt := Lib.hid hrt
              have Hc := Lib.hid hss
              clear hrt hss hr hs
              have hin : x.lo + (n : Int) ≤ x.hi := by omega
              go_upto_region 13 with (fail)
              clear x0 x1 x2 x3 y0 y1 y2 y3 z0
              cases s with
              | true =>
                refine wp_plan (fun W => ((W.cell? ⟨gB, 0, none⟩ = some (.int .i64 B.comp) ∧ W.cell? ⟨gB, 1, none⟩ = some (.slice a1 B.bounds.length c1) ∧ W.cell? ⟨gB, 2, none⟩ = some (.slice a2 B.orders.length c2) ∧ W.cell? ⟨gB, 3, none⟩ = some (.slice (some ⟨sb, so, none⟩) B.shots.length c3)) ∧ W.cell? ⟨b, o + i, none⟩ = some (.slice ra B.bounds.length rc) ∧ W.cell? ⟨sb, so + k * 4, none⟩ = some (.int .i64 x.st) ∧ W.cell? ⟨sb, so + k * 4 + 1, none⟩ = some (.int .i64 x.co) ∧ W.cell? ⟨sb, so + k * 4 + 2, none⟩ = some (.int .i64 x.lo) ∧ W.cell? ⟨sb, so + k * 4 + 3, none⟩ = some (.int .i64 x.hi))) (.tames [0, 1, 2, 3, 4, 5, 6, 7, 8, 9, 10, 11, 12] (.one 13 (.tames [14, 15] (.done)))) (by kernel_rfl) (by kernel_rfl) (by kernel_rfl) (fun c a d v w h => by cases d <;> exact h) ?_ ?_
                · exact HS.out _ (Below.drew hE3)
                refine pl_tames ?_
                (try simp only [Act.put, List.setIfInBounds_toArray, List.set_cons_zero, List.set_cons_succ])
                repeat (first
                  | (refine pl_run (v := ?_) rfl ?_ (fun W hW => ?_) ?_; rotate_left; rfl; ((try dsimp only at hW); go_simp; try with_reducible rfl); (try simp only [Act.put, List.setIfInBounds_toArray, List.set_cons_zero, List.set_cons_succ]))
                  | (refine pl_skip rfl ?_ ?_; rfl; (try simp only [Act.put, List.setIfInBounds_toArray, List.set_cons_zero, List.set_cons_succ])))
                refine pl_end ?_
                refine pl_one_skip rfl (by rfl) (HS.out _ (Below.drew hE3)) ?_
                refine pl_tames ?_
                (try simp only [Act.put, List.setIfInBounds_toArray, List.set_cons_zero, List.set_cons_succ])
                repeat (first
                  | (refine pl_run (v := ?_) rfl ?_ (fun W hW => ?_) ?_; rotate_left; rfl; ((try dsimp only at hW); go_simp; try with_reducible rfl); (try simp only [Act.put, List.setIfInBounds_toArray, List.set_cons_zero, List.set_cons_succ]))
                  | (refine pl_skip rfl ?_ ?_; rfl; (try simp only [Act.put, List.setIfInBounds_toArray, List.set_cons_zero, List.set_cons_succ])))
                refine pl_end ?_
                refine pl_done ?_
                (try simp only [Act.put])
                go_wp2
                go_roundw
                case rel => exact ⟨n + 1, by omega, by go_num, by rw [Hc.out]; (first | done | rfl), (Below.drew hE3)⟩
                case measure => simp [intOf]; omega
              | false =>
                refine wp_plan (fun W => ((W.cell? ⟨gB, 0, none⟩ = some (.int .i64 B.comp) ∧ W.cell? ⟨gB, 1, none⟩ = some (.slice a1 B.bounds.length c1) ∧ W.cell? ⟨gB, 2, none⟩ = some (.slice a2 B.orders.length c2) ∧ W.cell? ⟨gB, 3, none⟩ = some (.slice (some ⟨sb, so, none⟩) B.shots.length c3)) ∧ W.cell? ⟨b, o + i, none⟩ = some (.slice ra B.bounds.length rc) ∧ W.cell? ⟨sb, so + k * 4, none⟩ = some (.int .i64 x.st) ∧ W.cell? ⟨sb, so + k * 4 + 1, none⟩ = some (.int .i64 x.co) ∧ W.cell? ⟨sb, so + k * 4 + 2, none⟩ = some (.int .i64 x.lo) ∧ W.cell? ⟨sb, so + k * 4 + 3, none⟩ = some (.int .i64 x.hi))) (.tames [0, 1, 2, 3, 4, 5, 6, 7, 8, 9, 10, 11, 12] (.one 13 (.tames [14, 15] (.done)))) (by kernel_rfl) (by kernel_rfl) (by kernel_rfl) (fun c a d v w h => by cases d <;> exact h) ?_ ?_
                · exact HS.out _ (Below.drew hE3)
                refine pl_tames ?_
                (try simp only [Act.put, List.setIfInBounds_toArray, List.set_cons_zero, List.set_cons_succ])
                repeat (first
                  | (refine pl_run (v := ?_) rfl ?_ (fun W hW => ?_) ?_; rotate_left; rfl; ((try dsimp only at hW); go_simp; try with_reducible rfl); (try simp only [Act.put, List.setIfInBounds_toArray, List.set_cons_zero, List.set_cons_succ]))
                  | (refine pl_skip rfl ?_ ?_; rfl; (try simp only [Act.put, List.setIfInBounds_toArray, List.set_cons_zero, List.set_cons_succ])))
                refine pl_end ?_
                refine pl_one rfl (by rfl) (fun K hK => ?_)
                go_simp
                (go_at_call 96; refine (Hrt.out _ (Below.drew hE3)).mono ?_; rintro e w4 ⟨rfl, hE4⟩)
                refine hK.out _ _ (HS.out _ (hE3.trans ((Ext.drew _).trans hE4))) ?_
                clear hK K
                (try refine pl_tames ?_)
                (try simp only [Act.put, List.setIfInBounds_toArray, List.set_cons_zero, List.set_cons_succ])
                try ((repeat (first   | (refine pl_run (v := ?_) rfl ?_ (fun W hW => ?_) ?_; rotate_left; rfl; ((try dsimp only at hW); go_simp; try with_reducible rfl); (try simp only [Act.put, List.setIfInBounds_toArray, List.set_cons_zero, List.set_cons_succ]))   | (refine pl_skip rfl ?_ ?_; rfl; (try simp only [Act.put, List.setIfInBounds_toArray, List.set_cons_zero, List.set_cons_succ])))); refine pl_end ?_)
                refine pl_done ?_
                (try simp only [Act.put])
                have EV := hE3.trans ((Ext.drew _).trans hE4)
                go_wp2
                go_roundw
                case rel => exact ⟨n + 1, by omega, by go_num, by rw [Hc.out]; (first | done | rfl), EV⟩
                case measure => simp [intOf]; omega
            · obtain rfl : n = wd := by omega
              have hnot3 : ¬ (x.lo + (n : Int) ≤ x.hi) := by omega
              have hfin : allJ B m i (k + 1) = (p && s) := by rw [Hps.out, Hcx.out, hs]
              have Hfin := Lib.hid hfin
              clear hfin hs hss
              cases p with
              | true =>
                go_wp2
                go_roundw
                case rel => exact ⟨k + 1, by omega, by go_num, by rw [Hfin.out]; rfl, hE3⟩
                case measure => simp [intOf]; omega
              | false =>
                go_wp2
                go_roundw
                case rel => exact ⟨k + 1, by omega, by go_num, by rw [Hfin.out]; rfl, hE3⟩
                case measure => simp [intOf]; omega
        · obtain rfl : k = B.shots.length := by omega
          have Hp := Lib.hid hp
          clear hps hp
          cases p with
          | true =>
            have Hy := Lib.hid (Hres.out.2 ⟨i, hlt, Hp.out⟩)
            go_wp2
            go_ret
            exact ⟨by rw [Hy.out]; rfl, EW.trans hE2⟩
          | false =>
            go_wp2
            go_roundw
            case rel => exact ⟨i + 1, by omega, by go_num, Lib.hid fun i' hi' => by rcases (by omega : i' < i ∨ i' = i) with h | rfl; exact hI1.out i' h; exact Hp.out, hE2⟩
            case measure => simp [intOf]; omega
    · obtain rfl : i = N := by omega
      have hno : Hid (togB B (restK B.shots m B.shots.length) = false) := Lib.hid (by
        cases hh : togB B (restK B.shots m B.shots.length) with
        | false => rfl
        | true =>
          obtain ⟨i', h1, h2⟩ := Hres.out.1 hh
          rw [hI1.out i' h1] at h2
          cases h2)
      obtain ⟨x0, x1, x2, x3⟩ := (b0.ext (E1.trans hE)).c4
      go_wp2
      go_ret
      exact ⟨by rw [hno.out]; rfl, EW.trans hE⟩
end Go.Proofs.YtnhdcdhpfgdphaaDoor

/-
  The reference's Wrong, and both sides of it in one shape.
-/
set_option linter.unusedSimpArgs false
set_option linter.unusedVariables false
namespace Go.Proofs.YtnhdcdhpfgdphaaDoor
open Go Go.RowKit

theorem cmpL_three : ∀ (a b : List Int), cmpL a b < 0 ∨ a = b ∨ cmpL b a < 0
  | [], [] => .inr (.inl rfl)
  | [], y :: b => .inl (by simp [cmpL])
  | x :: a, [] => .inr (.inr (by simp [cmpL]))
  | x :: a, y :: b => by
    rcases (by omega : x < y ∨ x = y ∨ y < x) with h | rfl | h
    · exact .inl (by simp [cmpL, h])
    · rcases cmpL_three a b with h | rfl | h
      · exact .inl (by simpa [cmpL] using h)
      · exact .inr (.inl rfl)
      · exact .inr (.inr (by simpa [cmpL] using h))
    · exact .inr (.inr (by simp [cmpL, h]))
theorem better_three (a b : List Int) : better a b ∨ a = b ∨ better b a := by
  unfold better
  rcases (by omega : a.length < b.length ∨ a.length = b.length ∨ b.length < a.length) with h | h | h
  · exact .inl (.inl h)
  · rcases cmpL_three a b with k | k | k
    · exact .inl (.inr ⟨h, k⟩)
    · exact .inr (.inl k)
    · exact .inr (.inr (.inr ⟨h.symm, k⟩))
  · exact .inr (.inr (.inl h))
/-- Which sets will do. -/
def doesB (B : Bk) (m : Nat) : Prop := m < 2 ^ B.shots.length ∧ togB B (restK B.shots m B.shots.length) = true
theorem wrong_unique {B : Bk} (hv : validB B = true) {L : List Int} (h1 : ∃ m, doesB B m ∧ L = outK m B.shots.length) (h2 : ∀ m, m < 2 ^ B.shots.length → doesB B m → ¬ better (outK m B.shots.length) L) : L = wrongL B := by
  obtain ⟨m, ⟨a1, a2⟩, rfl⟩ := h1
  obtain ⟨k, b1, b2, b3⟩ := wrong_is hv
  rcases better_three (outK m B.shots.length) (wrongL B) with h | h | h
  · exact absurd h ((wrong_best B (2 ^ B.shots.length)).2 m a1 a2).2
  · exact h
  · rw [b3] at h
    exact absurd h (h2 k b1 ⟨b1, b2⟩)
theorem does_all {B : Bk} (hv : validB B = true) : doesB B (2 ^ B.shots.length - 1) := by
  have h5 := (valid_sizes hv).2.2.2.2.2
  have hp : 0 < 2 ^ B.shots.length := Nat.pow_pos (by decide)
  refine ⟨by omega, ?_⟩
  rw [can_tog]
  obtain ⟨t, ht⟩ := truths_some hv
  obtain ⟨i, hi, -⟩ := mem_tAt ht
  refine ⟨i, hi, ?_⟩
  simp only [allJ, List.all_eq_true, List.mem_range, Bool.or_eq_true]
  intro j hj
  left
  have hall : ∀ n, n ≤ 5 → ∀ j, j < n → bitB (2 ^ n - 1) j = true := by decide
  exact hall _ h5 j hj

/-- What Wrong returns. -/
def wrongX (B : Bk) : List Int := if validB B then wrongL B else []
theorem wrong_all (B : Bk) (a1 a2 a3 : Option Addr) (c1 c2 c3 : Nat) (w : World) (h : BookA w B a1 a2 a3) (hG : Glob w) :
    Calls Tryd.prog 32 #[.agg #[.int .i64 B.comp, .slice a1 B.bounds.length c1, .slice a2 B.orders.length c2, .slice a3 B.shots.length c3]] w
      fun e w' => (∃ a cp, e = .returned (.tuple #[.slice a (wrongX B).length cp, .int .i64 (checkRes B)]) ∧ IntA w' a (wrongX B)) ∧ Ext w w' := by
  unfold wrongX checkRes
  cases hv : validB B with
  | true => exact wrong_yes B a1 a2 a3 c1 c2 c3 w h hG hv
  | false =>
    refine (wrong_no B a1 a2 a3 c1 c2 c3 w h hG hv).mono ?_
    rintro e w' ⟨rfl, hE⟩
    exact ⟨⟨none, 0, rfl, fun hp => absurd hp (by simp)⟩, hE⟩

set_option maxRecDepth 100000 in
set_option maxHeartbeats 4000000 in
theorem rWrong_no (B : Bk) (hv : validB B = false) (a1 a2 a3 : Option Addr) (c1 c2 c3 : Nat) (w : World) (h : BookA w B a1 a2 a3) :
    Calls Tryd.prog 33 #[.agg #[.int .i64 B.comp, .slice a1 B.bounds.length c1, .slice a2 B.orders.length c2, .slice a3 B.shots.length c3]] w
      fun e w' => e = .returned (.tuple #[.slice none 0 0, .int .i64 20]) ∧ Ext w w' := by
  have hck := fun W (hW : Ext w W) => rCheck_any B a1 a2 a3 c1 c2 c3 W (h.ext hW)
  simp only [checkRes, hv] at hck
  have Hck := Lib.hid hck
  clear hck h
  go_enter Tryd.func33, Tryd.ntmps33
  go_upto_region 1 with (fail)
  obtain ⟨W0, hW0⟩ : ∃ W0, W0 = w.alloc (.cells #[.int .i64 B.comp, .slice a1 B.bounds.length c1, .slice a2 B.orders.length c2, .slice a3 B.shots.length c3] 26) := ⟨_, rfl⟩
  have b0 : Blk W0 w.heap.size 26 #[.int .i64 B.comp, .slice a1 B.bounds.length c1, .slice a2 B.orders.length c2, .slice a3 B.shots.length c3] := by rw [hW0]; exact Blk.new _ _ _
  have E0 : Ext w W0 := by rw [hW0]; exact Ext.alloc _ _
  rw [← hW0]
  clear hW0
  obtain ⟨gB, hgB⟩ : ∃ g, g = w.heap.size := ⟨_, rfl⟩
  rw [← hgB] at b0 ⊢
  clear hgB
  obtain ⟨x0, x1, x2, x3⟩ := b0.c4
  go_wp2_with (go_at_call 18; refine (Hck.out _ E0).mono ?_; rintro e w1 ⟨rfl, hE1⟩)
  refine bodyPost_ret (v := .tuple #[.slice none 0 0, .int .i64 20]) ?_ rfl ⟨rfl, E0.trans hE1⟩
  simp [results, Tryd.results33, go_sem]
set_option maxRecDepth 100000 in
set_option maxHeartbeats 4000000 in
theorem rWrong_yes (B : Bk) (hv : validB B = true) (a1 a2 a3 : Option Addr) (c1 c2 c3 : Nat) (w : World) (h : BookA w B a1 a2 a3) :
    Calls Tryd.prog 33 #[.agg #[.int .i64 B.comp, .slice a1 B.bounds.length c1, .slice a2 B.orders.length c2, .slice a3 B.shots.length c3]] w
      fun e w' => (∃ a cp, e = .returned (.tuple #[.slice a (wrongL B).length cp, .int .i64 0]) ∧ IntA w' a (wrongL B)) ∧ Ext w w' := by
  have h5 := (valid_sizes hv).2.2.2.2.2
  have hck := fun W (hW : Ext w W) => rCheck_any B a1 a2 a3 c1 c2 c3 W (h.ext hW)
  simp only [checkRes, hv] at hck
  have Hck := Lib.hid hck
  have HB := Lib.hid h
  have Huni := Lib.hid (fun L => wrong_unique hv (L := L))
  have hall := does_all hv
  have hcn := fun m (hm : m < 32) W (hW : Ext w W) => can_ref B hv a1 a2 a3 c1 c2 c3 m hm W (HB.out.ext hW)
  obtain ⟨P, hP⟩ : ∃ P : Nat, P = 2 ^ B.shots.length := ⟨_, rfl⟩
  have hP32 : P ≤ 32 := by rw [hP]; exact Nat.pow_le_pow_right (by omega) h5
  have hP1 : 1 ≤ P := by rw [hP]; exact Nat.pow_pos (by decide)
  have hp2 : wrap64 ((2 : Int) ^ B.shots.length) = (P : Int) := by
    rw [hP]
    exact wrap_pow h5
  have hps : wrap64 (wrap64 ((2 : Int) ^ B.shots.length) - 1) = ((P - 1 : Nat) : Int) := by
    rw [hp2]; unfold wrap64; omega
  have hdoes : ∀ m, doesB B m ↔ m < P ∧ togB B (restK B.shots m B.shots.length) = true := by intro m; rw [hP]; exact Iff.rfl
  simp only [← hP] at hall Huni
  have Hcn := Lib.hid hcn
  have Hall := Lib.hid hall
  have Hdoes := Lib.hid hdoes
  have Hp2 := Lib.hid hp2
  have Hps := Lib.hid hps
  clear hck h hcn hall hP hdoes hp2 hps
  go_enter Tryd.func33, Tryd.ntmps33
  go_upto_region 1 with (fail)
  obtain ⟨W0, hW0⟩ : ∃ W0, W0 = w.alloc (.cells #[.int .i64 B.comp, .slice a1 B.bounds.length c1, .slice a2 B.orders.length c2, .slice a3 B.shots.length c3] 26) := ⟨_, rfl⟩
  have b0 : Blk W0 w.heap.size 26 #[.int .i64 B.comp, .slice a1 B.bounds.length c1, .slice a2 B.orders.length c2, .slice a3 B.shots.length c3] := by rw [hW0]; exact Blk.new _ _ _
  have E0 : Ext w W0 := by rw [hW0]; exact Ext.alloc _ _
  rw [← hW0]
  clear hW0
  obtain ⟨gB, hgB⟩ : ∃ g, g = w.heap.size := ⟨_, rfl⟩
  rw [← hgB] at b0 ⊢
  clear hgB
  obtain ⟨x0, x1, x2, x3⟩ := b0.c4
  go_upto_region 4 with (go_at_call 18; refine (Hck.out _ E0).mono ?_; rintro e w1 ⟨rfl, hE1⟩)
  clear x0 x1 x2 x3
  have EW := E0.trans hE1
  have b1 := b0.ext hE1
  obtain ⟨x0, x1, x2, x3⟩ := b1.c4
  have Hbits := Lib.hid (fun m (hm : m < 32) W => bits_any m B.shots.length hm h5 W)
  go_upto_region 7 with (go_at_call 50; rw [Hps.out]; refine (Hbits.out (P - 1) (by omega) _).mono ?_; rintro e w2 ⟨⟨a0, cp0, rfl, hI0⟩, hE2⟩)
  clear x0 x1 x2 x3
  have hol0 := outK_len (P - 1) B.shots.length
  have Hold := Lib.hid hI0
  go_loopw [6, 7] (fun v i wr => ∃ (m : Nat) (L : List Int) (a : Option Addr) (cp : Nat), m ≤ P ∧ i = .int .i64 m ∧ v = .slice a L.length cp ∧ L.length ≤ 5 ∧ IntA wr a L ∧ Hid (∃ j, doesB B j ∧ L = outK j B.shots.length) ∧ Hid (∀ j, j < m → doesB B j → ¬ better (outK j B.shots.length) L) ∧ Ext w1 wr) (fun _ i _ => P - (intOf i).toNat)
  case atStart => exact ⟨0, _, _, _, Nat.zero_le _, rfl, rfl, by omega, hI0, Lib.hid ⟨_, Hall.out, rfl⟩, Lib.hid fun j hj => by omega, hE2⟩
  case round =>
    obtain ⟨m, L, av, cv, hm, rfl, rfl, hL5, hI, hL1, hL2, hE⟩ := hrel
    have HI := Lib.hid hI
    clear hI
    by_cases hlt : m < P
    · have hl : (m : Int) < wrap64 ((2 : Int) ^ B.shots.length) := by rw [Hp2.out]; omega
      have hol := outK_len m B.shots.length
      have hbits := fun W => Hbits.out m (by omega) W
      have hfew := fun a cp W (hA : IntA W a (outK m B.shots.length)) (hB : IntA W av L) => fewerL_any a av (outK m B.shots.length) L cp cv W hA hB (by omega) (by omega)
      have hcn := Hcn.out m (by omega)
      have hdm := Hdoes.out m
      have hfb := fewer_better (outK m B.shots.length) L
      obtain ⟨O, hO⟩ : ∃ O, outK m B.shots.length = O := ⟨_, rfl⟩
      obtain ⟨fb, hfe⟩ : ∃ b, fewerB O L = b := ⟨_, rfl⟩
      obtain ⟨tg, hte⟩ : ∃ b, togB B (restK B.shots m B.shots.length) = b := ⟨_, rfl⟩
      simp only [hO] at hbits hol
      simp only [hO, hfe] at hfew hfb
      simp only [hte] at hcn hdm
      have HO := Lib.hid hO
      have Hb1 := Lib.hid hbits
      have Hfew := Lib.hid hfew
      have Hcn1 := Lib.hid hcn
      have Hdm := Lib.hid hdm
      have Hfb := Lib.hid hfb
      clear hbits hfew hcn hdm hfb hO hfe hte
      go_upto_region 9 with (fail)
      go_upto_region 10 with (go_at_call 50; refine (Hb1.out _).mono ?_; rintro e w3 ⟨⟨al, cl, rfl, hIl⟩, hE3⟩)
      have HIl := Lib.hid hIl
      have E3 := hE.trans hE3
      obtain ⟨x0, x1, x2, x3⟩ := (b1.ext E3).c4
      clear hIl
      have Hf3 := Lib.hid (Hfew.out al cl _ HIl.out (HI.out.ext hE3))
      cases fb with
      | false =>
        go_wp2_with (go_at_call 51; refine Hf3.out.mono ?_; rintro e w4 ⟨rfl, hE4⟩)
        go_roundw
        case rel => exact ⟨m + 1, L, av, cv, by omega, by go_num, rfl, hL5, HI.out.ext (hE3.trans hE4), hL1, Lib.hid (fun j hj hd hb => by
          rcases (by omega : j < m ∨ j = m) with h | rfl
          · exact hL2.out j h hd hb
          · rw [HO.out] at hb
            exact absurd (Hfb.out.2 hb) (by simp)), E3.trans hE4⟩
        case measure => simp [intOf]; omega
      | true =>
        go_upto_if 38 with (first | (go_at_call 51; refine Hf3.out.mono ?_; rintro e w4 ⟨rfl, hE4⟩; clear x0 x1 x2 x3; obtain ⟨x0, x1, x2, x3⟩ := (b1.ext (E3.trans hE4)).c4) | (go_at_call 83; refine (Hcn1.out _ (EW.trans (E3.trans hE4))).mono ?_; rintro e w5 ⟨rfl, hE5⟩))
        have E5 := (E3.trans hE4).trans hE5
        have D5 := (hE3.trans hE4).trans hE5
        clear x0 x1 x2 x3
        cases tg with
        | false =>
          go_wp2
          go_roundw
          case rel => exact ⟨m + 1, L, av, cv, by omega, by go_num, rfl, hL5, HI.out.ext D5, hL1, Lib.hid (fun j hj hd hb => by
            rcases (by omega : j < m ∨ j = m) with h | rfl
            · exact hL2.out j h hd hb
            · exact absurd (Hdm.out.1 hd).2 (by simp)), E5⟩
          case measure => simp [intOf]; omega
        | true =>
          go_wp2
          go_roundw
          case rel => exact ⟨m + 1, O, al, cl, by omega, by go_num, rfl, by omega, HIl.out.ext (hE4.trans hE5), Lib.hid ⟨m, Hdm.out.2 ⟨hlt, rfl⟩, HO.out.symm⟩, Lib.hid (fun j hj hd hb => by
            rcases (by omega : j < m ∨ j = m) with h | rfl
            · exact hL2.out j h hd (better_trans hb (Hfb.out.1 (by simp)))
            · rw [HO.out] at hb
              exact better_irrefl _ hb), E5⟩
          case measure => simp [intOf]; omega
    · obtain rfl : m = P := by omega
      have hl : ¬ ((m : Int) < wrap64 ((2 : Int) ^ B.shots.length)) := by rw [Hp2.out]; omega
      have Hfin := Lib.hid (Huni.out L hL1.out (fun j hj hd => hL2.out j hj hd))
      go_wp2
      refine bodyPost_ret (v := .tuple #[.slice av L.length cv, .int .i64 0]) ?_ rfl ⟨⟨av, ⟨cv, by rw [Hfin.out]⟩, by rw [← Hfin.out]; exact HI.out⟩, EW.trans hE⟩
      simp [results, Tryd.results33, go_sem]
theorem rWrong_all (B : Bk) (a1 a2 a3 : Option Addr) (c1 c2 c3 : Nat) (w : World) (h : BookA w B a1 a2 a3) :
    Calls Tryd.prog 33 #[.agg #[.int .i64 B.comp, .slice a1 B.bounds.length c1, .slice a2 B.orders.length c2, .slice a3 B.shots.length c3]] w
      fun e w' => (∃ a cp, e = .returned (.tuple #[.slice a (wrongX B).length cp, .int .i64 (checkRes B)]) ∧ IntA w' a (wrongX B)) ∧ Ext w w' := by
  unfold wrongX checkRes
  cases hv : validB B with
  | true => exact rWrong_yes B hv a1 a2 a3 c1 c2 c3 w h
  | false =>
    refine (rWrong_no B hv a1 a2 a3 c1 c2 c3 w h).mono ?_
    rintro e w' ⟨rfl, hE⟩
    exact ⟨⟨none, 0, rfl, fun hp => absurd hp (by simp)⟩, hE⟩
end Go.Proofs.YtnhdcdhpfgdphaaDoor

/-
  The reference's Known: a book of which the minute of a bound is known.
-/
set_option linter.unusedSimpArgs false
set_option linter.unusedVariables false
namespace Go.Proofs.YtnhdcdhpfgdphaaDoor
open Go Go.RowKit

set_option maxRecDepth 100000 in
set_option maxHeartbeats 2000000 in
theorem rKnown_any (B : Bk) (a1 a2 a3 : Option Addr) (c1 c2 c3 : Nat) (k : Nat) (m : Int) (w : World) (h : BookA w B a1 a2 a3) (hk : k < B.bounds.length) (hb4 : B.bounds.length ≤ 1000) :
    Calls Tryd.prog 88 #[.agg #[.int .i64 B.comp, .slice a1 B.bounds.length c1, .slice a2 B.orders.length c2, .slice a3 B.shots.length c3], .int .i64 k, .int .i64 m] w
      fun e w' => (∃ a cp, e = .returned (.agg #[.int .i64 B.comp, .slice a B.bounds.length cp, .slice a2 B.orders.length c2, .slice a3 B.shots.length c3]) ∧ BookA w' (knownB B k m) a a2 a3) ∧ Ext w w' := by
  obtain ⟨i0, hi, hz0, hz1, hz2⟩ := info_parts span_info
  have HB := Lib.hid h
  clear h
  go_enter Tryd.func88, Tryd.ntmps88
  go_upto_region 1 with (fail)
  obtain ⟨W0, hW0⟩ : ∃ W0, W0 = (w.alloc (.cells #[.int .i64 B.comp, .slice a1 B.bounds.length c1, .slice a2 B.orders.length c2, .slice a3 B.shots.length c3] 26)).alloc (.cells #[.int .i64 0, .slice none 0 0, .slice none 0 0, .slice none 0 0] 26) := ⟨_, rfl⟩
  have b0 : Blk W0 w.heap.size 26 #[.int .i64 B.comp, .slice a1 B.bounds.length c1, .slice a2 B.orders.length c2, .slice a3 B.shots.length c3] := by rw [hW0]; exact (Blk.new _ _ _).alloc _
  have r0 : Blk W0 (w.heap.size + 1) 26 #[.int .i64 0, .slice none 0 0, .slice none 0 0, .slice none 0 0] := by rw [hW0]; have := Blk.new (w.alloc (.cells #[.int .i64 B.comp, .slice a1 B.bounds.length c1, .slice a2 B.orders.length c2, .slice a3 B.shots.length c3] 26)) 26 #[.int .i64 0, .slice none 0 0, .slice none 0 0, .slice none 0 0]; simpa using this
  have E0 : Ext w W0 := by rw [hW0]; exact (Ext.alloc _ _).trans (Ext.alloc _ _)
  rw [← hW0]
  clear hW0
  obtain ⟨gR, hgR⟩ : ∃ g, g = w.heap.size + 1 := ⟨_, rfl⟩
  rw [← hgR] at r0 ⊢
  have hgR' : w.heap.size ≤ gR := by omega
  clear hgR
  obtain ⟨gB, hgB⟩ : ∃ g, g = w.heap.size := ⟨_, rfl⟩
  rw [← hgB] at b0 ⊢
  clear hgB
  obtain ⟨x0, x1, x2, x3⟩ := b0.c4
  go_upto_region 2 with (fail)
  obtain ⟨W1, hW1⟩ : ∃ W1, W1 = W0.alloc (.cells #[.int .i64 B.comp, .slice a1 B.bounds.length c1, .slice a2 B.orders.length c2, .slice a3 B.shots.length c3] 26) := ⟨_, rfl⟩
  have X1 : Ext W0 W1 := by rw [hW1]; exact Ext.alloc _ _
  have y1 : Blk W1 W0.heap.size 26 #[.int .i64 B.comp, .slice a1 B.bounds.length c1, .slice a2 B.orders.length c2, .slice a3 B.shots.length c3] := by rw [hW1]; exact Blk.new _ _ _
  rw [← hW1]
  clear hW1
  obtain ⟨gY, hgY⟩ : ∃ g, g = W0.heap.size := ⟨_, rfl⟩
  rw [← hgY] at y1 ⊢
  have hRY : gR < gY := by rw [hgY]; exact r0.lt
  have hwY : w.heap.size ≤ gY := by omega
  have hgYl := y1.lt
  clear hgY x0 x1 x2 x3
  obtain ⟨x0, x1, x2, x3⟩ := (b0.ext X1).c4
  obtain ⟨z0, z1, z2, z3⟩ := y1.c4
  have f1 := y1.frozen 1
  have hBA := (HB.out.ext E0).ext X1
  obtain ⟨b, o, e1, hbl, hc⟩ := hBA.bounds (by omega)
  have hnews : ∀ j u, (flatS B.bounds)[j]? = some u → (W1.alloc (.cells #[] 29)).cell? ((⟨b, o, none⟩ : Addr).add j) = some u := by
    intro j u hj
    have hjl : j < B.bounds.length * 2 := by have := (List.getElem?_eq_some_iff.1 hj).1; rwa [flatS_len] at this
    have hq := hc (j / 2) (by omega)
    obtain ⟨g1, g2⟩ := flatS_at B.bounds (j / 2) (by omega)
    rcases (by omega : j = j / 2 * 2 ∨ j = j / 2 * 2 + 1) with e | e
    · rw [← e] at g1 hq
      rw [g1] at hj
      cases hj
      exact (Ext.alloc W1 _).keep (by rw [add_at]; exact hq.1)
    · rw [← e] at g2
      rw [g2] at hj
      cases hj
      have := hq.2
      rw [Nat.add_assoc, ← e] at this
      exact (Ext.alloc W1 _).keep (by rw [add_at]; exact this)
  have hone : ∀ u ∈ flatS B.bounds, u.oneCell' = true := by
    intro u hu
    simp only [flatS, List.mem_flatMap, List.mem_cons, List.not_mem_nil, or_false] at hu
    obtain ⟨p, _, rfl | rfl⟩ := hu <;> rfl
  have hown : (W1.alloc (.cells #[] 29)).ownsRow W1.heap.size 29 2 (.slice (some ⟨W1.heap.size, 0, none⟩) 0 0) 0 [] :=
    ⟨rfl, .inr ⟨W1.heap.size, 0, #[], rfl, Nat.le_refl _, heap_new W1 _, Nat.le_refl _, Nat.zero_le _, rfl, rfl⟩⟩
  clear hc hBA
  subst e1
  obtain ⟨s0, s1, s2, s3⟩ := (b0.ext (X1.trans (Ext.alloc W1 (.cells #[] 29)))).c4
  go_upto_region 3 with (at_builtin; go_must (refine wpList_append_own _ rfl _ _ 22 rfl W1.heap.size 29 i0 (.agg #[.int .i64 0, .int .i64 0]) 2 16 Tryd.underlying22 hi hz0 hz1 hz2 rfl (by decide) _ _ _ rfl hown ⟨b, o, none⟩ B.bounds.length c1 (flatS B.bounds) rfl (flatS_len B.bounds) hnews hone (by unfold maxLen; omega) (by omega) (by simp) ?_; intro v' w7 hown' hgrow _; have hE7 : Ext W1 w7 := Below.grown (Ext.alloc W1 _) hgrow (by simp) (fun k e => by cases e; exact Nat.le_refl _); rw [Nat.zero_add, List.nil_append] at hown'; obtain ⟨g, cap, rfl, g2, g3⟩ := own_s_open hown' (by omega); unfold maxLen at g3; obtain ⟨u0, u1, u2, u3⟩ := (y1.ext hE7).c4; have f7 := (y1.ext hE7).frozen 1))
  obtain ⟨W8, hW8⟩ : ∃ W8, W8 = w7.setCell ⟨gY, 1, none⟩ (.slice (some ⟨g, 0, none⟩) B.bounds.length cap) := ⟨_, rfl⟩
  obtain ⟨l1, l2g, l3g, l4g, l5g, l6g⟩ := own_span_set hown' hk m
  have hne : g ≠ gY := by omega
  have hneR : g ≠ gR := by omega
  have t8 : Blk W8 gY 26 #[.int .i64 B.comp, .slice (some ⟨g, 0, none⟩) B.bounds.length cap, .slice a2 B.orders.length c2, .slice a3 B.shots.length c3] := by rw [hW8]; simpa using (y1.ext hE7).put 1 (.slice (some ⟨g, 0, none⟩) B.bounds.length cap)
  have r8 : Blk W8 gR 26 #[.int .i64 0, .slice none 0 0, .slice none 0 0, .slice none 0 0] := by rw [hW8]; exact (r0.ext (X1.trans hE7)).far (by show gR ≠ gY; omega) _
  have X8 : Ext w W8 := by rw [hW8]; exact Below.setCell (E0.trans (X1.trans hE7)) hwY _
  have hg8 : W8.heap[g]? = w7.heap[g]? := by rw [hW8]; exact Below.heap_setCell w7 ⟨gY, 1, none⟩ _ g hne
  have hgl8 : g < W8.heap.size := by
    have : w7.heap[g]? ≠ none := by simp [l2g]
    rw [← hg8] at this
    simpa using this
  rw [← hW8]
  clear hW8 x0 x1 x2 x3 z0 z1 z2 z3 u0 u1 u2 u3 s0 s1 s2 s3 f1 f7 hown hown' hnews hone
  have HS := Lib.hid (fun W (hW : Ext W8 W) => ((t8.ext hW).c4 : (W.cell? ⟨gY, 0, none⟩ = some (.int .i64 B.comp) ∧ W.cell? ⟨gY, 1, none⟩ = some (.slice (some ⟨g, 0, none⟩) B.bounds.length cap) ∧ W.cell? ⟨gY, 2, none⟩ = some (.slice a2 B.orders.length c2) ∧ W.cell? ⟨gY, 3, none⟩ = some (.slice a3 B.shots.length c3))))
  refine wp_plan (fun W => (W.cell? ⟨gY, 0, none⟩ = some (.int .i64 B.comp) ∧ W.cell? ⟨gY, 1, none⟩ = some (.slice (some ⟨g, 0, none⟩) B.bounds.length cap) ∧ W.cell? ⟨gY, 2, none⟩ = some (.slice a2 B.orders.length c2) ∧ W.cell? ⟨gY, 3, none⟩ = some (.slice a3 B.shots.length c3))) (.tames [0, 1, 2, 3] (.one 4 (.tames [5] (.one 6 (.done))))) (by kernel_rfl) (by kernel_rfl) (by kernel_rfl) (fun c a d v w h => by cases d <;> exact h) ?_ ?_
  · exact HS.out _ (Ext.drew _)
  refine pl_tames ?_
  (try simp only [Act.put, List.setIfInBounds_toArray, List.set_cons_zero, List.set_cons_succ])
  repeat (first
    | (refine pl_run (v := ?_) rfl ?_ (fun W hW => ?_) ?_; rotate_left; rfl; ((try dsimp only at hW); go_simp; try with_reducible rfl); (try simp only [Act.put, List.setIfInBounds_toArray, List.set_cons_zero, List.set_cons_succ]))
    | (refine pl_skip rfl ?_ ?_; rfl; (try simp only [Act.put, List.setIfInBounds_toArray, List.set_cons_zero, List.set_cons_succ])))
  refine pl_end ?_
  refine pl_one rfl (by rfl) (fun K hK => ?_)
  go_simp
  (go_at_call 56; refine (just_any _ _).mono ?_; rintro e w9 ⟨rfl, hV9⟩)
  refine hK.out _ _ (HS.out _ ((Ext.drew _).trans hV9)) ?_
  clear hK K
  (try refine pl_tames ?_)
  (try simp only [Act.put, List.setIfInBounds_toArray, List.set_cons_zero, List.set_cons_succ])
  try ((repeat (first   | (refine pl_run (v := ?_) rfl ?_ (fun W hW => ?_) ?_; rotate_left; rfl; ((try dsimp only at hW); go_simp; try with_reducible rfl); (try simp only [Act.put, List.setIfInBounds_toArray, List.set_cons_zero, List.set_cons_succ]))   | (refine pl_skip rfl ?_ ?_; rfl; (try simp only [Act.put, List.setIfInBounds_toArray, List.set_cons_zero, List.set_cons_succ])))); refine pl_end ?_)
  have E9 := (Ext.drew W8).trans hV9
  have hg9 : w9.heap[g]? = w7.heap[g]? := (E9.block g hgl8).trans hg8
  have c9 : ∀ i, w9.cell? ⟨g, i, none⟩ = w7.cell? ⟨g, i, none⟩ := fun i => by unfold World.cell?; rw [hg9]
  have fz9 : ∀ i, w9.frozen? ⟨g, i, none⟩ = false := fun i => by rw [← l5g i]; unfold World.frozen?; rw [hg9]
  obtain ⟨u0, k0⟩ := Option.isSome_iff_exists.1 l3g
  obtain ⟨u1, k1⟩ := Option.isSome_iff_exists.1 l4g
  rw [← c9] at k0 k1
  have g0 := fz9 (k * 2)
  have g1 := fz9 (k * 2 + 1)
  have hspan := l6g w9 hg9
  have t10 := ((t8.ext E9).far (p := ⟨g, k * 2, none⟩) (by show gY ≠ g; omega) (.int .i64 m)).far (p := ⟨g, k * 2 + 1, none⟩) (by show gY ≠ g; omega) (.int .i64 m)
  have r10 := ((r8.ext E9).far (p := ⟨g, k * 2, none⟩) (by show gR ≠ g; omega) (.int .i64 m)).far (p := ⟨g, k * 2 + 1, none⟩) (by show gR ≠ g; omega) (.int .i64 m)
  have hwg : w.heap.size ≤ g := by omega
  have X10 : Ext w ((w9.setCell ⟨g, k * 2, none⟩ (.int .i64 m)).setCell ⟨g, k * 2 + 1, none⟩ (.int .i64 m)) := Below.setCell (Below.setCell (X8.trans E9) hwg _) hwg _
  clear HS c9 fz9 l3g l4g l5g l6g hg9
  refine pl_one rfl (by rfl) (fun K hK => ?_)
  go_simp
  skip
  refine hK.out _ _ (t10.c4) ?_
  clear hK K
  (try refine pl_tames ?_)
  (try simp only [Act.put, List.setIfInBounds_toArray, List.set_cons_zero, List.set_cons_succ])
  try ((repeat (first   | (refine pl_run (v := ?_) rfl ?_ (fun W hW => ?_) ?_; rotate_left; rfl; ((try dsimp only at hW); go_simp; try with_reducible rfl); (try simp only [Act.put, List.setIfInBounds_toArray, List.set_cons_zero, List.set_cons_succ]))   | (refine pl_skip rfl ?_ ?_; rfl; (try simp only [Act.put, List.setIfInBounds_toArray, List.set_cons_zero, List.set_cons_succ])))); refine pl_end ?_)
  refine pl_done ?_
  (try simp only [Act.put])
  obtain ⟨W10, hW10⟩ : ∃ W10, W10 = (w9.setCell ⟨g, k * 2, none⟩ (.int .i64 m)).setCell ⟨g, k * 2 + 1, none⟩ (.int .i64 m) := ⟨_, rfl⟩
  rw [← hW10] at t10 r10 X10 hspan ⊢
  clear hW10 k0 k1 g0 g1
  obtain ⟨x0, x1, x2, x3⟩ := t10.c4
  obtain ⟨z0, z1, z2, z3⟩ := r10.c4
  have f0 := r10.frozen 0
  have f1 := r10.frozen 1
  have f2 := r10.frozen 2
  have f3 := r10.frozen 3
  go_wp2
  obtain ⟨W11, hW11⟩ : ∃ W11, W11 = (((W10.setCell ⟨gR, 0, none⟩ (.int .i64 B.comp)).setCell ⟨gR, 1, none⟩ (.slice (some ⟨g, 0, none⟩) B.bounds.length cap)).setCell ⟨gR, 2, none⟩ (.slice a2 B.orders.length c2)).setCell ⟨gR, 3, none⟩ (.slice a3 B.shots.length c3) := ⟨_, rfl⟩
  have r11 : Blk W11 gR 26 #[.int .i64 B.comp, .slice (some ⟨g, 0, none⟩) B.bounds.length cap, .slice a2 B.orders.length c2, .slice a3 B.shots.length c3] := by
    rw [hW11]; simpa using (((r10.put 0 (.int .i64 B.comp)).put 1 (.slice (some ⟨g, 0, none⟩) B.bounds.length cap)).put 2 (.slice a2 B.orders.length c2)).put 3 (.slice a3 B.shots.length c3)
  have X11 : Ext w W11 := by rw [hW11]; exact Below.setCell (Below.setCell (Below.setCell (Below.setCell X10 hgR' _) hgR' _) hgR' _) hgR' _
  have hg11 : W11.heap[g]? = W10.heap[g]? := by
    rw [hW11, Below.heap_setCell _ ⟨gR, 3, none⟩ _ g hneR, Below.heap_setCell _ ⟨gR, 2, none⟩ _ g hneR, Below.heap_setCell _ ⟨gR, 1, none⟩ _ g hneR, Below.heap_setCell _ ⟨gR, 0, none⟩ _ g hneR]
  rw [← hW11]
  clear hW11 x0 x1 x2 x3 z0 z1 z2 z3 f0 f1 f2 f3
  obtain ⟨z0, z1, z2, z3⟩ := r11.c4
  have hBf := HB.out.ext X11
  refine bodyPost_ret (v := .agg #[.int .i64 B.comp, .slice (some ⟨g, 0, none⟩) B.bounds.length cap, .slice a2 B.orders.length c2, .slice a3 B.shots.length c3]) ?_ rfl ⟨⟨_, _, rfl, spanA_same hspan hg11, hBf.orders, hBf.shots, by simp only [knownB, List.length_set]; exact hBf.l1, hBf.l2, hBf.l3⟩, X11⟩
  simp [results, Tryd.results88, go_sem, z0, z1, z2, z3]
end Go.Proofs.YtnhdcdhpfgdphaaDoor
