/-
  TurnSure: the walk.
-/
import Derived.Test.YtnhdcdhpfgdphaaDoorL5
import Derived.Test.YtnhdcdhpfgdphaaDoorL7
import Derived.Test.YtnhdcdhpfgdphaaDoorP1
import Derived.Test.YtnhdcdhpfgdphaaDoorA2
import Derived.Test.YtnhdcdhpfgdphaaDoorA7
set_option linter.unusedSimpArgs false
set_option linter.unusedVariables false
namespace Go.Proofs.YtnhdcdhpfgdphaaDoor
open Go Go.RowKit

/-- Is a minute in one of the first k runs? -/
def inK (L : List (Int × Int)) (m : Int) (k : Nat) : Bool := (List.range k).any fun j => inB m (bLo L j) (bHi L j)
theorem inK_succ (L : List (Int × Int)) (m : Int) (k : Nat) : inK L m (k + 1) = (inK L m k || inB m (bLo L k) (bHi L k)) := by simp [inK, List.range_succ]
theorem inK_all {B : Bk} {s : Nat} {c : Int} {m : Int} (h0 : 0 ≤ m) (h1 : m < 1440) : inK (runsL B s c) m (runsL B s c).length = sureAt B s c m := by
  have h := run_mem (B := B) (s := s) (c := c) (n := m.toNat) (by omega)
  rw [show ((m.toNat : Nat) : Int) = m by omega] at h
  rw [Bool.eq_iff_iff, h]
  simp [inK, inB]
def endsL (lo hi : Int) : List Int := [lo, hi, lo - 1, hi + 1]
theorem ends_sure {B : Bk} {s : Nat} {c : Int} {k : Nat} (hk : k < (runsL B s c).length) : ∀ i, i < 4 → 0 ≤ nAt (endsL (bLo (runsL B s c) k) (bHi (runsL B s c) k)) i → nAt (endsL (bLo (runsL B s c) k) (bHi (runsL B s c) k)) i ≤ 1439 →
    sureAt B s c (nAt (endsL (bLo (runsL B s c) k) (bHi (runsL B s c) k)) i) = decide ((i : Int) < 2) := by
  obtain ⟨h1, h2, h3, h4⟩ := run_edges hk
  intro i hi a b
  rcases (by omega : i = 0 ∨ i = 1 ∨ i = 2 ∨ i = 3) with rfl | rfl | rfl | rfl
  · exact h1
  · exact h2
  · exact h3 a
  · exact h4 b

set_option maxRecDepth 100000 in
set_option maxHeartbeats 4000000 in
theorem turnSure_no (B : Bk) (a1 a2 a3 : Option Addr) (c1 c2 c3 : Nat) (n0 n1 n2 : Int) (w : World) (h : BookA w B a1 a2 a3) (hG : Glob w) (hv : validB B = false) :
    Calls Tryd.prog 11 #[.agg #[.int .i64 B.comp, .slice a1 B.bounds.length c1, .slice a2 B.orders.length c2, .slice a3 B.shots.length c3], .agg #[.int .i64 n0, .int .i64 n1, .int .i64 n2]] w
      fun e w' => e = .returned (.bool true) ∧ Ext w w' := by
  have HB := Lib.hid h
  have HG := Lib.hid hG
  clear h hG
  go_enter Tryd.func11, Tryd.ntmps11
  go_upto_region 1 with (fail)
  obtain ⟨W0, hW0⟩ : ∃ W0, W0 = (w.alloc (.cells #[.int .i64 B.comp, .slice a1 B.bounds.length c1, .slice a2 B.orders.length c2, .slice a3 B.shots.length c3] 26)).alloc (.cells #[.int .i64 n0, .int .i64 n1, .int .i64 n2] 27) := ⟨_, rfl⟩
  have b0 : Blk W0 w.heap.size 26 #[.int .i64 B.comp, .slice a1 B.bounds.length c1, .slice a2 B.orders.length c2, .slice a3 B.shots.length c3] := by rw [hW0]; exact (Blk.new _ _ _).alloc _
  have m0 : Blk W0 (w.heap.size + 1) 27 #[.int .i64 n0, .int .i64 n1, .int .i64 n2] := by rw [hW0]; have := Blk.new (w.alloc (.cells #[.int .i64 B.comp, .slice a1 B.bounds.length c1, .slice a2 B.orders.length c2, .slice a3 B.shots.length c3] 26)) 27 #[.int .i64 n0, .int .i64 n1, .int .i64 n2]; simpa using this
  have E0 : Ext w W0 := by rw [hW0]; exact (Ext.alloc _ _).trans (Ext.alloc _ _)
  rw [← hW0]
  clear hW0
  obtain ⟨x0, x1, x2, x3⟩ := b0.c4
  go_wp2_with (first | (go_at_call 36; refine (sound_no B a1 a2 a3 c1 c2 c3 _ (HB.out.ext E0) hv).mono ?_; rintro e w1 ⟨rfl, hE1⟩) | (go_at_call 25; refine (shot_any _ (HG.out.ext (E0.trans hE1))).mono ?_; rintro e w2 ⟨rfl, hE2⟩))
  go_ret
  exact ⟨rfl, E0.trans (hE1.trans hE2)⟩

set_option maxRecDepth 100000 in
set_option maxHeartbeats 8000000 in
theorem turnSure_yes (B : Bk) (a1 a2 a3 : Option Addr) (c1 c2 c3 : Nat) (n0 n1 n2 : Int) (w : World) (h : BookA w B a1 a2 a3) (hG : Glob w) (hv : validB B = true) (k0 : -9223372036854775808 ≤ n0 ∧ n0 ≤ 9223372036854775807) (k1 : -9223372036854775808 ≤ n1 ∧ n1 ≤ 9223372036854775807) (k2 : -9223372036854775808 ≤ n2 ∧ n2 ≤ 9223372036854775807) :
    Calls Tryd.prog 11 #[.agg #[.int .i64 B.comp, .slice a1 B.bounds.length c1, .slice a2 B.orders.length c2, .slice a3 B.shots.length c3], .agg #[.int .i64 n0, .int .i64 n1, .int .i64 n2]] w
      fun e w' => e = .returned (.bool true) ∧ Ext w w' := by
  obtain ⟨z1, z2, z3, z4, z5, z6⟩ := valid_sizes hv
  have hi := wheelZ_in n0 B.orders.length (by omega)
  obtain ⟨s, hse⟩ : ∃ s : Nat, wheelZ n0 B.orders.length = s := ⟨(wheelZ n0 B.orders.length).toNat, by omega⟩
  have hc := wheelZ_in n1 B.comp (by omega)
  obtain ⟨c, hce⟩ : ∃ c, wheelZ n1 B.comp = c := ⟨_, rfl⟩
  have ht := wheelZ_in n2 1440 (by omega)
  obtain ⟨m, hme⟩ : ∃ m, wheelZ n2 1440 = m := ⟨_, rfl⟩
  rw [hse] at hi
  rw [hce] at hc
  rw [hme] at ht
  have hsl : s < B.orders.length := by omega
  have hmm : isMinB m = true := by simp [isMinB]; omega
  have Hse := Lib.hid hse
  have Hce := Lib.hid hce
  have Hme := Lib.hid hme
  clear hse hme hce
  have HB := Lib.hid h
  have HG := Lib.hid hG
  clear h hG
  go_enter Tryd.func11, Tryd.ntmps11
  go_upto_region 1 with (fail)
  obtain ⟨W0, hW0⟩ : ∃ W0, W0 = (w.alloc (.cells #[.int .i64 B.comp, .slice a1 B.bounds.length c1, .slice a2 B.orders.length c2, .slice a3 B.shots.length c3] 26)).alloc (.cells #[.int .i64 n0, .int .i64 n1, .int .i64 n2] 27) := ⟨_, rfl⟩
  have b0 : Blk W0 w.heap.size 26 #[.int .i64 B.comp, .slice a1 B.bounds.length c1, .slice a2 B.orders.length c2, .slice a3 B.shots.length c3] := by rw [hW0]; exact (Blk.new _ _ _).alloc _
  have m0 : Blk W0 (w.heap.size + 1) 27 #[.int .i64 n0, .int .i64 n1, .int .i64 n2] := by rw [hW0]; have := Blk.new (w.alloc (.cells #[.int .i64 B.comp, .slice a1 B.bounds.length c1, .slice a2 B.orders.length c2, .slice a3 B.shots.length c3] 26)) 27 #[.int .i64 n0, .int .i64 n1, .int .i64 n2]; simpa using this
  have E0 : Ext w W0 := by rw [hW0]; exact (Ext.alloc _ _).trans (Ext.alloc _ _)
  rw [← hW0]
  clear hW0
  obtain ⟨x0, x1, x2, x3⟩ := b0.c4
  go_upto_region 3 with (go_at_call 36; refine (sound_yes B a1 a2 a3 c1 c2 c3 _ (HB.out.ext E0) hv).mono ?_; rintro e w1 ⟨rfl, hE1⟩)
  clear x0 x1 x2 x3
  obtain ⟨x0, x1, x2, x3⟩ := (b0.ext hE1).c4
  have y0 : w1.cell? ⟨w.heap.size + 1, 0, none⟩ = some (.int .i64 n0) := (m0.ext hE1).cell rfl
  have y1 : w1.cell? ⟨w.heap.size + 1, 1, none⟩ = some (.int .i64 n1) := (m0.ext hE1).cell rfl
  have y2 : w1.cell? ⟨w.heap.size + 1, 2, none⟩ = some (.int .i64 n2) := (m0.ext hE1).cell rfl
  go_quiet ((go_at_call 37; exact (wheel_any _ _ _ (by omega) (by omega)).mono fun e w' q => ⟨q.1, _, q.2.symm⟩))
  rw [Hse.out, Hce.out, Hme.out]
  clear x0 x1 x2 x3 y0 y1 y2 Hse Hme Hce k0 k1 k2 m0
  obtain ⟨W1, hW1⟩ : ∃ W1, W1 = w1.drewN nq := ⟨_, rfl⟩
  have X1 : Ext W0 W1 := by rw [hW1]; exact hE1.trans (Ext.drewN _ _)
  rw [← hW1]
  clear hW1 hE1
  obtain ⟨x0, x1, x2, x3⟩ := (b0.ext X1).c4
  have hcount := run_count (s := s) (c := c) hv
  go_upto_region 5 with (go_at_call 22; refine (sure_yes B a1 a2 a3 c1 c2 c3 s c _ ((HB.out.ext E0).ext X1) ((HG.out.ext E0).ext X1) hv hsl hc.1 hc.2).mono ?_; rintro e w2 ⟨⟨al, cl, rfl, hI⟩, hE2⟩)
  have X2 := X1.trans hE2
  clear x0 x1 x2 x3
  obtain ⟨x0, x1, x2, x3⟩ := (b0.ext X2).c4
  have hends : ∀ i, i < (runsL B s c).length → 0 ≤ bLo (runsL B s c) i ∧ bLo (runsL B s c) i ≤ bHi (runsL B s c) i ∧ bHi (runsL B s c) i < 1440 := fun i hi => run_ends hi
  have hgaps : ∀ i, i + 1 < (runsL B s c).length → bHi (runsL B s c) i + 2 ≤ bLo (runsL B s c) (i + 1) := fun i hi => run_gap hi
  have hedge := fun k (hk : k < (runsL B s c).length) => ends_sure hk
  have hall : inK (runsL B s c) m (runsL B s c).length = sureAt B s c m := inK_all ht.1 ht.2
  obtain ⟨L, hL⟩ : ∃ L, L = runsL B s c := ⟨_, rfl⟩
  rw [← hL] at hcount hI hends hgaps hedge hall ⊢
  have Hends := Lib.hid hends
  have Hgaps := Lib.hid hgaps
  have Hedge := Lib.hid hedge
  have Hall := Lib.hid hall
  clear hL hends hgaps hedge hall
  go_upto_region 9 with (fail)
  clear x0 x1 x2 x3
  go_loopw [10, 11, 12] (fun p l i wr => ∃ k : Nat, k ≤ L.length ∧ i = .int .i64 k ∧ p = .bool (inK L m k) ∧ l = .int .i64 (if k = 0 then -2 else bHi L (k - 1)) ∧ Ext w2 wr) (fun _ _ i _ => L.length - (intOf i).toNat)
  case atStart => exact ⟨0, Nat.zero_le _, rfl, rfl, rfl, Ext.refl _⟩
  case round =>
    obtain ⟨k, hk, rfl, rfl, rfl, hE⟩ := hrel
    obtain ⟨la, hla⟩ : ∃ la, la = (if k = 0 then -2 else bHi L (k - 1)) := ⟨_, rfl⟩
    rw [← hla]
    have XR := X2.trans hE
    by_cases hlt : k < L.length
    · obtain ⟨e1, e2, e3⟩ := Hends.out k hlt
      have hla2 : -2 ≤ la ∧ la + 2 ≤ bLo L k := by
        rcases Nat.eq_zero_or_pos k with h0 | h0
        · rw [hla, if_pos h0]; omega
        · rw [hla, if_neg (by omega)]
          have h1 := Hgaps.out (k - 1) (by omega)
          have h2 := Hends.out (k - 1) (by omega)
          rw [show k - 1 + 1 = k by omega] at h1
          omega
      have hin := Lib.hid (inK_succ L m k)
      obtain ⟨p, hp⟩ : ∃ p, p = inK L m k := ⟨_, rfl⟩
      rw [← hp] at hin ⊢
      have Hed := Lib.hid (Hedge.out k hlt)
      have hI1 := hI.ext hE
      obtain ⟨b, o, rfl, hbl, hcc⟩ := hI1 (by omega)
      obtain ⟨q0, q1⟩ := hcc k hlt
      obtain ⟨lo, hlo⟩ : ∃ lo, lo = bLo L k := ⟨_, rfl⟩
      obtain ⟨hh, hhi⟩ : ∃ hh, hh = bHi L k := ⟨_, rfl⟩
      rw [← hlo] at e1 e2 hla2 q0 hin Hed
      rw [← hhi] at e2 e3 q1 hin Hed
      have Hhi := Lib.hid hhi
      have hla3 : la = -2 ∨ 0 ≤ la := by
        rcases Nat.eq_zero_or_pos k with h0 | h0
        · left; rw [hla, if_pos h0]
        · right; rw [hla, if_neg (by omega)]
          have h2 := Hends.out (k - 1) (by omega)
          omega
      have HQ := Lib.hid (fun W (hW : Ext wr W) => (⟨hW.keep q0, hW.keep q1⟩ : W.cell? ⟨b, o + k * 2, none⟩ = some (.int .i64 lo) ∧ W.cell? ⟨b, o + k * 2 + 1, none⟩ = some (.int .i64 hh)))
      obtain ⟨W5, hW5⟩ : ∃ W5, W5 = wr := ⟨_, rfl⟩
      subst hW5
      clear hcc hla hp hlo hhi hI1
      go_upto_region 11 with (fail)
      go_cut [69] (fun q wx => q = .bool false ∧ Ext W5 wx)
      case first =>
        rcases hla3 with rfl | hla3
        · have hs := Lib.hid (⟨by omega, by omega, e2⟩ : (0 : Int) ≤ lo ∧ hh ≤ 1439 ∧ lo ≤ hh)
          go_wp2_with (go_at_call 52; refine (sane_yes hs.out _).mono ?_; rintro e w3 ⟨rfl, hE3⟩)
          go_meet
          case rel => exact ⟨rfl, hE3⟩
        · have hs := Lib.hid (⟨by omega, by omega, e2⟩ : la + 2 ≤ lo ∧ hh ≤ 1439 ∧ lo ≤ hh)
          go_wp2_with (go_at_call 52; refine (sane_yes hs.out _).mono ?_; rintro e w3 ⟨rfl, hE3⟩)
          go_meet
          case rel => exact ⟨rfl, hE3⟩
      case rest =>
        obtain ⟨rfl, hE3⟩ := hcut
        clear q0 q1 hla2 hla3
        obtain ⟨q0, q1⟩ := HQ.out _ hE3
        obtain ⟨W6, hW6⟩ : ∃ W6, W6 = wc := ⟨_, rfl⟩
        subst hW6
        go_upto_region 14 with (fail)
        go_cut [10] (fun q wx => q = .bool (p || inB m lo hh) ∧ Ext W6 wx)
        case first =>
          cases p with
          | true =>
            go_wp2_with (fail)
            go_meet
            case rel => exact ⟨rfl, Ext.refl _⟩
          | false =>
            go_wp2_with (go_at_call 39; refine (holds_any _ _ _ _).mono ?_; rintro e w4 ⟨rfl, hE4⟩)
            go_meet
            case rel => exact ⟨rfl, hE4⟩
        case rest =>
          obtain ⟨rfl, hE4⟩ := hcut
          clear q0 q1
          have X7 := (XR.trans hE3).trans hE4
          have HQ2 := Lib.hid (fun W (hW : Ext wc W) => HQ.out W (hE3.trans (hE4.trans hW)))
          go_upto_region 15 with (fail)
          refine wp_plan (fun W => (W.cell? ⟨b, o + k * 2, none⟩ = some (.int .i64 lo) ∧ W.cell? ⟨b, o + k * 2 + 1, none⟩ = some (.int .i64 hh))) (.tames [0, 1, 2, 3, 4, 5, 6, 7, 8, 9, 10, 11, 12, 13, 14, 15, 16, 17, 18, 19, 20, 21] (.one 22 (.tames [23] (.done)))) (by kernel_rfl) (by kernel_rfl) (by kernel_rfl) (fun c a d v w h => by cases d <;> exact h) ?_ ?_
          · exact HQ2.out _ (Ext.drew _)
          refine pl_tames ?_
          (try simp only [Act.put, List.setIfInBounds_toArray, List.set_cons_zero, List.set_cons_succ])
          repeat (first
            | (refine pl_run (v := ?_) rfl ?_ (fun W hW => ?_) ?_; rotate_left; rfl; ((try dsimp only at hW); go_simp; try with_reducible rfl); (try simp only [Act.put, List.setIfInBounds_toArray, List.set_cons_zero, List.set_cons_succ]))
            | (refine pl_skip rfl ?_ ?_; rfl; (try simp only [Act.put, List.setIfInBounds_toArray, List.set_cons_zero, List.set_cons_succ])))
          refine pl_end ?_
          refine pl_one rfl (by rfl) (fun K hK => ?_)
          go_simp
          skip
          refine hK.out _ _ (HQ2.out _ ((Ext.alloc wc _).trans (Ext.drew _))) ?_
          clear hK K
          (try refine pl_tames ?_)
          (try simp only [Act.put, List.setIfInBounds_toArray, List.set_cons_zero, List.set_cons_succ])
          try ((repeat (first   | (refine pl_run (v := ?_) rfl ?_ (fun W hW => ?_) ?_; rotate_left; rfl; ((try dsimp only at hW); go_simp; try with_reducible rfl); (try simp only [Act.put, List.setIfInBounds_toArray, List.set_cons_zero, List.set_cons_succ]))   | (refine pl_skip rfl ?_ ?_; rfl; (try simp only [Act.put, List.setIfInBounds_toArray, List.set_cons_zero, List.set_cons_succ])))); refine pl_end ?_)
          refine pl_done ?_
          (try simp only [Act.put])
          rw [wr64 (lo - 1) (by omega), wr64 (hh + 1) (by omega)]
          obtain ⟨W8, hW8⟩ : ∃ W8, W8 = (wc.alloc (.cells #[.int .i64 lo, .int .i64 hh, .int .i64 (lo - 1), .int .i64 (hh + 1)] 3)).drew := ⟨_, rfl⟩
          have E8 : Ext wc W8 := by rw [hW8]; exact (Ext.alloc _ _).trans (Ext.drew _)
          have t8 : Blk W8 wc.heap.size 3 #[.int .i64 lo, .int .i64 hh, .int .i64 (lo - 1), .int .i64 (hh + 1)] := by rw [hW8]; exact (Blk.new _ _ _).drew
          rw [← hW8]
          clear hW8
          obtain ⟨ge, hge⟩ : ∃ ge, ge = wc.heap.size := ⟨_, rfl⟩
          rw [← hge] at t8 ⊢
          clear hge
          have hIe : IntA W8 (some ⟨ge, 0, none⟩) (endsL lo hh) := fun _ => ⟨ge, 0, rfl, t8.lt, fun i hi => by
            have hi4 : i < 4 := by simpa [endsL] using hi
            rcases (by omega : i = 0 ∨ i = 1 ∨ i = 2 ∨ i = 3) with rfl | rfl | rfl | rfl <;> exact t8.cell rfl⟩
          have X8 := X7.trans E8
          go_upto_region 17 with (fail)
          go_loopw [14] (fun i wx => ∃ j : Nat, j ≤ 4 ∧ i = .int .i64 j ∧ Ext W8 wx) (fun i _ => 4 - (intOf i).toNat)
          case atStart => exact ⟨0, Nat.zero_le _, rfl, Ext.refl _⟩
          case round =>
            obtain ⟨j, hj, rfl, hE9⟩ := hrel
            by_cases hlt4 : j < 4
            · obtain ⟨b9, o9, e9, hb9, hc9⟩ := (hIe.ext hE9) (by simp [endsL])
              have q9 := hc9 j (by simp [endsL]; omega)
              simp only [Option.some.injEq, Addr.mk.injEq] at e9
              obtain ⟨rfl, rfl, -⟩ := e9
              have hsu := Hed.out j hlt4
              rw [Nat.zero_add] at q9
              obtain ⟨x, hx⟩ : ∃ x, x = nAt (endsL lo hh) j := ⟨_, rfl⟩
              rw [← hx] at q9 hsu
              have Hsu := Lib.hid hsu
              have X9 := X8.trans hE9
              clear hc9 hx hsu
              cases hb : inB x 0 1439 with
              | false =>
                go_wp2_with (go_at_call 44; refine (between_any _ _ _ _).mono ?_; rintro e w10 ⟨rfl, rfl⟩)
                go_roundw
                case rel => exact ⟨j + 1, by omega, by go_num, hE9⟩
                case measure => simp [intOf]; omega
              | true =>
                have hbx : 0 ≤ x ∧ x ≤ 1439 := by simpa [inB] using hb
                have hmx : isMinB x = true := by simp [isMinB]; omega
                have hsx := Hsu.out hbx.1 hbx.2
                go_upto_region 20 with (go_at_call 44; refine (between_any _ _ _ _).mono ?_; rintro e w10 ⟨rfl, rfl⟩)
                have HS := Lib.hid (fun W (hW : Ext wr W) => (⟨((b0.ext X9).ext hW).c4, hW.keep q9⟩ : (W.cell? ⟨w.heap.size, 0, none⟩ = some (.int .i64 B.comp) ∧ W.cell? ⟨w.heap.size, 1, none⟩ = some (.slice a1 B.bounds.length c1) ∧ W.cell? ⟨w.heap.size, 2, none⟩ = some (.slice a2 B.orders.length c2) ∧ W.cell? ⟨w.heap.size, 3, none⟩ = some (.slice a3 B.shots.length c3)) ∧ W.cell? ⟨ge, j, none⟩ = some (.int .i64 x)))
                clear q9
                refine wp_plan (fun W => ((W.cell? ⟨w.heap.size, 0, none⟩ = some (.int .i64 B.comp) ∧ W.cell? ⟨w.heap.size, 1, none⟩ = some (.slice a1 B.bounds.length c1) ∧ W.cell? ⟨w.heap.size, 2, none⟩ = some (.slice a2 B.orders.length c2) ∧ W.cell? ⟨w.heap.size, 3, none⟩ = some (.slice a3 B.shots.length c3)) ∧ W.cell? ⟨ge, j, none⟩ = some (.int .i64 x))) (.tames [0, 1, 2, 3, 4, 5] (.one 6 (.tames [7, 8, 9, 10, 11] (.done)))) (by kernel_rfl) (by kernel_rfl) (by kernel_rfl) (fun c a d v w h => by cases d <;> exact h) ?_ ?_
                · exact HS.out _ (Ext.drew _)
                refine pl_tames ?_
                (try simp only [Act.put, List.setIfInBounds_toArray, List.set_cons_zero, List.set_cons_succ])
                repeat (first
                  | (refine pl_run (v := ?_) rfl ?_ (fun W hW => ?_) ?_; rotate_left; rfl; ((try dsimp only at hW); go_simp; try with_reducible rfl); (try simp only [Act.put, List.setIfInBounds_toArray, List.set_cons_zero, List.set_cons_succ]))
                  | (refine pl_skip rfl ?_ ?_; rfl; (try simp only [Act.put, List.setIfInBounds_toArray, List.set_cons_zero, List.set_cons_succ])))
                refine pl_end ?_
                refine pl_one rfl (by rfl) (fun K hK => ?_)
                go_simp
                (go_at_call 19; refine (owners_yes B a1 a2 a3 c1 c2 c3 s x _ (((HB.out.ext E0).ext X9).ext (Ext.drew _)) (((HG.out.ext E0).ext X9).ext (Ext.drew _)) hv hsl hmx).mono ?_; rintro e w11 ⟨⟨ao, co, rfl, hIo⟩, hE11⟩)
                refine hK.out _ _ (HS.out _ ((Ext.drew _).trans hE11)) ?_
                clear hK K
                (try refine pl_tames ?_)
                (try simp only [Act.put, List.setIfInBounds_toArray, List.set_cons_zero, List.set_cons_succ])
                try ((repeat (first   | (refine pl_run (v := ?_) rfl ?_ (fun W hW => ?_) ?_; rotate_left; rfl; ((try dsimp only at hW); go_simp; try with_reducible rfl); (try simp only [Act.put, List.setIfInBounds_toArray, List.set_cons_zero, List.set_cons_succ]))   | (refine pl_skip rfl ?_ ?_; rfl; (try simp only [Act.put, List.setIfInBounds_toArray, List.set_cons_zero, List.set_cons_succ])))); refine pl_end ?_)
                refine pl_done ?_
                (try simp only [Act.put])
                have hq : decide (ownersL B s x = [c]) = decide ((j : Int) < 2) := hsx
                clear HS hsx
                have E11 := (Ext.drew wr).trans hE11
                go_wp2_with (go_at_call 21; refine (same_any ao (some ⟨w11.heap.size, 0, none⟩) (ownersL B s x) [c] co 1 _ (hIo.ext (Ext.alloc _ _)) (intA_new w11 [c] 3) (by have := ownersL_len hv s x; omega) (by simp)).mono ?_; rintro e w12 ⟨rfl, hE12⟩)
                go_roundw
                case rel => exact ⟨j + 1, by omega, by go_num, hE9.trans (E11.trans ((Ext.alloc _ _).trans hE12))⟩
                case measure => simp [intOf]; omega
            · obtain rfl : j = 4 := by omega
              go_wp2_with (fail)
              go_roundw
              case rel => exact ⟨k + 1, by omega, by go_num, by rw [hin.out], by rw [if_neg (by omega), Nat.add_sub_cancel, Hhi.out], hE.trans (hE3.trans (hE4.trans (E8.trans hE9)))⟩
              case measure => simp [intOf]; omega
    · obtain rfl : k = L.length := by omega
      obtain ⟨x0, x1, x2, x3⟩ := (b0.ext XR).c4
      rw [Hall.out]
      obtain ⟨q, hq0⟩ : ∃ q, q = sureAt B s c m := ⟨_, rfl⟩
      rw [← hq0]
      have hq : decide (ownersL B s m = [c]) = q := by rw [hq0]; rfl
      clear hq0 hla
      go_upto_region 24 with (go_at_call 19; refine (owners_yes B a1 a2 a3 c1 c2 c3 s m _ ((HB.out.ext E0).ext XR) ((HG.out.ext E0).ext XR) hv hsl hmm).mono ?_; rintro e w3 ⟨⟨ao, co, rfl, hIo⟩, hE3⟩)
      go_wp2_with (first | (go_at_call 21; refine (same_any ao (some ⟨w3.heap.size, 0, none⟩) (ownersL B s m) [c] co 1 _ (hIo.ext (Ext.alloc _ _)) (intA_new w3 [c] 3) (by have := ownersL_len hv s m; omega) (by simp)).mono ?_; rintro e w4 ⟨rfl, hE4⟩) | (go_at_call 25; refine (shot_any _ ((HG.out.ext E0).ext (XR.trans (hE3.trans ((Ext.alloc _ _).trans hE4))))).mono ?_; rintro e w5 ⟨rfl, hE5⟩))
      go_ret
      exact ⟨rfl, E0.trans ((XR.trans (hE3.trans ((Ext.alloc _ _).trans hE4))).trans hE5)⟩
theorem turnSure_walk (B : Bk) (a1 a2 a3 : Option Addr) (c1 c2 c3 : Nat) (n0 n1 n2 : Int) (w : World) (h : BookA w B a1 a2 a3) (hG : Glob w) (k0 : -9223372036854775808 ≤ n0 ∧ n0 ≤ 9223372036854775807) (k1 : -9223372036854775808 ≤ n1 ∧ n1 ≤ 9223372036854775807) (k2 : -9223372036854775808 ≤ n2 ∧ n2 ≤ 9223372036854775807) :
    Calls Tryd.prog 11 #[.agg #[.int .i64 B.comp, .slice a1 B.bounds.length c1, .slice a2 B.orders.length c2, .slice a3 B.shots.length c3], .agg #[.int .i64 n0, .int .i64 n1, .int .i64 n2]] w
      fun e w' => e = .returned (.bool true) ∧ Ext w w' := by
  cases hv : validB B with
  | false => exact turnSure_no B a1 a2 a3 c1 c2 c3 n0 n1 n2 w h hG hv
  | true => exact turnSure_yes B a1 a2 a3 c1 c2 c3 n0 n1 n2 w h hG hv k0 k1 k2
end Go.Proofs.YtnhdcdhpfgdphaaDoor
