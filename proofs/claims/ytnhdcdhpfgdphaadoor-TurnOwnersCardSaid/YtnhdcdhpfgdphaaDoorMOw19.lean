/-
  The reference's sure.
-/
import Derived.Test.YtnhdcdhpfgdphaaDoorMOw12
import Derived.Test.YtnhdcdhpfgdphaaDoorMOw16
import Derived.Test.YtnhdcdhpfgdphaaDoorMOw11
import Derived.Test.YtnhdcdhpfgdphaaDoorMOw8
set_option linter.unusedSimpArgs false
set_option linter.unusedVariables false
namespace Go.Proofs.YtnhdcdhpfgdphaaDoor
open Go Go.RowKit

set_option maxRecDepth 100000 in
set_option maxHeartbeats 4000000 in
theorem sure_ref (B : Bk) (hv : validB B = true) (a1 a2 a3 : Option Addr) (c1 c2 c3 : Nat) (s : Nat) (hs : s < B.orders.length) (co m : Int) (w : World) (h : BookA w B a1 a2 a3) :
    Calls Tryd.prog 72 #[.agg #[.int .i64 B.comp, .slice a1 B.bounds.length c1, .slice a2 B.orders.length c2, .slice a3 B.shots.length c3], .int .i64 s, .int .i64 co, .int .i64 m] w fun e w' => e = .returned (.bool (sureAt B s co m)) ∧ Ext w w' := by
  have h4 := (valid_sizes hv).2.2.2.2.1
  have Hres := Lib.hid (sure_iff hv s co m)
  have hrow := (valid_row hv hs).1
  have htl := tLo_le_tHi hv m
  have hth := tHi_le hv m
  have HB := Lib.hid h
  clear h
  go_enter Tryd.func72, Tryd.ntmps72
  go_upto_region 2 with (fail)
  obtain ⟨W0, hW0⟩ : ∃ W0, W0 = w.alloc (.cells #[.int .i64 B.comp, .slice a1 B.bounds.length c1, .slice a2 B.orders.length c2, .slice a3 B.shots.length c3] 26) := ⟨_, rfl⟩
  have b0 : Blk W0 w.heap.size 26 #[.int .i64 B.comp, .slice a1 B.bounds.length c1, .slice a2 B.orders.length c2, .slice a3 B.shots.length c3] := by rw [hW0]; exact Blk.new _ _ _
  have E0 : Ext w W0 := by rw [hW0]; exact Ext.alloc _ _
  rw [← hW0]
  clear hW0
  obtain ⟨gB, hgB⟩ : ∃ g, g = w.heap.size := ⟨_, rfl⟩
  rw [← hgB] at b0 ⊢
  clear hgB
  have HB1 := Lib.hid (HB.out.ext E0)
  obtain ⟨ob, oo, rfl, hob, hoc⟩ := HB1.out.orders (by omega)
  obtain ⟨ra, rc, q0, hR⟩ := hoc s hs
  obtain ⟨x0, x1, x2, x3⟩ := b0.c4
  rw [hrow] at q0
  have HR := Lib.hid hR
  clear hoc hR
  go_upto_region 3 with (fail)
  go_loopw [9, 10, 11] (fun a b i wr => ∃ k : Nat, k ≤ B.bounds.length ∧ i = .int .i64 k ∧ a = .int .i64 (cHi B.bounds m k) ∧ b = .int .i64 (cLo B.bounds m k) ∧ W0 = wr) (fun _ _ i _ => B.bounds.length - (intOf i).toNat)
  case atStart => exact ⟨0, Nat.zero_le _, rfl, rfl, rfl, rfl⟩
  case round =>
    obtain ⟨k, hk, rfl, rfl, rfl, rfl⟩ := hrel
    by_cases hlt : k < B.bounds.length
    · obtain ⟨bb, bo, rfl, hbbl, hbc⟩ := HB1.out.bounds (by omega)
      obtain ⟨p0, p1⟩ := hbc k hlt
      have g1 := cHi_succ B.bounds m k
      have g2 := cLo_succ B.bounds m k
      have g3 := cHi_le B.bounds m k
      have g4 := cLo_le B.bounds m k
      have hbd := valid_bound hv hlt
      obtain ⟨lo, hlo⟩ : ∃ lo, bLo B.bounds k = lo := ⟨_, rfl⟩
      obtain ⟨hi, hhi⟩ : ∃ hi, bHi B.bounds k = hi := ⟨_, rfl⟩
      rw [hlo] at p0 g2 hbd
      rw [hhi] at p1 g1 hbd
      obtain ⟨u, hu⟩ : ∃ u, cHi B.bounds m k = u := ⟨_, rfl⟩
      obtain ⟨v, hve⟩ : ∃ v, cLo B.bounds m k = v := ⟨_, rfl⟩
      rw [hu] at g1 g3 ⊢
      rw [hve] at g2 g4 ⊢
      have h1 := Lib.hid g1
      have h2 := Lib.hid g2
      clear g1 g2 hlo hhi hu hve hbc
      by_cases k1 : hi ≤ m
      · have k2 : lo ≤ m := by omega
        go_wp2
        go_roundw
        case rel => exact ⟨k + 1, by omega, by go_num, by rw [h1.out, if_pos k1]; go_num, by rw [h2.out, if_pos k2]; go_num, trivial⟩
        case measure => simp [intOf]; omega
      · by_cases k2 : lo ≤ m
        · go_wp2
          go_roundw
          case rel => exact ⟨k + 1, by omega, by go_num, by rw [h1.out, if_neg k1]; rfl, by rw [h2.out, if_pos k2]; go_num, trivial⟩
          case measure => simp [intOf]; omega
        · go_wp2
          go_roundw
          case rel => exact ⟨k + 1, by omega, by go_num, by rw [h1.out, if_neg k1]; rfl, by rw [h2.out, if_neg k2]; rfl, trivial⟩
          case measure => simp [intOf]; omega
    · obtain rfl : k = B.bounds.length := by omega
      have e1 : cHi B.bounds m B.bounds.length = tLo B m := rfl
      have e2 : cLo B.bounds m B.bounds.length = tHi B m := rfl
      rw [e1, e2]
      obtain ⟨lo, hlo⟩ : ∃ lo, tLo B m = lo := ⟨_, rfl⟩
      obtain ⟨hi, hhi⟩ : ∃ hi, tHi B m = hi := ⟨_, rfl⟩
      rw [hlo] at htl ⊢
      rw [hhi] at htl hth ⊢
      rw [hlo, hhi] at Hres
      clear e1 e2 hlo hhi
      go_upto_region 10 with (fail)
      go_loopw [12] (fun v wx => ∃ n : Nat, lo ≤ n ∧ n ≤ hi + 1 ∧ v = .int .i64 n ∧ Hid (∀ t, lo ≤ t → t < n → nAt (oAt B.orders s) t = co) ∧ W0 = wx) (fun v _ => hi + 1 - (intOf v).toNat)
      case atStart => exact ⟨lo, Nat.le_refl _, by omega, rfl, Lib.hid fun t h1 h2 => by omega, rfl⟩
      case round =>
        obtain ⟨n, hn1, hn2, rfl, hI, rfl⟩ := hrel
        by_cases hlt : n ≤ hi
        · obtain ⟨rb, ro, rfl, hrb, hrc⟩ := HR.out.2 (by omega)
          have r0 := hrc n (by omega)
          obtain ⟨y, hy⟩ : ∃ y, nAt (oAt B.orders s) n = y := ⟨_, rfl⟩
          rw [hy] at r0
          have Hy := Lib.hid hy
          clear hrc hy
          by_cases hc : y = co
          · have hcb : (y != co) = false := by simp [hc]
            have Hc := Lib.hid hc
            clear hc
            go_wp2
            go_roundw
            case rel => exact ⟨n + 1, by omega, by omega, by go_num, Lib.hid fun t h1 h2 => by rcases (by omega : t < n ∨ t = n) with h | rfl; exact hI.out t h1 h; rw [Hy.out, Hc.out], trivial⟩
            case measure => simp [intOf]; omega
          · have hcb : (y != co) = true := by simp [hc]
            have hno : Hid (sureAt B s co m = false) := Lib.hid (by
              cases hh : sureAt B s co m with
              | false => rfl
              | true => exact absurd (by rw [← Hy.out]; exact Hres.out.1 hh n hn1 hlt) hc)
            clear hc
            go_wp2
            go_ret
            exact ⟨by rw [hno.out]; rfl, E0⟩
        · have hyes : Hid (sureAt B s co m = true) := Lib.hid (Hres.out.2 fun t h1 h2 => hI.out t h1 (by omega))
          go_wp2
          go_ret
          exact ⟨by rw [hyes.out]; rfl, E0⟩
end Go.Proofs.YtnhdcdhpfgdphaaDoor

/-
  The exported function Sure, where it refuses.
-/
set_option linter.unusedSimpArgs false
set_option linter.unusedVariables false
namespace Go.Proofs.YtnhdcdhpfgdphaaDoor
open Go Go.RowKit

set_option maxRecDepth 100000 in
set_option maxHeartbeats 4000000 in
theorem sure_no (B : Bk) (a1 a2 a3 : Option Addr) (c1 c2 c3 : Nat) (s co cw : Int) (w : World) (h : BookA w B a1 a2 a3) (hG : Glob w) (hw : IntKind.i64.wrap (B.comp - 1) = cw) (hne : askE B (isStB B s && (decide (0 ≤ co) && decide (co ≤ cw))) ≠ 0) :
    Calls Tryd.prog 22 #[.agg #[.int .i64 B.comp, .slice a1 B.bounds.length c1, .slice a2 B.orders.length c2, .slice a3 B.shots.length c3], .int .i64 s, .int .i64 co] w
      fun e w' => e = .returned (.tuple #[.slice none 0 0, .int .i64 (askE B (isStB B s && (decide (0 ≤ co) && decide (co ≤ cw))))]) ∧ Ext w w' := by
  cases hs : isStB B s
  · rw [hs, Bool.false_and] at hne
    rw [Bool.false_and]
    have HB := Lib.hid h
    have HG := Lib.hid hG
    have l2 := h.l2
    have l3 := h.l3
    clear h hG
    go_enter Tryd.func22, Tryd.ntmps22
    go_upto_region 1 with (fail)
    obtain ⟨W0, hW0⟩ : ∃ W0, W0 = w.alloc (.cells #[.int .i64 B.comp, .slice a1 B.bounds.length c1, .slice a2 B.orders.length c2, .slice a3 B.shots.length c3] 26) := ⟨_, rfl⟩
    have b0 : Blk W0 w.heap.size 26 #[.int .i64 B.comp, .slice a1 B.bounds.length c1, .slice a2 B.orders.length c2, .slice a3 B.shots.length c3] := by rw [hW0]; exact Blk.new _ _ _
    have E0 : Ext w W0 := by rw [hW0]; exact Ext.alloc _ _
    rw [← hW0]
    clear hW0
    have HH : Hid (∀ W, Ext W0 W → (W.cell? ⟨w.heap.size, 0, none⟩ = some (.int .i64 B.comp) ∧ W.cell? ⟨w.heap.size, 1, none⟩ = some (.slice a1 B.bounds.length c1) ∧ W.cell? ⟨w.heap.size, 2, none⟩ = some (.slice a2 B.orders.length c2) ∧ W.cell? ⟨w.heap.size, 3, none⟩ = some (.slice a3 B.shots.length c3))) := Lib.hid fun W e => (b0.ext e).c4
    go_cut [8, 9] (fun p e wx => ∃ g, p = .pointer (some ⟨g, 0, none⟩) ∧ e = .int .i64 (askE B false) ∧ Ext W0 wx)
    case first =>
      refine wp_plan (fun W => W.cell? ⟨w.heap.size, 0, none⟩ = some (.int .i64 B.comp) ∧ W.cell? ⟨w.heap.size, 1, none⟩ = some (.slice a1 B.bounds.length c1) ∧ W.cell? ⟨w.heap.size, 2, none⟩ = some (.slice a2 B.orders.length c2) ∧ W.cell? ⟨w.heap.size, 3, none⟩ = some (.slice a3 B.shots.length c3)) (.tames [0, 1, 2] (.two 3 15 (.tames [4, 5, 6, 7, 8] (.two 9 15 (.tames [10] (.two 11 15 (.tames [12, 13, 14] (.one 15 (.one 16 (.tames [17] (.done))))) (.one 11 (.tames [12, 13, 14] (.one 16 (.tames [17] (.done))))))) (.one 9 (.tames [10] (.one 11 (.tames [12, 13, 14] (.one 16 (.tames [17] (.done))))))))) (.one 3 (.tames [4, 5, 6, 7, 8] (.one 9 (.tames [10] (.one 11 (.tames [12, 13, 14] (.one 16 (.tames [17] (.done))))))))))) (by kernel_rfl) (by kernel_rfl) (by kernel_rfl) (fun c a d v w h => by cases d <;> exact h) ?_ ?_
      · exact HH.out _ (Ext.drew _)
      refine pl_tames ?_
      (try simp only [Act.put, List.setIfInBounds_toArray, List.set_cons_zero, List.set_cons_succ])
      repeat (first
        | (refine pl_run (v := ?_) rfl ?_ (fun W hW => ?_) ?_; rotate_left; rfl; ((try dsimp only at hW); go_simp; try with_reducible rfl); (try simp only [Act.put, List.setIfInBounds_toArray, List.set_cons_zero, List.set_cons_succ]))
        | (refine pl_skip rfl ?_ ?_; rfl; (try simp only [Act.put, List.setIfInBounds_toArray, List.set_cons_zero, List.set_cons_succ])))
      refine pl_end ?_
      refine pl_two ?_ ?_
      · refine pl_one rfl (by rfl) (fun K hK => ?_)
        go_simp
        go_at_call 69
        refine ((isSt_any B a1 a2 a3 c1 c2 c3 s _ l2).mono (fun e w' q => (⟨by rw [q.1, hs], q.2⟩ : e = .returned (.bool false) ∧ _))).mono ?_
        rintro e w1 ⟨rfl, hE1⟩
        have X1 : Ext W0 w1 := Ext.trans (Ext.drew W0) hE1
        have hz1 := hE1.size
        refine hK.out _ _ (HH.out _ (X1)) ?_
        clear hK K
        (try simp only [Act.put, List.setIfInBounds_toArray, List.set_cons_zero, List.set_cons_succ])
        refine pl_tames ?_
        (try simp only [Act.put, List.setIfInBounds_toArray, List.set_cons_zero, List.set_cons_succ])
        repeat (first
          | (refine pl_run (v := ?_) rfl ?_ (fun W hW => ?_) ?_; rotate_left; rfl; ((try dsimp only at hW); go_simp; try with_reducible rfl); (try simp only [Act.put, List.setIfInBounds_toArray, List.set_cons_zero, List.set_cons_succ]))
          | (refine pl_skip rfl ?_ ?_; rfl; (try simp only [Act.put, List.setIfInBounds_toArray, List.set_cons_zero, List.set_cons_succ])))
        refine pl_end ?_
        refine pl_two ?_ ?_
        · refine pl_one_skip rfl (by rfl) (HH.out _ (X1)) ?_
          (try simp only [Act.put, List.setIfInBounds_toArray, List.set_cons_zero, List.set_cons_succ])
          refine pl_tames ?_
          (try simp only [Act.put, List.setIfInBounds_toArray, List.set_cons_zero, List.set_cons_succ])
          repeat (first
            | (refine pl_run (v := ?_) rfl ?_ (fun W hW => ?_) ?_; rotate_left; rfl; ((try dsimp only at hW); go_simp; try with_reducible rfl); (try simp only [Act.put, List.setIfInBounds_toArray, List.set_cons_zero, List.set_cons_succ]))
            | (refine pl_skip rfl ?_ ?_; rfl; (try simp only [Act.put, List.setIfInBounds_toArray, List.set_cons_zero, List.set_cons_succ])))
          refine pl_end ?_
          refine pl_two ?_ ?_
          · refine pl_one rfl (by rfl) (fun K hK => ?_)
            go_simp
            go_at_call 58
            refine (asked_ref B a1 a2 a3 c1 c2 c3 _ _ ((HB.out.ext E0).ext (X1)) ((HG.out.ext E0).ext (X1)) hne).mono ?_
            rintro e w3 ⟨rfl, hE3⟩
            have X3 : Ext W0 w3 := Ext.trans (X1) hE3
            have hz3 := hE3.size
            refine hK.out _ _ (HH.out _ (X3)) ?_
            clear hK K
            (try simp only [Act.put, List.setIfInBounds_toArray, List.set_cons_zero, List.set_cons_succ])
            refine pl_tames ?_
            (try simp only [Act.put, List.setIfInBounds_toArray, List.set_cons_zero, List.set_cons_succ])
            repeat (first
              | (refine pl_run (v := ?_) rfl ?_ (fun W hW => ?_) ?_; rotate_left; rfl; ((try dsimp only at hW); go_simp; try with_reducible rfl); (try simp only [Act.put, List.setIfInBounds_toArray, List.set_cons_zero, List.set_cons_succ]))
              | (refine pl_skip rfl ?_ ?_; rfl; (try simp only [Act.put, List.setIfInBounds_toArray, List.set_cons_zero, List.set_cons_succ])))
            refine pl_end ?_
            refine pl_one rfl (by rfl) (fun K hK => ?_)
            go_simp
            have X4 : Ext W0 (w3.alloc (.cells #[.int .i64 0, .slice none 0 0, .slice none 0 0, .slice none 0 0, .map none] 81)) := Ext.trans (X3) (Ext.alloc _ _)
            have B4 : Blk (w3.alloc (.cells #[.int .i64 0, .slice none 0 0, .slice none 0 0, .slice none 0 0, .map none] 81)) w3.heap.size 81 #[.int .i64 0, .slice none 0 0, .slice none 0 0, .slice none 0 0, .map none] := Blk.new _ _ _
            have hg4 : W0.heap.size ≤ w3.heap.size := Below.size (X3)
            have ha4 : (w3.alloc (.cells #[.int .i64 0, .slice none 0 0, .slice none 0 0, .slice none 0 0, .map none] 81)).heap.size = w3.heap.size + 1 := by simp
            refine hK.out _ _ (HH.out _ (X4)) ?_
            clear hK K
            (try simp only [Act.put, List.setIfInBounds_toArray, List.set_cons_zero, List.set_cons_succ])
            have BS : Blk (w3.alloc (.cells #[.int .i64 0, .slice none 0 0, .slice none 0 0, .slice none 0 0, .map none] 81)) w3.heap.size 81 #[.int .i64 0, .slice none 0 0, .slice none 0 0, .slice none 0 0, .map none] := B4
            have XS : Ext W0 (w3.alloc (.cells #[.int .i64 0, .slice none 0 0, .slice none 0 0, .slice none 0 0, .map none] 81)) := X4
            have gS : W0.heap.size ≤ w3.heap.size := by omega
            generalize (w3.alloc (.cells #[.int .i64 0, .slice none 0 0, .slice none 0 0, .slice none 0 0, .map none] 81)) = WS at BS XS ⊢
            obtain ⟨kS0, kS1, kS2, kS3, kS4⟩ := BS.c5
            have fS0 := BS.frozen 0
            have fS1 := BS.frozen 1
            have fS2 := BS.frozen 2
            have fS3 := BS.frozen 3
            have fS4 := BS.frozen 4
            refine pl_one rfl (by rfl) (fun K hK => ?_)
            go_simp
            refine hK.out _ _ (HH.out _ (below5 XS gS (.int .i64 0) (.slice none 0 0) (.slice none 0 0) (.slice none 0 0) (.map none))) ?_
            clear hK K
            (try simp only [Act.put, List.setIfInBounds_toArray, List.set_cons_zero, List.set_cons_succ])
            refine pl_tames ?_
            (try simp only [Act.put, List.setIfInBounds_toArray, List.set_cons_zero, List.set_cons_succ])
            repeat (first
              | (refine pl_run (v := ?_) rfl ?_ (fun W hW => ?_) ?_; rotate_left; rfl; ((try dsimp only at hW); go_simp; try with_reducible rfl); (try simp only [Act.put, List.setIfInBounds_toArray, List.set_cons_zero, List.set_cons_succ]))
              | (refine pl_skip rfl ?_ ?_; rfl; (try simp only [Act.put, List.setIfInBounds_toArray, List.set_cons_zero, List.set_cons_succ])))
            refine pl_end ?_
            refine pl_done ?_
            (try simp only [Act.put])
            go_wp2
            go_meet
            case rel => exact ⟨w3.heap.size, rfl, rfl, (below5 XS gS (.int .i64 0) (.slice none 0 0) (.slice none 0 0) (.slice none 0 0) (.map none))⟩
          · refine pl_one rfl (by rfl) (fun K hK => ?_)
            go_simp
            have X3 : Ext W0 (w1.alloc (.cells #[.int .i64 0, .slice none 0 0, .slice none 0 0, .slice none 0 0, .map none] 81)) := Ext.trans (X1) (Ext.alloc _ _)
            have B3 : Blk (w1.alloc (.cells #[.int .i64 0, .slice none 0 0, .slice none 0 0, .slice none 0 0, .map none] 81)) w1.heap.size 81 #[.int .i64 0, .slice none 0 0, .slice none 0 0, .slice none 0 0, .map none] := Blk.new _ _ _
            have hg3 : W0.heap.size ≤ w1.heap.size := Below.size (X1)
            have ha3 : (w1.alloc (.cells #[.int .i64 0, .slice none 0 0, .slice none 0 0, .slice none 0 0, .map none] 81)).heap.size = w1.heap.size + 1 := by simp
            refine hK.out _ _ (HH.out _ (X3)) ?_
            clear hK K
            (try simp only [Act.put, List.setIfInBounds_toArray, List.set_cons_zero, List.set_cons_succ])
            refine pl_one rfl (by rfl) (fun K hK => ?_)
            go_simp
            go_at_call 58
            refine (asked_ref B a1 a2 a3 c1 c2 c3 _ _ ((HB.out.ext E0).ext (X3)) ((HG.out.ext E0).ext (X3)) hne).mono ?_
            rintro e w4 ⟨rfl, hE4⟩
            have X4 : Ext W0 w4 := Ext.trans (X3) hE4
            have hz4 := hE4.size
            have B4 := Blk.ext (B3) hE4
            refine hK.out _ _ (HH.out _ (X4)) ?_
            clear hK K
            (try simp only [Act.put, List.setIfInBounds_toArray, List.set_cons_zero, List.set_cons_succ])
            refine pl_tames ?_
            (try simp only [Act.put, List.setIfInBounds_toArray, List.set_cons_zero, List.set_cons_succ])
            repeat (first
              | (refine pl_run (v := ?_) rfl ?_ (fun W hW => ?_) ?_; rotate_left; rfl; ((try dsimp only at hW); go_simp; try with_reducible rfl); (try simp only [Act.put, List.setIfInBounds_toArray, List.set_cons_zero, List.set_cons_succ]))
              | (refine pl_skip rfl ?_ ?_; rfl; (try simp only [Act.put, List.setIfInBounds_toArray, List.set_cons_zero, List.set_cons_succ])))
            refine pl_end ?_
            have BS : Blk w4 w1.heap.size 81 #[.int .i64 0, .slice none 0 0, .slice none 0 0, .slice none 0 0, .map none] := B4
            have XS : Ext W0 w4 := X4
            have gS : W0.heap.size ≤ w1.heap.size := by omega
            generalize w4 = WS at BS XS ⊢
            obtain ⟨kS0, kS1, kS2, kS3, kS4⟩ := BS.c5
            have fS0 := BS.frozen 0
            have fS1 := BS.frozen 1
            have fS2 := BS.frozen 2
            have fS3 := BS.frozen 3
            have fS4 := BS.frozen 4
            refine pl_one rfl (by rfl) (fun K hK => ?_)
            go_simp
            refine hK.out _ _ (HH.out _ (below5 XS gS (.int .i64 0) (.slice none 0 0) (.slice none 0 0) (.slice none 0 0) (.map none))) ?_
            clear hK K
            (try simp only [Act.put, List.setIfInBounds_toArray, List.set_cons_zero, List.set_cons_succ])
            refine pl_tames ?_
            (try simp only [Act.put, List.setIfInBounds_toArray, List.set_cons_zero, List.set_cons_succ])
            repeat (first
              | (refine pl_run (v := ?_) rfl ?_ (fun W hW => ?_) ?_; rotate_left; rfl; ((try dsimp only at hW); go_simp; try with_reducible rfl); (try simp only [Act.put, List.setIfInBounds_toArray, List.set_cons_zero, List.set_cons_succ]))
              | (refine pl_skip rfl ?_ ?_; rfl; (try simp only [Act.put, List.setIfInBounds_toArray, List.set_cons_zero, List.set_cons_succ])))
            refine pl_end ?_
            refine pl_done ?_
            (try simp only [Act.put])
            go_wp2
            go_meet
            case rel => exact ⟨w1.heap.size, rfl, rfl, (below5 XS gS (.int .i64 0) (.slice none 0 0) (.slice none 0 0) (.slice none 0 0) (.map none))⟩
        · refine pl_one rfl (by rfl) (fun K hK => ?_)
          go_simp
          have X2 : Ext W0 (w1.alloc (.cells #[.int .i64 0, .slice none 0 0, .slice none 0 0, .slice none 0 0, .map none] 81)) := Ext.trans (X1) (Ext.alloc _ _)
          have B2 : Blk (w1.alloc (.cells #[.int .i64 0, .slice none 0 0, .slice none 0 0, .slice none 0 0, .map none] 81)) w1.heap.size 81 #[.int .i64 0, .slice none 0 0, .slice none 0 0, .slice none 0 0, .map none] := Blk.new _ _ _
          have hg2 : W0.heap.size ≤ w1.heap.size := Below.size (X1)
          have ha2 : (w1.alloc (.cells #[.int .i64 0, .slice none 0 0, .slice none 0 0, .slice none 0 0, .map none] 81)).heap.size = w1.heap.size + 1 := by simp
          refine hK.out _ _ (HH.out _ (X2)) ?_
          clear hK K
          (try simp only [Act.put, List.setIfInBounds_toArray, List.set_cons_zero, List.set_cons_succ])
          refine pl_one_skip rfl (by rfl) (HH.out _ (X2)) ?_
          (try simp only [Act.put, List.setIfInBounds_toArray, List.set_cons_zero, List.set_cons_succ])
          refine pl_tames ?_
          (try simp only [Act.put, List.setIfInBounds_toArray, List.set_cons_zero, List.set_cons_succ])
          repeat (first
            | (refine pl_run (v := ?_) rfl ?_ (fun W hW => ?_) ?_; rotate_left; rfl; ((try dsimp only at hW); go_simp; try with_reducible rfl); (try simp only [Act.put, List.setIfInBounds_toArray, List.set_cons_zero, List.set_cons_succ]))
            | (refine pl_skip rfl ?_ ?_; rfl; (try simp only [Act.put, List.setIfInBounds_toArray, List.set_cons_zero, List.set_cons_succ])))
          refine pl_end ?_
          refine pl_one rfl (by rfl) (fun K hK => ?_)
          go_simp
          go_at_call 58
          refine (asked_ref B a1 a2 a3 c1 c2 c3 _ _ ((HB.out.ext E0).ext (X2)) ((HG.out.ext E0).ext (X2)) hne).mono ?_
          rintro e w4 ⟨rfl, hE4⟩
          have X4 : Ext W0 w4 := Ext.trans (X2) hE4
          have hz4 := hE4.size
          have B4 := Blk.ext (B2) hE4
          refine hK.out _ _ (HH.out _ (X4)) ?_
          clear hK K
          (try simp only [Act.put, List.setIfInBounds_toArray, List.set_cons_zero, List.set_cons_succ])
          refine pl_tames ?_
          (try simp only [Act.put, List.setIfInBounds_toArray, List.set_cons_zero, List.set_cons_succ])
          repeat (first
            | (refine pl_run (v := ?_) rfl ?_ (fun W hW => ?_) ?_; rotate_left; rfl; ((try dsimp only at hW); go_simp; try with_reducible rfl); (try simp only [Act.put, List.setIfInBounds_toArray, List.set_cons_zero, List.set_cons_succ]))
            | (refine pl_skip rfl ?_ ?_; rfl; (try simp only [Act.put, List.setIfInBounds_toArray, List.set_cons_zero, List.set_cons_succ])))
          refine pl_end ?_
          have BS : Blk w4 w1.heap.size 81 #[.int .i64 0, .slice none 0 0, .slice none 0 0, .slice none 0 0, .map none] := B4
          have XS : Ext W0 w4 := X4
          have gS : W0.heap.size ≤ w1.heap.size := by omega
          generalize w4 = WS at BS XS ⊢
          obtain ⟨kS0, kS1, kS2, kS3, kS4⟩ := BS.c5
          have fS0 := BS.frozen 0
          have fS1 := BS.frozen 1
          have fS2 := BS.frozen 2
          have fS3 := BS.frozen 3
          have fS4 := BS.frozen 4
          refine pl_one rfl (by rfl) (fun K hK => ?_)
          go_simp
          refine hK.out _ _ (HH.out _ (below5 XS gS (.int .i64 0) (.slice none 0 0) (.slice none 0 0) (.slice none 0 0) (.map none))) ?_
          clear hK K
          (try simp only [Act.put, List.setIfInBounds_toArray, List.set_cons_zero, List.set_cons_succ])
          refine pl_tames ?_
          (try simp only [Act.put, List.setIfInBounds_toArray, List.set_cons_zero, List.set_cons_succ])
          repeat (first
            | (refine pl_run (v := ?_) rfl ?_ (fun W hW => ?_) ?_; rotate_left; rfl; ((try dsimp only at hW); go_simp; try with_reducible rfl); (try simp only [Act.put, List.setIfInBounds_toArray, List.set_cons_zero, List.set_cons_succ]))
            | (refine pl_skip rfl ?_ ?_; rfl; (try simp only [Act.put, List.setIfInBounds_toArray, List.set_cons_zero, List.set_cons_succ])))
          refine pl_end ?_
          refine pl_done ?_
          (try simp only [Act.put])
          go_wp2
          go_meet
          case rel => exact ⟨w1.heap.size, rfl, rfl, (below5 XS gS (.int .i64 0) (.slice none 0 0) (.slice none 0 0) (.slice none 0 0) (.map none))⟩
      · refine pl_one rfl (by rfl) (fun K hK => ?_)
        go_simp
        have X1 : Ext W0 (W0.alloc (.cells #[.int .i64 0, .slice none 0 0, .slice none 0 0, .slice none 0 0, .map none] 81)).drew := Ext.trans (Ext.alloc _ _) (Ext.drew _)
        have B1 : Blk (W0.alloc (.cells #[.int .i64 0, .slice none 0 0, .slice none 0 0, .slice none 0 0, .map none] 81)).drew W0.heap.size 81 #[.int .i64 0, .slice none 0 0, .slice none 0 0, .slice none 0 0, .map none] := (Blk.new _ _ _).drew
        have ha1 : (W0.alloc (.cells #[.int .i64 0, .slice none 0 0, .slice none 0 0, .slice none 0 0, .map none] 81)).drew.heap.size = W0.heap.size + 1 := by simp
        refine hK.out _ _ (HH.out _ (X1)) ?_
        clear hK K
        (try simp only [Act.put, List.setIfInBounds_toArray, List.set_cons_zero, List.set_cons_succ])
        refine pl_one rfl (by rfl) (fun K hK => ?_)
        go_simp
        go_at_call 69
        refine ((isSt_any B a1 a2 a3 c1 c2 c3 s _ l2).mono (fun e w' q => (⟨by rw [q.1, hs], q.2⟩ : e = .returned (.bool false) ∧ _))).mono ?_
        rintro e w2 ⟨rfl, hE2⟩
        have X2 : Ext W0 w2 := Ext.trans (X1) hE2
        have hz2 := hE2.size
        have B2 := Blk.ext (B1) hE2
        refine hK.out _ _ (HH.out _ (X2)) ?_
        clear hK K
        (try simp only [Act.put, List.setIfInBounds_toArray, List.set_cons_zero, List.set_cons_succ])
        refine pl_tames ?_
        (try simp only [Act.put, List.setIfInBounds_toArray, List.set_cons_zero, List.set_cons_succ])
        repeat (first
          | (refine pl_run (v := ?_) rfl ?_ (fun W hW => ?_) ?_; rotate_left; rfl; ((try dsimp only at hW); go_simp; try with_reducible rfl); (try simp only [Act.put, List.setIfInBounds_toArray, List.set_cons_zero, List.set_cons_succ]))
          | (refine pl_skip rfl ?_ ?_; rfl; (try simp only [Act.put, List.setIfInBounds_toArray, List.set_cons_zero, List.set_cons_succ])))
        refine pl_end ?_
        refine pl_one_skip rfl (by rfl) (HH.out _ (X2)) ?_
        (try simp only [Act.put, List.setIfInBounds_toArray, List.set_cons_zero, List.set_cons_succ])
        refine pl_tames ?_
        (try simp only [Act.put, List.setIfInBounds_toArray, List.set_cons_zero, List.set_cons_succ])
        repeat (first
          | (refine pl_run (v := ?_) rfl ?_ (fun W hW => ?_) ?_; rotate_left; rfl; ((try dsimp only at hW); go_simp; try with_reducible rfl); (try simp only [Act.put, List.setIfInBounds_toArray, List.set_cons_zero, List.set_cons_succ]))
          | (refine pl_skip rfl ?_ ?_; rfl; (try simp only [Act.put, List.setIfInBounds_toArray, List.set_cons_zero, List.set_cons_succ])))
        refine pl_end ?_
        refine pl_one rfl (by rfl) (fun K hK => ?_)
        go_simp
        go_at_call 58
        refine (asked_ref B a1 a2 a3 c1 c2 c3 _ _ ((HB.out.ext E0).ext (X2)) ((HG.out.ext E0).ext (X2)) hne).mono ?_
        rintro e w4 ⟨rfl, hE4⟩
        have X4 : Ext W0 w4 := Ext.trans (X2) hE4
        have hz4 := hE4.size
        have B4 := Blk.ext (B2) hE4
        refine hK.out _ _ (HH.out _ (X4)) ?_
        clear hK K
        (try simp only [Act.put, List.setIfInBounds_toArray, List.set_cons_zero, List.set_cons_succ])
        refine pl_tames ?_
        (try simp only [Act.put, List.setIfInBounds_toArray, List.set_cons_zero, List.set_cons_succ])
        repeat (first
          | (refine pl_run (v := ?_) rfl ?_ (fun W hW => ?_) ?_; rotate_left; rfl; ((try dsimp only at hW); go_simp; try with_reducible rfl); (try simp only [Act.put, List.setIfInBounds_toArray, List.set_cons_zero, List.set_cons_succ]))
          | (refine pl_skip rfl ?_ ?_; rfl; (try simp only [Act.put, List.setIfInBounds_toArray, List.set_cons_zero, List.set_cons_succ])))
        refine pl_end ?_
        have BS : Blk w4 W0.heap.size 81 #[.int .i64 0, .slice none 0 0, .slice none 0 0, .slice none 0 0, .map none] := B4
        have XS : Ext W0 w4 := X4
        have gS : W0.heap.size ≤ W0.heap.size := by omega
        generalize w4 = WS at BS XS ⊢
        obtain ⟨kS0, kS1, kS2, kS3, kS4⟩ := BS.c5
        have fS0 := BS.frozen 0
        have fS1 := BS.frozen 1
        have fS2 := BS.frozen 2
        have fS3 := BS.frozen 3
        have fS4 := BS.frozen 4
        refine pl_one rfl (by rfl) (fun K hK => ?_)
        go_simp
        refine hK.out _ _ (HH.out _ (below5 XS gS (.int .i64 0) (.slice none 0 0) (.slice none 0 0) (.slice none 0 0) (.map none))) ?_
        clear hK K
        (try simp only [Act.put, List.setIfInBounds_toArray, List.set_cons_zero, List.set_cons_succ])
        refine pl_tames ?_
        (try simp only [Act.put, List.setIfInBounds_toArray, List.set_cons_zero, List.set_cons_succ])
        repeat (first
          | (refine pl_run (v := ?_) rfl ?_ (fun W hW => ?_) ?_; rotate_left; rfl; ((try dsimp only at hW); go_simp; try with_reducible rfl); (try simp only [Act.put, List.setIfInBounds_toArray, List.set_cons_zero, List.set_cons_succ]))
          | (refine pl_skip rfl ?_ ?_; rfl; (try simp only [Act.put, List.setIfInBounds_toArray, List.set_cons_zero, List.set_cons_succ])))
        refine pl_end ?_
        refine pl_done ?_
        (try simp only [Act.put])
        go_wp2
        go_meet
        case rel => exact ⟨W0.heap.size, rfl, rfl, (below5 XS gS (.int .i64 0) (.slice none 0 0) (.slice none 0 0) (.slice none 0 0) (.map none))⟩
    case rest =>
      obtain ⟨g, rfl, rfl, hX⟩ := hcut
      obtain ⟨c, hc⟩ : ∃ c, c = askE B false := ⟨_, rfl⟩
      rw [← hc] at hne ⊢
      have hcn : (c != 0) = true := by simp [hne]
      go_wp2
      refine bodyPost_ret (v := .tuple #[.slice none 0 0, .int .i64 c]) ?_ rfl ⟨by rw [hc], E0.trans hX⟩
      simp [results, Tryd.results22, go_sem]
  · rw [hs, Bool.true_and] at hne
    rw [Bool.true_and]
    have HB := Lib.hid h
    have HG := Lib.hid hG
    have l2 := h.l2
    have l3 := h.l3
    clear h hG
    go_enter Tryd.func22, Tryd.ntmps22
    go_upto_region 1 with (fail)
    obtain ⟨W0, hW0⟩ : ∃ W0, W0 = w.alloc (.cells #[.int .i64 B.comp, .slice a1 B.bounds.length c1, .slice a2 B.orders.length c2, .slice a3 B.shots.length c3] 26) := ⟨_, rfl⟩
    have b0 : Blk W0 w.heap.size 26 #[.int .i64 B.comp, .slice a1 B.bounds.length c1, .slice a2 B.orders.length c2, .slice a3 B.shots.length c3] := by rw [hW0]; exact Blk.new _ _ _
    have E0 : Ext w W0 := by rw [hW0]; exact Ext.alloc _ _
    rw [← hW0]
    clear hW0
    have HH : Hid (∀ W, Ext W0 W → (W.cell? ⟨w.heap.size, 0, none⟩ = some (.int .i64 B.comp) ∧ W.cell? ⟨w.heap.size, 1, none⟩ = some (.slice a1 B.bounds.length c1) ∧ W.cell? ⟨w.heap.size, 2, none⟩ = some (.slice a2 B.orders.length c2) ∧ W.cell? ⟨w.heap.size, 3, none⟩ = some (.slice a3 B.shots.length c3))) := Lib.hid fun W e => (b0.ext e).c4
    go_cut [8, 9] (fun p e wx => ∃ g, p = .pointer (some ⟨g, 0, none⟩) ∧ e = .int .i64 (askE B (decide (0 ≤ co) && decide (co ≤ cw))) ∧ Ext W0 wx)
    case first =>
      refine wp_plan (fun W => W.cell? ⟨w.heap.size, 0, none⟩ = some (.int .i64 B.comp) ∧ W.cell? ⟨w.heap.size, 1, none⟩ = some (.slice a1 B.bounds.length c1) ∧ W.cell? ⟨w.heap.size, 2, none⟩ = some (.slice a2 B.orders.length c2) ∧ W.cell? ⟨w.heap.size, 3, none⟩ = some (.slice a3 B.shots.length c3)) (.tames [0, 1, 2] (.two 3 15 (.tames [4, 5, 6, 7, 8] (.two 9 15 (.tames [10] (.two 11 15 (.tames [12, 13, 14] (.one 15 (.one 16 (.tames [17] (.done))))) (.one 11 (.tames [12, 13, 14] (.one 16 (.tames [17] (.done))))))) (.one 9 (.tames [10] (.one 11 (.tames [12, 13, 14] (.one 16 (.tames [17] (.done))))))))) (.one 3 (.tames [4, 5, 6, 7, 8] (.one 9 (.tames [10] (.one 11 (.tames [12, 13, 14] (.one 16 (.tames [17] (.done))))))))))) (by kernel_rfl) (by kernel_rfl) (by kernel_rfl) (fun c a d v w h => by cases d <;> exact h) ?_ ?_
      · exact HH.out _ (Ext.drew _)
      refine pl_tames ?_
      (try simp only [Act.put, List.setIfInBounds_toArray, List.set_cons_zero, List.set_cons_succ])
      repeat (first
        | (refine pl_run (v := ?_) rfl ?_ (fun W hW => ?_) ?_; rotate_left; rfl; ((try dsimp only at hW); go_simp; try with_reducible rfl); (try simp only [Act.put, List.setIfInBounds_toArray, List.set_cons_zero, List.set_cons_succ]))
        | (refine pl_skip rfl ?_ ?_; rfl; (try simp only [Act.put, List.setIfInBounds_toArray, List.set_cons_zero, List.set_cons_succ])))
      refine pl_end ?_
      refine pl_two ?_ ?_
      · refine pl_one rfl (by rfl) (fun K hK => ?_)
        go_simp
        go_at_call 69
        refine ((isSt_any B a1 a2 a3 c1 c2 c3 s _ l2).mono (fun e w' q => (⟨by rw [q.1, hs], q.2⟩ : e = .returned (.bool true) ∧ _))).mono ?_
        rintro e w1 ⟨rfl, hE1⟩
        have X1 : Ext W0 w1 := Ext.trans (Ext.drew W0) hE1
        have hz1 := hE1.size
        refine hK.out _ _ (HH.out _ (X1)) ?_
        clear hK K
        (try simp only [Act.put, List.setIfInBounds_toArray, List.set_cons_zero, List.set_cons_succ])
        refine pl_tames ?_
        (try simp only [Act.put, List.setIfInBounds_toArray, List.set_cons_zero, List.set_cons_succ])
        repeat (first
          | (refine pl_run (v := ?_) rfl ?_ (fun W hW => ?_) ?_; rotate_left; rfl; ((try dsimp only at hW); go_simp; try with_reducible rfl); (try simp only [Act.put, List.setIfInBounds_toArray, List.set_cons_zero, List.set_cons_succ]))
          | (refine pl_skip rfl ?_ ?_; rfl; (try simp only [Act.put, List.setIfInBounds_toArray, List.set_cons_zero, List.set_cons_succ])))
        refine pl_end ?_
        refine pl_two ?_ ?_
        · refine pl_one rfl (by rfl) (fun K hK => ?_)
          go_simp
          go_at_call 64
          refine (on_any _ _ _ _).mono ?_
          rintro e w2 ⟨rfl, rfl⟩
          refine hK.out _ _ (HH.out _ (X1)) ?_
          clear hK K
          (try simp only [Act.put, List.setIfInBounds_toArray, List.set_cons_zero, List.set_cons_succ])
          refine pl_tames ?_
          (try simp only [Act.put, List.setIfInBounds_toArray, List.set_cons_zero, List.set_cons_succ])
          repeat (first
            | (refine pl_run (v := ?_) rfl ?_ (fun W hW => ?_) ?_; rotate_left; rfl; ((try dsimp only at hW); go_simp; try with_reducible rfl); (try simp only [Act.put, List.setIfInBounds_toArray, List.set_cons_zero, List.set_cons_succ]))
            | (refine pl_skip rfl ?_ ?_; rfl; (try simp only [Act.put, List.setIfInBounds_toArray, List.set_cons_zero, List.set_cons_succ])))
          refine pl_end ?_
          refine pl_two ?_ ?_
          · refine pl_one rfl (by rfl) (fun K hK => ?_)
            go_simp
            go_at_call 58
            refine (asked_ref B a1 a2 a3 c1 c2 c3 _ _ ((HB.out.ext E0).ext (X1)) ((HG.out.ext E0).ext (X1)) hne).mono ?_
            rintro e w3 ⟨rfl, hE3⟩
            have X3 : Ext W0 w3 := Ext.trans (X1) hE3
            have hz3 := hE3.size
            refine hK.out _ _ (HH.out _ (X3)) ?_
            clear hK K
            (try simp only [Act.put, List.setIfInBounds_toArray, List.set_cons_zero, List.set_cons_succ])
            refine pl_tames ?_
            (try simp only [Act.put, List.setIfInBounds_toArray, List.set_cons_zero, List.set_cons_succ])
            repeat (first
              | (refine pl_run (v := ?_) rfl ?_ (fun W hW => ?_) ?_; rotate_left; rfl; ((try dsimp only at hW); go_simp; try with_reducible rfl); (try simp only [Act.put, List.setIfInBounds_toArray, List.set_cons_zero, List.set_cons_succ]))
              | (refine pl_skip rfl ?_ ?_; rfl; (try simp only [Act.put, List.setIfInBounds_toArray, List.set_cons_zero, List.set_cons_succ])))
            refine pl_end ?_
            refine pl_one rfl (by rfl) (fun K hK => ?_)
            go_simp
            have X4 : Ext W0 (w3.alloc (.cells #[.int .i64 0, .slice none 0 0, .slice none 0 0, .slice none 0 0, .map none] 81)) := Ext.trans (X3) (Ext.alloc _ _)
            have B4 : Blk (w3.alloc (.cells #[.int .i64 0, .slice none 0 0, .slice none 0 0, .slice none 0 0, .map none] 81)) w3.heap.size 81 #[.int .i64 0, .slice none 0 0, .slice none 0 0, .slice none 0 0, .map none] := Blk.new _ _ _
            have hg4 : W0.heap.size ≤ w3.heap.size := Below.size (X3)
            have ha4 : (w3.alloc (.cells #[.int .i64 0, .slice none 0 0, .slice none 0 0, .slice none 0 0, .map none] 81)).heap.size = w3.heap.size + 1 := by simp
            refine hK.out _ _ (HH.out _ (X4)) ?_
            clear hK K
            (try simp only [Act.put, List.setIfInBounds_toArray, List.set_cons_zero, List.set_cons_succ])
            have BS : Blk (w3.alloc (.cells #[.int .i64 0, .slice none 0 0, .slice none 0 0, .slice none 0 0, .map none] 81)) w3.heap.size 81 #[.int .i64 0, .slice none 0 0, .slice none 0 0, .slice none 0 0, .map none] := B4
            have XS : Ext W0 (w3.alloc (.cells #[.int .i64 0, .slice none 0 0, .slice none 0 0, .slice none 0 0, .map none] 81)) := X4
            have gS : W0.heap.size ≤ w3.heap.size := by omega
            generalize (w3.alloc (.cells #[.int .i64 0, .slice none 0 0, .slice none 0 0, .slice none 0 0, .map none] 81)) = WS at BS XS ⊢
            obtain ⟨kS0, kS1, kS2, kS3, kS4⟩ := BS.c5
            have fS0 := BS.frozen 0
            have fS1 := BS.frozen 1
            have fS2 := BS.frozen 2
            have fS3 := BS.frozen 3
            have fS4 := BS.frozen 4
            refine pl_one rfl (by rfl) (fun K hK => ?_)
            go_simp
            refine hK.out _ _ (HH.out _ (below5 XS gS (.int .i64 0) (.slice none 0 0) (.slice none 0 0) (.slice none 0 0) (.map none))) ?_
            clear hK K
            (try simp only [Act.put, List.setIfInBounds_toArray, List.set_cons_zero, List.set_cons_succ])
            refine pl_tames ?_
            (try simp only [Act.put, List.setIfInBounds_toArray, List.set_cons_zero, List.set_cons_succ])
            repeat (first
              | (refine pl_run (v := ?_) rfl ?_ (fun W hW => ?_) ?_; rotate_left; rfl; ((try dsimp only at hW); go_simp; try with_reducible rfl); (try simp only [Act.put, List.setIfInBounds_toArray, List.set_cons_zero, List.set_cons_succ]))
              | (refine pl_skip rfl ?_ ?_; rfl; (try simp only [Act.put, List.setIfInBounds_toArray, List.set_cons_zero, List.set_cons_succ])))
            refine pl_end ?_
            refine pl_done ?_
            (try simp only [Act.put])
            go_wp2
            go_meet
            case rel => exact ⟨w3.heap.size, rfl, rfl, (below5 XS gS (.int .i64 0) (.slice none 0 0) (.slice none 0 0) (.slice none 0 0) (.map none))⟩
          · refine pl_one rfl (by rfl) (fun K hK => ?_)
            go_simp
            have X3 : Ext W0 (w1.alloc (.cells #[.int .i64 0, .slice none 0 0, .slice none 0 0, .slice none 0 0, .map none] 81)) := Ext.trans (X1) (Ext.alloc _ _)
            have B3 : Blk (w1.alloc (.cells #[.int .i64 0, .slice none 0 0, .slice none 0 0, .slice none 0 0, .map none] 81)) w1.heap.size 81 #[.int .i64 0, .slice none 0 0, .slice none 0 0, .slice none 0 0, .map none] := Blk.new _ _ _
            have hg3 : W0.heap.size ≤ w1.heap.size := Below.size (X1)
            have ha3 : (w1.alloc (.cells #[.int .i64 0, .slice none 0 0, .slice none 0 0, .slice none 0 0, .map none] 81)).heap.size = w1.heap.size + 1 := by simp
            refine hK.out _ _ (HH.out _ (X3)) ?_
            clear hK K
            (try simp only [Act.put, List.setIfInBounds_toArray, List.set_cons_zero, List.set_cons_succ])
            refine pl_one rfl (by rfl) (fun K hK => ?_)
            go_simp
            go_at_call 58
            refine (asked_ref B a1 a2 a3 c1 c2 c3 _ _ ((HB.out.ext E0).ext (X3)) ((HG.out.ext E0).ext (X3)) hne).mono ?_
            rintro e w4 ⟨rfl, hE4⟩
            have X4 : Ext W0 w4 := Ext.trans (X3) hE4
            have hz4 := hE4.size
            have B4 := Blk.ext (B3) hE4
            refine hK.out _ _ (HH.out _ (X4)) ?_
            clear hK K
            (try simp only [Act.put, List.setIfInBounds_toArray, List.set_cons_zero, List.set_cons_succ])
            refine pl_tames ?_
            (try simp only [Act.put, List.setIfInBounds_toArray, List.set_cons_zero, List.set_cons_succ])
            repeat (first
              | (refine pl_run (v := ?_) rfl ?_ (fun W hW => ?_) ?_; rotate_left; rfl; ((try dsimp only at hW); go_simp; try with_reducible rfl); (try simp only [Act.put, List.setIfInBounds_toArray, List.set_cons_zero, List.set_cons_succ]))
              | (refine pl_skip rfl ?_ ?_; rfl; (try simp only [Act.put, List.setIfInBounds_toArray, List.set_cons_zero, List.set_cons_succ])))
            refine pl_end ?_
            have BS : Blk w4 w1.heap.size 81 #[.int .i64 0, .slice none 0 0, .slice none 0 0, .slice none 0 0, .map none] := B4
            have XS : Ext W0 w4 := X4
            have gS : W0.heap.size ≤ w1.heap.size := by omega
            generalize w4 = WS at BS XS ⊢
            obtain ⟨kS0, kS1, kS2, kS3, kS4⟩ := BS.c5
            have fS0 := BS.frozen 0
            have fS1 := BS.frozen 1
            have fS2 := BS.frozen 2
            have fS3 := BS.frozen 3
            have fS4 := BS.frozen 4
            refine pl_one rfl (by rfl) (fun K hK => ?_)
            go_simp
            refine hK.out _ _ (HH.out _ (below5 XS gS (.int .i64 0) (.slice none 0 0) (.slice none 0 0) (.slice none 0 0) (.map none))) ?_
            clear hK K
            (try simp only [Act.put, List.setIfInBounds_toArray, List.set_cons_zero, List.set_cons_succ])
            refine pl_tames ?_
            (try simp only [Act.put, List.setIfInBounds_toArray, List.set_cons_zero, List.set_cons_succ])
            repeat (first
              | (refine pl_run (v := ?_) rfl ?_ (fun W hW => ?_) ?_; rotate_left; rfl; ((try dsimp only at hW); go_simp; try with_reducible rfl); (try simp only [Act.put, List.setIfInBounds_toArray, List.set_cons_zero, List.set_cons_succ]))
              | (refine pl_skip rfl ?_ ?_; rfl; (try simp only [Act.put, List.setIfInBounds_toArray, List.set_cons_zero, List.set_cons_succ])))
            refine pl_end ?_
            refine pl_done ?_
            (try simp only [Act.put])
            go_wp2
            go_meet
            case rel => exact ⟨w1.heap.size, rfl, rfl, (below5 XS gS (.int .i64 0) (.slice none 0 0) (.slice none 0 0) (.slice none 0 0) (.map none))⟩
        · refine pl_one rfl (by rfl) (fun K hK => ?_)
          go_simp
          have X2 : Ext W0 (w1.alloc (.cells #[.int .i64 0, .slice none 0 0, .slice none 0 0, .slice none 0 0, .map none] 81)) := Ext.trans (X1) (Ext.alloc _ _)
          have B2 : Blk (w1.alloc (.cells #[.int .i64 0, .slice none 0 0, .slice none 0 0, .slice none 0 0, .map none] 81)) w1.heap.size 81 #[.int .i64 0, .slice none 0 0, .slice none 0 0, .slice none 0 0, .map none] := Blk.new _ _ _
          have hg2 : W0.heap.size ≤ w1.heap.size := Below.size (X1)
          have ha2 : (w1.alloc (.cells #[.int .i64 0, .slice none 0 0, .slice none 0 0, .slice none 0 0, .map none] 81)).heap.size = w1.heap.size + 1 := by simp
          refine hK.out _ _ (HH.out _ (X2)) ?_
          clear hK K
          (try simp only [Act.put, List.setIfInBounds_toArray, List.set_cons_zero, List.set_cons_succ])
          refine pl_one rfl (by rfl) (fun K hK => ?_)
          go_simp
          go_at_call 64
          refine (on_any _ _ _ _).mono ?_
          rintro e w3 ⟨rfl, rfl⟩
          refine hK.out _ _ (HH.out _ (X2)) ?_
          clear hK K
          (try simp only [Act.put, List.setIfInBounds_toArray, List.set_cons_zero, List.set_cons_succ])
          refine pl_tames ?_
          (try simp only [Act.put, List.setIfInBounds_toArray, List.set_cons_zero, List.set_cons_succ])
          repeat (first
            | (refine pl_run (v := ?_) rfl ?_ (fun W hW => ?_) ?_; rotate_left; rfl; ((try dsimp only at hW); go_simp; try with_reducible rfl); (try simp only [Act.put, List.setIfInBounds_toArray, List.set_cons_zero, List.set_cons_succ]))
            | (refine pl_skip rfl ?_ ?_; rfl; (try simp only [Act.put, List.setIfInBounds_toArray, List.set_cons_zero, List.set_cons_succ])))
          refine pl_end ?_
          refine pl_one rfl (by rfl) (fun K hK => ?_)
          go_simp
          go_at_call 58
          refine (asked_ref B a1 a2 a3 c1 c2 c3 _ _ ((HB.out.ext E0).ext (X2)) ((HG.out.ext E0).ext (X2)) hne).mono ?_
          rintro e w4 ⟨rfl, hE4⟩
          have X4 : Ext W0 w4 := Ext.trans (X2) hE4
          have hz4 := hE4.size
          have B4 := Blk.ext (B2) hE4
          refine hK.out _ _ (HH.out _ (X4)) ?_
          clear hK K
          (try simp only [Act.put, List.setIfInBounds_toArray, List.set_cons_zero, List.set_cons_succ])
          refine pl_tames ?_
          (try simp only [Act.put, List.setIfInBounds_toArray, List.set_cons_zero, List.set_cons_succ])
          repeat (first
            | (refine pl_run (v := ?_) rfl ?_ (fun W hW => ?_) ?_; rotate_left; rfl; ((try dsimp only at hW); go_simp; try with_reducible rfl); (try simp only [Act.put, List.setIfInBounds_toArray, List.set_cons_zero, List.set_cons_succ]))
            | (refine pl_skip rfl ?_ ?_; rfl; (try simp only [Act.put, List.setIfInBounds_toArray, List.set_cons_zero, List.set_cons_succ])))
          refine pl_end ?_
          have BS : Blk w4 w1.heap.size 81 #[.int .i64 0, .slice none 0 0, .slice none 0 0, .slice none 0 0, .map none] := B4
          have XS : Ext W0 w4 := X4
          have gS : W0.heap.size ≤ w1.heap.size := by omega
          generalize w4 = WS at BS XS ⊢
          obtain ⟨kS0, kS1, kS2, kS3, kS4⟩ := BS.c5
          have fS0 := BS.frozen 0
          have fS1 := BS.frozen 1
          have fS2 := BS.frozen 2
          have fS3 := BS.frozen 3
          have fS4 := BS.frozen 4
          refine pl_one rfl (by rfl) (fun K hK => ?_)
          go_simp
          refine hK.out _ _ (HH.out _ (below5 XS gS (.int .i64 0) (.slice none 0 0) (.slice none 0 0) (.slice none 0 0) (.map none))) ?_
          clear hK K
          (try simp only [Act.put, List.setIfInBounds_toArray, List.set_cons_zero, List.set_cons_succ])
          refine pl_tames ?_
          (try simp only [Act.put, List.setIfInBounds_toArray, List.set_cons_zero, List.set_cons_succ])
          repeat (first
            | (refine pl_run (v := ?_) rfl ?_ (fun W hW => ?_) ?_; rotate_left; rfl; ((try dsimp only at hW); go_simp; try with_reducible rfl); (try simp only [Act.put, List.setIfInBounds_toArray, List.set_cons_zero, List.set_cons_succ]))
            | (refine pl_skip rfl ?_ ?_; rfl; (try simp only [Act.put, List.setIfInBounds_toArray, List.set_cons_zero, List.set_cons_succ])))
          refine pl_end ?_
          refine pl_done ?_
          (try simp only [Act.put])
          go_wp2
          go_meet
          case rel => exact ⟨w1.heap.size, rfl, rfl, (below5 XS gS (.int .i64 0) (.slice none 0 0) (.slice none 0 0) (.slice none 0 0) (.map none))⟩
      · refine pl_one rfl (by rfl) (fun K hK => ?_)
        go_simp
        have X1 : Ext W0 (W0.alloc (.cells #[.int .i64 0, .slice none 0 0, .slice none 0 0, .slice none 0 0, .map none] 81)).drew := Ext.trans (Ext.alloc _ _) (Ext.drew _)
        have B1 : Blk (W0.alloc (.cells #[.int .i64 0, .slice none 0 0, .slice none 0 0, .slice none 0 0, .map none] 81)).drew W0.heap.size 81 #[.int .i64 0, .slice none 0 0, .slice none 0 0, .slice none 0 0, .map none] := (Blk.new _ _ _).drew
        have ha1 : (W0.alloc (.cells #[.int .i64 0, .slice none 0 0, .slice none 0 0, .slice none 0 0, .map none] 81)).drew.heap.size = W0.heap.size + 1 := by simp
        refine hK.out _ _ (HH.out _ (X1)) ?_
        clear hK K
        (try simp only [Act.put, List.setIfInBounds_toArray, List.set_cons_zero, List.set_cons_succ])
        refine pl_one rfl (by rfl) (fun K hK => ?_)
        go_simp
        go_at_call 69
        refine ((isSt_any B a1 a2 a3 c1 c2 c3 s _ l2).mono (fun e w' q => (⟨by rw [q.1, hs], q.2⟩ : e = .returned (.bool true) ∧ _))).mono ?_
        rintro e w2 ⟨rfl, hE2⟩
        have X2 : Ext W0 w2 := Ext.trans (X1) hE2
        have hz2 := hE2.size
        have B2 := Blk.ext (B1) hE2
        refine hK.out _ _ (HH.out _ (X2)) ?_
        clear hK K
        (try simp only [Act.put, List.setIfInBounds_toArray, List.set_cons_zero, List.set_cons_succ])
        refine pl_tames ?_
        (try simp only [Act.put, List.setIfInBounds_toArray, List.set_cons_zero, List.set_cons_succ])
        repeat (first
          | (refine pl_run (v := ?_) rfl ?_ (fun W hW => ?_) ?_; rotate_left; rfl; ((try dsimp only at hW); go_simp; try with_reducible rfl); (try simp only [Act.put, List.setIfInBounds_toArray, List.set_cons_zero, List.set_cons_succ]))
          | (refine pl_skip rfl ?_ ?_; rfl; (try simp only [Act.put, List.setIfInBounds_toArray, List.set_cons_zero, List.set_cons_succ])))
        refine pl_end ?_
        refine pl_one rfl (by rfl) (fun K hK => ?_)
        go_simp
        go_at_call 64
        refine (on_any _ _ _ _).mono ?_
        rintro e w3 ⟨rfl, rfl⟩
        refine hK.out _ _ (HH.out _ (X2)) ?_
        clear hK K
        (try simp only [Act.put, List.setIfInBounds_toArray, List.set_cons_zero, List.set_cons_succ])
        refine pl_tames ?_
        (try simp only [Act.put, List.setIfInBounds_toArray, List.set_cons_zero, List.set_cons_succ])
        repeat (first
          | (refine pl_run (v := ?_) rfl ?_ (fun W hW => ?_) ?_; rotate_left; rfl; ((try dsimp only at hW); go_simp; try with_reducible rfl); (try simp only [Act.put, List.setIfInBounds_toArray, List.set_cons_zero, List.set_cons_succ]))
          | (refine pl_skip rfl ?_ ?_; rfl; (try simp only [Act.put, List.setIfInBounds_toArray, List.set_cons_zero, List.set_cons_succ])))
        refine pl_end ?_
        refine pl_one rfl (by rfl) (fun K hK => ?_)
        go_simp
        go_at_call 58
        refine (asked_ref B a1 a2 a3 c1 c2 c3 _ _ ((HB.out.ext E0).ext (X2)) ((HG.out.ext E0).ext (X2)) hne).mono ?_
        rintro e w4 ⟨rfl, hE4⟩
        have X4 : Ext W0 w4 := Ext.trans (X2) hE4
        have hz4 := hE4.size
        have B4 := Blk.ext (B2) hE4
        refine hK.out _ _ (HH.out _ (X4)) ?_
        clear hK K
        (try simp only [Act.put, List.setIfInBounds_toArray, List.set_cons_zero, List.set_cons_succ])
        refine pl_tames ?_
        (try simp only [Act.put, List.setIfInBounds_toArray, List.set_cons_zero, List.set_cons_succ])
        repeat (first
          | (refine pl_run (v := ?_) rfl ?_ (fun W hW => ?_) ?_; rotate_left; rfl; ((try dsimp only at hW); go_simp; try with_reducible rfl); (try simp only [Act.put, List.setIfInBounds_toArray, List.set_cons_zero, List.set_cons_succ]))
          | (refine pl_skip rfl ?_ ?_; rfl; (try simp only [Act.put, List.setIfInBounds_toArray, List.set_cons_zero, List.set_cons_succ])))
        refine pl_end ?_
        have BS : Blk w4 W0.heap.size 81 #[.int .i64 0, .slice none 0 0, .slice none 0 0, .slice none 0 0, .map none] := B4
        have XS : Ext W0 w4 := X4
        have gS : W0.heap.size ≤ W0.heap.size := by omega
        generalize w4 = WS at BS XS ⊢
        obtain ⟨kS0, kS1, kS2, kS3, kS4⟩ := BS.c5
        have fS0 := BS.frozen 0
        have fS1 := BS.frozen 1
        have fS2 := BS.frozen 2
        have fS3 := BS.frozen 3
        have fS4 := BS.frozen 4
        refine pl_one rfl (by rfl) (fun K hK => ?_)
        go_simp
        refine hK.out _ _ (HH.out _ (below5 XS gS (.int .i64 0) (.slice none 0 0) (.slice none 0 0) (.slice none 0 0) (.map none))) ?_
        clear hK K
        (try simp only [Act.put, List.setIfInBounds_toArray, List.set_cons_zero, List.set_cons_succ])
        refine pl_tames ?_
        (try simp only [Act.put, List.setIfInBounds_toArray, List.set_cons_zero, List.set_cons_succ])
        repeat (first
          | (refine pl_run (v := ?_) rfl ?_ (fun W hW => ?_) ?_; rotate_left; rfl; ((try dsimp only at hW); go_simp; try with_reducible rfl); (try simp only [Act.put, List.setIfInBounds_toArray, List.set_cons_zero, List.set_cons_succ]))
          | (refine pl_skip rfl ?_ ?_; rfl; (try simp only [Act.put, List.setIfInBounds_toArray, List.set_cons_zero, List.set_cons_succ])))
        refine pl_end ?_
        refine pl_done ?_
        (try simp only [Act.put])
        go_wp2
        go_meet
        case rel => exact ⟨W0.heap.size, rfl, rfl, (below5 XS gS (.int .i64 0) (.slice none 0 0) (.slice none 0 0) (.slice none 0 0) (.map none))⟩
    case rest =>
      obtain ⟨g, rfl, rfl, hX⟩ := hcut
      obtain ⟨c, hc⟩ : ∃ c, c = askE B (decide (0 ≤ co) && decide (co ≤ cw)) := ⟨_, rfl⟩
      rw [← hc] at hne ⊢
      have hcn : (c != 0) = true := by simp [hne]
      go_wp2
      refine bodyPost_ret (v := .tuple #[.slice none 0 0, .int .i64 c]) ?_ rfl ⟨by rw [hc], E0.trans hX⟩
      simp [results, Tryd.results22, go_sem]
end Go.Proofs.YtnhdcdhpfgdphaaDoor

/-
  The reference's Sure, and both sides of it in one shape.
-/
set_option linter.unusedSimpArgs false
set_option linter.unusedVariables false
namespace Go.Proofs.YtnhdcdhpfgdphaaDoor
open Go Go.RowKit

def askSure (B : Bk) (s c : Int) : Bool := isStB B s && inB c 0 (IntKind.i64.wrap (B.comp - 1))
/-- What Sure returns. -/
def sureX (B : Bk) (s c : Int) : List (Int × Int) := if askE B (askSure B s c) = 0 then runsL B s.toNat c else []
theorem ask_sure {B : Bk} {s c : Int} (h : askE B (askSure B s c) = 0) : validB B = true ∧ (∃ k : Nat, s = k ∧ k < B.orders.length) ∧ 0 ≤ c ∧ c < B.comp := by
  obtain ⟨hv, hs⟩ := askE_zero.1 h
  have hc := (valid_sizes hv).2.1
  have hc1 := (valid_sizes hv).1
  unfold askSure at hs
  rw [wr64 _ (by omega)] at hs
  simp only [isStB, inB, Bool.and_eq_true, decide_eq_true_eq] at hs
  exact ⟨hv, ⟨s.toNat, by omega, by omega⟩, by omega, by omega⟩
theorem sure_all (B : Bk) (a1 a2 a3 : Option Addr) (c1 c2 c3 : Nat) (s c : Int) (w : World) (h : BookA w B a1 a2 a3) (hG : Glob w) :
    Calls Tryd.prog 22 #[.agg #[.int .i64 B.comp, .slice a1 B.bounds.length c1, .slice a2 B.orders.length c2, .slice a3 B.shots.length c3], .int .i64 s, .int .i64 c] w
      fun e w' => (∃ a cp, e = .returned (.tuple #[.slice a (sureX B s c).length cp, .int .i64 (askE B (askSure B s c))]) ∧ SpanA w' a (sureX B s c)) ∧ Ext w w' := by
  unfold sureX
  by_cases hz : askE B (askSure B s c) = 0
  · obtain ⟨hv, ⟨k, rfl, hk⟩, h1, h2⟩ := ask_sure hz
    rw [if_pos hz, hz]
    exact sure_yes B a1 a2 a3 c1 c2 c3 k c w h hG hv hk h1 h2
  · rw [if_neg hz]
    refine (sure_no B a1 a2 a3 c1 c2 c3 s c _ w h hG rfl hz).mono ?_
    rintro e w' ⟨rfl, hE⟩
    exact ⟨⟨none, 0, rfl, fun hp => absurd hp (by simp)⟩, hE⟩

set_option maxRecDepth 100000 in
set_option maxHeartbeats 8000000 in
theorem rSure_all (B : Bk) (a1 a2 a3 : Option Addr) (c1 c2 c3 : Nat) (s co : Int) (w : World) (h : BookA w B a1 a2 a3) :
    Calls Tryd.prog 23 #[.agg #[.int .i64 B.comp, .slice a1 B.bounds.length c1, .slice a2 B.orders.length c2, .slice a3 B.shots.length c3], .int .i64 s, .int .i64 co] w
      fun e w' => (∃ a cp, e = .returned (.tuple #[.slice a (sureX B s co).length cp, .int .i64 (askE B (askSure B s co))]) ∧ SpanA w' a (sureX B s co)) ∧ Ext w w' := by
  cases hs : isStB B s
  · have hq : askSure B s co = false := by unfold askSure; rw [hs]; rfl
    rw [hq]
    have HB := Lib.hid h
    have l2 := h.l2
    have l3 := h.l3
    clear h
    obtain ⟨c, hc⟩ : ∃ c, askE B false = c := ⟨_, rfl⟩
    have hask := fun W (hW : Ext w W) => rAsked_any B false a1 a2 a3 c1 c2 c3 W (HB.out.ext hW)
    simp only [hc] at hask ⊢
    have Hask := Lib.hid hask
    have Hc := Lib.hid hc
    clear hask hc
    go_enter Tryd.func23, Tryd.ntmps23
    go_upto_region 1 with (fail)
    obtain ⟨W0, hW0⟩ : ∃ W0, W0 = w.alloc (.cells #[.int .i64 B.comp, .slice a1 B.bounds.length c1, .slice a2 B.orders.length c2, .slice a3 B.shots.length c3] 26) := ⟨_, rfl⟩
    have b0 : Blk W0 w.heap.size 26 #[.int .i64 B.comp, .slice a1 B.bounds.length c1, .slice a2 B.orders.length c2, .slice a3 B.shots.length c3] := by rw [hW0]; exact Blk.new _ _ _
    have E0 : Ext w W0 := by rw [hW0]; exact Ext.alloc _ _
    rw [← hW0]
    clear hW0
    have HH : Hid (∀ W, Ext W0 W → (W.cell? ⟨w.heap.size, 0, none⟩ = some (.int .i64 B.comp) ∧ W.cell? ⟨w.heap.size, 1, none⟩ = some (.slice a1 B.bounds.length c1) ∧ W.cell? ⟨w.heap.size, 2, none⟩ = some (.slice a2 B.orders.length c2) ∧ W.cell? ⟨w.heap.size, 3, none⟩ = some (.slice a3 B.shots.length c3))) := Lib.hid fun W e => (b0.ext e).c4
    go_cut [8] (fun e wx => e = .int .i64 c ∧ Ext W0 wx)
    case first =>
      refine wp_plan (fun W => W.cell? ⟨w.heap.size, 0, none⟩ = some (.int .i64 B.comp) ∧ W.cell? ⟨w.heap.size, 1, none⟩ = some (.slice a1 B.bounds.length c1) ∧ W.cell? ⟨w.heap.size, 2, none⟩ = some (.slice a2 B.orders.length c2) ∧ W.cell? ⟨w.heap.size, 3, none⟩ = some (.slice a3 B.shots.length c3)) (.tames [0, 1, 2] (.one 3 (.tames [4, 5, 6] (.one 7 (.tames [8] (.one 9 (.tames [10] (.done)))))))) (by kernel_rfl) (by kernel_rfl) (by kernel_rfl) (fun c a d v w h => by cases d <;> exact h) ?_ ?_
      · exact HH.out _ (Ext.drew _)
      refine pl_tames ?_
      (try simp only [Act.put, List.setIfInBounds_toArray, List.set_cons_zero, List.set_cons_succ])
      repeat (first
        | (refine pl_run (v := ?_) rfl ?_ (fun W hW => ?_) ?_; rotate_left; rfl; ((try dsimp only at hW); go_simp; try with_reducible rfl); (try simp only [Act.put, List.setIfInBounds_toArray, List.set_cons_zero, List.set_cons_succ]))
        | (refine pl_skip rfl ?_ ?_; rfl; (try simp only [Act.put, List.setIfInBounds_toArray, List.set_cons_zero, List.set_cons_succ])))
      refine pl_end ?_
      refine pl_one rfl (by rfl) (fun K hK => ?_)
      go_simp
      go_at_call 68
      refine ((rStation_any B a1 a2 a3 c1 c2 c3 s _ l2).mono (fun e w' q => (⟨by rw [q.1, hs], q.2⟩ : e = .returned (.bool false) ∧ _))).mono ?_
      rintro e w1 ⟨rfl, hE1⟩
      have X1 : Ext W0 w1 := Ext.trans (Ext.drew W0) hE1
      have hz1 := hE1.size
      refine hK.out _ _ (HH.out _ (X1)) ?_
      clear hK K
      (try simp only [Act.put, List.setIfInBounds_toArray, List.set_cons_zero, List.set_cons_succ])
      refine pl_tames ?_
      (try simp only [Act.put, List.setIfInBounds_toArray, List.set_cons_zero, List.set_cons_succ])
      repeat (first
        | (refine pl_run (v := ?_) rfl ?_ (fun W hW => ?_) ?_; rotate_left; rfl; ((try dsimp only at hW); go_simp; try with_reducible rfl); (try simp only [Act.put, List.setIfInBounds_toArray, List.set_cons_zero, List.set_cons_succ]))
        | (refine pl_skip rfl ?_ ?_; rfl; (try simp only [Act.put, List.setIfInBounds_toArray, List.set_cons_zero, List.set_cons_succ])))
      refine pl_end ?_
      refine pl_one_skip rfl (by rfl) (HH.out _ (X1)) ?_
      (try simp only [Act.put, List.setIfInBounds_toArray, List.set_cons_zero, List.set_cons_succ])
      refine pl_tames ?_
      (try simp only [Act.put, List.setIfInBounds_toArray, List.set_cons_zero, List.set_cons_succ])
      repeat (first
        | (refine pl_run (v := ?_) rfl ?_ (fun W hW => ?_) ?_; rotate_left; rfl; ((try dsimp only at hW); go_simp; try with_reducible rfl); (try simp only [Act.put, List.setIfInBounds_toArray, List.set_cons_zero, List.set_cons_succ]))
        | (refine pl_skip rfl ?_ ?_; rfl; (try simp only [Act.put, List.setIfInBounds_toArray, List.set_cons_zero, List.set_cons_succ])))
      refine pl_end ?_
      refine pl_one rfl (by rfl) (fun K hK => ?_)
      go_simp
      go_at_call 61
      refine (Hask.out _ (E0.trans (X1))).mono ?_
      rintro e w3 ⟨rfl, hE3⟩
      have X3 : Ext W0 w3 := Ext.trans (X1) hE3
      have hz3 := hE3.size
      refine hK.out _ _ (HH.out _ (X3)) ?_
      clear hK K
      (try simp only [Act.put, List.setIfInBounds_toArray, List.set_cons_zero, List.set_cons_succ])
      refine pl_tames ?_
      (try simp only [Act.put, List.setIfInBounds_toArray, List.set_cons_zero, List.set_cons_succ])
      repeat (first
        | (refine pl_run (v := ?_) rfl ?_ (fun W hW => ?_) ?_; rotate_left; rfl; ((try dsimp only at hW); go_simp; try with_reducible rfl); (try simp only [Act.put, List.setIfInBounds_toArray, List.set_cons_zero, List.set_cons_succ]))
        | (refine pl_skip rfl ?_ ?_; rfl; (try simp only [Act.put, List.setIfInBounds_toArray, List.set_cons_zero, List.set_cons_succ])))
      refine pl_end ?_
      refine pl_done ?_
      (try simp only [Act.put])
      go_wp2
      go_meet
      case rel => exact ⟨rfl, X3⟩
    case rest =>
      have hz : c ≠ 0 := by rw [← Hc.out]; unfold askE; cases validB B <;> simp
      obtain ⟨rfl, hX⟩ := hcut
      have Hf := Lib.hid (show sureX B s co = [] by unfold sureX; rw [if_neg (by rw [hq, Hc.out]; exact hz)])
      have hcn : (c != 0) = true := by simp [hz]
      go_wp2
      refine bodyPost_ret (v := .tuple #[.slice none 0 0, .int .i64 c]) ?_ rfl ⟨by rw [Hf.out]; exact ⟨none, 0, rfl, fun hp => absurd hp (by simp)⟩, E0.trans hX⟩
      simp [results, Tryd.results23, go_sem]
  · have hq : askSure B s co = inB co 0 (IntKind.i64.wrap (B.comp - 1)) := by unfold askSure; rw [hs]; rfl
    rw [hq]
    have HB := Lib.hid h
    have l2 := h.l2
    have l3 := h.l3
    clear h
    obtain ⟨c, hc⟩ : ∃ c, askE B (inB co 0 (IntKind.i64.wrap (B.comp - 1))) = c := ⟨_, rfl⟩
    have hask := fun W (hW : Ext w W) => rAsked_any B (inB co 0 (IntKind.i64.wrap (B.comp - 1))) a1 a2 a3 c1 c2 c3 W (HB.out.ext hW)
    simp only [hc] at hask ⊢
    have Hask := Lib.hid hask
    have Hc := Lib.hid hc
    clear hask hc
    go_enter Tryd.func23, Tryd.ntmps23
    go_upto_region 1 with (fail)
    obtain ⟨W0, hW0⟩ : ∃ W0, W0 = w.alloc (.cells #[.int .i64 B.comp, .slice a1 B.bounds.length c1, .slice a2 B.orders.length c2, .slice a3 B.shots.length c3] 26) := ⟨_, rfl⟩
    have b0 : Blk W0 w.heap.size 26 #[.int .i64 B.comp, .slice a1 B.bounds.length c1, .slice a2 B.orders.length c2, .slice a3 B.shots.length c3] := by rw [hW0]; exact Blk.new _ _ _
    have E0 : Ext w W0 := by rw [hW0]; exact Ext.alloc _ _
    rw [← hW0]
    clear hW0
    have HH : Hid (∀ W, Ext W0 W → (W.cell? ⟨w.heap.size, 0, none⟩ = some (.int .i64 B.comp) ∧ W.cell? ⟨w.heap.size, 1, none⟩ = some (.slice a1 B.bounds.length c1) ∧ W.cell? ⟨w.heap.size, 2, none⟩ = some (.slice a2 B.orders.length c2) ∧ W.cell? ⟨w.heap.size, 3, none⟩ = some (.slice a3 B.shots.length c3))) := Lib.hid fun W e => (b0.ext e).c4
    go_cut [8] (fun e wx => e = .int .i64 c ∧ Ext W0 wx)
    case first =>
      refine wp_plan (fun W => W.cell? ⟨w.heap.size, 0, none⟩ = some (.int .i64 B.comp) ∧ W.cell? ⟨w.heap.size, 1, none⟩ = some (.slice a1 B.bounds.length c1) ∧ W.cell? ⟨w.heap.size, 2, none⟩ = some (.slice a2 B.orders.length c2) ∧ W.cell? ⟨w.heap.size, 3, none⟩ = some (.slice a3 B.shots.length c3)) (.tames [0, 1, 2] (.one 3 (.tames [4, 5, 6] (.one 7 (.tames [8] (.one 9 (.tames [10] (.done)))))))) (by kernel_rfl) (by kernel_rfl) (by kernel_rfl) (fun c a d v w h => by cases d <;> exact h) ?_ ?_
      · exact HH.out _ (Ext.drew _)
      refine pl_tames ?_
      (try simp only [Act.put, List.setIfInBounds_toArray, List.set_cons_zero, List.set_cons_succ])
      repeat (first
        | (refine pl_run (v := ?_) rfl ?_ (fun W hW => ?_) ?_; rotate_left; rfl; ((try dsimp only at hW); go_simp; try with_reducible rfl); (try simp only [Act.put, List.setIfInBounds_toArray, List.set_cons_zero, List.set_cons_succ]))
        | (refine pl_skip rfl ?_ ?_; rfl; (try simp only [Act.put, List.setIfInBounds_toArray, List.set_cons_zero, List.set_cons_succ])))
      refine pl_end ?_
      refine pl_one rfl (by rfl) (fun K hK => ?_)
      go_simp
      go_at_call 68
      refine ((rStation_any B a1 a2 a3 c1 c2 c3 s _ l2).mono (fun e w' q => (⟨by rw [q.1, hs], q.2⟩ : e = .returned (.bool true) ∧ _))).mono ?_
      rintro e w1 ⟨rfl, hE1⟩
      have X1 : Ext W0 w1 := Ext.trans (Ext.drew W0) hE1
      have hz1 := hE1.size
      refine hK.out _ _ (HH.out _ (X1)) ?_
      clear hK K
      (try simp only [Act.put, List.setIfInBounds_toArray, List.set_cons_zero, List.set_cons_succ])
      refine pl_tames ?_
      (try simp only [Act.put, List.setIfInBounds_toArray, List.set_cons_zero, List.set_cons_succ])
      repeat (first
        | (refine pl_run (v := ?_) rfl ?_ (fun W hW => ?_) ?_; rotate_left; rfl; ((try dsimp only at hW); go_simp; try with_reducible rfl); (try simp only [Act.put, List.setIfInBounds_toArray, List.set_cons_zero, List.set_cons_succ]))
        | (refine pl_skip rfl ?_ ?_; rfl; (try simp only [Act.put, List.setIfInBounds_toArray, List.set_cons_zero, List.set_cons_succ])))
      refine pl_end ?_
      refine pl_one rfl (by rfl) (fun K hK => ?_)
      go_simp
      go_at_call 67
      refine (rComp_any B a1 a2 a3 c1 c2 c3 co _).mono ?_
      rintro e w2 ⟨rfl, hE2⟩
      have X2 : Ext W0 w2 := Ext.trans (X1) hE2
      have hz2 := hE2.size
      refine hK.out _ _ (HH.out _ (X2)) ?_
      clear hK K
      (try simp only [Act.put, List.setIfInBounds_toArray, List.set_cons_zero, List.set_cons_succ])
      refine pl_tames ?_
      (try simp only [Act.put, List.setIfInBounds_toArray, List.set_cons_zero, List.set_cons_succ])
      repeat (first
        | (refine pl_run (v := ?_) rfl ?_ (fun W hW => ?_) ?_; rotate_left; rfl; ((try dsimp only at hW); go_simp; try with_reducible rfl); (try simp only [Act.put, List.setIfInBounds_toArray, List.set_cons_zero, List.set_cons_succ]))
        | (refine pl_skip rfl ?_ ?_; rfl; (try simp only [Act.put, List.setIfInBounds_toArray, List.set_cons_zero, List.set_cons_succ])))
      refine pl_end ?_
      refine pl_one rfl (by rfl) (fun K hK => ?_)
      go_simp
      go_at_call 61
      refine (Hask.out _ (E0.trans (X2))).mono ?_
      rintro e w3 ⟨rfl, hE3⟩
      have X3 : Ext W0 w3 := Ext.trans (X2) hE3
      have hz3 := hE3.size
      refine hK.out _ _ (HH.out _ (X3)) ?_
      clear hK K
      (try simp only [Act.put, List.setIfInBounds_toArray, List.set_cons_zero, List.set_cons_succ])
      refine pl_tames ?_
      (try simp only [Act.put, List.setIfInBounds_toArray, List.set_cons_zero, List.set_cons_succ])
      repeat (first
        | (refine pl_run (v := ?_) rfl ?_ (fun W hW => ?_) ?_; rotate_left; rfl; ((try dsimp only at hW); go_simp; try with_reducible rfl); (try simp only [Act.put, List.setIfInBounds_toArray, List.set_cons_zero, List.set_cons_succ]))
        | (refine pl_skip rfl ?_ ?_; rfl; (try simp only [Act.put, List.setIfInBounds_toArray, List.set_cons_zero, List.set_cons_succ])))
      refine pl_end ?_
      refine pl_done ?_
      (try simp only [Act.put])
      go_wp2
      go_meet
      case rel => exact ⟨rfl, X3⟩
    case rest =>
      by_cases hz : c = 0
      · obtain ⟨rfl, hX⟩ := hcut
        obtain ⟨hv, ⟨s, rfl, hsl⟩, hc0, hc1⟩ := ask_sure (show askE B (askSure B s co) = 0 by rw [hq, Hc.out]; exact hz)
        subst hz
        have Hf := Lib.hid (show sureX B s co = runsL B s co by unfold sureX; rw [if_pos (by rw [hq]; exact Hc.out)]; rfl)
        obtain ⟨i0, hi, hz0, hz1, hz2⟩ := info_parts span_info
        have HB2 := Lib.hid ((HB.out.ext E0).ext hX)
        have b2 := b0.ext hX
        obtain ⟨W9, hW9⟩ : ∃ W9, W9 = wc := ⟨_, rfl⟩
        subst hW9
        have Hsure := Lib.hid (fun (n : Int) W (hW : Ext W9 W) => sure_ref B hv a1 a2 a3 c1 c2 c3 s hsl co n W (HB2.out.ext hW))
        have hown0 : (W9.alloc (.cells #[] 29)).ownsRow W9.heap.size 29 2 (.slice (some ⟨W9.heap.size, 0, none⟩) 0 0) 0 [] :=
          ⟨rfl, .inr ⟨W9.heap.size, 0, #[], rfl, Nat.le_refl _, heap_new W9 _, Nat.le_refl _, Nat.zero_le _, rfl, rfl⟩⟩
        clear HH HB hs hq
        go_upto_region 7 with (fail)
        go_loopw [9, 10, 11] (fun v p i wr => ∃ k : Nat, k ≤ 1440 ∧ i = .int .i64 k ∧ p = .bool (runsK B s co k).2 ∧ wr.ownsRow W9.heap.size 29 2 v (runsK B s co k).1.length (flatS (runsK B s co k).1) ∧ Ext W9 wr) (fun _ _ i _ => 1440 - (intOf i).toNat)
        case atStart => exact ⟨0, Nat.zero_le _, rfl, rfl, hown0, Ext.alloc _ _⟩
        case round =>
          obtain ⟨k, hk, rfl, rfl, hown, hE⟩ := hrel
          clear hown0
          obtain ⟨hlen, hgo⟩ := runsK_inv B s co k
          have hsucc := runsK_succ B s co k
          have hfin : k = 1440 → runsL B s co = (runsK B s co k).1 := fun e => by rw [e]; rfl
          obtain ⟨R, hR⟩ : ∃ R, R = runsK B s co k := ⟨_, rfl⟩
          rw [← hR] at hlen hgo hsucc hown hfin ⊢
          obtain ⟨out, going⟩ := R
          dsimp only at hlen hgo hsucc hown hfin ⊢
          have Hgo := Lib.hid hgo
          have Hsucc := Lib.hid hsucc
          have Hfin := Lib.hid hfin
          clear hR hgo hsucc hfin
          obtain ⟨hn0, av0, cpv0, rfl, hI0⟩ := own_span hown
          have HI0 := Lib.hid hI0
          clear hI0 hn0
          by_cases hlt : k < 1440
          · obtain ⟨x0, x1, x2, x3⟩ := (b2.ext hE).c4
            have Hown := Lib.hid hown
            have hsr := fun W (hW : Ext W9 W) => Hsure.out (k : Int) W hW
            have hsucc := Hsucc.out
            unfold runStep at hsucc
            obtain ⟨is, his⟩ : ∃ is, sureAt B s co k = is := ⟨_, rfl⟩
            simp only [his] at hsr hsucc
            have Hsr := Lib.hid hsr
            have Hsuc := Lib.hid hsucc
            clear hown hsr hsucc his Hsucc
            go_upto_region 10 with (go_at_call 72; refine (Hsr.out _ hE).mono ?_; rintro e w5 ⟨rfl, hE5⟩)
            clear x0 x1 x2 x3
            have hown5 := ownsRow_ext Hown.out hE5
            have E5 := hE.trans hE5
            cases is with
            | false =>
              go_wp2
              go_roundw
              case rel => exact ⟨k + 1, by omega, by go_num, by rw [Hsuc.out], by rw [Hsuc.out]; exact hown5, E5⟩
              case measure => simp [intOf]; omega
            | true =>
              cases going with
              | true =>
                have hpos := Hgo.out rfl
                obtain ⟨gg, cap, e9, g2, g3⟩ := own_s_open hown5 hpos
                simp only [Value.slice.injEq] at e9
                obtain ⟨rfl, -, rfl⟩ := e9
                unfold maxLen at g3
                obtain ⟨l1, ⟨lu, l2'⟩, l3', l4⟩ := own_last hown5 hpos (k : Int)
                have hl1 : ((out.length : Int) - 1) = ((out.length - 1 : Nat) : Int) := by omega
                have Hl4 := Lib.hid l4
                clear l4
                go_wp2_with (fail)
                go_roundw
                case rel => exact ⟨k + 1, by omega, by go_num, by rw [Hsuc.out], by rw [Hsuc.out]; simp only [if_true]; rw [addLast_len hpos]; exact Hl4.out, Below.setCell E5 l1 _⟩
                case measure => simp [intOf]; omega
              | false =>
                go_upto_region 14 with (first | (go_at_call 56; refine (just_any _ _).mono ?_; rintro e w6 ⟨rfl, hE6⟩) | (at_builtin; refine wpList_append_own _ rfl _ _ 22 rfl W9.heap.size 29 i0 (.agg #[.int .i64 0, .int .i64 0]) 2 16 Tryd.underlying22 hi hz0 hz1 hz2 rfl (by decide) _ _ _ rfl ((ownsRow_ext hown5 hE6).alloc _) ⟨w6.heap.size, 0, none⟩ 1 1 [.int .i64 k, .int .i64 k] rfl rfl (cell_two_new _ _ _ _) (by simp [Value.oneCell']) (by unfold maxLen; omega) (by omega) (by have := (E5.trans hE6).size; simp; omega) ?_; intro v' w7 hown' hgrow _))
                have E6 := E5.trans hE6
                have hE7 : Ext W9 w7 := Below.grown (Ext.trans E6 (Ext.alloc w6 _)) hgrow (by have := E6.size; simp; omega) (own_s_base (ownsRow_ext hown5 hE6))
                rw [show flatS out ++ [.int .i64 (k : Int), .int .i64 (k : Int)] = flatS (out ++ [((k : Int), (k : Int))]) from (flatS_snoc out ((k : Int), (k : Int))).symm] at hown'
                have Hw := Lib.hid hown'
                clear hown'
                go_wp2_with (fail)
                go_roundw
                case rel => exact ⟨k + 1, by omega, by go_num, by rw [Hsuc.out], by rw [Hsuc.out]; simpa using Hw.out, hE7⟩
                case measure => simp [intOf]; omega
          · obtain rfl : k = 1440 := by omega
            have hf := Hfin.out rfl
            have Hff := Lib.hid (show sureX B s co = out by rw [Hf.out]; exact hf)
            go_wp2
            refine bodyPost_ret (v := .tuple #[.slice av0 out.length cpv0, .int .i64 0]) ?_ rfl ⟨by rw [Hff.out]; exact ⟨_, ⟨_, rfl⟩, HI0.out⟩, E0.trans (hX.trans hE)⟩
            simp [results, Tryd.results23, go_sem]
      · obtain ⟨rfl, hX⟩ := hcut
        have Hf := Lib.hid (show sureX B s co = [] by unfold sureX; rw [if_neg (by rw [hq, Hc.out]; exact hz)])
        have hcn : (c != 0) = true := by simp [hz]
        go_wp2
        refine bodyPost_ret (v := .tuple #[.slice none 0 0, .int .i64 c]) ?_ rfl ⟨by rw [Hf.out]; exact ⟨none, 0, rfl, fun hp => absurd hp (by simp)⟩, E0.trans hX⟩
        simp [results, Tryd.results23, go_sem]
end Go.Proofs.YtnhdcdhpfgdphaaDoor
