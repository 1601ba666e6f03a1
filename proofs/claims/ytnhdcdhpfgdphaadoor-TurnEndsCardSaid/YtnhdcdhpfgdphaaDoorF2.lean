/-
  TurnEnds: the walk.
-/
import Derived.Test.YtnhdcdhpfgdphaaDoorL5
import Derived.Test.YtnhdcdhpfgdphaaDoorL7
import Derived.Test.YtnhdcdhpfgdphaaDoorL8
import Derived.Test.YtnhdcdhpfgdphaaDoorA1
import Derived.Test.YtnhdcdhpfgdphaaDoorA2
set_option linter.unusedSimpArgs false
set_option linter.unusedVariables false
namespace Go.Proofs.YtnhdcdhpfgdphaaDoor
open Go Go.RowKit

/-- The companies of n turns from one on. -/
def segL (xs : List Int) (lo n : Nat) : List Int := (List.range n).map fun i => nAt xs (lo + i)
theorem segL_succ (xs : List Int) (lo n : Nat) : segL xs lo (n + 1) = segL xs lo n ++ [nAt xs (lo + n)] := by simp [segL, List.range_succ]
theorem setN_snoc (xs : List Int) (x : Int) : setN (xs ++ [x]) = setN xs ||| (1 <<< x.toNat) := by simp [setN]
theorem pair_all : ((List.range 4).all fun a => (List.range 4).all fun b => (setN [min (a : Int) b, max (a : Int) b] == setN [(a : Int), b]) && (setN [(a : Int)] == setN [(a : Int), a])) = true := by kernel_rfl
theorem pair_eq {a b : Int} (ha : 0 ≤ a ∧ a < 4) (hb : 0 ≤ b ∧ b < 4) : setN [min a b, max a b] = setN [a, b] ∧ setN [a] = setN [a, a] := by
  have h := pair_all
  simp only [List.all_eq_true, List.mem_range, Bool.and_eq_true, beq_iff_eq] at h
  obtain ⟨x, rfl⟩ : ∃ x : Nat, a = x := ⟨a.toNat, by omega⟩
  obtain ⟨y, rfl⟩ : ∃ y : Nat, b = y := ⟨b.toNat, by omega⟩
  exact h x (by omega) y (by omega)
theorem row_small {B : Bk} (hv : validB B = true) {s : Nat} (hs : s < B.orders.length) {t : Nat} (ht : t ≤ B.bounds.length) : 0 ≤ nAt (oAt B.orders s) t ∧ nAt (oAt B.orders s) t < 4 := by
  obtain ⟨h1, h2⟩ := valid_row hv hs
  have := h2 t (by omega)
  have := (valid_sizes hv).2.1
  omega
theorem set_owners {B : Bk} (hv : validB B = true) {s : Nat} (hs : s < B.orders.length) (m : Int) : setN (ownersL B s m) = setN (segL (oAt B.orders s) (tLo B m) (tHi B m - tLo B m + 1)) := by
  have h1 := tLo_le_tHi hv m
  have h2 := tHi_le_succ hv m
  have h3 := tHi_le hv m
  unfold ownersL
  have ha := row_small hv hs (t := tLo B m) (by omega)
  rcases (by omega : tHi B m = tLo B m ∨ tHi B m = tLo B m + 1) with e | e
  · rw [e]
    simp [dd, sort2, segL, List.range_succ]
  · have hb := row_small hv hs (t := tLo B m + 1) (by omega)
    rw [e, show tLo B m + 1 - tLo B m + 1 = 2 by omega]
    have hp := pair_eq ha hb
    have hs2 : segL (oAt B.orders s) (tLo B m) 2 = [nAt (oAt B.orders s) (tLo B m), nAt (oAt B.orders s) (tLo B m + 1)] := rfl
    rw [hs2]
    rcases dd_cases (oAt B.orders s) (tLo B m) 2 (by omega) (by omega) with hd | ⟨hd, hne⟩
    · have hq : nAt (oAt B.orders s) (tLo B m + 1) = nAt (oAt B.orders s) (tLo B m) := by
        unfold dd at hd
        by_cases hq : nAt (oAt B.orders s) (tLo B m + 1) = nAt (oAt B.orders s) (tLo B m)
        · exact hq
        · rw [if_neg hq] at hd; simp at hd
      rw [hd, hq]
      exact hp.2
    · rw [hd]
      exact hp.1
theorem owners_in {B : Bk} (hv : validB B = true) {s : Nat} (hs : s < B.orders.length) (m : Int) : ∀ c ∈ ownersL B s m, 0 ≤ c ∧ c < B.comp := by
  intro c hc
  obtain ⟨t, h1, h2, rfl⟩ := (mem_ownersL hv s m c).1 hc
  have h3 := tHi_le hv m
  obtain ⟨h4, h5⟩ := valid_row hv hs
  exact h5 t (by omega)

set_option maxRecDepth 100000 in
set_option maxHeartbeats 4000000 in
theorem turnEnds_no (B : Bk) (a1 a2 a3 : Option Addr) (c1 c2 c3 : Nat) (n0 n1 : Int) (w : World) (h : BookA w B a1 a2 a3) (hG : Glob w) (hv : validB B = false) :
    Calls Tryd.prog 7 #[.agg #[.int .i64 B.comp, .slice a1 B.bounds.length c1, .slice a2 B.orders.length c2, .slice a3 B.shots.length c3], .agg #[.int .i64 n0, .int .i64 n1]] w
      fun e w' => e = .returned (.bool true) ∧ Ext w w' := by
  have HB := Lib.hid h
  have HG := Lib.hid hG
  clear h hG
  go_enter Tryd.func7, Tryd.ntmps7
  go_upto_region 1 with (fail)
  obtain ⟨W0, hW0⟩ : ∃ W0, W0 = (w.alloc (.cells #[.int .i64 B.comp, .slice a1 B.bounds.length c1, .slice a2 B.orders.length c2, .slice a3 B.shots.length c3] 26)).alloc (.cells #[.int .i64 n0, .int .i64 n1] 51) := ⟨_, rfl⟩
  have b0 : Blk W0 w.heap.size 26 #[.int .i64 B.comp, .slice a1 B.bounds.length c1, .slice a2 B.orders.length c2, .slice a3 B.shots.length c3] := by rw [hW0]; exact (Blk.new _ _ _).alloc _
  have m0 : Blk W0 (w.heap.size + 1) 51 #[.int .i64 n0, .int .i64 n1] := by rw [hW0]; have := Blk.new (w.alloc (.cells #[.int .i64 B.comp, .slice a1 B.bounds.length c1, .slice a2 B.orders.length c2, .slice a3 B.shots.length c3] 26)) 51 #[.int .i64 n0, .int .i64 n1]; simpa using this
  have E0 : Ext w W0 := by rw [hW0]; exact (Ext.alloc _ _).trans (Ext.alloc _ _)
  rw [← hW0]
  clear hW0
  obtain ⟨x0, x1, x2, x3⟩ := b0.c4
  go_wp2_with (first | (go_at_call 36; refine (sound_no B a1 a2 a3 c1 c2 c3 _ (HB.out.ext E0) hv).mono ?_; rintro e w1 ⟨rfl, hE1⟩) | (go_at_call 25; refine (shot_any _ (HG.out.ext (E0.trans hE1))).mono ?_; rintro e w2 ⟨rfl, hE2⟩))
  go_ret
  exact ⟨rfl, E0.trans (hE1.trans hE2)⟩

set_option maxRecDepth 100000 in
set_option maxHeartbeats 4000000 in
theorem turnEnds_yes (B : Bk) (a1 a2 a3 : Option Addr) (c1 c2 c3 : Nat) (n0 n1 : Int) (w : World) (h : BookA w B a1 a2 a3) (hG : Glob w) (hv : validB B = true) (k0 : -9223372036854775808 ≤ n0 ∧ n0 ≤ 9223372036854775807) (k1 : -9223372036854775808 ≤ n1 ∧ n1 ≤ 9223372036854775807) :
    Calls Tryd.prog 7 #[.agg #[.int .i64 B.comp, .slice a1 B.bounds.length c1, .slice a2 B.orders.length c2, .slice a3 B.shots.length c3], .agg #[.int .i64 n0, .int .i64 n1]] w
      fun e w' => e = .returned (.bool true) ∧ Ext w w' := by
  obtain ⟨z1, z2, z3, z4, z5, z6⟩ := valid_sizes hv
  have hi := wheelZ_in n0 B.orders.length (by omega)
  obtain ⟨s, hse⟩ : ∃ s : Nat, wheelZ n0 B.orders.length = s := ⟨(wheelZ n0 B.orders.length).toNat, by omega⟩
  have ht := wheelZ_in n1 1440 (by omega)
  obtain ⟨m, hme⟩ : ∃ m, wheelZ n1 1440 = m := ⟨_, rfl⟩
  rw [hse] at hi
  rw [hme] at ht
  have hsl : s < B.orders.length := by omega
  have hmm : isMinB m = true := by simp [isMinB]; omega
  have Hse := Lib.hid hse
  have Hme := Lib.hid hme
  clear hse hme
  have HB := Lib.hid h
  have HG := Lib.hid hG
  clear h hG
  go_enter Tryd.func7, Tryd.ntmps7
  go_upto_region 1 with (fail)
  obtain ⟨W0, hW0⟩ : ∃ W0, W0 = (w.alloc (.cells #[.int .i64 B.comp, .slice a1 B.bounds.length c1, .slice a2 B.orders.length c2, .slice a3 B.shots.length c3] 26)).alloc (.cells #[.int .i64 n0, .int .i64 n1] 51) := ⟨_, rfl⟩
  have b0 : Blk W0 w.heap.size 26 #[.int .i64 B.comp, .slice a1 B.bounds.length c1, .slice a2 B.orders.length c2, .slice a3 B.shots.length c3] := by rw [hW0]; exact (Blk.new _ _ _).alloc _
  have m0 : Blk W0 (w.heap.size + 1) 51 #[.int .i64 n0, .int .i64 n1] := by rw [hW0]; have := Blk.new (w.alloc (.cells #[.int .i64 B.comp, .slice a1 B.bounds.length c1, .slice a2 B.orders.length c2, .slice a3 B.shots.length c3] 26)) 51 #[.int .i64 n0, .int .i64 n1]; simpa using this
  have E0 : Ext w W0 := by rw [hW0]; exact (Ext.alloc _ _).trans (Ext.alloc _ _)
  rw [← hW0]
  clear hW0
  obtain ⟨x0, x1, x2, x3⟩ := b0.c4
  go_upto_region 3 with (go_at_call 36; refine (sound_yes B a1 a2 a3 c1 c2 c3 _ (HB.out.ext E0) hv).mono ?_; rintro e w1 ⟨rfl, hE1⟩)
  clear x0 x1 x2 x3
  obtain ⟨x0, x1, x2, x3⟩ := (b0.ext hE1).c4
  obtain ⟨y0, y1⟩ := (m0.ext hE1).c2
  go_quiet ((go_at_call 37; exact (wheel_any _ _ _ (by omega) (by omega)).mono fun e w' q => ⟨q.1, _, q.2.symm⟩))
  rw [Hse.out, Hme.out]
  clear x0 x1 x2 x3 y0 y1 Hse Hme k0 k1
  obtain ⟨W1, hW1⟩ : ∃ W1, W1 = w1.drewN nq := ⟨_, rfl⟩
  have X1 : Ext W0 W1 := by rw [hW1]; exact hE1.trans (Ext.drewN _ _)
  rw [← hW1]
  clear hW1 hE1
  obtain ⟨x0, x1, x2, x3⟩ := (b0.ext X1).c4
  go_upto_region 5 with (go_at_call 15; refine (turn_yes B a1 a2 a3 c1 c2 c3 m _ ((HB.out.ext E0).ext X1) ((HG.out.ext E0).ext X1) hv hmm).mono ?_; rintro e w2 ⟨rfl, hE2⟩)
  obtain ⟨W3, hW3⟩ : ∃ W3, W3 = w2.alloc (.cells #[.int .i64 (tLo B m), .int .i64 (tHi B m)] 29) := ⟨_, rfl⟩
  have X3 : Ext W0 W3 := by rw [hW3]; exact X1.trans (hE2.trans (Ext.alloc _ _))
  have t3 : Blk W3 w2.heap.size 29 #[.int .i64 (tLo B m), .int .i64 (tHi B m)] := by rw [hW3]; exact Blk.new _ _ _
  rw [← hW3]
  clear hW3 x0 x1 x2 x3
  obtain ⟨gs, hgs⟩ : ∃ gs, gs = w2.heap.size := ⟨_, rfl⟩
  rw [← hgs] at t3 ⊢
  clear hgs
  obtain ⟨x0, x1, x2, x3⟩ := (b0.ext X3).c4
  go_upto_region 8 with (go_at_call 19; refine (owners_yes B a1 a2 a3 c1 c2 c3 s m _ ((HB.out.ext E0).ext X3) ((HG.out.ext E0).ext X3) hv hsl hmm).mono ?_; rintro e w4 ⟨⟨al, cl, rfl, hI⟩, hE4⟩)
  clear x0 x1 x2 x3
  have X4 := X3.trans hE4
  go_loopw [11, 12, 13] (fun l g i wr => ∃ k : Nat, k ≤ B.bounds.length ∧ i = .int .i64 k ∧ l = .int .i64 (cHi B.bounds m k) ∧ g = .int .i64 (cLo B.bounds m k) ∧ wr = w4) (fun _ _ i _ => B.bounds.length - (intOf i).toNat)
  case atStart => exact ⟨0, Nat.zero_le _, rfl, rfl, rfl, rfl⟩
  case round =>
    obtain ⟨k, hk, rfl, rfl, rfl, rfl⟩ := hrel
    obtain ⟨W4, hW4⟩ : ∃ W4, W4 = wr := ⟨_, rfl⟩
    subst hW4
    obtain ⟨x0, x1, x2, x3⟩ := (b0.ext X4).c4
    by_cases hlt : k < B.bounds.length
    · obtain ⟨b, o, rfl, hbl, hc⟩ := ((HB.out.ext E0).ext X4).bounds (by omega)
      obtain ⟨q0, q1⟩ := hc k hlt
      have hs1 := Lib.hid (cHi_succ B.bounds m k)
      have hs2 := Lib.hid (cLo_succ B.bounds m k)
      have hl1 := cHi_le B.bounds m k
      have hl2 := cLo_le B.bounds m k
      clear hc
      by_cases hh : bHi B.bounds k ≤ m
      · by_cases hl : bLo B.bounds k ≤ m
        · go_wp2
          go_roundw
          case rel => exact ⟨k + 1, by omega, by go_num, by rw [hs1.out, if_pos hh]; rfl, by rw [hs2.out, if_pos hl]; rfl, by trivial⟩
          case measure => simp [intOf]; omega
        · go_wp2
          go_roundw
          case rel => exact ⟨k + 1, by omega, by go_num, by rw [hs1.out, if_pos hh]; rfl, by rw [hs2.out, if_neg hl]; rfl, by trivial⟩
          case measure => simp [intOf]; omega
      · by_cases hl : bLo B.bounds k ≤ m
        · go_wp2
          go_roundw
          case rel => exact ⟨k + 1, by omega, by go_num, by rw [hs1.out, if_neg hh]; rfl, by rw [hs2.out, if_pos hl]; rfl, by trivial⟩
          case measure => simp [intOf]; omega
        · go_wp2
          go_roundw
          case rel => exact ⟨k + 1, by omega, by go_num, by rw [hs1.out, if_neg hh]; rfl, by rw [hs2.out, if_neg hl]; rfl, by trivial⟩
          case measure => simp [intOf]; omega
    · obtain rfl : k = B.bounds.length := by omega
      have hT1 : cHi B.bounds m B.bounds.length = tLo B m := rfl
      have hT2 : cLo B.bounds m B.bounds.length = tHi B m := rfl
      rw [hT1, hT2]
      clear hT1 hT2
      have hr1 := tLo_le_tHi hv m
      have hr2 := tHi_le_succ hv m
      have hr3 := tHi_le hv m
      go_upto_region 14 with (fail)
      have HS := Lib.hid (fun V (hV : Ext W4 V) => (⟨((t3.ext hE4).ext hV).c2, hV.keep x0⟩ : ((V.cell? ⟨gs, 0, none⟩ = some (.int .i64 (tLo B m)) ∧ V.cell? ⟨gs, 1, none⟩ = some (.int .i64 (tHi B m))) ∧ V.cell? ⟨w.heap.size, 0, none⟩ = some (.int .i64 B.comp))))
      have hri : risesF B.comp 0 (ownersL B s m) = true := rises_yes _ _ (ownersL_sorted hv s m) (fun x hx => owners_in hv hsl m x hx)
      have hol := ownersL_len hv s m
      have heq := eq_span
      clear x0 x1 x2 x3
      refine wp_plan (fun W => ((W.cell? ⟨gs, 0, none⟩ = some (.int .i64 (tLo B m)) ∧ W.cell? ⟨gs, 1, none⟩ = some (.int .i64 (tHi B m))) ∧ W.cell? ⟨w.heap.size, 0, none⟩ = some (.int .i64 B.comp))) (.tames [0, 1, 2, 3, 4, 5, 6, 7, 8, 9] (.one 10 (.tames [11, 12, 13, 14, 15, 16] (.one 17 (.tames [18, 19] (.done)))))) (by kernel_rfl) (by kernel_rfl) (by kernel_rfl) (fun c a d v w h => by cases d <;> exact h) ?_ ?_
      · exact HS.out _ (Ext.drew _)
      refine pl_tames ?_
      (try simp only [Act.put, List.setIfInBounds_toArray, List.set_cons_zero, List.set_cons_succ])
      repeat (first
        | (refine pl_run (v := ?_) rfl ?_ (fun W hW => ?_) ?_; rotate_left; rfl; ((try dsimp only at hW); go_simp; try with_reducible rfl); (try simp only [Act.put, List.setIfInBounds_toArray, List.set_cons_zero, List.set_cons_succ]))
        | (refine pl_skip rfl ?_ ?_; rfl; (try simp only [Act.put, List.setIfInBounds_toArray, List.set_cons_zero, List.set_cons_succ])))
      refine pl_end ?_
      refine pl_one rfl (by rfl) (fun K hK => ?_)
      go_simp
      (go_at_call 45; refine (to_any _ _ _).mono ?_; rintro e v1 ⟨rfl, hV1⟩)
      refine hK.out _ _ (HS.out _ ((Ext.drew _).trans hV1)) ?_
      clear hK K
      (try refine pl_tames ?_)
      (try simp only [Act.put, List.setIfInBounds_toArray, List.set_cons_zero, List.set_cons_succ])
      try ((repeat (first   | (refine pl_run (v := ?_) rfl ?_ (fun W hW => ?_) ?_; rotate_left; rfl; ((try dsimp only at hW); go_simp; try with_reducible rfl); (try simp only [Act.put, List.setIfInBounds_toArray, List.set_cons_zero, List.set_cons_succ]))   | (refine pl_skip rfl ?_ ?_; rfl; (try simp only [Act.put, List.setIfInBounds_toArray, List.set_cons_zero, List.set_cons_succ])))); refine pl_end ?_)
      have hI1 := hI.ext ((Ext.drew _).trans hV1)
      refine pl_one rfl (by rfl) (fun K hK => ?_)
      go_simp
      (go_at_call 40; refine (rises_any al (ownersL B s m) cl B.comp v1 hI1 (by omega) (by omega)).mono ?_; rintro e v2 ⟨rfl, rfl⟩)
      refine hK.out _ _ (HS.out _ ((Ext.drew _).trans hV1)) ?_
      clear hK K
      (try refine pl_tames ?_)
      (try simp only [Act.put, List.setIfInBounds_toArray, List.set_cons_zero, List.set_cons_succ])
      try ((repeat (first   | (refine pl_run (v := ?_) rfl ?_ (fun W hW => ?_) ?_; rotate_left; rfl; ((try dsimp only at hW); go_simp; try with_reducible rfl); (try simp only [Act.put, List.setIfInBounds_toArray, List.set_cons_zero, List.set_cons_succ]))   | (refine pl_skip rfl ?_ ?_; rfl; (try simp only [Act.put, List.setIfInBounds_toArray, List.set_cons_zero, List.set_cons_succ])))); refine pl_end ?_)
      refine pl_done ?_
      (try simp only [Act.put])
      have XV : Ext W0 v1 := X4.trans ((Ext.drew _).trans hV1)
      clear HS hri heq t3 m0
      go_upto_region 18 with (fail)
      go_loopw [14, 15] (fun g i wx => ∃ n : Nat, n ≤ tHi B m - tLo B m + 1 ∧ i = .int .i64 ((tLo B m + n : Nat) : Int) ∧ g = .int .i64 (setN (segL (oAt B.orders s) (tLo B m) n)) ∧ wx = v1) (fun _ i _ => tHi B m + 1 - (intOf i).toNat)
      case atStart => exact ⟨0, Nat.zero_le _, rfl, rfl, rfl⟩
      case round =>
        obtain ⟨n, hn, rfl, rfl, rfl⟩ := hrel
        obtain ⟨W5, hW5⟩ : ∃ W5, W5 = wr := ⟨_, rfl⟩
        subst hW5
        obtain ⟨x0, x1, x2, x3⟩ := (b0.ext XV).c4
        by_cases hlt2 : n < tHi B m - tLo B m + 1
        · obtain ⟨b, o, rfl, hbl, hc⟩ := ((HB.out.ext E0).ext XV).orders (by omega)
          obtain ⟨ra, rc, q0, q1, hRow⟩ := hc s hsl
          have hrl := (valid_row hv hsl).1
          have hco := row_small hv hsl (t := tLo B m + n) (by omega)
          obtain ⟨b2, o2, rfl, hbl2, hc2⟩ := hRow (by omega)
          have q2 := hc2 (tLo B m + n) (by omega)
          have hsn := segL_succ (oAt B.orders s) (tLo B m) n
          have hset : setN (segL (oAt B.orders s) (tLo B m) n) < 16 := setN_lt _ 0 (by omega) (fun x hx => by
            simp only [segL, List.mem_map, List.mem_range] at hx
            obtain ⟨i, hi, rfl⟩ := hx
            exact row_small hv hsl (by omega))
          have hsucc : setN (segL (oAt B.orders s) (tLo B m) (n + 1)) = setN (segL (oAt B.orders s) (tLo B m) n) ||| (1 <<< (nAt (oAt B.orders s) (tLo B m + n)).toNat) := by rw [hsn, setN_snoc]
          obtain ⟨x, hxe⟩ : ∃ x : Nat, nAt (oAt B.orders s) (tLo B m + n) = x := ⟨(nAt (oAt B.orders s) (tLo B m + n)).toNat, by omega⟩
          rw [hxe] at q2 hco hsucc
          have hor := or_eq hset (show x < 4 by omega)
          simp only [Int.toNat_natCast] at hsucc
          obtain ⟨g, hg⟩ : ∃ g, g = setN (segL (oAt B.orders s) (tLo B m) n) := ⟨_, rfl⟩
          rw [← hg] at hor hsucc ⊢
          have hwz : wheelZ (x : Int) 4 = x := by unfold wheelZ; rw [if_neg (by omega)]; omega
          have Hor := Lib.hid hor
          have Hsucc := Lib.hid hsucc
          have hlt3 : tLo B m + n < (oAt B.orders s).length := by omega
          clear hc hc2 hxe hset hor hsucc hg hsn hrl hRow
          go_wp2_with (go_at_call 37; refine (wheel_any _ _ _ (by omega) (by omega)).mono ?_; rintro e w6 ⟨rfl, rfl⟩)
          refine ⟨⟨n + 1, by omega, by congr 1 <;> omega, by rw [wrap_pow4 (show x < 4 by omega), Hor.out.1, Hsucc.out], trivial⟩, by simp [intOf]; omega⟩
        · obtain rfl : n = tHi B m - tLo B m + 1 := by omega
          rw [← set_owners hv hsl m]
          have hos : ∀ c ∈ ownersL B s m, 0 ≤ c ∧ c < 4 := fun c hc => by have := owners_in hv hsl m c hc; omega
          go_wp2_with (first | (go_at_call 46; refine (set_any al (ownersL B s m) cl _ hI1 (by omega) hos).mono ?_; rintro e w6 ⟨rfl, rfl⟩) | (go_at_call 25; refine (shot_any _ ((HG.out.ext E0).ext XV)).mono ?_; rintro e w7 ⟨rfl, hE7⟩))
          go_ret
          exact ⟨rfl, E0.trans (XV.trans hE7)⟩
theorem turnEnds_walk (B : Bk) (a1 a2 a3 : Option Addr) (c1 c2 c3 : Nat) (n0 n1 : Int) (w : World) (h : BookA w B a1 a2 a3) (hG : Glob w) (k0 : -9223372036854775808 ≤ n0 ∧ n0 ≤ 9223372036854775807) (k1 : -9223372036854775808 ≤ n1 ∧ n1 ≤ 9223372036854775807) :
    Calls Tryd.prog 7 #[.agg #[.int .i64 B.comp, .slice a1 B.bounds.length c1, .slice a2 B.orders.length c2, .slice a3 B.shots.length c3], .agg #[.int .i64 n0, .int .i64 n1]] w
      fun e w' => e = .returned (.bool true) ∧ Ext w w' := by
  cases hv : validB B with
  | false => exact turnEnds_no B a1 a2 a3 c1 c2 c3 n0 n1 w h hG hv
  | true => exact turnEnds_yes B a1 a2 a3 c1 c2 c3 n0 n1 w h hG hv k0 k1
end Go.Proofs.YtnhdcdhpfgdphaaDoor
