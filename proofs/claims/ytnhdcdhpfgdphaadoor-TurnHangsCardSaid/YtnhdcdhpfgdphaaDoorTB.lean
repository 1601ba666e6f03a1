/-
  The turn at a minute in a truth; does a shot at a minute fit a truth?
-/
import Derived.Test.YtnhdcdhpfgdphaaDoorTA
import Derived.Deep.RegionHeld3
import Derived.Deep.RegionWith
set_option linter.unusedSimpArgs false
set_option linter.unusedVariables false
namespace Go.Proofs.YtnhdcdhpfgdphaaDoor
open Go Go.RowKit

theorem unbounded_any (w : World) : Calls Tryd.prog 107 #[] w fun e w' => e = .returned (.agg #[.int .i64 0, .int .i64 0, .int .i64 0, .int .i64 0]) ∧ Ext w w' := by
  go_enter Tryd.func107, Tryd.ntmps107
  go_wp2_with (fail)
  have r0 : Blk ((w.alloc (.cells #[.int .i64 0, .int .i64 0, .int .i64 0, .int .i64 0] 117)).alloc (.cells #[.int .i64 0, .int .i64 0, .int .i64 0, .int .i64 0] 117)) w.heap.size 117 #[.int .i64 0, .int .i64 0, .int .i64 0, .int .i64 0] := (Blk.new _ _ _).alloc _
  obtain ⟨W0, hW0⟩ : ∃ W0, W0 = (w.alloc (.cells #[.int .i64 0, .int .i64 0, .int .i64 0, .int .i64 0] 117)).alloc (.cells #[.int .i64 0, .int .i64 0, .int .i64 0, .int .i64 0] 117) := ⟨_, rfl⟩
  have E0 : Below w.heap.size w W0 := by rw [hW0]; exact (Ext.alloc _ _).trans (Ext.alloc _ _)
  rw [← hW0] at r0
  rw [← hW0]
  clear hW0
  obtain ⟨k0, k1, k2, k3⟩ := r0.c4
  refine bodyPost_ret (v := .agg #[.int .i64 0, .int .i64 0, .int .i64 0, .int .i64 0]) ?_ rfl ⟨rfl, ?_⟩
  · simp [results, Tryd.results107, go_sem, k0, k1, k2, k3]
  · exact E0

/-- How many of the first k bounds were at or ahead of a minute, in a truth. -/
def cT (ts : List Int) (m : Int) (k : Nat) : Nat := ((List.range k).filter fun i => decide (nAt ts i ≤ m)).length
theorem cT_succ (ts : List Int) (m : Int) (k : Nat) : cT ts m (k + 1) = cT ts m k + if nAt ts k ≤ m then 1 else 0 := by
  by_cases h : nAt ts k ≤ m <;> simp [cT, List.range_succ, h]
theorem cT_le (ts : List Int) (m : Int) (k : Nat) : cT ts m k ≤ k := by
  have := List.length_filter_le (fun i => decide (nAt ts i ≤ m)) (List.range k)
  simpa [cT] using this
theorem cT_zero (m : Int) (hm : 0 ≤ m) (k : Nat) : cT [0, 0, 0, 0] m k = k := by
  unfold cT
  rw [List.filter_eq_self.2]
  · simp
  · intro i _
    have : nAt [0, 0, 0, 0] i = 0 := by
      unfold nAt
      rcases i with _ | _ | _ | _ | i <;> simp
    simpa [this] using hm

theorem eq_bounds (a b c d x y z u : Int) (w : World) : (Op.equalIn 10000 117 (.agg #[.int .i64 a, .int .i64 b, .int .i64 c, .int .i64 d]) (.agg #[.int .i64 x, .int .i64 y, .int .i64 z, .int .i64 u])).run Tryd.prog w = .ok (a == x && b == y && c == z && d == u) w := by
  have u3 := Tryd.underlying3
  have a3 := Tryd.isAgg3
  have z3 := Tryd.sizeOf3
  rw [show (10000 : Nat) = 9999 + 1 from rfl, Op.equalIn]
  simp only [Sem.run_bind, run_underlying Tryd.underlying117, Result.andThen_ok]
  simp only [Std.Legacy.Range.forIn_eq_forIn_range', Std.Legacy.Range.size, Nat.sub_zero, Nat.add_sub_cancel, Nat.div_one, List.range'_succ, List.range'_zero, List.forIn_cons, List.forIn_nil]
  go_simp
  by_cases h1 : a = x <;> by_cases h2 : b = y <;> by_cases h3 : c = z <;> by_cases h4 : d = u <;> simp [h1, h2, h3, h4]

set_option maxRecDepth 100000 in
set_option maxHeartbeats 4000000 in
theorem turn_any (B : Bk) (a1 a2 a3 : Option Addr) (c1 c2 c3 mp : Nat) (t0 t1 t2 t3 m : Int) (w : World) (hb : B.bounds.length ≤ 4) (hm : 0 ≤ m) :
    Calls Tryd.prog 104 #[.agg #[.int .i64 B.comp, .slice a1 B.bounds.length c1, .slice a2 B.orders.length c2, .slice a3 B.shots.length c3, .map (some mp)], .agg #[.int .i64 t0, .int .i64 t1, .int .i64 t2, .int .i64 t3], .int .i64 m] w
      fun e w' => e = .returned (.int .i64 (cT [t0, t1, t2, t3] m B.bounds.length)) ∧ Ext w w' := by
  go_enter Tryd.func104, Tryd.ntmps104
  go_upto_region 1 with (fail)
  obtain ⟨W0, hW0⟩ : ∃ W0, W0 = (w.alloc (.cells #[.int .i64 B.comp, .slice a1 B.bounds.length c1, .slice a2 B.orders.length c2, .slice a3 B.shots.length c3, .map (some mp)] 81)).alloc (.cells #[.int .i64 t0, .int .i64 t1, .int .i64 t2, .int .i64 t3] 117) := ⟨_, rfl⟩
  have E0 : Ext w W0 := by rw [hW0]; exact (Ext.alloc _ _).trans (Ext.alloc _ _)
  have b0 : Blk W0 w.heap.size 81 #[.int .i64 B.comp, .slice a1 B.bounds.length c1, .slice a2 B.orders.length c2, .slice a3 B.shots.length c3, .map (some mp)] := by rw [hW0]; exact (Blk.new _ _ _).alloc _
  have s0 : Blk W0 (w.heap.size + 1) 117 #[.int .i64 t0, .int .i64 t1, .int .i64 t2, .int .i64 t3] := by rw [hW0]; have := Blk.new (w.alloc (.cells #[.int .i64 B.comp, .slice a1 B.bounds.length c1, .slice a2 B.orders.length c2, .slice a3 B.shots.length c3, .map (some mp)] 81)) 117 #[.int .i64 t0, .int .i64 t1, .int .i64 t2, .int .i64 t3]; simpa using this
  rw [← hW0]
  clear hW0
  refine wp_plan (fun W => W.cell? ⟨w.heap.size + 1, 0, none⟩ = some (.int .i64 t0) ∧ W.cell? ⟨w.heap.size + 1, 1, none⟩ = some (.int .i64 t1) ∧ W.cell? ⟨w.heap.size + 1, 2, none⟩ = some (.int .i64 t2) ∧ W.cell? ⟨w.heap.size + 1, 3, none⟩ = some (.int .i64 t3) ∧ Ext W0 W) (.tames [0] (.one 1 (.tames [2] (.done)))) (by kernel_rfl) (by kernel_rfl) (by kernel_rfl) (fun c a d v w h => by cases d <;> exact h) ?_ ?_
  · exact ⟨s0.c4.1, s0.c4.2.1, s0.c4.2.2.1, s0.c4.2.2.2, Ext.drew _⟩
  refine pl_tames ?_
  (try simp only [Act.put, List.setIfInBounds_toArray, List.set_cons_zero, List.set_cons_succ])
  repeat (first
    | (refine pl_run (v := ?_) rfl ?_ (fun W hW => ?_) ?_; rotate_left; rfl; ((try dsimp only at hW); go_simp; try with_reducible rfl); (try simp only [Act.put, List.setIfInBounds_toArray, List.set_cons_zero, List.set_cons_succ]))
    | (refine pl_skip rfl ?_ ?_; rfl; (try simp only [Act.put, List.setIfInBounds_toArray, List.set_cons_zero, List.set_cons_succ])))
  refine pl_end ?_
  have hq := fun W => eq_bounds t0 t1 t2 t3 0 0 0 0 W
  refine pl_one rfl (by rfl) (fun K hK => ?_)
  go_simp
  go_at_call 107; refine (unbounded_any _).mono ?_; rintro e w' ⟨rfl, hE⟩
  refine hK.out _ _ (by have s1 := s0.ext ((Ext.drew _).trans hE); exact ⟨s1.c4.1, s1.c4.2.1, s1.c4.2.2.1, s1.c4.2.2.2, (Ext.drew _).trans hE⟩) ?_
  clear hK K
  (try refine pl_tames ?_)
  (try simp only [Act.put, List.setIfInBounds_toArray, List.set_cons_zero, List.set_cons_succ])
  try ((repeat (first   | (refine pl_run (v := ?_) rfl ?_ (fun W hW => ?_) ?_; rotate_left; rfl; ((try dsimp only at hW); go_simp; try with_reducible rfl); (try simp only [Act.put, List.setIfInBounds_toArray, List.set_cons_zero, List.set_cons_succ]))   | (refine pl_skip rfl ?_ ?_; rfl; (try simp only [Act.put, List.setIfInBounds_toArray, List.set_cons_zero, List.set_cons_succ])))); refine pl_end ?_)
  repeat (first
    | (refine pl_run (v := ?_) rfl ?_ (fun W hW => ?_) ?_; rotate_left; rfl; ((try dsimp only at hW); go_simp; try with_reducible rfl); (try simp only [Act.put, List.setIfInBounds_toArray, List.set_cons_zero, List.set_cons_succ]))
    | (refine pl_skip rfl ?_ ?_; rfl; (try simp only [Act.put, List.setIfInBounds_toArray, List.set_cons_zero, List.set_cons_succ])))
  refine pl_end ?_
  refine pl_done ?_
  have E1 : Ext W0 w' := (Ext.drew _).trans hE
  clear hq
  obtain ⟨x0, x1, x2, x3, x4⟩ := (b0.ext E1).c5
  obtain ⟨y0, y1, y2, y3⟩ := (s0.ext E1).c4
  have E2 : Ext w w' := E0.trans E1
  clear hE
  by_cases hz : t0 = 0 ∧ t1 = 0 ∧ t2 = 0 ∧ t3 = 0
  · obtain ⟨rfl, rfl, rfl, rfl⟩ := hz
    have hc := Lib.hid (cT_zero m hm B.bounds.length)
    go_wp2
    go_ret
    exact ⟨by rw [hc.out]; rfl, E2⟩
  · have hz' : (t0 == 0 && t1 == 0 && t2 == 0 && t3 == 0) = false := by
      simp; omega
    obtain ⟨q, hq⟩ : ∃ q, q = (t0 == 0 && t1 == 0 && t2 == 0 && t3 == 0) := ⟨_, rfl⟩
    rw [← hq]
    rw [← hq] at hz'
    subst hz'
    clear hz hq
    go_wp2_with (fail)
    go_loop [7, 20] (fun n i => ∃ k : Nat, k ≤ B.bounds.length ∧ i = .int .i64 k ∧ n = .int .i64 (cT [t0, t1, t2, t3] m k)) (fun _ i => B.bounds.length - (intOf i).toNat)
    case atStart => exact ⟨0, Nat.zero_le _, rfl, rfl⟩
    case round =>
      obtain ⟨k, hk, rfl, rfl⟩ := hrel
      have hle := cT_le [t0, t1, t2, t3] m k
      by_cases hlt : k < B.bounds.length
      · have hw : IntKind.i64.wrap ((cT [t0, t1, t2, t3] m k : Int) + 1) = (cT [t0, t1, t2, t3] m k : Int) + 1 := wr64 _ (by omega)
        rcases (by omega : k = 0 ∨ k = 1 ∨ k = 2 ∨ k = 3) with rfl | rfl | rfl | rfl
        · rw [show ((0 : Nat) : Int) = 0 from rfl]
          by_cases hle : t0 ≤ m
          · go_wp2
            go_round
            case rel => exact ⟨0 + 1, by omega, rfl, by rw [cT_succ _ _ 0, if_pos (show nAt [t0, t1, t2, t3] 0 ≤ m from hle)]; rfl⟩
            case measure => simp [intOf]; omega
          · go_wp2
            go_round
            case rel => exact ⟨0 + 1, by omega, rfl, by rw [cT_succ _ _ 0, if_neg (show ¬ nAt [t0, t1, t2, t3] 0 ≤ m from hle)]; rfl⟩
            case measure => simp [intOf]; omega
        · rw [show ((1 : Nat) : Int) = 1 from rfl]
          by_cases hle : t1 ≤ m
          · go_wp2
            go_round
            case rel => exact ⟨1 + 1, by omega, rfl, by rw [cT_succ _ _ 1, if_pos (show nAt [t0, t1, t2, t3] 1 ≤ m from hle)]; rfl⟩
            case measure => simp [intOf]; omega
          · go_wp2
            go_round
            case rel => exact ⟨1 + 1, by omega, rfl, by rw [cT_succ _ _ 1, if_neg (show ¬ nAt [t0, t1, t2, t3] 1 ≤ m from hle)]; rfl⟩
            case measure => simp [intOf]; omega
        · rw [show ((2 : Nat) : Int) = 2 from rfl]
          by_cases hle : t2 ≤ m
          · go_wp2
            go_round
            case rel => exact ⟨2 + 1, by omega, rfl, by rw [cT_succ _ _ 2, if_pos (show nAt [t0, t1, t2, t3] 2 ≤ m from hle)]; rfl⟩
            case measure => simp [intOf]; omega
          · go_wp2
            go_round
            case rel => exact ⟨2 + 1, by omega, rfl, by rw [cT_succ _ _ 2, if_neg (show ¬ nAt [t0, t1, t2, t3] 2 ≤ m from hle)]; rfl⟩
            case measure => simp [intOf]; omega
        · rw [show ((3 : Nat) : Int) = 3 from rfl]
          by_cases hle : t3 ≤ m
          · go_wp2
            go_round
            case rel => exact ⟨3 + 1, by omega, rfl, by rw [cT_succ _ _ 3, if_pos (show nAt [t0, t1, t2, t3] 3 ≤ m from hle)]; rfl⟩
            case measure => simp [intOf]; omega
          · go_wp2
            go_round
            case rel => exact ⟨3 + 1, by omega, rfl, by rw [cT_succ _ _ 3, if_neg (show ¬ nAt [t0, t1, t2, t3] 3 ≤ m from hle)]; rfl⟩
            case measure => simp [intOf]; omega
      · obtain rfl : k = B.bounds.length := by omega
        go_wp2
        go_ret
        exact ⟨rfl, E2⟩

theorem puts2 {w : World} {g : Nat} {t : TypeId} {a b : Value} (h : Blk w g t #[a, b]) (u v : Value) : Blk ((w.setCell ⟨g, 0, none⟩ u).setCell ⟨g, 1, none⟩ v) g t #[u, v] := by
  simpa using (h.put 0 u).put 1 v
theorem below2 {n : Nat} {w w' : World} {g : Nat} (h : Below n w w') (hg : n ≤ g) (u v : Value) : Below n w ((w'.setCell ⟨g, 0, none⟩ u).setCell ⟨g, 1, none⟩ v) :=
  (h.setCell (by simpa using hg) _).setCell (by simpa using hg) _
/-- Is a shot at a minute fair in a truth? -/
def fitB (B : Bk) (ts : List Int) (st : Nat) (co m : Int) : Bool := decide (nAt (oAt B.orders st) (cT ts m B.bounds.length) = co)

theorem eq_place (a b x y : Int) (w : World) : (Op.equalIn 10000 110 (.agg #[.int .i64 a, .int .i64 b]) (.agg #[.int .i64 x, .int .i64 y])).run Tryd.prog w = .ok (a == x && b == y) w := placeKey.eq a b x y w

set_option maxRecDepth 100000 in
set_option maxHeartbeats 4000000 in
theorem fits_st (B : Bk) (a1 a2 a3 : Option Addr) (c1 c2 c3 mp : Nat) (t0 t1 t2 t3 : Int) (st : Nat) (co lo hi m : Int) (w : World) (hG : Glob w) (hM : MapA w mp (ownL B.orders B.orders.length)) (hv : validB B = true) (hs : st < B.orders.length) (hm : 0 ≤ m) :
    Calls Tryd.prog 97 #[.agg #[.int .i64 B.comp, .slice a1 B.bounds.length c1, .slice a2 B.orders.length c2, .slice a3 B.shots.length c3, .map (some mp)], .agg #[.int .i64 t0, .int .i64 t1, .int .i64 t2, .int .i64 t3], .agg #[.int .i64 st, .int .i64 co, .int .i64 lo, .int .i64 hi], .int .i64 m] w
      fun e w' => e = .returned (.bool (fitB B [t0, t1, t2, t3] st co m)) ∧ Ext w w' := by
  have hb := (valid_sizes hv).2.2.2.2.1
  have hrow := (valid_row hv hs).1
  have hle := cT_le [t0, t1, t2, t3] m B.bounds.length
  have HG := Lib.hid hG
  have Hv := Lib.hid hv
  clear hG hv
  go_enter Tryd.func97, Tryd.ntmps97
  go_upto_region 1 with (fail)
  obtain ⟨W0, hW0⟩ : ∃ W0, W0 = ((w.alloc (.cells #[.int .i64 B.comp, .slice a1 B.bounds.length c1, .slice a2 B.orders.length c2, .slice a3 B.shots.length c3, .map (some mp)] 81)).alloc (.cells #[.int .i64 t0, .int .i64 t1, .int .i64 t2, .int .i64 t3] 117)).alloc (.cells #[.int .i64 st, .int .i64 co, .int .i64 lo, .int .i64 hi] 59) := ⟨_, rfl⟩
  have E0 : Ext w W0 := by rw [hW0]; exact ((Ext.alloc _ _).trans (Ext.alloc _ _)).trans (Ext.alloc _ _)
  have b0 : Blk W0 w.heap.size 81 #[.int .i64 B.comp, .slice a1 B.bounds.length c1, .slice a2 B.orders.length c2, .slice a3 B.shots.length c3, .map (some mp)] := by rw [hW0]; exact ((Blk.new _ _ _).alloc _).alloc _
  have s0 : Blk W0 (w.heap.size + 1) 117 #[.int .i64 t0, .int .i64 t1, .int .i64 t2, .int .i64 t3] := by rw [hW0]; have := Blk.new (w.alloc (.cells #[.int .i64 B.comp, .slice a1 B.bounds.length c1, .slice a2 B.orders.length c2, .slice a3 B.shots.length c3, .map (some mp)] 81)) 117 #[.int .i64 t0, .int .i64 t1, .int .i64 t2, .int .i64 t3]; simpa using this.alloc _
  have x0 : Blk W0 (w.heap.size + 1 + 1) 59 #[.int .i64 st, .int .i64 co, .int .i64 lo, .int .i64 hi] := by rw [hW0]; have := Blk.new ((w.alloc (.cells #[.int .i64 B.comp, .slice a1 B.bounds.length c1, .slice a2 B.orders.length c2, .slice a3 B.shots.length c3, .map (some mp)] 81)).alloc (.cells #[.int .i64 t0, .int .i64 t1, .int .i64 t2, .int .i64 t3] 117)) 59 #[.int .i64 st, .int .i64 co, .int .i64 lo, .int .i64 hi]; simpa using this
  rw [← hW0]
  clear hW0
  obtain ⟨p0, p1, p2, p3, p4⟩ := b0.c5
  obtain ⟨q0, q1, q2, q3⟩ := s0.c4
  obtain ⟨r0, r1, r2, r3⟩ := x0.c4
  have HS : ∀ W, Ext W0 W → (W.cell? ⟨w.heap.size, 0, none⟩ = some (.int .i64 B.comp) ∧ W.cell? ⟨w.heap.size, 1, none⟩ = some (.slice a1 B.bounds.length c1) ∧ W.cell? ⟨w.heap.size, 2, none⟩ = some (.slice a2 B.orders.length c2) ∧ W.cell? ⟨w.heap.size, 3, none⟩ = some (.slice a3 B.shots.length c3) ∧ W.cell? ⟨w.heap.size, 4, none⟩ = some (.map (some mp)) ∧ W.cell? ⟨w.heap.size + 1, 0, none⟩ = some (.int .i64 t0) ∧ W.cell? ⟨w.heap.size + 1, 1, none⟩ = some (.int .i64 t1) ∧ W.cell? ⟨w.heap.size + 1, 2, none⟩ = some (.int .i64 t2) ∧ W.cell? ⟨w.heap.size + 1, 3, none⟩ = some (.int .i64 t3) ∧ W.cell? ⟨w.heap.size + 1 + 1, 0, none⟩ = some (.int .i64 st)) :=
    fun W e => ⟨e.keep p0, e.keep p1, e.keep p2, e.keep p3, e.keep p4, e.keep q0, e.keep q1, e.keep q2, e.keep q3, e.keep r0⟩
  go_cut [9] (fun s wx => ∃ g, s = .pointer (some ⟨g, 0, none⟩) ∧ Blk wx g 110 #[.int .i64 st, .int .i64 (cT [t0, t1, t2, t3] m B.bounds.length)] ∧ Ext W0 wx)
  case first =>
    have HH := Lib.hid HS
    have ht := turn_any B a1 a2 a3 c1 c2 c3 mp t0 t1 t2 t3 m
    clear HS p0 p1 p2 p3 p4 q0 q1 q2 q3 r0 r1 r2 r3
    refine wp_plan (fun W => W.cell? ⟨w.heap.size, 0, none⟩ = some (.int .i64 B.comp) ∧ W.cell? ⟨w.heap.size, 1, none⟩ = some (.slice a1 B.bounds.length c1) ∧ W.cell? ⟨w.heap.size, 2, none⟩ = some (.slice a2 B.orders.length c2) ∧ W.cell? ⟨w.heap.size, 3, none⟩ = some (.slice a3 B.shots.length c3) ∧ W.cell? ⟨w.heap.size, 4, none⟩ = some (.map (some mp)) ∧ W.cell? ⟨w.heap.size + 1, 0, none⟩ = some (.int .i64 t0) ∧ W.cell? ⟨w.heap.size + 1, 1, none⟩ = some (.int .i64 t1) ∧ W.cell? ⟨w.heap.size + 1, 2, none⟩ = some (.int .i64 t2) ∧ W.cell? ⟨w.heap.size + 1, 3, none⟩ = some (.int .i64 t3) ∧ W.cell? ⟨w.heap.size + 1 + 1, 0, none⟩ = some (.int .i64 st)) (.tames [0, 1, 2, 3, 4] (.two 5 7 (.tames [6] (.one 7 (.one 8 (.done)))) (.one 5 (.tames [6] (.one 8 (.done)))))) (by kernel_rfl) (by kernel_rfl) (by kernel_rfl) (fun c a d v w h => by cases d <;> exact h) ?_ ?_
    · exact HH.out _ (Ext.drew _)
    refine pl_tames ?_
    (try simp only [Act.put, List.setIfInBounds_toArray, List.set_cons_zero, List.set_cons_succ])
    repeat (first
      | (refine pl_run (v := ?_) rfl ?_ (fun W hW => ?_) ?_; rotate_left; rfl; ((try dsimp only at hW); go_simp; try with_reducible rfl); (try simp only [Act.put, List.setIfInBounds_toArray, List.set_cons_zero, List.set_cons_succ]))
      | (refine pl_skip rfl ?_ ?_; rfl; (try simp only [Act.put, List.setIfInBounds_toArray, List.set_cons_zero, List.set_cons_succ])))
    refine pl_end ?_
    refine pl_two ?_ ?_
    · refine pl_one rfl (by rfl) (fun K hK => ?_)
      go_simp
      go_at_call 104
      refine (ht _ hb hm).mono ?_
      rintro e w1 ⟨rfl, hE⟩
      have X1 : Ext W0 w1 := (Ext.drew _).trans hE
      refine hK.out _ _ (HH.out _ X1) (pl_tames ?_)
      clear hK K
      (try simp only [Act.put, List.setIfInBounds_toArray, List.set_cons_zero, List.set_cons_succ])
      repeat (first
        | (refine pl_run (v := ?_) rfl ?_ (fun W hW => ?_) ?_; rotate_left; rfl; ((try dsimp only at hW); go_simp; try with_reducible rfl); (try simp only [Act.put, List.setIfInBounds_toArray, List.set_cons_zero, List.set_cons_succ]))
        | (refine pl_skip rfl ?_ ?_; rfl; (try simp only [Act.put, List.setIfInBounds_toArray, List.set_cons_zero, List.set_cons_succ])))
      refine pl_end ?_
      refine pl_one rfl (by rfl) (fun K hK => ?_)
      go_simp
      refine hK.out _ _ (HH.out _ (X1.trans (Ext.alloc _ _))) ?_
      clear hK K
      have B3 : Blk (w1.alloc (.cells #[.int .i64 0, .int .i64 0] 110)) w1.heap.size 110 #[.int .i64 0, .int .i64 0] := Blk.new w1 _ _
      have X3 : Ext W0 (w1.alloc (.cells #[.int .i64 0, .int .i64 0] 110)) := X1.trans (Ext.alloc _ _)
      have g1 : W0.heap.size ≤ w1.heap.size := X1.size
      generalize (w1.alloc (.cells #[.int .i64 0, .int .i64 0] 110)) = W3 at B3 X3 ⊢
      obtain ⟨k0, k1⟩ := B3.c2
      have f0 := B3.frozen 0
      have f1 := B3.frozen 1
      refine pl_one rfl (by rfl) (fun K hK => ?_)
      go_simp
      refine hK.out _ _ (HH.out _ (below2 X3 g1 _ _)) (pl_done ?_)
      clear hK K
      (try simp only [Act.put])
      go_wp2
      go_meet
      case rel => exact ⟨w1.heap.size, rfl, puts2 B3 _ _, below2 X3 g1 _ _⟩
    · refine pl_one rfl (by rfl) (fun K hK => ?_)
      go_simp
      have X1 : Ext W0 (W0.alloc (.cells #[.int .i64 0, .int .i64 0] 110)).drew := (Ext.alloc _ _).trans (Ext.drew _)
      refine hK.out _ _ (HH.out _ X1) ?_
      clear hK K
      refine pl_one rfl (by rfl) (fun K hK => ?_)
      go_simp
      go_at_call 104
      refine (ht _ hb hm).mono ?_
      rintro e w1 ⟨rfl, hE⟩
      have B1 : Blk w1 W0.heap.size 110 #[.int .i64 0, .int .i64 0] := (Blk.new W0 _ _).drew.ext hE
      have X2 : Ext W0 w1 := X1.trans hE
      refine hK.out _ _ (HH.out _ X2) (pl_tames ?_)
      clear hK K
      (try simp only [Act.put, List.setIfInBounds_toArray, List.set_cons_zero, List.set_cons_succ])
      repeat (first
        | (refine pl_run (v := ?_) rfl ?_ (fun W hW => ?_) ?_; rotate_left; rfl; ((try dsimp only at hW); go_simp; try with_reducible rfl); (try simp only [Act.put, List.setIfInBounds_toArray, List.set_cons_zero, List.set_cons_succ]))
        | (refine pl_skip rfl ?_ ?_; rfl; (try simp only [Act.put, List.setIfInBounds_toArray, List.set_cons_zero, List.set_cons_succ])))
      refine pl_end ?_
      have B3 : Blk w1 W0.heap.size 110 #[.int .i64 0, .int .i64 0] := B1
      have X3 : Ext W0 w1 := X2
      have g1 : W0.heap.size ≤ W0.heap.size := Nat.le_refl _
      generalize w1 = W3 at B3 X3 ⊢
      obtain ⟨k0, k1⟩ := B3.c2
      have f0 := B3.frozen 0
      have f1 := B3.frozen 1
      refine pl_one rfl (by rfl) (fun K hK => ?_)
      go_simp
      refine hK.out _ _ (HH.out _ (below2 X3 g1 _ _)) (pl_done ?_)
      clear hK K
      (try simp only [Act.put])
      go_wp2
      go_meet
      case rel => exact ⟨W0.heap.size, rfl, puts2 B3 _ _, below2 X3 g1 _ _⟩
  case rest =>
    clear HS
    obtain ⟨g, rfl, hp, hE⟩ := hcut
    obtain ⟨e0, e1, n0, n1⟩ := HG.out.ext (E0.trans hE)
    obtain ⟨k0, k1⟩ := hp.c2
    clear p0 p1 p2 p3 p4 q0 q1 q2 q3 r0 r1 r2 r3 e0 e1
    obtain ⟨p0, p1, p2, p3, p4⟩ := (b0.ext hE).c5
    obtain ⟨r0, r1, r2, r3⟩ := (x0.ext hE).c4
    have hne : ((st : Int) == -1 && ((cT [t0, t1, t2, t3] m B.bounds.length : Nat) : Int) == -1) = false := by
      have : ((st : Int) == -1) = false := by rw [beq_eq_false_iff_ne]; omega
      rw [this]; rfl
    have hq := fun W => eq_place (st : Int) (cT [t0, t1, t2, t3] m B.bounds.length : Nat) (-1) (-1) W
    rw [hne] at hq
    have hlk := fun n => run_lookup placeKey mapTy ((hM.ext (E0.trans hE)).ext (Ext.drewN _ n)) (st : Int) (cT [t0, t1, t2, t3] m B.bounds.length : Nat) _ (seek_ownL st (cT [t0, t1, t2, t3] m B.bounds.length) B.orders hs (by omega))
    clear hne
    go_upto_region 2 with (fail)
    go_quiet (fail)
    go_wp2
    go_ret
    exact ⟨rfl, E0.trans (hE.trans (Ext.drewN _ _))⟩
end Go.Proofs.YtnhdcdhpfgdphaaDoor
