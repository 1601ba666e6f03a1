/-
  turn.asked: a book that is checked, and what is asked.
-/
import Derived.Test.YtnhdcdhpfgdphaaDoorT2
import Derived.Test.YtnhdcdhpfgdphaaDoorT4
set_option linter.unusedSimpArgs false
set_option linter.unusedVariables false
namespace Go.Proofs.YtnhdcdhpfgdphaaDoor
open Go Go.RowKit

theorem check_yes (B : Bk) (a1 a2 a3 : Option Addr) (c1 c2 c3 : Nat) (w : World) (h : BookA w B a1 a2 a3) (hv : validB B = true) :
    Calls Tryd.prog 17 #[.agg #[.int .i64 B.comp, .slice a1 B.bounds.length c1, .slice a2 B.orders.length c2, .slice a3 B.shots.length c3]] w
      fun e w' => e = .returned (.int .i64 0) ∧ Ext w w' :=
  (check_any B a1 a2 a3 c1 c2 c3 w h).mono fun e w' q => ⟨by rw [q.1, checkRes, hv]; rfl, q.2⟩
theorem check_no (B : Bk) (a1 a2 a3 : Option Addr) (c1 c2 c3 : Nat) (w : World) (h : BookA w B a1 a2 a3) (hv : validB B = false) :
    Calls Tryd.prog 17 #[.agg #[.int .i64 B.comp, .slice a1 B.bounds.length c1, .slice a2 B.orders.length c2, .slice a3 B.shots.length c3]] w
      fun e w' => e = .returned (.int .i64 20) ∧ Ext w w' :=
  (check_any B a1 a2 a3 c1 c2 c3 w h).mono fun e w' q => ⟨by rw [q.1, checkRes, hv]; rfl, q.2⟩


set_option maxRecDepth 100000 in
set_option maxHeartbeats 2000000 in
theorem asked_no (B : Bk) (a1 a2 a3 : Option Addr) (c1 c2 c3 : Nat) (is : Bool) (w : World) (h : BookA w B a1 a2 a3) (hG : Glob w) (hv : validB B = false) :
    Calls Tryd.prog 58 #[.agg #[.int .i64 B.comp, .slice a1 B.bounds.length c1, .slice a2 B.orders.length c2, .slice a3 B.shots.length c3], .bool is] w
      fun e w' => e = .returned (.tuple #[.agg #[.int .i64 0, .slice none 0 0, .slice none 0 0, .slice none 0 0, .map none], .int .i64 20]) ∧ Ext w w' := by
  have HB := Lib.hid h
  have HG := Lib.hid hG
  clear h hG
  go_enter Tryd.func58, Tryd.ntmps58
  go_wp2_with (fail)
  obtain ⟨W0, hW0⟩ : ∃ W0, W0 = (w.alloc (.cells #[.int .i64 B.comp, .slice a1 B.bounds.length c1, .slice a2 B.orders.length c2, .slice a3 B.shots.length c3] 26)).alloc (.cells #[.int .i64 0, .slice none 0 0, .slice none 0 0, .slice none 0 0, .map none] 81) := ⟨_, rfl⟩
  have b0 : Blk W0 w.heap.size 26 #[.int .i64 B.comp, .slice a1 B.bounds.length c1, .slice a2 B.orders.length c2, .slice a3 B.shots.length c3] := by rw [hW0]; exact (Blk.new _ _ _).alloc _
  have r0 : Blk W0 (w.heap.size + 1) 81 #[.int .i64 0, .slice none 0 0, .slice none 0 0, .slice none 0 0, .map none] := by rw [hW0]; have := Blk.new (w.alloc (.cells #[.int .i64 B.comp, .slice a1 B.bounds.length c1, .slice a2 B.orders.length c2, .slice a3 B.shots.length c3] 26)) 81 #[.int .i64 0, .slice none 0 0, .slice none 0 0, .slice none 0 0, .map none]; simpa using this
  have E0 : Ext w W0 := by rw [hW0]; exact (Ext.alloc _ _).trans (Ext.alloc _ _)
  rw [← hW0]
  clear hW0
  refine (check_no B a1 a2 a3 c1 c2 c3 _ (HB.out.ext E0) hv).mono ?_
  rintro e w1 ⟨rfl, hE⟩
  have r1 : Blk w1 (w.heap.size + 1) 81 #[.int .i64 0, .slice none 0 0, .slice none 0 0, .slice none 0 0, .map none] := r0.ext hE
  obtain ⟨r2, r3, r4, r5, r6⟩ := r1.c5
  have f0 := r1.frozen 0
  have f1 := r1.frozen 1
  have f2 := r1.frozen 2
  have f3 := r1.frozen 3
  have f4 := r1.frozen 4
  go_wp2
  have rb := puts5 r1 (.int .i64 0) (.slice none 0 0) (.slice none 0 0) (.slice none 0 0) (.map none)
  obtain ⟨t0, t1, t2, t3, t4⟩ := rb.c5
  have e1 : Below w.heap.size w w1 := Ext.trans E0 hE
  refine bodyPost_ret (v := .tuple #[.agg #[.int .i64 0, .slice none 0 0, .slice none 0 0, .slice none 0 0, .map none], .int .i64 20]) ?_ rfl ⟨rfl, below5 e1 (by simp) _ _ _ _ _⟩
  simp [results, Tryd.results58, go_sem, t0, t1, t2, t3, t4]

set_option maxRecDepth 100000 in
set_option maxHeartbeats 2000000 in
theorem asked_not (B : Bk) (a1 a2 a3 : Option Addr) (c1 c2 c3 : Nat) (w : World) (h : BookA w B a1 a2 a3) (hG : Glob w) (hv : validB B = true) :
    Calls Tryd.prog 58 #[.agg #[.int .i64 B.comp, .slice a1 B.bounds.length c1, .slice a2 B.orders.length c2, .slice a3 B.shots.length c3], .bool false] w
      fun e w' => e = .returned (.tuple #[.agg #[.int .i64 0, .slice none 0 0, .slice none 0 0, .slice none 0 0, .map none], .int .i64 21]) ∧ Ext w w' := by
  have HB := Lib.hid h
  have HG := Lib.hid hG
  clear h hG
  go_enter Tryd.func58, Tryd.ntmps58
  go_wp2_with (fail)
  obtain ⟨W0, hW0⟩ : ∃ W0, W0 = (w.alloc (.cells #[.int .i64 B.comp, .slice a1 B.bounds.length c1, .slice a2 B.orders.length c2, .slice a3 B.shots.length c3] 26)).alloc (.cells #[.int .i64 0, .slice none 0 0, .slice none 0 0, .slice none 0 0, .map none] 81) := ⟨_, rfl⟩
  have b0 : Blk W0 w.heap.size 26 #[.int .i64 B.comp, .slice a1 B.bounds.length c1, .slice a2 B.orders.length c2, .slice a3 B.shots.length c3] := by rw [hW0]; exact (Blk.new _ _ _).alloc _
  have r0 : Blk W0 (w.heap.size + 1) 81 #[.int .i64 0, .slice none 0 0, .slice none 0 0, .slice none 0 0, .map none] := by rw [hW0]; have := Blk.new (w.alloc (.cells #[.int .i64 B.comp, .slice a1 B.bounds.length c1, .slice a2 B.orders.length c2, .slice a3 B.shots.length c3] 26)) 81 #[.int .i64 0, .slice none 0 0, .slice none 0 0, .slice none 0 0, .map none]; simpa using this
  have E0 : Ext w W0 := by rw [hW0]; exact (Ext.alloc _ _).trans (Ext.alloc _ _)
  rw [← hW0]
  clear hW0
  refine (check_yes B a1 a2 a3 c1 c2 c3 _ (HB.out.ext E0) hv).mono ?_
  rintro e w1 ⟨rfl, hE⟩
  have r1 : Blk w1 (w.heap.size + 1) 81 #[.int .i64 0, .slice none 0 0, .slice none 0 0, .slice none 0 0, .map none] := r0.ext hE
  obtain ⟨r2, r3, r4, r5, r6⟩ := r1.c5
  have f0 := r1.frozen 0
  have f1 := r1.frozen 1
  have f2 := r1.frozen 2
  have f3 := r1.frozen 3
  have f4 := r1.frozen 4
  go_wp2
  have rb := puts5 r1 (.int .i64 0) (.slice none 0 0) (.slice none 0 0) (.slice none 0 0) (.map none)
  obtain ⟨t0, t1, t2, t3, t4⟩ := rb.c5
  have e1 : Below w.heap.size w w1 := Ext.trans E0 hE
  refine bodyPost_ret (v := .tuple #[.agg #[.int .i64 0, .slice none 0 0, .slice none 0 0, .slice none 0 0, .map none], .int .i64 21]) ?_ rfl ⟨rfl, below5 e1 (by simp) _ _ _ _ _⟩
  simp [results, Tryd.results58, go_sem, t0, t1, t2, t3, t4]

set_option maxRecDepth 100000 in
set_option maxHeartbeats 2000000 in
theorem asked_yes (B : Bk) (a1 a2 a3 : Option Addr) (c1 c2 c3 : Nat) (w : World) (h : BookA w B a1 a2 a3) (hG : Glob w) (hv : validB B = true) :
    Calls Tryd.prog 58 #[.agg #[.int .i64 B.comp, .slice a1 B.bounds.length c1, .slice a2 B.orders.length c2, .slice a3 B.shots.length c3], .bool true] w
      fun e w' => (∃ mp, e = .returned (.tuple #[.agg #[.int .i64 B.comp, .slice a1 B.bounds.length c1, .slice a2 B.orders.length c2, .slice a3 B.shots.length c3, .map (some mp)], .int .i64 0]) ∧ MapA w' mp (ownL B.orders B.orders.length) ∧ w.heap.size ≤ mp) ∧ Ext w w' := by
  have HB := Lib.hid h
  have HG := Lib.hid hG
  clear h hG
  go_enter Tryd.func58, Tryd.ntmps58
  go_wp2_with (fail)
  obtain ⟨W0, hW0⟩ : ∃ W0, W0 = (w.alloc (.cells #[.int .i64 B.comp, .slice a1 B.bounds.length c1, .slice a2 B.orders.length c2, .slice a3 B.shots.length c3] 26)).alloc (.cells #[.int .i64 0, .slice none 0 0, .slice none 0 0, .slice none 0 0, .map none] 81) := ⟨_, rfl⟩
  have b0 : Blk W0 w.heap.size 26 #[.int .i64 B.comp, .slice a1 B.bounds.length c1, .slice a2 B.orders.length c2, .slice a3 B.shots.length c3] := by rw [hW0]; exact (Blk.new _ _ _).alloc _
  have r0 : Blk W0 (w.heap.size + 1) 81 #[.int .i64 0, .slice none 0 0, .slice none 0 0, .slice none 0 0, .map none] := by rw [hW0]; have := Blk.new (w.alloc (.cells #[.int .i64 B.comp, .slice a1 B.bounds.length c1, .slice a2 B.orders.length c2, .slice a3 B.shots.length c3] 26)) 81 #[.int .i64 0, .slice none 0 0, .slice none 0 0, .slice none 0 0, .map none]; simpa using this
  have E0 : Ext w W0 := by rw [hW0]; exact (Ext.alloc _ _).trans (Ext.alloc _ _)
  rw [← hW0]
  clear hW0
  refine (check_yes B a1 a2 a3 c1 c2 c3 _ (HB.out.ext E0) hv).mono ?_
  rintro e w1 ⟨rfl, hE⟩
  obtain ⟨x0, x1, x2, x3⟩ := (b0.ext hE).c4
  go_wp2_with (fail)
  refine (opened_any B a1 a2 a3 c1 c2 c3 _ ((HB.out.ext E0).ext hE) ((HG.out.ext E0).ext hE)).mono ?_
  rintro e w2 ⟨⟨mp, rfl, hM, hmp⟩, hE2⟩
  clear x0 x1 x2 x3
  have hE3 := Ext.trans hE hE2
  have hlt := r0.lt
  have hs := hE3.size
  have r1 : Blk w2 (w.heap.size + 1) 81 #[.int .i64 0, .slice none 0 0, .slice none 0 0, .slice none 0 0, .map none] := r0.ext hE3
  obtain ⟨r2, r3, r4, r5, r6⟩ := r1.c5
  have f0 := r1.frozen 0
  have f1 := r1.frozen 1
  have f2 := r1.frozen 2
  have f3 := r1.frozen 3
  have f4 := r1.frozen 4
  go_wp2
  have rb := puts5 r1 (.int .i64 B.comp) (.slice a1 B.bounds.length c1) (.slice a2 B.orders.length c2) (.slice a3 B.shots.length c3) (.map (some mp))
  obtain ⟨t0, t1, t2, t3, t4⟩ := rb.c5
  have e1 : Below w.heap.size w w2 := Ext.trans E0 hE3
  have hs1 := hE.size
  refine bodyPost_ret (v := .tuple #[.agg #[.int .i64 B.comp, .slice a1 B.bounds.length c1, .slice a2 B.orders.length c2, .slice a3 B.shots.length c3, .map (some mp)], .int .i64 0]) ?_ rfl ⟨⟨mp, rfl, hM.puts5 (by omega) _ _ _ _ _, by have := E0.size; omega⟩, below5 e1 (by simp) _ _ _ _ _⟩
  simp [results, Tryd.results58, go_sem, t0, t1, t2, t3, t4]
end Go.Proofs.YtnhdcdhpfgdphaaDoor
