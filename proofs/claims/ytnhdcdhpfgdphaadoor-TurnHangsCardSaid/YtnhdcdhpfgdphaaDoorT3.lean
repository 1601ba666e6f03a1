/-
  turn: the least and the greatest turn at a minute.
-/
import Derived.Test.YtnhdcdhpfgdphaaDoorT1
import Derived.Test.YtnhdcdhpfgdphaaDoorR
import Derived.Deep.LoopGhost
import Derived.Deep.DeepCutAuto
set_option linter.unusedSimpArgs false
set_option linter.unusedVariables false
namespace Go.Proofs.YtnhdcdhpfgdphaaDoor
open Go Go.RowKit

set_option maxRecDepth 100000 in
set_option maxHeartbeats 4000000 in
theorem turns_any (B : Bk) (a1 a2 a3 : Option Addr) (c1 c2 c3 : Nat) (mp : Option Nat) (m : Int) (w : World) (h : BookA w B a1 a2 a3) (hG : Glob w) :
    Calls Tryd.prog 60 #[.agg #[.int .i64 B.comp, .slice a1 B.bounds.length c1, .slice a2 B.orders.length c2, .slice a3 B.shots.length c3, .map mp], .int .i64 m] w
      fun e w' => e = .returned (.agg #[.int .i64 (tLo B m), .int .i64 (tHi B m)]) ∧ Ext w w' := by
  have l1 := h.l1
  obtain ⟨e0, e1, n0, n1⟩ := hG
  have i0 : ∀ w, (Instr.index 106 (.agg #[.func (.func 141) #[] #[], .func (.func 143) #[] #[]]) (.int .i64 0)).run Tryd.prog w = .ok (.func (.func 141) #[] #[]) w := fun _ => by kernel_rfl
  have i1 : ∀ w, (Instr.index 106 (.agg #[.func (.func 141) #[] #[], .func (.func 143) #[] #[]]) (.int .i64 1)).run Tryd.prog w = .ok (.func (.func 143) #[] #[]) w := fun _ => by kernel_rfl
  have z0 : 0 < w.heap.size := lt_of_cell e0
  go_enter Tryd.func60, Tryd.ntmps60
  go_wp2_with (fail)
  clear e0 e1 n0 n1
  obtain ⟨W0, hW0⟩ : ∃ W0, W0 = (w.alloc (.cells #[.int .i64 B.comp, .slice a1 B.bounds.length c1, .slice a2 B.orders.length c2, .slice a3 B.shots.length c3, .map mp] 81)).alloc (.cells #[.int .i64 0, .int .i64 0] 29) := ⟨_, rfl⟩
  obtain ⟨G2, hG2⟩ : ∃ G2, G2 = w.heap.size + 1 + 1 := ⟨_, rfl⟩
  have s0 : W0.heap.size = w.heap.size + 1 + 1 := by rw [hW0]; simp
  have E0 : Ext w W0 := by rw [hW0]; exact (Ext.alloc _ _).trans (Ext.alloc _ _)
  have b0 : Blk W0 w.heap.size 81 #[.int .i64 B.comp, .slice a1 B.bounds.length c1, .slice a2 B.orders.length c2, .slice a3 B.shots.length c3, .map mp] := by rw [hW0]; exact (Blk.new _ _ _).alloc _
  have r0 : Blk W0 (w.heap.size + 1) 29 #[.int .i64 0, .int .i64 0] := by rw [hW0]; have := Blk.new (w.alloc (.cells #[.int .i64 B.comp, .slice a1 B.bounds.length c1, .slice a2 B.orders.length c2, .slice a3 B.shots.length c3, .map mp] 81)) 29 #[.int .i64 0, .int .i64 0]; simpa using this
  rw [← hG2] at s0
  have o0 : Blk (W0.alloc (.cells #[.int .i64 0, .int .i64 0] 51)) G2 51 #[.int .i64 0, .int .i64 0] := by have := Blk.new W0 51 #[.int .i64 0, .int .i64 0]; rwa [s0] at this
  rw [← hW0, ← hG2]
  have E1 : Below G2 W0 (W0.alloc (.cells #[.int .i64 0, .int .i64 0] 51)) := below_alloc' _ _ (by omega)
  have z2 : w.heap.size + 1 < G2 := by omega
  have HW0 := Lib.hid hW0
  have HG2 := Lib.hid hG2
  have S0 : W0.heap.size ≤ G2 := by omega
  have S1 : G2 ≤ W0.heap.size := by omega
  clear hW0 hG2 s0
  go_loopw [11] (fun i wr => ∃ k : Nat, k ≤ 2 ∧ i = .int .i64 k ∧ Below G2 W0 wr ∧
    Blk wr G2 51 #[.int .i64 (if 1 ≤ k then tLo B m else 0), .int .i64 (if 2 ≤ k then tHi B m else 0)]) (fun i _ => 2 - (intOf i).toNat)
  case atStart => exact ⟨0, by omega, rfl, E1, o0⟩
  case round =>
    clear E1 o0
    obtain ⟨k, hk, rfl, hb, ho⟩ := hrel
    have hs := ho.lt
    have EE : Ext w wr := E0.trans (hb.mono (by omega) : Below W0.heap.size W0 wr)
    have hB := h.ext EE
    obtain ⟨x0, x1, x2, x3, x4⟩ := (b0.below hb (by omega)).c5
    rcases (by omega : k = 0 ∨ k = 1 ∨ k = 2) with rfl | rfl | rfl
    · rw [show ((0 : Nat) : Int) = 0 from rfl]
      go_wp2_with (fail)
      have ho' : Blk wr G2 51 #[.int .i64 (cHi B.bounds m 0), .int .i64 0] := ho
      clear ho x0 x1 x2 x3 x4
      go_loopw [19] (fun i wr => ∃ j : Nat, j ≤ B.bounds.length ∧ i = .int .i64 j ∧ Below G2 W0 wr ∧ Blk wr G2 51 #[.int .i64 (cHi B.bounds m j), .int .i64 0]) (fun i _ => B.bounds.length - (intOf i).toNat)
      case atStart => exact ⟨0, by omega, rfl, hb, ho'⟩
      case round =>
        clear hb ho' hs hB EE
        obtain ⟨j, hj, rfl, hb, ho⟩ := hrel
        have hs := ho.lt
        have EE : Ext w wr := E0.trans (hb.mono (by omega) : Below W0.heap.size W0 wr)
        have hB := h.ext EE
        have hcl := cHi_le B.bounds m j
        have hcl2 := cLo_le B.bounds m j
        have hcl3 := cHi_le B.bounds m B.bounds.length
        by_cases hlt : j < B.bounds.length
        · obtain ⟨b, o, rfl, hbl, hc⟩ := hB.bounds (by omega)
          obtain ⟨q1, q2⟩ := hc j hlt
          by_cases hm : bHi B.bounds j ≤ m
          · go_wp2_with (fail)
            refine (first_any _ _ _).mono ?_
            rintro e w' ⟨rfl, hE⟩
            have hE2 := (Ext.alloc wr (.cells #[.int .i64 (bLo B.bounds j), .int .i64 (bHi B.bounds j)] 29)).trans hE
            have ho2 := ho.ext hE2
            obtain ⟨y0, y1⟩ := ho2.c2
            have f0 := ho2.frozen 0
            have f1 := ho2.frozen 1
            clear hE hc q1 q2
            go_wp2
            go_roundw
            case rel => exact ⟨j + 1, by omega, by go_num, (hb.trans (hE2.mono (by omega))).setCell (by simp) _, by have := ho2.put 0 (.int .i64 ((cHi B.bounds m j : Nat) + 1)); simpa [cHi_succ, cLo_succ, hm] using this⟩
            case measure => simp [intOf]; omega
          · go_wp2_with (fail)
            refine (first_any _ _ _).mono ?_
            rintro e w' ⟨rfl, hE⟩
            have hE2 := (Ext.alloc wr (.cells #[.int .i64 (bLo B.bounds j), .int .i64 (bHi B.bounds j)] 29)).trans hE
            have ho2 := ho.ext hE2
            clear hE hc q1 q2
            go_wp2
            go_roundw
            case rel => exact ⟨j + 1, by omega, by go_num, hb.trans (hE2.mono (by omega)), by rw [cHi_succ, if_neg (by omega)]; exact ho2⟩
            case measure => simp [intOf]; omega
        · obtain rfl : j = B.bounds.length := by omega
          go_wp2_with (fail)
          go_roundw
          case rel => exact ⟨0 + 1, by omega, by go_num, hb, by simpa [tLo, tHi] using ho⟩
          case measure => simp [intOf]
    · rw [show ((1 : Nat) : Int) = 1 from rfl]
      go_wp2_with (fail)
      have ho' : Blk wr G2 51 #[.int .i64 (tLo B m), .int .i64 (cLo B.bounds m 0)] := ho
      clear ho x0 x1 x2 x3 x4
      go_loopw [19] (fun i wr => ∃ j : Nat, j ≤ B.bounds.length ∧ i = .int .i64 j ∧ Below G2 W0 wr ∧ Blk wr G2 51 #[.int .i64 (tLo B m), .int .i64 (cLo B.bounds m j)]) (fun i _ => B.bounds.length - (intOf i).toNat)
      case atStart => exact ⟨0, by omega, rfl, hb, ho'⟩
      case round =>
        clear hb ho' hs hB EE
        obtain ⟨j, hj, rfl, hb, ho⟩ := hrel
        have hs := ho.lt
        have EE : Ext w wr := E0.trans (hb.mono (by omega) : Below W0.heap.size W0 wr)
        have hB := h.ext EE
        have hcl := cHi_le B.bounds m j
        have hcl2 := cLo_le B.bounds m j
        have hcl3 := cHi_le B.bounds m B.bounds.length
        by_cases hlt : j < B.bounds.length
        · obtain ⟨b, o, rfl, hbl, hc⟩ := hB.bounds (by omega)
          obtain ⟨q1, q2⟩ := hc j hlt
          by_cases hm : bLo B.bounds j ≤ m
          · go_wp2_with (fail)
            refine (last_any _ _ _).mono ?_
            rintro e w' ⟨rfl, hE⟩
            have hE2 := (Ext.alloc wr (.cells #[.int .i64 (bLo B.bounds j), .int .i64 (bHi B.bounds j)] 29)).trans hE
            have ho2 := ho.ext hE2
            obtain ⟨y0, y1⟩ := ho2.c2
            have f0 := ho2.frozen 0
            have f1 := ho2.frozen 1
            clear hE hc q1 q2
            go_wp2
            go_roundw
            case rel => exact ⟨j + 1, by omega, by go_num, (hb.trans (hE2.mono (by omega))).setCell (by simp) _, by have := ho2.put 1 (.int .i64 ((cLo B.bounds m j : Nat) + 1)); simpa [cHi_succ, cLo_succ, hm] using this⟩
            case measure => simp [intOf]; omega
          · go_wp2_with (fail)
            refine (last_any _ _ _).mono ?_
            rintro e w' ⟨rfl, hE⟩
            have hE2 := (Ext.alloc wr (.cells #[.int .i64 (bLo B.bounds j), .int .i64 (bHi B.bounds j)] 29)).trans hE
            have ho2 := ho.ext hE2
            clear hE hc q1 q2
            go_wp2
            go_roundw
            case rel => exact ⟨j + 1, by omega, by go_num, hb.trans (hE2.mono (by omega)), by rw [cLo_succ, if_neg (by omega)]; exact ho2⟩
            case measure => simp [intOf]; omega
        · obtain rfl : j = B.bounds.length := by omega
          go_wp2_with (fail)
          go_roundw
          case rel => exact ⟨1 + 1, by omega, by go_num, hb, by simpa [tLo, tHi] using ho⟩
          case measure => simp [intOf]
    · rw [show ((2 : Nat) : Int) = 2 from rfl]
      obtain ⟨y0, y1⟩ := ho.c2
      obtain ⟨r1, r2⟩ := (r0.below hb (by omega)).c2
      have f0 := (r0.below hb (by omega)).frozen 0
      have f1 := (r0.below hb (by omega)).frozen 1
      go_wp2
      have rb : Blk ((wr.setCell ⟨w.heap.size + 1, 0, none⟩ (.int .i64 (tLo B m))).setCell ⟨w.heap.size + 1, 1, none⟩ (.int .i64 (tHi B m))) (w.heap.size + 1) 29 #[.int .i64 (tLo B m), .int .i64 (tHi B m)] :=
        ((r0.below hb (by omega)).put 0 _).put 1 _
      obtain ⟨k0, k1⟩ := rb.c2
      refine bodyPost_ret (v := .agg #[.int .i64 (tLo B m), .int .i64 (tHi B m)]) ?_ rfl ⟨rfl, ?_⟩
      · simp [results, Tryd.results60, go_sem, k0, k1]
      · have e1 : Below w.heap.size w wr := EE
        exact (e1.setCell (by simp) _).setCell (by simp) _
end Go.Proofs.YtnhdcdhpfgdphaaDoor
