/-
  without: a book without some of its shots.
-/
import Derived.Test.YtnhdcdhpfgdphaaDoorMOw12
import Derived.Test.YtnhdcdhpfgdphaaDoorMOw17
import Derived.Test.YtnhdcdhpfgdphaaDoorMOw11
import Derived.Test.YtnhdcdhpfgdphaaDoorMOw14
import Derived.Test.YtnhdcdhpfgdphaaDoorMOw13
set_option linter.unusedSimpArgs false
set_option linter.unusedVariables false
namespace Go.Proofs.YtnhdcdhpfgdphaaDoor
open Go Go.RowKit

/-- The first k shots that a list does not name. -/
def keptL (ss : List Sh) (l : List Int) (k : Nat) : List Sh := ((List.range k).filter fun (i : Nat) => decide (placeL l (i : Int) < 0)).map (sAt ss)
theorem keptL_succ (ss : List Sh) (l : List Int) (k : Nat) : keptL ss l (k + 1) = if placeL l k < 0 then keptL ss l k ++ [sAt ss k] else keptL ss l k := by
  unfold keptL
  rw [List.range_succ, List.filter_append]
  by_cases h : placeL l k < 0 <;> simp [h]
theorem keptL_len (ss : List Sh) (l : List Int) (k : Nat) : (keptL ss l k).length ≤ k := by
  unfold keptL
  rw [List.length_map]
  have := List.length_filter_le (fun i : Nat => decide (placeL l i < 0)) (List.range k)
  simpa using this
def withoutB (B : Bk) (l : List Int) : Bk := { B with shots := keptL B.shots l B.shots.length }

set_option maxRecDepth 100000 in
set_option maxHeartbeats 2000000 in
theorem without_any (B : Bk) (a1 a2 a3 al : Option Addr) (c1 c2 c3 cl : Nat) (l : List Int) (w : World) (h : BookA w B a1 a2 a3) (hl : IntA w al l) (hll : l.length ≤ 9223372036854775807) (hs5 : B.shots.length ≤ 5) :
    Calls Tryd.prog 49 #[.agg #[.int .i64 B.comp, .slice a1 B.bounds.length c1, .slice a2 B.orders.length c2, .slice a3 B.shots.length c3], .slice al l.length cl] w
      fun e w' => (∃ a cp, e = .returned (.agg #[.int .i64 B.comp, .slice a1 B.bounds.length c1, .slice a2 B.orders.length c2, .slice a (withoutB B l).shots.length cp]) ∧ BookA w' (withoutB B l) a1 a2 a) ∧ Ext w w' := by
  obtain ⟨j0, ji, jz0, jz1, jz2⟩ := info_parts shot_info
  have HB := Lib.hid h
  have HL := Lib.hid hl
  clear h hl
  go_enter Tryd.func49, Tryd.ntmps49
  go_upto_region 1 with (fail)
  obtain ⟨W0, hW0⟩ : ∃ W0, W0 = (w.alloc (.cells #[.int .i64 B.comp, .slice a1 B.bounds.length c1, .slice a2 B.orders.length c2, .slice a3 B.shots.length c3] 26)).alloc (.cells #[.int .i64 0, .slice none 0 0, .slice none 0 0, .slice none 0 0] 26) := ⟨_, rfl⟩
  have b0 : Blk W0 w.heap.size 26 #[.int .i64 B.comp, .slice a1 B.bounds.length c1, .slice a2 B.orders.length c2, .slice a3 B.shots.length c3] := by rw [hW0]; exact (Blk.new _ _ _).alloc _
  have r0 : Blk W0 (w.heap.size + 1) 26 #[.int .i64 0, .slice none 0 0, .slice none 0 0, .slice none 0 0] := by rw [hW0]; have := Blk.new (w.alloc (.cells #[.int .i64 B.comp, .slice a1 B.bounds.length c1, .slice a2 B.orders.length c2, .slice a3 B.shots.length c3] 26)) 26 #[.int .i64 0, .slice none 0 0, .slice none 0 0, .slice none 0 0]; simpa using this
  have E0 : Ext w W0 := by rw [hW0]; exact (Ext.alloc _ _).trans (Ext.alloc _ _)
  rw [← hW0]
  clear hW0
  obtain ⟨gR, hgR⟩ : ∃ g, g = w.heap.size + 1 := ⟨_, rfl⟩
  rw [← hgR] at r0 ⊢
  have hgR' : w.heap.size ≤ gR := by omega
  have hBR : w.heap.size ≠ gR := by omega
  clear hgR
  obtain ⟨gB, hgB⟩ : ∃ g, g = w.heap.size := ⟨_, rfl⟩
  rw [← hgB] at b0 hBR ⊢
  have hwB : w.heap.size ≤ gB := by omega
  clear hgB
  obtain ⟨x0, x1, x2, x3⟩ := b0.c4
  go_upto_region 2 with (fail)
  obtain ⟨W1, hW1⟩ : ∃ W1, W1 = W0.alloc (.cells #[.int .i64 B.comp, .slice a1 B.bounds.length c1, .slice a2 B.orders.length c2, .slice a3 B.shots.length c3] 26) := ⟨_, rfl⟩
  have X1 : Ext W0 W1 := by rw [hW1]; exact Ext.alloc _ _
  have y1 : Blk W1 W0.heap.size 26 #[.int .i64 B.comp, .slice a1 B.bounds.length c1, .slice a2 B.orders.length c2, .slice a3 B.shots.length c3] := by rw [hW1]; exact Blk.new _ _ _
  rw [← hW1]
  clear hW1
  obtain ⟨gY, hgY⟩ : ∃ g, g = W0.heap.size := ⟨_, rfl⟩
  rw [← hgY] at y1 ⊢
  have hRY : gR < gY := by rw [hgY]; exact r0.lt
  have hBY : gB < gY := by rw [hgY]; exact b0.lt
  have hwY : w.heap.size ≤ gY := by omega
  have hgYl := y1.lt
  clear hgY x0 x1 x2 x3
  obtain ⟨z0, z1, z2, z3⟩ := y1.c4
  have f3 := y1.frozen 3
  go_upto_region 4 with (fail)
  obtain ⟨WY, hWY⟩ : ∃ WY, WY = W1.setCell ⟨gY, 3, none⟩ (.slice (some ⟨W1.heap.size, 0, none⟩) 0 0) := ⟨_, rfl⟩
  have hsz : WY.heap.size = W1.heap.size := by rw [hWY]; simp
  have own2 : (WY.alloc (.cells #[] 59)).ownsRow W1.heap.size 59 4 (.slice (some ⟨W1.heap.size, 0, none⟩) 0 0) 0 [] := by
    rw [← hsz]
    exact ⟨rfl, .inr ⟨WY.heap.size, 0, #[], rfl, Nat.le_refl _, heap_new WY _, Nat.le_refl _, Nat.zero_le _, rfl, rfl⟩⟩
  have y2 : Blk (WY.alloc (.cells #[] 59)) gY 26 #[.int .i64 B.comp, .slice a1 B.bounds.length c1, .slice a2 B.orders.length c2, .slice (some ⟨W1.heap.size, 0, none⟩) 0 0] := by
    rw [hWY]
    have := (y1.put 3 (.slice (some ⟨W1.heap.size, 0, none⟩) 0 0)).alloc (.cells #[] 59)
    simpa using this
  have E2 : Ext w (WY.alloc (.cells #[] 59)) := by have E3 : Ext w WY := (by rw [hWY]; exact Below.setCell (E0.trans X1) hwY _); exact Ext.trans E3 (Ext.alloc _ _)
  have r2 : Blk (WY.alloc (.cells #[] 59)) gR 26 #[.int .i64 0, .slice none 0 0, .slice none 0 0, .slice none 0 0] := by rw [hWY]; exact ((r0.ext X1).far (p := ⟨gY, 3, none⟩) (by show gR ≠ gY; omega) (.slice (some ⟨W1.heap.size, 0, none⟩) 0 0)).alloc _
  have b2 : Blk (WY.alloc (.cells #[] 59)) gB 26 #[.int .i64 B.comp, .slice a1 B.bounds.length c1, .slice a2 B.orders.length c2, .slice a3 B.shots.length c3] := by rw [hWY]; exact ((b0.ext X1).far (p := ⟨gY, 3, none⟩) (by show gB ≠ gY; omega) (.slice (some ⟨W1.heap.size, 0, none⟩) 0 0)).alloc _
  rw [← hWY]
  clear z0 z1 z2 z3 f3 y1
  have hg2 : W1.heap.size ≤ (WY.alloc (.cells #[] 59)).heap.size := by simp; omega
  generalize WY.alloc (.cells #[] 59) = W2 at own2 y2 E2 r2 b2 hg2 ⊢
  clear hWY hsz
  obtain ⟨gn, hgn⟩ : ∃ g, g = W1.heap.size := ⟨_, rfl⟩
  rw [← hgn] at own2 y2 hg2 hgYl ⊢
  have hwn : w.heap.size ≤ gn := by omega
  clear hgn
  go_loopw [6] (fun i wr => ∃ (k : Nat) (v : Value), k ≤ B.shots.length ∧ i = .int .i64 k ∧ Ext w wr ∧ gn ≤ wr.heap.size ∧ Blk wr gB 26 #[.int .i64 B.comp, .slice a1 B.bounds.length c1, .slice a2 B.orders.length c2, .slice a3 B.shots.length c3] ∧ Blk wr gR 26 #[.int .i64 0, .slice none 0 0, .slice none 0 0, .slice none 0 0] ∧ Blk wr gY 26 #[.int .i64 B.comp, .slice a1 B.bounds.length c1, .slice a2 B.orders.length c2, v] ∧ wr.ownsRow gn 59 4 v (keptL B.shots l k).length (flatX (keptL B.shots l k))) (fun i _ => B.shots.length - (intOf i).toNat)
  case atStart => exact ⟨0, _, Nat.zero_le _, rfl, E2, hg2, b2, r2, y2, own2⟩
  case round =>
    obtain ⟨k, v, hk, rfl, hE, hgw, bb, rr, yy, ho⟩ := hrel
    clear own2 E2 hg2 b2 r2 y2
    obtain ⟨⟨av, cv, rfl⟩, hbs⟩ := own_x ho
    obtain ⟨x0, x1, x2, x3⟩ := bb.c4
    by_cases hlt : k < B.shots.length
    · have hks := keptL_succ B.shots l k
      have hkl := keptL_len B.shots l k
      have hpl := place_any al l cl (k : Int) wr (HL.out.ext hE) hll
      have Hks := Lib.hid hks
      have Hpl := Lib.hid hpl
      clear hks hpl
      obtain ⟨pl, hple⟩ : ∃ p, placeL l (k : Int) = p := ⟨_, rfl⟩
      rw [hple] at Hks Hpl
      by_cases hp : pl < 0
      · have hs : Hid (keptL B.shots l (k + 1) = keptL B.shots l k ++ [sAt B.shots k]) := Lib.hid (by rw [Hks.out, if_pos hp])
        obtain ⟨b, o, rfl, hbb, hc⟩ := HB.out.shots (by omega)
        obtain ⟨q0, q1, q2, q3⟩ := hc k hlt
        have HS := Lib.hid (fun W (hW : Ext w W) (hb' : Blk W gB 26 #[.int .i64 B.comp, .slice a1 B.bounds.length c1, .slice a2 B.orders.length c2, .slice (some ⟨b, o, none⟩) B.shots.length c3]) => (⟨hb'.c4, hW.keep q0, hW.keep q1, hW.keep q2, hW.keep q3⟩ : ((W.cell? ⟨gB, 0, none⟩ = some (.int .i64 B.comp) ∧ W.cell? ⟨gB, 1, none⟩ = some (.slice a1 B.bounds.length c1) ∧ W.cell? ⟨gB, 2, none⟩ = some (.slice a2 B.orders.length c2) ∧ W.cell? ⟨gB, 3, none⟩ = some (.slice (some ⟨b, o, none⟩) B.shots.length c3)) ∧ (W.cell? ⟨b, o + k * 4, none⟩ = some (.int .i64 (sAt B.shots k).st) ∧ W.cell? ⟨b, o + k * 4 + 1, none⟩ = some (.int .i64 (sAt B.shots k).co) ∧ W.cell? ⟨b, o + k * 4 + 2, none⟩ = some (.int .i64 (sAt B.shots k).lo) ∧ W.cell? ⟨b, o + k * 4 + 3, none⟩ = some (.int .i64 (sAt B.shots k).hi)))))
        have Ho := Lib.hid ho
        clear hc hple Hks q0 q1 q2 q3 ho
        go_upto_region 7 with (go_at_call 41; refine Hpl.out.mono ?_; rintro e w3 ⟨rfl, rfl⟩)
        clear x0 x1 x2 x3
        refine wp_plan (fun W => ((W.cell? ⟨gB, 0, none⟩ = some (.int .i64 B.comp) ∧ W.cell? ⟨gB, 1, none⟩ = some (.slice a1 B.bounds.length c1) ∧ W.cell? ⟨gB, 2, none⟩ = some (.slice a2 B.orders.length c2) ∧ W.cell? ⟨gB, 3, none⟩ = some (.slice (some ⟨b, o, none⟩) B.shots.length c3)) ∧ (W.cell? ⟨b, o + k * 4, none⟩ = some (.int .i64 (sAt B.shots k).st) ∧ W.cell? ⟨b, o + k * 4 + 1, none⟩ = some (.int .i64 (sAt B.shots k).co) ∧ W.cell? ⟨b, o + k * 4 + 2, none⟩ = some (.int .i64 (sAt B.shots k).lo) ∧ W.cell? ⟨b, o + k * 4 + 3, none⟩ = some (.int .i64 (sAt B.shots k).hi)))) (.tames [0, 2, 3, 4, 5, 6] (.two 1 7 (.one 7 (.one 8 (.tames [9] (.one 10 (.done))))) (.one 1 (.one 8 (.tames [9] (.one 10 (.done))))))) (by kernel_rfl) (by kernel_rfl) (by kernel_rfl) (fun c a d v w h => by cases d <;> exact h) ?_ ?_
        · exact HS.out _ (Below.drew hE) bb.drew
        refine pl_tames ?_
        (try simp only [Act.put, List.setIfInBounds_toArray, List.set_cons_zero, List.set_cons_succ])
        repeat (first
          | (refine pl_run (v := ?_) rfl ?_ (fun W hW => ?_) ?_; rotate_left; rfl; ((try dsimp only at hW); go_simp; try with_reducible rfl); (try simp only [Act.put, List.setIfInBounds_toArray, List.set_cons_zero, List.set_cons_succ]))
          | (refine pl_skip rfl ?_ ?_; rfl; (try simp only [Act.put, List.setIfInBounds_toArray, List.set_cons_zero, List.set_cons_succ])))
        refine pl_end ?_
        · obtain ⟨u0, u1, u2, u3⟩ := yy.c4
          obtain ⟨WA, hWA⟩ : ∃ WA, WA = wr.alloc (.cells #[.int .i64 (sAt B.shots k).st, .int .i64 (sAt B.shots k).co, .int .i64 (sAt B.shots k).lo, .int .i64 (sAt B.shots k).hi] 59) := ⟨_, rfl⟩
          have XA : Ext wr WA := by rw [hWA]; exact Ext.alloc _ _
          have oA : WA.ownsRow gn 59 4 (.slice av (keptL B.shots l k).length cv) (keptL B.shots l k).length (flatX (keptL B.shots l k)) := by rw [hWA]; exact Ho.out.alloc _
          have nA := four_new wr (.int .i64 (sAt B.shots k).st) (.int .i64 (sAt B.shots k).co) (.int .i64 (sAt B.shots k).lo) (.int .i64 (sAt B.shots k).hi) 59
          rw [← hWA] at nA
          have zA := XA.size
          have NA := Lib.hid nA
          have OA := Lib.hid oA
          have HWA := Lib.hid hWA
          clear nA oA hWA
          obtain ⟨t0, t1, t2, t3⟩ := (yy.ext XA).c4
          refine pl_two ?_ ?_
          · refine pl_one rfl (by rfl) (fun K hK => ?_)
            go_simp
            skip
            refine hK.out _ _ (HS.out _ (Below.drew hE) bb.drew) ?_
            clear hK K
            (try refine pl_tames ?_)
            (try simp only [Act.put, List.setIfInBounds_toArray, List.set_cons_zero, List.set_cons_succ])
            try ((repeat (first   | (refine pl_run (v := ?_) rfl ?_ (fun W hW => ?_) ?_; rotate_left; rfl; ((try dsimp only at hW); go_simp; try with_reducible rfl); (try simp only [Act.put, List.setIfInBounds_toArray, List.set_cons_zero, List.set_cons_succ]))   | (refine pl_skip rfl ?_ ?_; rfl; (try simp only [Act.put, List.setIfInBounds_toArray, List.set_cons_zero, List.set_cons_succ])))); refine pl_end ?_)
            refine pl_one rfl (by rfl) (fun K hK => ?_)
            go_simp
            rw [← HWA.out]
            refine hK.out _ _ (HS.out _ (Below.drew (hE.trans XA)) (bb.ext XA).drew) ?_
            clear hK K u0 u1 u2 u3 t0 t1 t2 t3
            (try simp only [Act.put, List.setIfInBounds_toArray, List.set_cons_zero, List.set_cons_succ])
            refine pl_one rfl (by rfl) (fun K hK => ?_)
            refine wp_append_own (Operand.tmp 22) (Operand.tmp 28) 24 rfl gn 59 j0 (.agg #[.int .i64 0, .int .i64 0, .int .i64 0, .int .i64 0]) 4 32 Tryd.underlying24 ji jz0 jz1 jz2 rfl (by decide) _ _ _ rfl OA.out ⟨wr.heap.size, 0, none⟩ 1 1 [.int .i64 (sAt B.shots k).st, .int .i64 (sAt B.shots k).co, .int .i64 (sAt B.shots k).lo, .int .i64 (sAt B.shots k).hi] rfl rfl NA.out (by simp [Value.oneCell']) (by unfold maxLen; omega) (by omega) (by show gn ≤ WA.heap.size; omega) ?_
            intro v' w7 hown' hgrow
            have hE7 : Ext w w7 := Below.grown (Below.drew (hE.trans XA)) hgrow (by have := hE.size; show w.heap.size ≤ WA.heap.size; omega) (fun k hk => by have := hbs k hk; omega)
            have hG7 : Below gn wr w7 := Below.grown (Below.drew (XA.mono hgw)) hgrow (by show gn ≤ WA.heap.size; omega) hbs
            have yy7 := yy.below hG7 hgYl
            have bb7 := bb.below hG7 (by omega)
            have rr7 := rr.below hG7 (by omega)
            obtain ⟨⟨av7, cv7, rfl⟩, _⟩ := own_x hown'
            obtain ⟨t0, t1, t2, t3⟩ := yy7.c4
            have f7 := yy7.frozen 3
            refine hK.out _ _ (HS.out _ hE7 bb7) ?_
            clear hK K
            (try simp only [Act.put, List.setIfInBounds_toArray, List.set_cons_zero, List.set_cons_succ])
            refine pl_tames ?_
            (try simp only [Act.put, List.setIfInBounds_toArray, List.set_cons_zero, List.set_cons_succ])
            repeat (first
              | (refine pl_run (v := ?_) rfl ?_ (fun W hW => ?_) ?_; rotate_left; rfl; ((try dsimp only at hW); go_simp; try with_reducible rfl); (try simp only [Act.put, List.setIfInBounds_toArray, List.set_cons_zero, List.set_cons_succ]))
              | (refine pl_skip rfl ?_ ?_; rfl; (try simp only [Act.put, List.setIfInBounds_toArray, List.set_cons_zero, List.set_cons_succ])))
            refine pl_end ?_
            refine pl_one rfl (by rfl) (fun K hK => ?_)
            go_simp
            have y8 := yy7.put 3 (.slice av7 ((keptL B.shots l k).length + 1) cv7)
            have b8 := bb7.far (p := ⟨gY, 3, none⟩) (by show gB ≠ gY; omega) (.slice av7 ((keptL B.shots l k).length + 1) cv7)
            have r8 := rr7.far (p := ⟨gY, 3, none⟩) (by show gR ≠ gY; omega) (.slice av7 ((keptL B.shots l k).length + 1) cv7)
            have o8 := ownsRow_far (p := ⟨gY, 3, none⟩) hown' hgYl (.slice av7 ((keptL B.shots l k).length + 1) cv7)
            have E8 : Ext w (w7.setCell ⟨gY, 3, none⟩ (.slice av7 ((keptL B.shots l k).length + 1) cv7)) := Below.setCell hE7 hwY _
            have G8 : gn ≤ (w7.setCell ⟨gY, 3, none⟩ (.slice av7 ((keptL B.shots l k).length + 1) cv7)).heap.size := by have := hG7.size; simp; omega
            refine hK.out _ _ (HS.out _ E8 b8) ?_
            generalize w7.setCell ⟨gY, 3, none⟩ (.slice av7 ((keptL B.shots l k).length + 1) cv7) = W8 at y8 b8 r8 o8 E8 G8 ⊢
            clear hK K t0 t1 t2 t3 f7
            refine pl_done ?_
            (try simp only [Act.put, List.setIfInBounds_toArray, List.set_cons_zero, List.set_cons_succ])
            have y9 : Blk W8 gY 26 #[.int .i64 B.comp, .slice a1 B.bounds.length c1, .slice a2 B.orders.length c2, .slice av7 ((keptL B.shots l k).length + 1) cv7] := by simpa using y8
            clear y8
            go_wp2
            go_roundw
            case rel => exact ⟨k + 1, _, by omega, by go_num, E8, G8, b8, r8, y9, by rw [hs.out, flatX_snoc]; simpa using o8⟩
            case measure => simp [intOf]; omega
          · refine pl_one rfl (by rfl) (fun K hK => ?_)
            go_simp
            rw [← HWA.out]
            refine hK.out _ _ (HS.out _ (Below.drew (hE.trans XA)) (bb.ext XA).drew) ?_
            clear hK K u0 u1 u2 u3
            (try simp only [Act.put, List.setIfInBounds_toArray, List.set_cons_zero, List.set_cons_succ])
            refine pl_one rfl (by rfl) (fun K hK => ?_)
            go_simp
            skip
            refine hK.out _ _ (HS.out _ (Below.drew (hE.trans XA)) (bb.ext XA).drew) ?_
            clear hK K
            (try refine pl_tames ?_)
            (try simp only [Act.put, List.setIfInBounds_toArray, List.set_cons_zero, List.set_cons_succ])
            try ((repeat (first   | (refine pl_run (v := ?_) rfl ?_ (fun W hW => ?_) ?_; rotate_left; rfl; ((try dsimp only at hW); go_simp; try with_reducible rfl); (try simp only [Act.put, List.setIfInBounds_toArray, List.set_cons_zero, List.set_cons_succ]))   | (refine pl_skip rfl ?_ ?_; rfl; (try simp only [Act.put, List.setIfInBounds_toArray, List.set_cons_zero, List.set_cons_succ])))); refine pl_end ?_)
            clear t0 t1 t2 t3
            refine pl_one rfl (by rfl) (fun K hK => ?_)
            refine wp_append_own (Operand.tmp 22) (Operand.tmp 28) 24 rfl gn 59 j0 (.agg #[.int .i64 0, .int .i64 0, .int .i64 0, .int .i64 0]) 4 32 Tryd.underlying24 ji jz0 jz1 jz2 rfl (by decide) _ _ _ rfl OA.out ⟨wr.heap.size, 0, none⟩ 1 1 [.int .i64 (sAt B.shots k).st, .int .i64 (sAt B.shots k).co, .int .i64 (sAt B.shots k).lo, .int .i64 (sAt B.shots k).hi] rfl rfl NA.out (by simp [Value.oneCell']) (by unfold maxLen; omega) (by omega) (by show gn ≤ WA.heap.size; omega) ?_
            intro v' w7 hown' hgrow
            have hE7 : Ext w w7 := Below.grown (Below.drew (hE.trans XA)) hgrow (by have := hE.size; show w.heap.size ≤ WA.heap.size; omega) (fun k hk => by have := hbs k hk; omega)
            have hG7 : Below gn wr w7 := Below.grown (Below.drew (XA.mono hgw)) hgrow (by show gn ≤ WA.heap.size; omega) hbs
            have yy7 := yy.below hG7 hgYl
            have bb7 := bb.below hG7 (by omega)
            have rr7 := rr.below hG7 (by omega)
            obtain ⟨⟨av7, cv7, rfl⟩, _⟩ := own_x hown'
            obtain ⟨t0, t1, t2, t3⟩ := yy7.c4
            have f7 := yy7.frozen 3
            refine hK.out _ _ (HS.out _ hE7 bb7) ?_
            clear hK K
            (try simp only [Act.put, List.setIfInBounds_toArray, List.set_cons_zero, List.set_cons_succ])
            refine pl_tames ?_
            (try simp only [Act.put, List.setIfInBounds_toArray, List.set_cons_zero, List.set_cons_succ])
            repeat (first
              | (refine pl_run (v := ?_) rfl ?_ (fun W hW => ?_) ?_; rotate_left; rfl; ((try dsimp only at hW); go_simp; try with_reducible rfl); (try simp only [Act.put, List.setIfInBounds_toArray, List.set_cons_zero, List.set_cons_succ]))
              | (refine pl_skip rfl ?_ ?_; rfl; (try simp only [Act.put, List.setIfInBounds_toArray, List.set_cons_zero, List.set_cons_succ])))
            refine pl_end ?_
            refine pl_one rfl (by rfl) (fun K hK => ?_)
            go_simp
            have y8 := yy7.put 3 (.slice av7 ((keptL B.shots l k).length + 1) cv7)
            have b8 := bb7.far (p := ⟨gY, 3, none⟩) (by show gB ≠ gY; omega) (.slice av7 ((keptL B.shots l k).length + 1) cv7)
            have r8 := rr7.far (p := ⟨gY, 3, none⟩) (by show gR ≠ gY; omega) (.slice av7 ((keptL B.shots l k).length + 1) cv7)
            have o8 := ownsRow_far (p := ⟨gY, 3, none⟩) hown' hgYl (.slice av7 ((keptL B.shots l k).length + 1) cv7)
            have E8 : Ext w (w7.setCell ⟨gY, 3, none⟩ (.slice av7 ((keptL B.shots l k).length + 1) cv7)) := Below.setCell hE7 hwY _
            have G8 : gn ≤ (w7.setCell ⟨gY, 3, none⟩ (.slice av7 ((keptL B.shots l k).length + 1) cv7)).heap.size := by have := hG7.size; simp; omega
            refine hK.out _ _ (HS.out _ E8 b8) ?_
            generalize w7.setCell ⟨gY, 3, none⟩ (.slice av7 ((keptL B.shots l k).length + 1) cv7) = W8 at y8 b8 r8 o8 E8 G8 ⊢
            clear hK K t0 t1 t2 t3 f7
            refine pl_done ?_
            (try simp only [Act.put, List.setIfInBounds_toArray, List.set_cons_zero, List.set_cons_succ])
            have y9 : Blk W8 gY 26 #[.int .i64 B.comp, .slice a1 B.bounds.length c1, .slice a2 B.orders.length c2, .slice av7 ((keptL B.shots l k).length + 1) cv7] := by simpa using y8
            clear y8
            go_wp2
            go_roundw
            case rel => exact ⟨k + 1, _, by omega, by go_num, E8, G8, b8, r8, y9, by rw [hs.out, flatX_snoc]; simpa using o8⟩
            case measure => simp [intOf]; omega
      · have hs : Hid (keptL B.shots l (k + 1) = keptL B.shots l k) := Lib.hid (by rw [Hks.out, if_neg hp])
        clear Hks hple
        go_wp2_with (go_at_call 41; refine Hpl.out.mono ?_; rintro e w3 ⟨rfl, rfl⟩)
        go_roundw
        case rel => exact ⟨k + 1, _, by omega, by go_num, hE, hgw, bb, rr, yy, by rw [hs.out]; exact ho⟩
        case measure => simp [intOf]; omega
    · obtain rfl : k = B.shots.length := by omega
      obtain ⟨t0, t1, t2, t3⟩ := yy.c4
      obtain ⟨s0, s1, s2, s3⟩ := rr.c4
      have f0 := rr.frozen 0
      have f1 := rr.frozen 1
      have f2 := rr.frozen 2
      have f3 := rr.frozen 3
      go_wp2
      obtain ⟨hn, a', c', e', hS⟩ := own_shot ho
      simp only [Value.slice.injEq] at e'
      obtain ⟨rfl, -, -⟩ := e'
      clear hS
      obtain ⟨W4, hW4⟩ : ∃ W4, W4 = (((wr.setCell ⟨gR, 0, none⟩ (.int .i64 B.comp)).setCell ⟨gR, 1, none⟩ (.slice a1 B.bounds.length c1)).setCell ⟨gR, 2, none⟩ (.slice a2 B.orders.length c2)).setCell ⟨gR, 3, none⟩ (.slice av (keptL B.shots l B.shots.length).length cv) := ⟨_, rfl⟩
      have t4 : Blk W4 gR 26 #[.int .i64 B.comp, .slice a1 B.bounds.length c1, .slice a2 B.orders.length c2, .slice av (keptL B.shots l B.shots.length).length cv] := by
        rw [hW4]; simpa using (((rr.put 0 (.int .i64 B.comp)).put 1 (.slice a1 B.bounds.length c1)).put 2 (.slice a2 B.orders.length c2)).put 3 (.slice av (keptL B.shots l B.shots.length).length cv)
      have X4 : Ext w W4 := by rw [hW4]; exact Below.setCell (Below.setCell (Below.setCell (Below.setCell hE hgR' _) hgR' _) hgR' _) hgR' _
      have hRW : gR < gn := by omega
      have o4 : W4.ownsRow gn 59 4 (.slice av (keptL B.shots l B.shots.length).length cv) (keptL B.shots l B.shots.length).length (flatX (keptL B.shots l B.shots.length)) := by rw [hW4]; exact ownsRow_far (ownsRow_far (ownsRow_far (ownsRow_far ho hRW _) hRW _) hRW _) hRW _
      rw [← hW4]
      clear hW4 t0 t1 t2 t3 s0 s1 s2 s3 f0 f1 f2 f3
      obtain ⟨z0, z1, z2, z3⟩ := t4.c4
      have hkl := keptL_len B.shots l B.shots.length
      have hb4 := HB.out.ext X4
      have hBook : BookA W4 (withoutB B l) a1 a2 av := by
        obtain ⟨hn, a', c', e', hS⟩ := own_shot o4
        simp only [Value.slice.injEq] at e'
        obtain ⟨rfl, -, -⟩ := e'
        exact ⟨hb4.bounds, hb4.orders, hS, hb4.l1, hb4.l2, by show (keptL B.shots l B.shots.length).length ≤ _; have := hb4.l3; omega⟩
      refine bodyPost_ret (v := .agg #[.int .i64 B.comp, .slice a1 B.bounds.length c1, .slice a2 B.orders.length c2, .slice av (keptL B.shots l B.shots.length).length cv]) ?_ rfl ⟨⟨_, _, rfl, hBook⟩, X4⟩
      simp [results, Tryd.results49, go_sem, z0, z1, z2, z3]
end Go.Proofs.YtnhdcdhpfgdphaaDoor

/-
  What Wrong answers, and what it answers without some shots.
-/
set_option linter.unusedSimpArgs false
set_option linter.unusedVariables false
namespace Go.Proofs.YtnhdcdhpfgdphaaDoor
open Go Go.RowKit

theorem placeL_in {xs : List Int} {n : Int} : 0 ≤ placeL xs n ↔ n ∈ xs := by
  unfold placeL
  cases hq : xs.findIdx? (· == n) with
  | some k =>
    simp only [Int.natCast_nonneg, true_iff]
    obtain ⟨h1, h2, _⟩ := List.findIdx?_eq_some_iff_getElem.1 hq
    have : xs[k] = n := by simpa using h2
    exact this ▸ List.getElem_mem h1
  | none =>
    rw [List.findIdx?_eq_none_iff] at hq
    constructor
    · intro h; simp at h
    · intro h; have := hq n h; simp at this
theorem mem_outK {m n k : Nat} : (k : Int) ∈ outK m n ↔ k < n ∧ bitB m k = true := by
  unfold outK
  rw [List.mem_map]
  constructor
  · rintro ⟨i, hi, he⟩
    obtain rfl : i = k := by omega
    obtain ⟨h1, h2⟩ := List.mem_filter.1 hi
    exact ⟨List.mem_range.1 h1, h2⟩
  · rintro ⟨h1, h2⟩
    exact ⟨k, List.mem_filter.2 ⟨List.mem_range.2 h1, h2⟩, rfl⟩
theorem outK_rises (m n : Nat) : (outK m n).Pairwise (· < ·) := by
  unfold outK
  rw [List.pairwise_map]
  refine (List.Pairwise.filter _ List.pairwise_lt_range).imp ?_
  intro a b h
  omega
theorem outK_in (m n : Nat) : ∀ x ∈ outK m n, 0 ≤ x ∧ x < n := by
  intro x hx
  unfold outK at hx
  obtain ⟨i, hi, rfl⟩ := List.mem_map.1 hx
  have := List.mem_range.1 (List.mem_filter.1 hi).1
  omega
theorem keptL_out (ss : List Sh) (m n : Nat) : keptL ss (outK m n) n = restK ss m n := by
  unfold keptL restK
  congr 1
  apply List.filter_congr
  intro i hi
  have hi' := List.mem_range.1 hi
  have h := @placeL_in (outK m n) i
  rw [mem_outK] at h
  cases hb : bitB m i with
  | true => have := h.2 ⟨hi', hb⟩; simp; omega
  | false =>
    have h2 : ¬ (0 ≤ placeL (outK m n) i) := fun hh => by have := (h.1 hh).2; rw [hb] at this; cases this
    simp; omega
theorem tog_without (B : Bk) (l : List Int) (L : List Sh) : togB (withoutB B l) L = togB B L := rfl
theorem sAt_mem (ss : List Sh) {i : Nat} (hi : i < ss.length) : sAt ss i ∈ ss := by
  simp only [sAt, List.getD_eq_getElem?_getD, List.getElem?_eq_getElem hi, Option.getD_some]
  exact List.getElem_mem hi
theorem mem_sAt {ss : List Sh} {x : Sh} (h : x ∈ ss) : ∃ i, i < ss.length ∧ sAt ss i = x := by
  obtain ⟨i, hi, rfl⟩ := List.getElem_of_mem h
  exact ⟨i, hi, by simp [sAt, List.getD, hi]⟩
theorem keptL_mem {ss : List Sh} {l : List Int} {k : Nat} {x : Sh} (h : x ∈ keptL ss l k) : ∃ i, i < k ∧ x = sAt ss i := by
  unfold keptL at h
  obtain ⟨i, hi, rfl⟩ := List.mem_map.1 h
  exact ⟨i, List.mem_range.1 (List.mem_filter.1 hi).1, rfl⟩
theorem without_valid {B : Bk} (hv : validB B = true) (l : List Int) : validB (withoutB B l) = true := by
  obtain ⟨p1, p2, p3, p4⟩ := valid_parts hv
  have hl := keptL_len B.shots l B.shots.length
  have q1 : ok0 (withoutB B l) = true := by
    have hs := valid_sizes hv
    have e : (withoutB B l).shots.length = (keptL B.shots l B.shots.length).length := rfl
    simp only [ok0, inB, Bool.and_eq_true, decide_eq_true_eq, e] at p1 ⊢
    have e2 : (withoutB B l).comp = B.comp := rfl
    have e3 : (withoutB B l).bounds.length = B.bounds.length := rfl
    have e4 : (withoutB B l).orders.length = B.orders.length := rfl
    rw [e2, e3, e4]
    omega
  have q4 : okShots (withoutB B l) (keptL B.shots l B.shots.length).length = true := by
    simp only [okShots, List.all_eq_true, List.mem_range] at p4 ⊢
    intro i hi
    obtain ⟨j, hj, e⟩ := keptL_mem (sAt_mem (keptL B.shots l B.shots.length) hi)
    show okShot (withoutB B l) (sAt (keptL B.shots l B.shots.length) i) = true
    rw [e]
    exact p4 j hj
  show (ok0 (withoutB B l) && okBounds B.bounds B.bounds.length && okRows B.comp B.bounds.length B.orders B.orders.length && okShots (withoutB B l) (keptL B.shots l B.shots.length).length) = true
  rw [q1, p2, p3, q4]
  rfl
theorem restK_none (ss : List Sh) {m n : Nat} (h : outK m n = []) (hn : n = ss.length) : restK ss m n = ss := by
  have h2 : ∀ i, i < n → bitB m i = false := fun i hi => by
    cases hb : bitB m i with
    | true => have := (mem_outK (m := m) (n := n) (k := i)).2 ⟨hi, hb⟩; rw [h] at this; cases this
    | false => rfl
  unfold restK
  rw [List.filter_eq_self.2 (fun i hi => by rw [h2 i (List.mem_range.1 hi)]; rfl)]
  apply List.ext_getElem
  · simp [hn]
  · intro i h3 h4
    simp [sAt, List.getD, h4]
theorem outK_zero (n : Nat) : outK 0 n = [] := by
  unfold outK
  rw [List.map_eq_nil_iff, List.filter_eq_nil_iff]
  intro i _
  simp [bitB]

section
variable {B : Bk} (hv : validB B = true)
include hv
theorem wrong_is : ∃ m, m < 2 ^ B.shots.length ∧ togB B (restK B.shots m B.shots.length) = true ∧ wrongL B = outK m B.shots.length := by
  obtain ⟨t, ht⟩ := truths_some hv
  have htog : togB B (restK B.shots (maskN (fun _ => true) B.shots.length) B.shots.length) = true := by
    rw [togB_iff]
    refine ⟨t, ht, fun x hx => ?_⟩
    rw [restK_mask] at hx
    simp at hx
  have hf := ((wrong_best B (2 ^ B.shots.length)).2 _ (maskN_lt _ _) htog).1
  obtain ⟨m, h1, h2, h3⟩ := (wrong_best B (2 ^ B.shots.length)).1 hf
  exact ⟨m, h1, h2, h3⟩
theorem wrong_none : wrongL B = [] ↔ togB B B.shots = true := by
  obtain ⟨m, h1, h2, h3⟩ := wrong_is hv
  constructor
  · intro h
    rw [h3] at h
    rw [restK_none B.shots h rfl] at h2
    exact h2
  · intro h
    rw [← restK_none B.shots (outK_zero B.shots.length) rfl] at h
    have := ((wrong_best B (2 ^ B.shots.length)).2 0 (Nat.two_pow_pos _) h).2
    rw [outK_zero] at this
    have e : wrongL B = (wrongK B (2 ^ B.shots.length)).1 := rfl
    rw [← e] at this
    unfold better at this
    refine List.eq_nil_of_length_eq_zero ?_
    rcases Nat.eq_zero_or_pos (wrongL B).length with h0 | h0
    · exact h0
    · exact absurd (Or.inl (by simpa using h0)) this
/-- Without what is told, all can be fair together. -/
theorem wrong_rest : wrongL (withoutB B (wrongL B)) = [] := by
  obtain ⟨m, h1, h2, h3⟩ := wrong_is hv
  rw [wrong_none (without_valid hv _), tog_without]
  show togB B (keptL B.shots (wrongL B) B.shots.length) = true
  rw [h3, keptL_out]
  exact h2
/-- Without others that are fewer, or as many and before, they cannot. -/
theorem wrong_less {m : Nat} (hm : m < 2 ^ B.shots.length) (hb : fewerB (outK m B.shots.length) (wrongL B) = true) : wrongL (withoutB B (outK m B.shots.length)) ≠ [] := by
  rw [fewer_better] at hb
  intro h
  rw [wrong_none (without_valid hv _), tog_without] at h
  have h' : togB B (keptL B.shots (outK m B.shots.length) B.shots.length) = true := h
  rw [keptL_out] at h'
  exact ((wrong_best B (2 ^ B.shots.length)).2 m hm h').2 hb
theorem wrong_zero {k : Nat} (hk : k < B.shots.length) (h : fairN B (sAt B.shots k) = 0) : 0 ≤ placeL (wrongL B) k := by
  obtain ⟨m, h1, h2, h3⟩ := wrong_is hv
  rw [placeL_in, h3, mem_outK]
  refine ⟨hk, ?_⟩
  cases hb : bitB m k with
  | true => rfl
  | false =>
    obtain ⟨t, ht, hx⟩ := (togB_iff B _).1 h2
    have hmem : sAt B.shots k ∈ restK B.shots m B.shots.length := List.mem_map.2 ⟨k, List.mem_filter.2 ⟨List.mem_range.2 hk, by simp [hb]⟩, rfl⟩
    obtain ⟨mm, l1, l2, l3⟩ := (canX_iff B t _).1 (hx _ hmem)
    have := (fair_zero hv (valid_shot hv hk).2.2.2.2.2.1).1 h t ht mm l1 l2
    rw [this] at l3
    cases l3
theorem wrong_rises : risesF B.shots.length 0 (wrongL B) = true := by
  obtain ⟨m, h1, h2, h3⟩ := wrong_is hv
  rw [h3]
  exact rises_yes _ _ (outK_rises _ _) (outK_in _ _)
end
theorem wrong_len (B : Bk) : (wrongL B).length ≤ B.shots.length := wrongK_len B _
end Go.Proofs.YtnhdcdhpfgdphaaDoor

/-
  The reference's owners and Owners, and both sides of it in one shape.
-/
set_option linter.unusedSimpArgs false
set_option linter.unusedVariables false
namespace Go.Proofs.YtnhdcdhpfgdphaaDoor
open Go Go.RowKit

theorem orbit_all : ((List.range 16).all fun s => (List.range 4).all fun x => (List.range 5).all fun k => bitB (s ||| (1 <<< x)) k == (bitB s k || k == x)) = true := by kernel_rfl
theorem orbit {s x k : Nat} (hs : s < 16) (hx : x < 4) (hk : k < 5) : bitB (s ||| (1 <<< x)) k = (bitB s k || k == x) := by
  have h := orbit_all
  simp only [List.all_eq_true, List.mem_range, beq_iff_eq] at h
  exact h s hs x hx k hk
theorem setN_add (xs : List Int) (x : Int) : setN (xs ++ [x]) = setN xs ||| (1 <<< x.toNat) := by simp [setN]
theorem bit_from {k : Nat} (hk : k < 5) : ∀ (xs : List Int) (s : Nat), s < 16 → (∀ x ∈ xs, 0 ≤ x ∧ x < 4) → (bitB (xs.foldl (fun s x => s ||| (1 <<< x.toNat)) s) k = true ↔ bitB s k = true ∨ (k : Int) ∈ xs) := by
  intro xs
  induction xs with
  | nil => intro s hs _; simp
  | cons x r ih =>
    intro s hs hx
    have h1 := hx x (by simp)
    have h2 : x.toNat < 4 := by omega
    rw [List.foldl_cons, ih _ (or_eq hs h2).2 (fun y hy => hx y (by simp [hy])), orbit hs h2 hk]
    simp only [Bool.or_eq_true, beq_iff_eq, List.mem_cons]
    constructor
    · rintro ((h | h) | h)
      · exact .inl h
      · exact .inr (.inl (by omega))
      · exact .inr (.inr h)
    · rintro (h | h | h)
      · exact .inl (.inl h)
      · exact .inl (.inr (by omega))
      · exact .inr h
theorem bit_set {k : Nat} (hk : k < 5) (xs : List Int) (hx : ∀ x ∈ xs, 0 ≤ x ∧ x < 4) : bitB (setN xs) k = true ↔ (k : Int) ∈ xs := by
  have := bit_from hk xs 0 (by omega) hx
  unfold setN
  rw [this]
  simp [bitB]
theorem sorted_same : ∀ (xs ys : List Int), xs.Pairwise (· < ·) → ys.Pairwise (· < ·) → (∀ c, c ∈ xs ↔ c ∈ ys) → xs = ys
  | [], [], _, _, _ => rfl
  | [], y :: ys, _, _, h => by have := (h y).2 (by simp); simp at this
  | x :: xs, [], _, _, h => by have := (h x).1 (by simp); simp at this
  | x :: xs, y :: ys, h1, h2, h => by
    rw [List.pairwise_cons] at h1 h2
    have hxy : x = y := by
      have a := (h x).1 (by simp)
      have b := (h y).2 (by simp)
      rcases List.mem_cons.1 a with e | a
      · exact e
      · rcases List.mem_cons.1 b with e | b
        · exact e.symm
        · have := h1.1 y b
          have := h2.1 x a
          omega
    subst hxy
    congr 1
    refine sorted_same xs ys h1.2 h2.2 fun c => ?_
    constructor
    · intro hc
      rcases List.mem_cons.1 ((h c).1 (by simp [hc])) with e | k
      · have := h1.1 c hc; omega
      · exact k
    · intro hc
      rcases List.mem_cons.1 ((h c).2 (by simp [hc])) with e | k
      · have := h2.1 c hc; omega
      · exact k
theorem outK_sorted (m n : Nat) : (outK m n).Pairwise (· < ·) := by
  unfold outK
  rw [List.pairwise_map]
  exact ((List.pairwise_lt_range (n := n)).filter _).imp fun h => by omega

theorem ipow4 {n : Nat} (h : n < 4) : IntKind.i64.wrap ((2 : Int) ^ n) = ((2 ^ n : Nat) : Int) := by
  rcases (by omega : n = 0 ∨ n = 1 ∨ n = 2 ∨ n = 3) with rfl | rfl | rfl | rfl <;> kernel_rfl

/-- Who has the turn in the first i truths. -/
def whoI (B : Bk) (s : Nat) (m : Int) (i : Nat) : List Int := (List.range i).map fun j => nAt (oAt B.orders s) (cI B m j)
theorem whoI_succ (B : Bk) (s : Nat) (m : Int) (i : Nat) : whoI B s m (i + 1) = whoI B s m i ++ [nAt (oAt B.orders s) (cI B m i)] := by simp [whoI, List.range_succ]
theorem who_in {B : Bk} (hv : validB B = true) {s : Nat} (hs : s < B.orders.length) (m : Int) (j : Nat) : 0 ≤ nAt (oAt B.orders s) (cI B m j) ∧ nAt (oAt B.orders s) (cI B m j) < 4 := by
  have h1 := valid_row hv hs
  have hc : cI B m j ≤ B.bounds.length := cT_le _ _ _
  have h2 := h1.2 (cI B m j) (by omega)
  have := (valid_sizes hv).2.1
  omega
theorem who_all {B : Bk} (hv : validB B = true) {s : Nat} (hs : s < B.orders.length) (m : Int) (i : Nat) : ∀ x ∈ whoI B s m i, 0 ≤ x ∧ x < 4 := by
  intro x hx
  obtain ⟨j, -, rfl⟩ := List.mem_map.1 hx
  exact who_in hv hs m j
theorem who_set {B : Bk} (hv : validB B = true) {s : Nat} (hs : s < B.orders.length) (m : Int) (i : Nat) : setN (whoI B s m i) < 16 :=
  setN_lt _ 0 (by omega) (who_all hv hs m i)
theorem owners_bits {B : Bk} (hv : validB B = true) {s : Nat} (hs : s < B.orders.length) (m : Int) : outK (setN (whoI B s m (truthsL B).length)) B.comp.toNat = ownersL B s m := by
  have hc := (valid_sizes hv).2.1
  have hc1 := (valid_sizes hv).1
  refine sorted_same _ _ (outK_sorted _ _) (ownersL_sorted hv s m) fun c => ?_
  rw [owner_truth hv s m c]
  unfold outK
  simp only [List.mem_map, List.mem_filter, List.mem_range]
  constructor
  · rintro ⟨k, ⟨hk, hb⟩, rfl⟩
    rw [bit_set (by omega) _ (who_all hv hs m _)] at hb
    obtain ⟨j, hj, e⟩ := List.mem_map.1 hb
    exact ⟨_, tAt_mem (List.mem_range.1 hj), e⟩
  · rintro ⟨t, ht, rfl⟩
    obtain ⟨j, hj, rfl⟩ := mem_tAt ht
    have h4 := who_in hv hs m j
    have hrow := valid_row hv hs
    have hcl : cI B m j ≤ B.bounds.length := cT_le _ _ _
    have h5 := hrow.2 (cI B m j) (by omega)
    have e : nAt (oAt B.orders s) (cT (q4L (tAt B j)) m B.bounds.length) = nAt (oAt B.orders s) (cI B m j) := rfl
    rw [e]
    refine ⟨(nAt (oAt B.orders s) (cI B m j)).toNat, ⟨by omega, ?_⟩, by omega⟩
    rw [bit_set (by omega) _ (who_all hv hs m _)]
    exact List.mem_map.2 ⟨j, List.mem_range.2 hj, by omega⟩
set_option maxRecDepth 100000 in
set_option maxHeartbeats 4000000 in
theorem owners_ref (B : Bk) (hv : validB B = true) (a1 a2 a3 : Option Addr) (c1 c2 c3 : Nat) (s : Nat) (hs : s < B.orders.length) (m : Int) (w : World) (h : BookA w B a1 a2 a3) :
    Calls Tryd.prog 71 #[.agg #[.int .i64 B.comp, .slice a1 B.bounds.length c1, .slice a2 B.orders.length c2, .slice a3 B.shots.length c3], .int .i64 s, .int .i64 m] w fun e w' => e = .returned (.int .i64 (setN (whoI B s m (truthsL B).length))) ∧ Ext w w' := by
  have hmost := truths_most hv
  have hrow := (valid_row hv hs).1
  have h4 := (valid_sizes hv).2.2.2.2.1
  have HB := Lib.hid h
  clear h
  go_enter Tryd.func71, Tryd.ntmps71
  go_upto_region 1 with (fail)
  obtain ⟨W0, hW0⟩ : ∃ W0, W0 = w.alloc (.cells #[.int .i64 B.comp, .slice a1 B.bounds.length c1, .slice a2 B.orders.length c2, .slice a3 B.shots.length c3] 26) := ⟨_, rfl⟩
  have b0 : Blk W0 w.heap.size 26 #[.int .i64 B.comp, .slice a1 B.bounds.length c1, .slice a2 B.orders.length c2, .slice a3 B.shots.length c3] := by rw [hW0]; exact Blk.new _ _ _
  have E0 : Ext w W0 := by rw [hW0]; exact Ext.alloc _ _
  rw [← hW0]
  clear hW0
  obtain ⟨gB, hgB⟩ : ∃ g, g = w.heap.size := ⟨_, rfl⟩
  rw [← hgB] at b0 ⊢
  clear hgB
  obtain ⟨x0, x1, x2, x3⟩ := b0.c4
  have Htr := Lib.hid (fun ad cp W (hW : Ext w W) => truths_all B hv a1 a2 a3 c1 c2 c3 ad cp W (HB.out.ext hW))
  go_upto_region 4 with (go_at_call 62; refine (Htr.out _ _ _ (E0.trans (Ext.alloc _ _))).mono ?_; rintro e w1 ⟨⟨b, o, ct, rfl, hT⟩, hE1⟩)
  have E1 : Ext W0 w1 := (Ext.alloc W0 _).trans hE1
  have HT := Lib.hid hT
  clear x0 x1 x2 x3 hT hE1 Htr
  obtain ⟨N, hN⟩ : ∃ N, (truthsL B).length = N := ⟨_, rfl⟩
  have Htat := Lib.hid (show ∀ i, i < N → ∃ ra rc, w1.cell? ⟨b, o + i, none⟩ = some (.slice ra B.bounds.length rc) ∧ IntA w1 ra (rowQ B (tAt B i)) from fun i hi => HT.out i (by omega))
  rw [hN] at hmost ⊢
  have HN := Lib.hid hN
  clear hN HT
  have EW := E0.trans E1
  have HB1 := Lib.hid (HB.out.ext EW)
  obtain ⟨ob, oo, rfl, hob, hoc⟩ := HB1.out.orders (by omega)
  obtain ⟨ra', rc', q0, hR⟩ := hoc s hs
  rw [hrow] at q0
  obtain ⟨rb, ro, rfl, hrb, hrc⟩ := hR.2 (by omega)
  have Hrc := Lib.hid hrc
  have Htn := Lib.hid (show ∀ i, i < N → ∀ ra rc W, IntA W ra (rowQ B (tAt B i)) → Calls Tryd.prog 63 #[.slice ra B.bounds.length rc, .int .i64 m] W fun e w' => e = .returned (.int .i64 (cI B m i)) ∧ W = w' from fun i hi ra rc W hA => turn_row B hv (tAt B i) ra rc m W hA)
  clear hoc hR hrc
  go_loopw [8, 9] (fun v i wr => ∃ j : Nat, j ≤ N ∧ i = .int .i64 j ∧ v = .int .i64 (setN (whoI B s m j)) ∧ Ext w1 wr) (fun _ i _ => N - (intOf i).toNat)
  case atStart => exact ⟨0, Nat.zero_le _, rfl, rfl, Ext.refl _⟩
  case round =>
    obtain ⟨j, hj, rfl, rfl, hE⟩ := hrel
    by_cases hlt : j < N
    · obtain ⟨ra, rc, q1, hI⟩ := Htat.out j hlt
      have hcl : cI B m j ≤ B.bounds.length := cT_le _ _ _
      have hwi := who_in hv hs m j
      have hsl := who_set hv hs m j
      have hsu : setN (whoI B s m (j + 1)) = setN (whoI B s m j) ||| (1 <<< (nAt (oAt B.orders s) (cI B m j)).toNat) := by rw [whoI_succ, setN_add]
      have htn := fun W (hW : Ext w1 W) => Htn.out j hlt ra rc W (hI.ext hW)
      have q2 := Hrc.out (cI B m j) (by omega)
      obtain ⟨ci, hcie⟩ : ∃ ci, cI B m j = ci := ⟨_, rfl⟩
      simp only [hcie] at htn hwi hsu q2 hcl
      obtain ⟨x, hxe⟩ : ∃ x : Nat, nAt (oAt B.orders s) ci = x := ⟨(nAt (oAt B.orders s) ci).toNat, by omega⟩
      rw [hxe] at hwi hsu q2
      rw [Int.toNat_natCast] at hsu
      have hx4 : x < 4 := by omega
      have hcl2 : (ci : Int) < (B.bounds.length : Int) + 1 := by omega
      obtain ⟨u, hue⟩ : ∃ u, setN (whoI B s m j) = u := ⟨_, rfl⟩
      rw [hue] at hsl hsu ⊢
      have hor := or_eq hsl hx4
      have hpw := ipow4 hx4
      have Hor := Lib.hid hor
      have Hpw := Lib.hid hpw
      have Hsu := Lib.hid hsu
      have Htn1 := Lib.hid htn
      obtain ⟨x0, x1, x2, x3⟩ := (b0.ext (E1.trans hE)).c4
      have HS := Lib.hid (fun W (hW : Ext w1 W) => (⟨(b0.ext (E1.trans hW)).c4, hW.keep q0, hW.keep q1, hW.keep q2⟩ : ((W.cell? ⟨gB, 0, none⟩ = some (.int .i64 B.comp) ∧ W.cell? ⟨gB, 1, none⟩ = some (.slice a1 B.bounds.length c1) ∧ W.cell? ⟨gB, 2, none⟩ = some (.slice (some ⟨ob, oo, none⟩) B.orders.length c2) ∧ W.cell? ⟨gB, 3, none⟩ = some (.slice a3 B.shots.length c3)) ∧ W.cell? ⟨ob, oo + s, none⟩ = some (.slice (some ⟨rb, ro, none⟩) (B.bounds.length + 1) rc') ∧ W.cell? ⟨b, o + j, none⟩ = some (.slice ra B.bounds.length rc) ∧ W.cell? ⟨rb, ro + ci, none⟩ = some (.int .i64 x))))
      clear hor hpw hsu htn hxe hcie hue hI q1 q2 hwi
      go_upto_region 6 with (fail)
      clear x0 x1 x2 x3
      refine wp_plan (fun W => ((W.cell? ⟨gB, 0, none⟩ = some (.int .i64 B.comp) ∧ W.cell? ⟨gB, 1, none⟩ = some (.slice a1 B.bounds.length c1) ∧ W.cell? ⟨gB, 2, none⟩ = some (.slice (some ⟨ob, oo, none⟩) B.orders.length c2) ∧ W.cell? ⟨gB, 3, none⟩ = some (.slice a3 B.shots.length c3)) ∧ W.cell? ⟨ob, oo + s, none⟩ = some (.slice (some ⟨rb, ro, none⟩) (B.bounds.length + 1) rc') ∧ W.cell? ⟨b, o + j, none⟩ = some (.slice ra B.bounds.length rc) ∧ W.cell? ⟨rb, ro + ci, none⟩ = some (.int .i64 x))) (.tames [0, 1, 2, 3, 4, 5, 6, 7, 8, 9, 10] (.one 11 (.tames [12, 13, 14, 15, 16] (.done)))) (by kernel_rfl) (by kernel_rfl) (by kernel_rfl) (fun c a d v w h => by cases d <;> exact h) ?_ ?_
      · exact HS.out _ (Below.drew hE)
      refine pl_tames ?_
      (try simp only [Act.put, List.setIfInBounds_toArray, List.set_cons_zero, List.set_cons_succ])
      repeat (first
        | (refine pl_run (v := ?_) rfl ?_ (fun W hW => ?_) ?_; rotate_left; rfl; ((try dsimp only at hW); go_simp; try with_reducible rfl); (try simp only [Act.put, List.setIfInBounds_toArray, List.set_cons_zero, List.set_cons_succ]))
        | (refine pl_skip rfl ?_ ?_; rfl; (try simp only [Act.put, List.setIfInBounds_toArray, List.set_cons_zero, List.set_cons_succ])))
      refine pl_end ?_
      refine pl_one rfl (by rfl) (fun K hK => ?_)
      go_simp
      (go_at_call 63; refine (Htn1.out _ (Below.drew hE)).mono ?_; rintro e w5 ⟨rfl, rfl⟩)
      refine hK.out _ _ (HS.out _ (Below.drew hE)) ?_
      clear hK K
      (try refine pl_tames ?_)
      (try simp only [Act.put, List.setIfInBounds_toArray, List.set_cons_zero, List.set_cons_succ])
      try ((repeat (first   | (refine pl_run (v := ?_) rfl ?_ (fun W hW => ?_) ?_; rotate_left; rfl; ((try dsimp only at hW); go_simp; try with_reducible rfl); (try simp only [Act.put, List.setIfInBounds_toArray, List.set_cons_zero, List.set_cons_succ]))   | (refine pl_skip rfl ?_ ?_; rfl; (try simp only [Act.put, List.setIfInBounds_toArray, List.set_cons_zero, List.set_cons_succ])))); refine pl_end ?_)
      refine pl_done ?_
      (try simp only [Act.put])
      go_wp2
      go_roundw
      case rel => exact ⟨j + 1, by omega, by go_num, by rw [Hsu.out, ← Hor.out.1, ← Hpw.out], Below.drew hE⟩
      case measure => simp [intOf]; omega
    · obtain rfl : j = N := by omega
      go_wp2
      go_ret
      exact ⟨by rw [HN.out]; rfl, EW.trans hE⟩

def askOwn (B : Bk) (s m : Int) : Bool := isStB B s && isMinB m
/-- What Owners returns. -/
def ownersX (B : Bk) (s m : Int) : List Int := if askE B (askOwn B s m) = 0 then ownersL B s.toNat m else []
theorem ask_own {B : Bk} {s m : Int} (h : askE B (askOwn B s m) = 0) : validB B = true ∧ (∃ k : Nat, s = k ∧ k < B.orders.length) ∧ isMinB m = true := by
  obtain ⟨hv, hs⟩ := askE_zero.1 h
  unfold askOwn at hs
  rw [Bool.and_eq_true] at hs
  obtain ⟨h1, h2⟩ := hs
  simp only [isStB, Bool.and_eq_true, decide_eq_true_eq] at h1
  exact ⟨hv, ⟨s.toNat, by omega, by omega⟩, h2⟩
theorem owners_all (B : Bk) (a1 a2 a3 : Option Addr) (c1 c2 c3 : Nat) (s m : Int) (w : World) (h : BookA w B a1 a2 a3) (hG : Glob w) :
    Calls Tryd.prog 19 #[.agg #[.int .i64 B.comp, .slice a1 B.bounds.length c1, .slice a2 B.orders.length c2, .slice a3 B.shots.length c3], .int .i64 s, .int .i64 m] w
      fun e w' => (∃ a cp, e = .returned (.tuple #[.slice a (ownersX B s m).length cp, .int .i64 (askE B (askOwn B s m))]) ∧ IntA w' a (ownersX B s m)) ∧ Ext w w' := by
  unfold ownersX
  by_cases hz : askE B (askOwn B s m) = 0
  · obtain ⟨hv, ⟨k, rfl, hk⟩, h2⟩ := ask_own hz
    rw [if_pos hz, hz]
    exact owners_yes B a1 a2 a3 c1 c2 c3 k m w h hG hv hk h2
  · rw [if_neg hz]
    refine (owners_no B a1 a2 a3 c1 c2 c3 s m w h hG hz).mono ?_
    rintro e w' ⟨rfl, hE⟩
    exact ⟨⟨none, 0, rfl, fun hp => absurd hp (by simp)⟩, hE⟩

set_option maxRecDepth 100000 in
set_option maxHeartbeats 8000000 in
theorem rOwners_all (B : Bk) (a1 a2 a3 : Option Addr) (c1 c2 c3 : Nat) (s m : Int) (w : World) (h : BookA w B a1 a2 a3) :
    Calls Tryd.prog 20 #[.agg #[.int .i64 B.comp, .slice a1 B.bounds.length c1, .slice a2 B.orders.length c2, .slice a3 B.shots.length c3], .int .i64 s, .int .i64 m] w
      fun e w' => (∃ a cp, e = .returned (.tuple #[.slice a (ownersX B s m).length cp, .int .i64 (askE B (askOwn B s m))]) ∧ IntA w' a (ownersX B s m)) ∧ Ext w w' := by
  cases hs : isStB B s
  · have hq : askOwn B s m = false := by unfold askOwn; rw [hs]; rfl
    rw [hq]
    have HB := Lib.hid h
    have l2 := h.l2
    have l3 := h.l3
    clear h
    obtain ⟨c, hc⟩ : ∃ c, askE B false = c := ⟨_, rfl⟩
    have hask := fun W (hW : Ext w W) => rAsked_any B false a1 a2 a3 c1 c2 c3 W (HB.out.ext hW)
    simp only [hc] at hask ⊢
    have Hask := Lib.hid hask
    have Hc := Lib.hid hc
    clear hask hc
    go_enter Tryd.func20, Tryd.ntmps20
    go_upto_region 1 with (fail)
    obtain ⟨W0, hW0⟩ : ∃ W0, W0 = w.alloc (.cells #[.int .i64 B.comp, .slice a1 B.bounds.length c1, .slice a2 B.orders.length c2, .slice a3 B.shots.length c3] 26) := ⟨_, rfl⟩
    have b0 : Blk W0 w.heap.size 26 #[.int .i64 B.comp, .slice a1 B.bounds.length c1, .slice a2 B.orders.length c2, .slice a3 B.shots.length c3] := by rw [hW0]; exact Blk.new _ _ _
    have E0 : Ext w W0 := by rw [hW0]; exact Ext.alloc _ _
    rw [← hW0]
    clear hW0
    have HH : Hid (∀ W, Ext W0 W → (W.cell? ⟨w.heap.size, 0, none⟩ = some (.int .i64 B.comp) ∧ W.cell? ⟨w.heap.size, 1, none⟩ = some (.slice a1 B.bounds.length c1) ∧ W.cell? ⟨w.heap.size, 2, none⟩ = some (.slice a2 B.orders.length c2) ∧ W.cell? ⟨w.heap.size, 3, none⟩ = some (.slice a3 B.shots.length c3))) := Lib.hid fun W e => (b0.ext e).c4
    go_cut [8] (fun e wx => e = .int .i64 c ∧ Ext W0 wx)
    case first =>
      refine wp_plan (fun W => W.cell? ⟨w.heap.size, 0, none⟩ = some (.int .i64 B.comp) ∧ W.cell? ⟨w.heap.size, 1, none⟩ = some (.slice a1 B.bounds.length c1) ∧ W.cell? ⟨w.heap.size, 2, none⟩ = some (.slice a2 B.orders.length c2) ∧ W.cell? ⟨w.heap.size, 3, none⟩ = some (.slice a3 B.shots.length c3)) (.tames [0, 1, 2] (.one 3 (.tames [4, 5] (.one 6 (.tames [7] (.one 8 (.tames [9] (.done)))))))) (by kernel_rfl) (by kernel_rfl) (by kernel_rfl) (fun c a d v w h => by cases d <;> exact h) ?_ ?_
      · exact HH.out _ (Ext.drew _)
      refine pl_tames ?_
      (try simp only [Act.put, List.setIfInBounds_toArray, List.set_cons_zero, List.set_cons_succ])
      repeat (first
        | (refine pl_run (v := ?_) rfl ?_ (fun W hW => ?_) ?_; rotate_left; rfl; ((try dsimp only at hW); go_simp; try with_reducible rfl); (try simp only [Act.put, List.setIfInBounds_toArray, List.set_cons_zero, List.set_cons_succ]))
        | (refine pl_skip rfl ?_ ?_; rfl; (try simp only [Act.put, List.setIfInBounds_toArray, List.set_cons_zero, List.set_cons_succ])))
      refine pl_end ?_
      refine pl_one rfl (by rfl) (fun K hK => ?_)
      go_simp
      go_at_call 68
      refine ((rStation_any B a1 a2 a3 c1 c2 c3 s _ l2).mono (fun e w' q => (⟨by rw [q.1, hs], q.2⟩ : e = .returned (.bool false) ∧ _))).mono ?_
      rintro e w1 ⟨rfl, hE1⟩
      have X1 : Ext W0 w1 := Ext.trans (Ext.drew W0) hE1
      have hz1 := hE1.size
      refine hK.out _ _ (HH.out _ (X1)) ?_
      clear hK K
      (try simp only [Act.put, List.setIfInBounds_toArray, List.set_cons_zero, List.set_cons_succ])
      refine pl_tames ?_
      (try simp only [Act.put, List.setIfInBounds_toArray, List.set_cons_zero, List.set_cons_succ])
      repeat (first
        | (refine pl_run (v := ?_) rfl ?_ (fun W hW => ?_) ?_; rotate_left; rfl; ((try dsimp only at hW); go_simp; try with_reducible rfl); (try simp only [Act.put, List.setIfInBounds_toArray, List.set_cons_zero, List.set_cons_succ]))
        | (refine pl_skip rfl ?_ ?_; rfl; (try simp only [Act.put, List.setIfInBounds_toArray, List.set_cons_zero, List.set_cons_succ])))
      refine pl_end ?_
      refine pl_one_skip rfl (by rfl) (HH.out _ (X1)) ?_
      (try simp only [Act.put, List.setIfInBounds_toArray, List.set_cons_zero, List.set_cons_succ])
      refine pl_tames ?_
      (try simp only [Act.put, List.setIfInBounds_toArray, List.set_cons_zero, List.set_cons_succ])
      repeat (first
        | (refine pl_run (v := ?_) rfl ?_ (fun W hW => ?_) ?_; rotate_left; rfl; ((try dsimp only at hW); go_simp; try with_reducible rfl); (try simp only [Act.put, List.setIfInBounds_toArray, List.set_cons_zero, List.set_cons_succ]))
        | (refine pl_skip rfl ?_ ?_; rfl; (try simp only [Act.put, List.setIfInBounds_toArray, List.set_cons_zero, List.set_cons_succ])))
      refine pl_end ?_
      refine pl_one rfl (by rfl) (fun K hK => ?_)
      go_simp
      go_at_call 61
      refine (Hask.out _ (E0.trans (X1))).mono ?_
      rintro e w3 ⟨rfl, hE3⟩
      have X3 : Ext W0 w3 := Ext.trans (X1) hE3
      have hz3 := hE3.size
      refine hK.out _ _ (HH.out _ (X3)) ?_
      clear hK K
      (try simp only [Act.put, List.setIfInBounds_toArray, List.set_cons_zero, List.set_cons_succ])
      refine pl_tames ?_
      (try simp only [Act.put, List.setIfInBounds_toArray, List.set_cons_zero, List.set_cons_succ])
      repeat (first
        | (refine pl_run (v := ?_) rfl ?_ (fun W hW => ?_) ?_; rotate_left; rfl; ((try dsimp only at hW); go_simp; try with_reducible rfl); (try simp only [Act.put, List.setIfInBounds_toArray, List.set_cons_zero, List.set_cons_succ]))
        | (refine pl_skip rfl ?_ ?_; rfl; (try simp only [Act.put, List.setIfInBounds_toArray, List.set_cons_zero, List.set_cons_succ])))
      refine pl_end ?_
      refine pl_done ?_
      (try simp only [Act.put])
      go_wp2
      go_meet
      case rel => exact ⟨rfl, X3⟩
    case rest =>
      have hz : c ≠ 0 := by rw [← Hc.out]; unfold askE; cases validB B <;> simp
      obtain ⟨rfl, hX⟩ := hcut
      have Hf := Lib.hid (show ownersX B s m = [] by unfold ownersX; rw [if_neg (by rw [hq, Hc.out]; exact hz)])
      have hcn : (c != 0) = true := by simp [hz]
      go_wp2
      refine bodyPost_ret (v := .tuple #[.slice none 0 0, .int .i64 c]) ?_ rfl ⟨by rw [Hf.out]; exact ⟨none, 0, rfl, fun hp => absurd hp (by simp)⟩, E0.trans hX⟩
      simp [results, Tryd.results20, go_sem]
  · have hq : askOwn B s m = isMinB m := by unfold askOwn; rw [hs]; rfl
    rw [hq]
    have HB := Lib.hid h
    have l2 := h.l2
    have l3 := h.l3
    clear h
    obtain ⟨c, hc⟩ : ∃ c, askE B (isMinB m) = c := ⟨_, rfl⟩
    have hask := fun W (hW : Ext w W) => rAsked_any B (isMinB m) a1 a2 a3 c1 c2 c3 W (HB.out.ext hW)
    simp only [hc] at hask ⊢
    have Hask := Lib.hid hask
    have Hc := Lib.hid hc
    clear hask hc
    go_enter Tryd.func20, Tryd.ntmps20
    go_upto_region 1 with (fail)
    obtain ⟨W0, hW0⟩ : ∃ W0, W0 = w.alloc (.cells #[.int .i64 B.comp, .slice a1 B.bounds.length c1, .slice a2 B.orders.length c2, .slice a3 B.shots.length c3] 26) := ⟨_, rfl⟩
    have b0 : Blk W0 w.heap.size 26 #[.int .i64 B.comp, .slice a1 B.bounds.length c1, .slice a2 B.orders.length c2, .slice a3 B.shots.length c3] := by rw [hW0]; exact Blk.new _ _ _
    have E0 : Ext w W0 := by rw [hW0]; exact Ext.alloc _ _
    rw [← hW0]
    clear hW0
    have HH : Hid (∀ W, Ext W0 W → (W.cell? ⟨w.heap.size, 0, none⟩ = some (.int .i64 B.comp) ∧ W.cell? ⟨w.heap.size, 1, none⟩ = some (.slice a1 B.bounds.length c1) ∧ W.cell? ⟨w.heap.size, 2, none⟩ = some (.slice a2 B.orders.length c2) ∧ W.cell? ⟨w.heap.size, 3, none⟩ = some (.slice a3 B.shots.length c3))) := Lib.hid fun W e => (b0.ext e).c4
    go_cut [8] (fun e wx => e = .int .i64 c ∧ Ext W0 wx)
    case first =>
      refine wp_plan (fun W => W.cell? ⟨w.heap.size, 0, none⟩ = some (.int .i64 B.comp) ∧ W.cell? ⟨w.heap.size, 1, none⟩ = some (.slice a1 B.bounds.length c1) ∧ W.cell? ⟨w.heap.size, 2, none⟩ = some (.slice a2 B.orders.length c2) ∧ W.cell? ⟨w.heap.size, 3, none⟩ = some (.slice a3 B.shots.length c3)) (.tames [0, 1, 2] (.one 3 (.tames [4, 5] (.one 6 (.tames [7] (.one 8 (.tames [9] (.done)))))))) (by kernel_rfl) (by kernel_rfl) (by kernel_rfl) (fun c a d v w h => by cases d <;> exact h) ?_ ?_
      · exact HH.out _ (Ext.drew _)
      refine pl_tames ?_
      (try simp only [Act.put, List.setIfInBounds_toArray, List.set_cons_zero, List.set_cons_succ])
      repeat (first
        | (refine pl_run (v := ?_) rfl ?_ (fun W hW => ?_) ?_; rotate_left; rfl; ((try dsimp only at hW); go_simp; try with_reducible rfl); (try simp only [Act.put, List.setIfInBounds_toArray, List.set_cons_zero, List.set_cons_succ]))
        | (refine pl_skip rfl ?_ ?_; rfl; (try simp only [Act.put, List.setIfInBounds_toArray, List.set_cons_zero, List.set_cons_succ])))
      refine pl_end ?_
      refine pl_one rfl (by rfl) (fun K hK => ?_)
      go_simp
      go_at_call 68
      refine ((rStation_any B a1 a2 a3 c1 c2 c3 s _ l2).mono (fun e w' q => (⟨by rw [q.1, hs], q.2⟩ : e = .returned (.bool true) ∧ _))).mono ?_
      rintro e w1 ⟨rfl, hE1⟩
      have X1 : Ext W0 w1 := Ext.trans (Ext.drew W0) hE1
      have hz1 := hE1.size
      refine hK.out _ _ (HH.out _ (X1)) ?_
      clear hK K
      (try simp only [Act.put, List.setIfInBounds_toArray, List.set_cons_zero, List.set_cons_succ])
      refine pl_tames ?_
      (try simp only [Act.put, List.setIfInBounds_toArray, List.set_cons_zero, List.set_cons_succ])
      repeat (first
        | (refine pl_run (v := ?_) rfl ?_ (fun W hW => ?_) ?_; rotate_left; rfl; ((try dsimp only at hW); go_simp; try with_reducible rfl); (try simp only [Act.put, List.setIfInBounds_toArray, List.set_cons_zero, List.set_cons_succ]))
        | (refine pl_skip rfl ?_ ?_; rfl; (try simp only [Act.put, List.setIfInBounds_toArray, List.set_cons_zero, List.set_cons_succ])))
      refine pl_end ?_
      refine pl_one rfl (by rfl) (fun K hK => ?_)
      go_simp
      go_at_call 44
      refine (between_any _ _ _ _).mono ?_
      rintro e w2 ⟨rfl, rfl⟩
      refine hK.out _ _ (HH.out _ (X1)) ?_
      clear hK K
      (try simp only [Act.put, List.setIfInBounds_toArray, List.set_cons_zero, List.set_cons_succ])
      refine pl_tames ?_
      (try simp only [Act.put, List.setIfInBounds_toArray, List.set_cons_zero, List.set_cons_succ])
      repeat (first
        | (refine pl_run (v := ?_) rfl ?_ (fun W hW => ?_) ?_; rotate_left; rfl; ((try dsimp only at hW); go_simp; try with_reducible rfl); (try simp only [Act.put, List.setIfInBounds_toArray, List.set_cons_zero, List.set_cons_succ]))
        | (refine pl_skip rfl ?_ ?_; rfl; (try simp only [Act.put, List.setIfInBounds_toArray, List.set_cons_zero, List.set_cons_succ])))
      refine pl_end ?_
      refine pl_one rfl (by rfl) (fun K hK => ?_)
      go_simp
      go_at_call 61
      refine (Hask.out _ (E0.trans (X1))).mono ?_
      rintro e w3 ⟨rfl, hE3⟩
      have X3 : Ext W0 w3 := Ext.trans (X1) hE3
      have hz3 := hE3.size
      refine hK.out _ _ (HH.out _ (X3)) ?_
      clear hK K
      (try simp only [Act.put, List.setIfInBounds_toArray, List.set_cons_zero, List.set_cons_succ])
      refine pl_tames ?_
      (try simp only [Act.put, List.setIfInBounds_toArray, List.set_cons_zero, List.set_cons_succ])
      repeat (first
        | (refine pl_run (v := ?_) rfl ?_ (fun W hW => ?_) ?_; rotate_left; rfl; ((try dsimp only at hW); go_simp; try with_reducible rfl); (try simp only [Act.put, List.setIfInBounds_toArray, List.set_cons_zero, List.set_cons_succ]))
        | (refine pl_skip rfl ?_ ?_; rfl; (try simp only [Act.put, List.setIfInBounds_toArray, List.set_cons_zero, List.set_cons_succ])))
      refine pl_end ?_
      refine pl_done ?_
      (try simp only [Act.put])
      go_wp2
      go_meet
      case rel => exact ⟨rfl, X3⟩
    case rest =>
      by_cases hz : c = 0
      · obtain ⟨rfl, hX⟩ := hcut
        obtain ⟨hv, ⟨s, rfl, hsl⟩, hm⟩ := ask_own (show askE B (askOwn B s m) = 0 by rw [hq, Hc.out]; exact hz)
        subst hz
        have Hf := Lib.hid (show ownersX B s m = ownersL B s m by unfold ownersX; rw [if_pos (by rw [hq]; exact Hc.out)]; rfl)
        have HB2 := Lib.hid ((HB.out.ext E0).ext hX)
        have hsz := valid_sizes hv
        have hown := fun W (hW : Ext wc W) => owners_ref B hv a1 a2 a3 c1 c2 c3 s hsl m W (HB2.out.ext hW)
        have hset := who_set hv hsl m (truthsL B).length
        have hob := owners_bits hv hsl m
        obtain ⟨u, hu⟩ : ∃ u, setN (whoI B s m (truthsL B).length) = u := ⟨_, rfl⟩
        simp only [hu] at hown hset hob
        obtain ⟨cn, hcn⟩ : ∃ cn : Nat, B.comp = cn := ⟨B.comp.toNat, by omega⟩
        have hbits := fun W => bits_any u cn (by omega) (by omega) W
        rw [hcn, Int.toNat_natCast] at hob
        simp only [hob] at hbits
        have Hown := Lib.hid hown
        have Hbits := Lib.hid (show ∀ W, Calls Tryd.prog 50 #[.int .i64 u, .int .i64 B.comp] W fun e w' => (∃ a cp, e = .returned (.slice a (ownersL B s m).length cp) ∧ IntA w' a (ownersL B s m)) ∧ Ext W w' by rw [hcn]; exact hbits)
        obtain ⟨x0, x1, x2, x3⟩ := HH.out _ hX
        have HS := Lib.hid (fun W (hW : Ext wc W) => HH.out W (hX.trans hW))
        clear hown hset hob hu hbits hcn HB hs hq
        go_upto_region 4 with (fail)
        clear x0 x1 x2 x3
        refine wp_plan (fun W => (W.cell? ⟨w.heap.size, 0, none⟩ = some (.int .i64 B.comp) ∧ W.cell? ⟨w.heap.size, 1, none⟩ = some (.slice a1 B.bounds.length c1) ∧ W.cell? ⟨w.heap.size, 2, none⟩ = some (.slice a2 B.orders.length c2) ∧ W.cell? ⟨w.heap.size, 3, none⟩ = some (.slice a3 B.shots.length c3))) (.tames [0, 1, 2, 4, 5] (.one 3 (.one 6 (.tames [7, 8] (.done))))) (by kernel_rfl) (by kernel_rfl) (by kernel_rfl) (fun c a d v w h => by cases d <;> exact h) ?_ ?_
        · exact HS.out _ (Ext.drew _)
        refine pl_tames ?_
        (try simp only [Act.put, List.setIfInBounds_toArray, List.set_cons_zero, List.set_cons_succ])
        repeat (first
          | (refine pl_run (v := ?_) rfl ?_ (fun W hW => ?_) ?_; rotate_left; rfl; ((try dsimp only at hW); go_simp; try with_reducible rfl); (try simp only [Act.put, List.setIfInBounds_toArray, List.set_cons_zero, List.set_cons_succ]))
          | (refine pl_skip rfl ?_ ?_; rfl; (try simp only [Act.put, List.setIfInBounds_toArray, List.set_cons_zero, List.set_cons_succ])))
        refine pl_end ?_
        refine pl_one rfl (by rfl) (fun K hK => ?_)
        go_simp
        (go_at_call 71; refine (Hown.out _ (Ext.drew _)).mono ?_; rintro e w4 ⟨rfl, hE4⟩)
        refine hK.out _ _ (HS.out _ ((Ext.drew _).trans hE4)) ?_
        clear hK K
        (try refine pl_tames ?_)
        (try simp only [Act.put, List.setIfInBounds_toArray, List.set_cons_zero, List.set_cons_succ])
        try ((repeat (first   | (refine pl_run (v := ?_) rfl ?_ (fun W hW => ?_) ?_; rotate_left; rfl; ((try dsimp only at hW); go_simp; try with_reducible rfl); (try simp only [Act.put, List.setIfInBounds_toArray, List.set_cons_zero, List.set_cons_succ]))   | (refine pl_skip rfl ?_ ?_; rfl; (try simp only [Act.put, List.setIfInBounds_toArray, List.set_cons_zero, List.set_cons_succ])))); refine pl_end ?_)
        refine pl_one rfl (by rfl) (fun K hK => ?_)
        go_simp
        (go_at_call 50; refine (Hbits.out _).mono ?_; rintro e w5 ⟨⟨a5, c5, rfl, hI5⟩, hE5⟩)
        refine hK.out _ _ (HS.out _ (((Ext.drew _).trans hE4).trans hE5)) ?_
        clear hK K
        (try refine pl_tames ?_)
        (try simp only [Act.put, List.setIfInBounds_toArray, List.set_cons_zero, List.set_cons_succ])
        try ((repeat (first   | (refine pl_run (v := ?_) rfl ?_ (fun W hW => ?_) ?_; rotate_left; rfl; ((try dsimp only at hW); go_simp; try with_reducible rfl); (try simp only [Act.put, List.setIfInBounds_toArray, List.set_cons_zero, List.set_cons_succ]))   | (refine pl_skip rfl ?_ ?_; rfl; (try simp only [Act.put, List.setIfInBounds_toArray, List.set_cons_zero, List.set_cons_succ])))); refine pl_end ?_)
        refine pl_done ?_
        (try simp only [Act.put])
        have EV := (Ext.trans (Ext.drew _) hE4).trans hE5
        go_wp2
        refine bodyPost_ret (v := .tuple #[.slice a5 (ownersL B s m).length c5, .int .i64 0]) ?_ rfl ⟨by rw [Hf.out]; exact ⟨_, _, rfl, hI5⟩, E0.trans (hX.trans EV)⟩
        simp [results, Tryd.results20, go_sem]
      · obtain ⟨rfl, hX⟩ := hcut
        have Hf := Lib.hid (show ownersX B s m = [] by unfold ownersX; rw [if_neg (by rw [hq, Hc.out]; exact hz)])
        have hcn : (c != 0) = true := by simp [hz]
        go_wp2
        refine bodyPost_ret (v := .tuple #[.slice none 0 0, .int .i64 c]) ?_ rfl ⟨by rw [Hf.out]; exact ⟨none, 0, rfl, fun hp => absurd hp (by simp)⟩, E0.trans hX⟩
        simp [results, Tryd.results20, go_sem]
end Go.Proofs.YtnhdcdhpfgdphaaDoor
