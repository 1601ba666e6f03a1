/-
  without: a book without some of its shots.
-/
import Derived.Test.YtnhdcdhpfgdphaaDoorLB
import Derived.Test.YtnhdcdhpfgdphaaDoorLK
set_option linter.unusedSimpArgs false
set_option linter.unusedVariables false
namespace Go.Proofs.YtnhdcdhpfgdphaaDoor
open Go Go.RowKit

/-- The first k shots that a list does not name. -/
def keptL (ss : List Sh) (l : List Int) (k : Nat) : List Sh := ((List.range k).filter fun (i : Nat) => decide (placeL l (i : Int) < 0)).map (sAt ss)
theorem keptL_succ (ss : List Sh) (l : List Int) (k : Nat) : keptL ss l (k + 1) = if placeL l k < 0 then keptL ss l k ++ [sAt ss k] else keptL ss l k := by
  unfold keptL
  rw [List.range_succ, List.filter_append]
  by_cases h : placeL l k < 0 <;> simp [h]
theorem keptL_len (ss : List Sh) (l : List Int) (k : Nat) : (keptL ss l k).length ≤ k := by
  unfold keptL
  rw [List.length_map]
  have := List.length_filter_le (fun i : Nat => decide (placeL l i < 0)) (List.range k)
  simpa using this
def withoutB (B : Bk) (l : List Int) : Bk := { B with shots := keptL B.shots l B.shots.length }

set_option maxRecDepth 100000 in
set_option maxHeartbeats 2000000 in
theorem without_any (B : Bk) (a1 a2 a3 al : Option Addr) (c1 c2 c3 cl : Nat) (l : List Int) (w : World) (h : BookA w B a1 a2 a3) (hl : IntA w al l) (hll : l.length ≤ 9223372036854775807) (hs5 : B.shots.length ≤ 5) :
    Calls Tryd.prog 49 #[.agg #[.int .i64 B.comp, .slice a1 B.bounds.length c1, .slice a2 B.orders.length c2, .slice a3 B.shots.length c3], .slice al l.length cl] w
      fun e w' => (∃ a cp, e = .returned (.agg #[.int .i64 B.comp, .slice a1 B.bounds.length c1, .slice a2 B.orders.length c2, .slice a (withoutB B l).shots.length cp]) ∧ BookA w' (withoutB B l) a1 a2 a) ∧ Ext w w' := by
  obtain ⟨j0, ji, jz0, jz1, jz2⟩ := info_parts shot_info
  have HB := Lib.hid h
  have HL := Lib.hid hl
  clear h hl
  go_enter Tryd.func49, Tryd.ntmps49
  go_upto_region 1 with (fail)
  obtain ⟨W0, hW0⟩ : ∃ W0, W0 = (w.alloc (.cells #[.int .i64 B.comp, .slice a1 B.bounds.length c1, .slice a2 B.orders.length c2, .slice a3 B.shots.length c3] 26)).alloc (.cells #[.int .i64 0, .slice none 0 0, .slice none 0 0, .slice none 0 0] 26) := ⟨_, rfl⟩
  have b0 : Blk W0 w.heap.size 26 #[.int .i64 B.comp, .slice a1 B.bounds.length c1, .slice a2 B.orders.length c2, .slice a3 B.shots.length c3] := by rw [hW0]; exact (Blk.new _ _ _).alloc _
  have r0 : Blk W0 (w.heap.size + 1) 26 #[.int .i64 0, .slice none 0 0, .slice none 0 0, .slice none 0 0] := by rw [hW0]; have := Blk.new (w.alloc (.cells #[.int .i64 B.comp, .slice a1 B.bounds.length c1, .slice a2 B.orders.length c2, .slice a3 B.shots.length c3] 26)) 26 #[.int .i64 0, .slice none 0 0, .slice none 0 0, .slice none 0 0]; simpa using this
  have E0 : Ext w W0 := by rw [hW0]; exact (Ext.alloc _ _).trans (Ext.alloc _ _)
  rw [← hW0]
  clear hW0
  obtain ⟨gR, hgR⟩ : ∃ g, g = w.heap.size + 1 := ⟨_, rfl⟩
  rw [← hgR] at r0 ⊢
  have hgR' : w.heap.size ≤ gR := by omega
  have hBR : w.heap.size ≠ gR := by omega
  clear hgR
  obtain ⟨gB, hgB⟩ : ∃ g, g = w.heap.size := ⟨_, rfl⟩
  rw [← hgB] at b0 hBR ⊢
  have hwB : w.heap.size ≤ gB := by omega
  clear hgB
  obtain ⟨x0, x1, x2, x3⟩ := b0.c4
  go_upto_region 2 with (fail)
  obtain ⟨W1, hW1⟩ : ∃ W1, W1 = W0.alloc (.cells #[.int .i64 B.comp, .slice a1 B.bounds.length c1, .slice a2 B.orders.length c2, .slice a3 B.shots.length c3] 26) := ⟨_, rfl⟩
  have X1 : Ext W0 W1 := by rw [hW1]; exact Ext.alloc _ _
  have y1 : Blk W1 W0.heap.size 26 #[.int .i64 B.comp, .slice a1 B.bounds.length c1, .slice a2 B.orders.length c2, .slice a3 B.shots.length c3] := by rw [hW1]; exact Blk.new _ _ _
  rw [← hW1]
  clear hW1
  obtain ⟨gY, hgY⟩ : ∃ g, g = W0.heap.size := ⟨_, rfl⟩
  rw [← hgY] at y1 ⊢
  have hRY : gR < gY := by rw [hgY]; exact r0.lt
  have hBY : gB < gY := by rw [hgY]; exact b0.lt
  have hwY : w.heap.size ≤ gY := by omega
  have hgYl := y1.lt
  clear hgY x0 x1 x2 x3
  obtain ⟨z0, z1, z2, z3⟩ := y1.c4
  have f3 := y1.frozen 3
  go_upto_region 4 with (fail)
  obtain ⟨WY, hWY⟩ : ∃ WY, WY = W1.setCell ⟨gY, 3, none⟩ (.slice (some ⟨W1.heap.size, 0, none⟩) 0 0) := ⟨_, rfl⟩
  have hsz : WY.heap.size = W1.heap.size := by rw [hWY]; simp
  have own2 : (WY.alloc (.cells #[] 59)).ownsRow W1.heap.size 59 4 (.slice (some ⟨W1.heap.size, 0, none⟩) 0 0) 0 [] := by
    rw [← hsz]
    exact ⟨rfl, .inr ⟨WY.heap.size, 0, #[], rfl, Nat.le_refl _, heap_new WY _, Nat.le_refl _, Nat.zero_le _, rfl, rfl⟩⟩
  have y2 : Blk (WY.alloc (.cells #[] 59)) gY 26 #[.int .i64 B.comp, .slice a1 B.bounds.length c1, .slice a2 B.orders.length c2, .slice (some ⟨W1.heap.size, 0, none⟩) 0 0] := by
    rw [hWY]
    have := (y1.put 3 (.slice (some ⟨W1.heap.size, 0, none⟩) 0 0)).alloc (.cells #[] 59)
    simpa using this
  have E2 : Ext w (WY.alloc (.cells #[] 59)) := by have E3 : Ext w WY := (by rw [hWY]; exact Below.setCell (E0.trans X1) hwY _); exact Ext.trans E3 (Ext.alloc _ _)
  have r2 : Blk (WY.alloc (.cells #[] 59)) gR 26 #[.int .i64 0, .slice none 0 0, .slice none 0 0, .slice none 0 0] := by rw [hWY]; exact ((r0.ext X1).far (p := ⟨gY, 3, none⟩) (by show gR ≠ gY; omega) (.slice (some ⟨W1.heap.size, 0, none⟩) 0 0)).alloc _
  have b2 : Blk (WY.alloc (.cells #[] 59)) gB 26 #[.int .i64 B.comp, .slice a1 B.bounds.length c1, .slice a2 B.orders.length c2, .slice a3 B.shots.length c3] := by rw [hWY]; exact ((b0.ext X1).far (p := ⟨gY, 3, none⟩) (by show gB ≠ gY; omega) (.slice (some ⟨W1.heap.size, 0, none⟩) 0 0)).alloc _
  rw [← hWY]
  clear z0 z1 z2 z3 f3 y1
  have hg2 : W1.heap.size ≤ (WY.alloc (.cells #[] 59)).heap.size := by simp; omega
  generalize WY.alloc (.cells #[] 59) = W2 at own2 y2 E2 r2 b2 hg2 ⊢
  clear hWY hsz
  obtain ⟨gn, hgn⟩ : ∃ g, g = W1.heap.size := ⟨_, rfl⟩
  rw [← hgn] at own2 y2 hg2 hgYl ⊢
  have hwn : w.heap.size ≤ gn := by omega
  clear hgn
  go_loopw [6] (fun i wr => ∃ (k : Nat) (v : Value), k ≤ B.shots.length ∧ i = .int .i64 k ∧ Ext w wr ∧ gn ≤ wr.heap.size ∧ Blk wr gB 26 #[.int .i64 B.comp, .slice a1 B.bounds.length c1, .slice a2 B.orders.length c2, .slice a3 B.shots.length c3] ∧ Blk wr gR 26 #[.int .i64 0, .slice none 0 0, .slice none 0 0, .slice none 0 0] ∧ Blk wr gY 26 #[.int .i64 B.comp, .slice a1 B.bounds.length c1, .slice a2 B.orders.length c2, v] ∧ wr.ownsRow gn 59 4 v (keptL B.shots l k).length (flatX (keptL B.shots l k))) (fun i _ => B.shots.length - (intOf i).toNat)
  case atStart => exact ⟨0, _, Nat.zero_le _, rfl, E2, hg2, b2, r2, y2, own2⟩
  case round =>
    obtain ⟨k, v, hk, rfl, hE, hgw, bb, rr, yy, ho⟩ := hrel
    clear own2 E2 hg2 b2 r2 y2
    obtain ⟨⟨av, cv, rfl⟩, hbs⟩ := own_x ho
    obtain ⟨x0, x1, x2, x3⟩ := bb.c4
    by_cases hlt : k < B.shots.length
    · have hks := keptL_succ B.shots l k
      have hkl := keptL_len B.shots l k
      have hpl := place_any al l cl (k : Int) wr (HL.out.ext hE) hll
      have Hks := Lib.hid hks
      have Hpl := Lib.hid hpl
      clear hks hpl
      obtain ⟨pl, hple⟩ : ∃ p, placeL l (k : Int) = p := ⟨_, rfl⟩
      rw [hple] at Hks Hpl
      by_cases hp : pl < 0
      · have hs : Hid (keptL B.shots l (k + 1) = keptL B.shots l k ++ [sAt B.shots k]) := Lib.hid (by rw [Hks.out, if_pos hp])
        obtain ⟨b, o, rfl, hbb, hc⟩ := HB.out.shots (by omega)
        obtain ⟨q0, q1, q2, q3⟩ := hc k hlt
        have HS := Lib.hid (fun W (hW : Ext w W) (hb' : Blk W gB 26 #[.int .i64 B.comp, .slice a1 B.bounds.length c1, .slice a2 B.orders.length c2, .slice (some ⟨b, o, none⟩) B.shots.length c3]) => (⟨hb'.c4, hW.keep q0, hW.keep q1, hW.keep q2, hW.keep q3⟩ : ((W.cell? ⟨gB, 0, none⟩ = some (.int .i64 B.comp) ∧ W.cell? ⟨gB, 1, none⟩ = some (.slice a1 B.bounds.length c1) ∧ W.cell? ⟨gB, 2, none⟩ = some (.slice a2 B.orders.length c2) ∧ W.cell? ⟨gB, 3, none⟩ = some (.slice (some ⟨b, o, none⟩) B.shots.length c3)) ∧ (W.cell? ⟨b, o + k * 4, none⟩ = some (.int .i64 (sAt B.shots k).st) ∧ W.cell? ⟨b, o + k * 4 + 1, none⟩ = some (.int .i64 (sAt B.shots k).co) ∧ W.cell? ⟨b, o + k * 4 + 2, none⟩ = some (.int .i64 (sAt B.shots k).lo) ∧ W.cell? ⟨b, o + k * 4 + 3, none⟩ = some (.int .i64 (sAt B.shots k).hi)))))
        have Ho := Lib.hid ho
        clear hc hple Hks q0 q1 q2 q3 ho
        go_upto_region 7 with (go_at_call 41; refine Hpl.out.mono ?_; rintro e w3 ⟨rfl, rfl⟩)
        clear x0 x1 x2 x3
        refine wp_plan (fun W => ((W.cell? ⟨gB, 0, none⟩ = some (.int .i64 B.comp) ∧ W.cell? ⟨gB, 1, none⟩ = some (.slice a1 B.bounds.length c1) ∧ W.cell? ⟨gB, 2, none⟩ = some (.slice a2 B.orders.length c2) ∧ W.cell? ⟨gB, 3, none⟩ = some (.slice (some ⟨b, o, none⟩) B.shots.length c3)) ∧ (W.cell? ⟨b, o + k * 4, none⟩ = some (.int .i64 (sAt B.shots k).st) ∧ W.cell? ⟨b, o + k * 4 + 1, none⟩ = some (.int .i64 (sAt B.shots k).co) ∧ W.cell? ⟨b, o + k * 4 + 2, none⟩ = some (.int .i64 (sAt B.shots k).lo) ∧ W.cell? ⟨b, o + k * 4 + 3, none⟩ = some (.int .i64 (sAt B.shots k).hi)))) (.tames [0, 2, 3, 4, 5, 6] (.two 1 7 (.one 7 (.one 8 (.tames [9] (.one 10 (.done))))) (.one 1 (.one 8 (.tames [9] (.one 10 (.done))))))) (by kernel_rfl) (by kernel_rfl) (by kernel_rfl) (fun c a d v w h => by cases d <;> exact h) ?_ ?_
        · exact HS.out _ (Below.drew hE) bb.drew
        refine pl_tames ?_
        (try simp only [Act.put, List.setIfInBounds_toArray, List.set_cons_zero, List.set_cons_succ])
        repeat (first
          | (refine pl_run (v := ?_) rfl ?_ (fun W hW => ?_) ?_; rotate_left; rfl; ((try dsimp only at hW); go_simp; try with_reducible rfl); (try simp only [Act.put, List.setIfInBounds_toArray, List.set_cons_zero, List.set_cons_succ]))
          | (refine pl_skip rfl ?_ ?_; rfl; (try simp only [Act.put, List.setIfInBounds_toArray, List.set_cons_zero, List.set_cons_succ])))
        refine pl_end ?_
        · obtain ⟨u0, u1, u2, u3⟩ := yy.c4
          obtain ⟨WA, hWA⟩ : ∃ WA, WA = wr.alloc (.cells #[.int .i64 (sAt B.shots k).st, .int .i64 (sAt B.shots k).co, .int .i64 (sAt B.shots k).lo, .int .i64 (sAt B.shots k).hi] 59) := ⟨_, rfl⟩
          have XA : Ext wr WA := by rw [hWA]; exact Ext.alloc _ _
          have oA : WA.ownsRow gn 59 4 (.slice av (keptL B.shots l k).length cv) (keptL B.shots l k).length (flatX (keptL B.shots l k)) := by rw [hWA]; exact Ho.out.alloc _
          have nA := four_new wr (.int .i64 (sAt B.shots k).st) (.int .i64 (sAt B.shots k).co) (.int .i64 (sAt B.shots k).lo) (.int .i64 (sAt B.shots k).hi) 59
          rw [← hWA] at nA
          have zA := XA.size
          have NA := Lib.hid nA
          have OA := Lib.hid oA
          have HWA := Lib.hid hWA
          clear nA oA hWA
          obtain ⟨t0, t1, t2, t3⟩ := (yy.ext XA).c4
          refine pl_two ?_ ?_
          · refine pl_one rfl (by rfl) (fun K hK => ?_)
            go_simp
            skip
            refine hK.out _ _ (HS.out _ (Below.drew hE) bb.drew) ?_
            clear hK K
            (try refine pl_tames ?_)
            (try simp only [Act.put, List.setIfInBounds_toArray, List.set_cons_zero, List.set_cons_succ])
            try ((repeat (first   | (refine pl_run (v := ?_) rfl ?_ (fun W hW => ?_) ?_; rotate_left; rfl; ((try dsimp only at hW); go_simp; try with_reducible rfl); (try simp only [Act.put, List.setIfInBounds_toArray, List.set_cons_zero, List.set_cons_succ]))   | (refine pl_skip rfl ?_ ?_; rfl; (try simp only [Act.put, List.setIfInBounds_toArray, List.set_cons_zero, List.set_cons_succ])))); refine pl_end ?_)
            refine pl_one rfl (by rfl) (fun K hK => ?_)
            go_simp
            rw [← HWA.out]
            refine hK.out _ _ (HS.out _ (Below.drew (hE.trans XA)) (bb.ext XA).drew) ?_
            clear hK K u0 u1 u2 u3 t0 t1 t2 t3
            (try simp only [Act.put, List.setIfInBounds_toArray, List.set_cons_zero, List.set_cons_succ])
            refine pl_one rfl (by rfl) (fun K hK => ?_)
            refine wp_append_own (Operand.tmp 22) (Operand.tmp 28) 24 rfl gn 59 j0 (.agg #[.int .i64 0, .int .i64 0, .int .i64 0, .int .i64 0]) 4 32 Tryd.underlying24 ji jz0 jz1 jz2 rfl (by decide) _ _ _ rfl OA.out ⟨wr.heap.size, 0, none⟩ 1 1 [.int .i64 (sAt B.shots k).st, .int .i64 (sAt B.shots k).co, .int .i64 (sAt B.shots k).lo, .int .i64 (sAt B.shots k).hi] rfl rfl NA.out (by simp [Value.oneCell']) (by unfold maxLen; omega) (by omega) (by show gn ≤ WA.heap.size; omega) ?_
            intro v' w7 hown' hgrow
            have hE7 : Ext w w7 := Below.grown (Below.drew (hE.trans XA)) hgrow (by have := hE.size; show w.heap.size ≤ WA.heap.size; omega) (fun k hk => by have := hbs k hk; omega)
            have hG7 : Below gn wr w7 := Below.grown (Below.drew (XA.mono hgw)) hgrow (by show gn ≤ WA.heap.size; omega) hbs
            have yy7 := yy.below hG7 hgYl
            have bb7 := bb.below hG7 (by omega)
            have rr7 := rr.below hG7 (by omega)
            obtain ⟨⟨av7, cv7, rfl⟩, _⟩ := own_x hown'
            obtain ⟨t0, t1, t2, t3⟩ := yy7.c4
            have f7 := yy7.frozen 3
            refine hK.out _ _ (HS.out _ hE7 bb7) ?_
            clear hK K
            (try simp only [Act.put, List.setIfInBounds_toArray, List.set_cons_zero, List.set_cons_succ])
            refine pl_tames ?_
            (try simp only [Act.put, List.setIfInBounds_toArray, List.set_cons_zero, List.set_cons_succ])
            repeat (first
              | (refine pl_run (v := ?_) rfl ?_ (fun W hW => ?_) ?_; rotate_left; rfl; ((try dsimp only at hW); go_simp; try with_reducible rfl); (try simp only [Act.put, List.setIfInBounds_toArray, List.set_cons_zero, List.set_cons_succ]))
              | (refine pl_skip rfl ?_ ?_; rfl; (try simp only [Act.put, List.setIfInBounds_toArray, List.set_cons_zero, List.set_cons_succ])))
            refine pl_end ?_
            refine pl_one rfl (by rfl) (fun K hK => ?_)
            go_simp
            have y8 := yy7.put 3 (.slice av7 ((keptL B.shots l k).length + 1) cv7)
            have b8 := bb7.far (p := ⟨gY, 3, none⟩) (by show gB ≠ gY; omega) (.slice av7 ((keptL B.shots l k).length + 1) cv7)
            have r8 := rr7.far (p := ⟨gY, 3, none⟩) (by show gR ≠ gY; omega) (.slice av7 ((keptL B.shots l k).length + 1) cv7)
            have o8 := ownsRow_far (p := ⟨gY, 3, none⟩) hown' hgYl (.slice av7 ((keptL B.shots l k).length + 1) cv7)
            have E8 : Ext w (w7.setCell ⟨gY, 3, none⟩ (.slice av7 ((keptL B.shots l k).length + 1) cv7)) := Below.setCell hE7 hwY _
            have G8 : gn ≤ (w7.setCell ⟨gY, 3, none⟩ (.slice av7 ((keptL B.shots l k).length + 1) cv7)).heap.size := by have := hG7.size; simp; omega
            refine hK.out _ _ (HS.out _ E8 b8) ?_
            generalize w7.setCell ⟨gY, 3, none⟩ (.slice av7 ((keptL B.shots l k).length + 1) cv7) = W8 at y8 b8 r8 o8 E8 G8 ⊢
            clear hK K t0 t1 t2 t3 f7
            refine pl_done ?_
            (try simp only [Act.put, List.setIfInBounds_toArray, List.set_cons_zero, List.set_cons_succ])
            have y9 : Blk W8 gY 26 #[.int .i64 B.comp, .slice a1 B.bounds.length c1, .slice a2 B.orders.length c2, .slice av7 ((keptL B.shots l k).length + 1) cv7] := by simpa using y8
            clear y8
            go_wp2
            go_roundw
            case rel => exact ⟨k + 1, _, by omega, by go_num, E8, G8, b8, r8, y9, by rw [hs.out, flatX_snoc]; simpa using o8⟩
            case measure => simp [intOf]; omega
          · refine pl_one rfl (by rfl) (fun K hK => ?_)
            go_simp
            rw [← HWA.out]
            refine hK.out _ _ (HS.out _ (Below.drew (hE.trans XA)) (bb.ext XA).drew) ?_
            clear hK K u0 u1 u2 u3
            (try simp only [Act.put, List.setIfInBounds_toArray, List.set_cons_zero, List.set_cons_succ])
            refine pl_one rfl (by rfl) (fun K hK => ?_)
            go_simp
            skip
            refine hK.out _ _ (HS.out _ (Below.drew (hE.trans XA)) (bb.ext XA).drew) ?_
            clear hK K
            (try refine pl_tames ?_)
            (try simp only [Act.put, List.setIfInBounds_toArray, List.set_cons_zero, List.set_cons_succ])
            try ((repeat (first   | (refine pl_run (v := ?_) rfl ?_ (fun W hW => ?_) ?_; rotate_left; rfl; ((try dsimp only at hW); go_simp; try with_reducible rfl); (try simp only [Act.put, List.setIfInBounds_toArray, List.set_cons_zero, List.set_cons_succ]))   | (refine pl_skip rfl ?_ ?_; rfl; (try simp only [Act.put, List.setIfInBounds_toArray, List.set_cons_zero, List.set_cons_succ])))); refine pl_end ?_)
            clear t0 t1 t2 t3
            refine pl_one rfl (by rfl) (fun K hK => ?_)
            refine wp_append_own (Operand.tmp 22) (Operand.tmp 28) 24 rfl gn 59 j0 (.agg #[.int .i64 0, .int .i64 0, .int .i64 0, .int .i64 0]) 4 32 Tryd.underlying24 ji jz0 jz1 jz2 rfl (by decide) _ _ _ rfl OA.out ⟨wr.heap.size, 0, none⟩ 1 1 [.int .i64 (sAt B.shots k).st, .int .i64 (sAt B.shots k).co, .int .i64 (sAt B.shots k).lo, .int .i64 (sAt B.shots k).hi] rfl rfl NA.out (by simp [Value.oneCell']) (by unfold maxLen; omega) (by omega) (by show gn ≤ WA.heap.size; omega) ?_
            intro v' w7 hown' hgrow
            have hE7 : Ext w w7 := Below.grown (Below.drew (hE.trans XA)) hgrow (by have := hE.size; show w.heap.size ≤ WA.heap.size; omega) (fun k hk => by have := hbs k hk; omega)
            have hG7 : Below gn wr w7 := Below.grown (Below.drew (XA.mono hgw)) hgrow (by show gn ≤ WA.heap.size; omega) hbs
            have yy7 := yy.below hG7 hgYl
            have bb7 := bb.below hG7 (by omega)
            have rr7 := rr.below hG7 (by omega)
            obtain ⟨⟨av7, cv7, rfl⟩, _⟩ := own_x hown'
            obtain ⟨t0, t1, t2, t3⟩ := yy7.c4
            have f7 := yy7.frozen 3
            refine hK.out _ _ (HS.out _ hE7 bb7) ?_
            clear hK K
            (try simp only [Act.put, List.setIfInBounds_toArray, List.set_cons_zero, List.set_cons_succ])
            refine pl_tames ?_
            (try simp only [Act.put, List.setIfInBounds_toArray, List.set_cons_zero, List.set_cons_succ])
            repeat (first
              | (refine pl_run (v := ?_) rfl ?_ (fun W hW => ?_) ?_; rotate_left; rfl; ((try dsimp only at hW); go_simp; try with_reducible rfl); (try simp only [Act.put, List.setIfInBounds_toArray, List.set_cons_zero, List.set_cons_succ]))
              | (refine pl_skip rfl ?_ ?_; rfl; (try simp only [Act.put, List.setIfInBounds_toArray, List.set_cons_zero, List.set_cons_succ])))
            refine pl_end ?_
            refine pl_one rfl (by rfl) (fun K hK => ?_)
            go_simp
            have y8 := yy7.put 3 (.slice av7 ((keptL B.shots l k).length + 1) cv7)
            have b8 := bb7.far (p := ⟨gY, 3, none⟩) (by show gB ≠ gY; omega) (.slice av7 ((keptL B.shots l k).length + 1) cv7)
            have r8 := rr7.far (p := ⟨gY, 3, none⟩) (by show gR ≠ gY; omega) (.slice av7 ((keptL B.shots l k).length + 1) cv7)
            have o8 := ownsRow_far (p := ⟨gY, 3, none⟩) hown' hgYl (.slice av7 ((keptL B.shots l k).length + 1) cv7)
            have E8 : Ext w (w7.setCell ⟨gY, 3, none⟩ (.slice av7 ((keptL B.shots l k).length + 1) cv7)) := Below.setCell hE7 hwY _
            have G8 : gn ≤ (w7.setCell ⟨gY, 3, none⟩ (.slice av7 ((keptL B.shots l k).length + 1) cv7)).heap.size := by have := hG7.size; simp; omega
            refine hK.out _ _ (HS.out _ E8 b8) ?_
            generalize w7.setCell ⟨gY, 3, none⟩ (.slice av7 ((keptL B.shots l k).length + 1) cv7) = W8 at y8 b8 r8 o8 E8 G8 ⊢
            clear hK K t0 t1 t2 t3 f7
            refine pl_done ?_
            (try simp only [Act.put, List.setIfInBounds_toArray, List.set_cons_zero, List.set_cons_succ])
            have y9 : Blk W8 gY 26 #[.int .i64 B.comp, .slice a1 B.bounds.length c1, .slice a2 B.orders.length c2, .slice av7 ((keptL B.shots l k).length + 1) cv7] := by simpa using y8
            clear y8
            go_wp2
            go_roundw
            case rel => exact ⟨k + 1, _, by omega, by go_num, E8, G8, b8, r8, y9, by rw [hs.out, flatX_snoc]; simpa using o8⟩
            case measure => simp [intOf]; omega
      · have hs : Hid (keptL B.shots l (k + 1) = keptL B.shots l k) := Lib.hid (by rw [Hks.out, if_neg hp])
        clear Hks hple
        go_wp2_with (go_at_call 41; refine Hpl.out.mono ?_; rintro e w3 ⟨rfl, rfl⟩)
        go_roundw
        case rel => exact ⟨k + 1, _, by omega, by go_num, hE, hgw, bb, rr, yy, by rw [hs.out]; exact ho⟩
        case measure => simp [intOf]; omega
    · obtain rfl : k = B.shots.length := by omega
      obtain ⟨t0, t1, t2, t3⟩ := yy.c4
      obtain ⟨s0, s1, s2, s3⟩ := rr.c4
      have f0 := rr.frozen 0
      have f1 := rr.frozen 1
      have f2 := rr.frozen 2
      have f3 := rr.frozen 3
      go_wp2
      obtain ⟨hn, a', c', e', hS⟩ := own_shot ho
      simp only [Value.slice.injEq] at e'
      obtain ⟨rfl, -, -⟩ := e'
      clear hS
      obtain ⟨W4, hW4⟩ : ∃ W4, W4 = (((wr.setCell ⟨gR, 0, none⟩ (.int .i64 B.comp)).setCell ⟨gR, 1, none⟩ (.slice a1 B.bounds.length c1)).setCell ⟨gR, 2, none⟩ (.slice a2 B.orders.length c2)).setCell ⟨gR, 3, none⟩ (.slice av (keptL B.shots l B.shots.length).length cv) := ⟨_, rfl⟩
      have t4 : Blk W4 gR 26 #[.int .i64 B.comp, .slice a1 B.bounds.length c1, .slice a2 B.orders.length c2, .slice av (keptL B.shots l B.shots.length).length cv] := by
        rw [hW4]; simpa using (((rr.put 0 (.int .i64 B.comp)).put 1 (.slice a1 B.bounds.length c1)).put 2 (.slice a2 B.orders.length c2)).put 3 (.slice av (keptL B.shots l B.shots.length).length cv)
      have X4 : Ext w W4 := by rw [hW4]; exact Below.setCell (Below.setCell (Below.setCell (Below.setCell hE hgR' _) hgR' _) hgR' _) hgR' _
      have hRW : gR < gn := by omega
      have o4 : W4.ownsRow gn 59 4 (.slice av (keptL B.shots l B.shots.length).length cv) (keptL B.shots l B.shots.length).length (flatX (keptL B.shots l B.shots.length)) := by rw [hW4]; exact ownsRow_far (ownsRow_far (ownsRow_far (ownsRow_far ho hRW _) hRW _) hRW _) hRW _
      rw [← hW4]
      clear hW4 t0 t1 t2 t3 s0 s1 s2 s3 f0 f1 f2 f3
      obtain ⟨z0, z1, z2, z3⟩ := t4.c4
      have hkl := keptL_len B.shots l B.shots.length
      have hb4 := HB.out.ext X4
      have hBook : BookA W4 (withoutB B l) a1 a2 av := by
        obtain ⟨hn, a', c', e', hS⟩ := own_shot o4
        simp only [Value.slice.injEq] at e'
        obtain ⟨rfl, -, -⟩ := e'
        exact ⟨hb4.bounds, hb4.orders, hS, hb4.l1, hb4.l2, by show (keptL B.shots l B.shots.length).length ≤ _; have := hb4.l3; omega⟩
      refine bodyPost_ret (v := .agg #[.int .i64 B.comp, .slice a1 B.bounds.length c1, .slice a2 B.orders.length c2, .slice av (keptL B.shots l B.shots.length).length cv]) ?_ rfl ⟨⟨_, _, rfl, hBook⟩, X4⟩
      simp [results, Tryd.results49, go_sem, z0, z1, z2, z3]
end Go.Proofs.YtnhdcdhpfgdphaaDoor
