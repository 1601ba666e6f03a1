/-
  only: a book of which the minute of a shot is known.
-/
import Derived.Test.YtnhdcdhpfgdphaaDoorLK
import Derived.Test.YtnhdcdhpfgdphaaDoorLB
set_option linter.unusedSimpArgs false
set_option linter.unusedVariables false
namespace Go.Proofs.YtnhdcdhpfgdphaaDoor
open Go Go.RowKit

/-- A shot whose minute is known. -/
def atX (x : Sh) (m : Int) : Sh := { x with lo := m, hi := m }
def onlyB (B : Bk) (k : Nat) (m : Int) : Bk := { B with shots := B.shots.set k (atX (sAt B.shots k) m) }
theorem sAt_set {ss : List Sh} {k : Nat} (x : Sh) (hk : k < ss.length) (i : Nat) : sAt (ss.set k x) i = if i = k then x else sAt ss i := by
  by_cases h : i = k
  · subst h; simp [sAt, List.getD, hk]
  · rw [if_neg h]
    simp only [sAt, List.getD]
    rw [List.getElem?_set_ne (by omega)]
theorem own_x_open {w : World} {base n : Nat} {v : Value} {xs : List Value} (h : w.ownsRow base 59 4 v n xs) (hn : 0 < n) : ∃ g cap, v = .slice (some ⟨g, 0, none⟩) n cap ∧ n ≤ cap ∧ cap ≤ maxLen := by
  rcases h.2 with ⟨_, h1⟩ | ⟨g, cap, cur, rfl, hg, hh, h1, h2, h3, h4⟩
  · omega
  · exact ⟨g, cap, rfl, h1, h2⟩
theorem shotA_same {W1 W2 : World} {g o : Nat} {L : List Sh} (h : ShotA W1 (some ⟨g, o, none⟩) L) (he : W2.heap[g]? = W1.heap[g]?) : ShotA W2 (some ⟨g, o, none⟩) L := fun hp => by
  obtain ⟨b, o', e, hl, hc⟩ := h hp
  simp only [Option.some.injEq, Addr.mk.injEq] at e
  obtain ⟨rfl, rfl, -⟩ := e
  have hcell : ∀ i, W2.cell? ⟨g, i, none⟩ = W1.cell? ⟨g, i, none⟩ := fun i => by unfold World.cell?; rw [he]
  refine ⟨g, o, rfl, ?_, fun i hi => ⟨by rw [hcell]; exact (hc i hi).1, by rw [hcell]; exact (hc i hi).2.1, by rw [hcell]; exact (hc i hi).2.2.1, by rw [hcell]; exact (hc i hi).2.2.2⟩⟩
  have h0 := (hc 0 hp).1
  rw [← hcell] at h0
  exact lt_of_cell h0
/-- One shot of a row of the call's own gets another minute. -/
theorem own_shot_set {w : World} {base n g cap : Nat} {L : List Sh} (h : w.ownsRow base 59 4 (.slice (some ⟨g, 0, none⟩) n cap) n (flatX L)) {k : Nat} (hk : k < L.length) (m : Int) :
    base ≤ g ∧ g < w.heap.size ∧ (w.cell? ⟨g, k * 4 + 2, none⟩).isSome = true ∧ (w.cell? ⟨g, k * 4 + 2 + 1, none⟩).isSome = true ∧ (∀ i, w.frozen? ⟨g, i, none⟩ = false) ∧
      ∀ W : World, W.heap[g]? = w.heap[g]? → ShotA ((W.setCell ⟨g, k * 4 + 2, none⟩ (.int .i64 m)).setCell ⟨g, k * 4 + 2 + 1, none⟩ (.int .i64 m)) (some ⟨g, 0, none⟩) (L.set k (atX (sAt L k) m)) := by
  have hl : n = L.length := by have := h.1; rw [flatX_len] at this; omega
  rcases h.2 with ⟨e, _⟩ | ⟨g', cap', cur, e, hg, hh, h1, h2, h3, h4⟩
  · cases e
  · simp only [Value.slice.injEq, Option.some.injEq, Addr.mk.injEq] at e
    obtain ⟨⟨rfl, -, -⟩, -, rfl⟩ := e
    have hb : Blk w g 59 cur := hh
    have hcell : ∀ i, i < L.length → cur[i * 4]? = some (.int .i64 (sAt L i).st) ∧ cur[i * 4 + 1]? = some (.int .i64 (sAt L i).co) ∧ cur[i * 4 + 2]? = some (.int .i64 (sAt L i).lo) ∧ cur[i * 4 + 3]? = some (.int .i64 (sAt L i).hi) := by
      intro i hi
      obtain ⟨f1, f2, f3, f4⟩ := flatX_at L i hi
      rw [← h4, List.getElem?_take, if_pos (by omega)] at f1 f2 f3 f4
      exact ⟨by simpa using f1, by simpa using f2, by simpa using f3, by simpa using f4⟩
    refine ⟨hg, hb.lt, by rw [hb.cell (hcell k hk).2.2.1]; rfl, by rw [hb.cell (hcell k hk).2.2.2]; rfl, fun i => hb.frozen i, fun W hW _ => ⟨g, 0, rfl, ?_, fun i hi => ?_⟩⟩
    · have hbW : Blk W g 59 cur := hW.trans hh
      exact ((hbW.put _ _).put _ _).lt
    · have hbW : Blk W g 59 cur := hW.trans hh
      have hb2 := (hbW.put (k * 4 + 2) (.int .i64 m)).put (k * 4 + 2 + 1) (.int .i64 m)
      rw [List.length_set] at hi
      have hc := hcell i hi
      have hck := hcell k hk
      have hs1 := (Array.getElem?_eq_some_iff.1 hck.2.2.1).1
      have hs2 := (Array.getElem?_eq_some_iff.1 hck.2.2.2).1
      have far : ∀ j, j ≠ k * 4 + 2 → j ≠ k * 4 + 2 + 1 → ((cur.setIfInBounds (k * 4 + 2) (.int .i64 m)).setIfInBounds (k * 4 + 2 + 1) (.int .i64 m))[j]? = cur[j]? := fun j e1 e2 => by
        rw [Array.getElem?_setIfInBounds_ne (Ne.symm e2), Array.getElem?_setIfInBounds_ne (Ne.symm e1)]
      rw [sAt_set _ hk]
      by_cases e : i = k
      · subst e
        rw [if_pos rfl]
        refine ⟨hb2.cell ?_, hb2.cell ?_, hb2.cell ?_, hb2.cell ?_⟩
        · rw [far _ (by omega) (by omega), Nat.zero_add]; exact hc.1
        · rw [far _ (by omega) (by omega), Nat.zero_add]; exact hc.2.1
        · rw [Nat.zero_add, Array.getElem?_setIfInBounds_ne (by omega), Array.getElem?_setIfInBounds_self_of_lt hs1]; rfl
        · rw [Nat.zero_add, Array.getElem?_setIfInBounds_self_of_lt (by simpa using hs2)]; rfl
      · rw [if_neg e]
        refine ⟨hb2.cell ?_, hb2.cell ?_, hb2.cell ?_, hb2.cell ?_⟩
        · rw [far _ (by omega) (by omega), Nat.zero_add]; exact hc.1
        · rw [far _ (by omega) (by omega), Nat.zero_add]; exact hc.2.1
        · rw [far _ (by omega) (by omega), Nat.zero_add]; exact hc.2.2.1
        · rw [far _ (by omega) (by omega), Nat.zero_add]; exact hc.2.2.2

set_option maxRecDepth 100000 in
set_option maxHeartbeats 2000000 in
theorem only_any (B : Bk) (a1 a2 a3 : Option Addr) (c1 c2 c3 : Nat) (k : Nat) (m : Int) (w : World) (h : BookA w B a1 a2 a3) (hk : k < B.shots.length) (hb4 : B.shots.length ≤ 1000) :
    Calls Tryd.prog 47 #[.agg #[.int .i64 B.comp, .slice a1 B.bounds.length c1, .slice a2 B.orders.length c2, .slice a3 B.shots.length c3], .int .i64 k, .int .i64 m] w
      fun e w' => (∃ a cp, e = .returned (.agg #[.int .i64 B.comp, .slice a1 B.bounds.length c1, .slice a2 B.orders.length c2, .slice a B.shots.length cp]) ∧ BookA w' (onlyB B k m) a1 a2 a) ∧ Ext w w' := by
  obtain ⟨i0, hi, hz0, hz1, hz2⟩ := info_parts shot_info
  have HB := Lib.hid h
  clear h
  go_enter Tryd.func47, Tryd.ntmps47
  go_upto_region 1 with (fail)
  obtain ⟨W0, hW0⟩ : ∃ W0, W0 = (w.alloc (.cells #[.int .i64 B.comp, .slice a1 B.bounds.length c1, .slice a2 B.orders.length c2, .slice a3 B.shots.length c3] 26)).alloc (.cells #[.int .i64 0, .slice none 0 0, .slice none 0 0, .slice none 0 0] 26) := ⟨_, rfl⟩
  have b0 : Blk W0 w.heap.size 26 #[.int .i64 B.comp, .slice a1 B.bounds.length c1, .slice a2 B.orders.length c2, .slice a3 B.shots.length c3] := by rw [hW0]; exact (Blk.new _ _ _).alloc _
  have r0 : Blk W0 (w.heap.size + 1) 26 #[.int .i64 0, .slice none 0 0, .slice none 0 0, .slice none 0 0] := by rw [hW0]; have := Blk.new (w.alloc (.cells #[.int .i64 B.comp, .slice a1 B.bounds.length c1, .slice a2 B.orders.length c2, .slice a3 B.shots.length c3] 26)) 26 #[.int .i64 0, .slice none 0 0, .slice none 0 0, .slice none 0 0]; simpa using this
  have E0 : Ext w W0 := by rw [hW0]; exact (Ext.alloc _ _).trans (Ext.alloc _ _)
  rw [← hW0]
  clear hW0
  obtain ⟨gR, hgR⟩ : ∃ g, g = w.heap.size + 1 := ⟨_, rfl⟩
  rw [← hgR] at r0 ⊢
  have hgR' : w.heap.size ≤ gR := by omega
  clear hgR
  obtain ⟨gB, hgB⟩ : ∃ g, g = w.heap.size := ⟨_, rfl⟩
  rw [← hgB] at b0 ⊢
  clear hgB
  obtain ⟨x0, x1, x2, x3⟩ := b0.c4
  go_upto_region 2 with (fail)
  obtain ⟨W1, hW1⟩ : ∃ W1, W1 = W0.alloc (.cells #[.int .i64 B.comp, .slice a1 B.bounds.length c1, .slice a2 B.orders.length c2, .slice a3 B.shots.length c3] 26) := ⟨_, rfl⟩
  have X1 : Ext W0 W1 := by rw [hW1]; exact Ext.alloc _ _
  have y1 : Blk W1 W0.heap.size 26 #[.int .i64 B.comp, .slice a1 B.bounds.length c1, .slice a2 B.orders.length c2, .slice a3 B.shots.length c3] := by rw [hW1]; exact Blk.new _ _ _
  rw [← hW1]
  clear hW1
  obtain ⟨gY, hgY⟩ : ∃ g, g = W0.heap.size := ⟨_, rfl⟩
  rw [← hgY] at y1 ⊢
  have hRY : gR < gY := by rw [hgY]; exact r0.lt
  have hwY : w.heap.size ≤ gY := by omega
  have hgYl := y1.lt
  clear hgY x0 x1 x2 x3
  obtain ⟨x0, x1, x2, x3⟩ := (b0.ext X1).c4
  obtain ⟨z0, z1, z2, z3⟩ := y1.c4
  have f1 := y1.frozen 3
  have hBA := (HB.out.ext E0).ext X1
  obtain ⟨b, o, e1, hbl, hc⟩ := hBA.shots (by omega)
  have hnews : ∀ j u, (flatX B.shots)[j]? = some u → (W1.alloc (.cells #[] 59)).cell? ((⟨b, o, none⟩ : Addr).add j) = some u := by
    intro j u hj
    have hjl : j < B.shots.length * 4 := by have := (List.getElem?_eq_some_iff.1 hj).1; rwa [flatX_len] at this
    have hq := hc (j / 4) (by omega)
    obtain ⟨g1, g2, g3, g4⟩ := flatX_at B.shots (j / 4) (by omega)
    rcases (by omega : j = j / 4 * 4 ∨ j = j / 4 * 4 + 1 ∨ j = j / 4 * 4 + 2 ∨ j = j / 4 * 4 + 3) with e | e | e | e
    · rw [← e] at g1 hq
      rw [g1] at hj
      cases hj
      exact (Ext.alloc W1 _).keep (by rw [add_at]; exact hq.1)
    · rw [← e] at g2
      rw [g2] at hj
      cases hj
      have := hq.2.1
      rw [Nat.add_assoc, ← e] at this
      exact (Ext.alloc W1 _).keep (by rw [add_at]; exact this)
    · rw [← e] at g3
      rw [g3] at hj
      cases hj
      have := hq.2.2.1
      rw [Nat.add_assoc, ← e] at this
      exact (Ext.alloc W1 _).keep (by rw [add_at]; exact this)
    · rw [← e] at g4
      rw [g4] at hj
      cases hj
      have := hq.2.2.2
      rw [Nat.add_assoc, ← e] at this
      exact (Ext.alloc W1 _).keep (by rw [add_at]; exact this)
  have hone : ∀ u ∈ flatX B.shots, u.oneCell' = true := by
    intro u hu
    simp only [flatX, List.mem_flatMap, List.mem_cons, List.not_mem_nil, or_false] at hu
    obtain ⟨p, _, rfl | rfl | rfl | rfl⟩ := hu <;> rfl
  have hown : (W1.alloc (.cells #[] 59)).ownsRow W1.heap.size 59 4 (.slice (some ⟨W1.heap.size, 0, none⟩) 0 0) 0 [] :=
    ⟨rfl, .inr ⟨W1.heap.size, 0, #[], rfl, Nat.le_refl _, heap_new W1 _, Nat.le_refl _, Nat.zero_le _, rfl, rfl⟩⟩
  clear hc hBA
  subst e1
  obtain ⟨s0, s1, s2, s3⟩ := (b0.ext (X1.trans (Ext.alloc W1 (.cells #[] 59)))).c4
  go_upto_region 3 with (at_builtin; go_must (refine wpList_append_own _ rfl _ _ 24 rfl W1.heap.size 59 i0 (.agg #[.int .i64 0, .int .i64 0, .int .i64 0, .int .i64 0]) 4 32 Tryd.underlying24 hi hz0 hz1 hz2 rfl (by decide) _ _ _ rfl hown ⟨b, o, none⟩ B.shots.length c3 (flatX B.shots) rfl (flatX_len B.shots) hnews hone (by unfold maxLen; omega) (by omega) (by simp) ?_; intro v' w7 hown' hgrow _; have hE7 : Ext W1 w7 := Below.grown (Ext.alloc W1 _) hgrow (by simp) (fun k e => by cases e; exact Nat.le_refl _); rw [Nat.zero_add, List.nil_append] at hown'; obtain ⟨g, cap, rfl, g2, g3⟩ := own_x_open hown' (by omega); unfold maxLen at g3; obtain ⟨u0, u1, u2, u3⟩ := (y1.ext hE7).c4; have f7 := (y1.ext hE7).frozen 3))
  obtain ⟨W8, hW8⟩ : ∃ W8, W8 = w7.setCell ⟨gY, 3, none⟩ (.slice (some ⟨g, 0, none⟩) B.shots.length cap) := ⟨_, rfl⟩
  obtain ⟨l1, l2g, l3g, l4g, l5g, l6g⟩ := own_shot_set hown' hk m
  have hne : g ≠ gY := by omega
  have hneR : g ≠ gR := by omega
  have t8 : Blk W8 gY 26 #[.int .i64 B.comp, .slice a1 B.bounds.length c1, .slice a2 B.orders.length c2, .slice (some ⟨g, 0, none⟩) B.shots.length cap] := by rw [hW8]; simpa using (y1.ext hE7).put 3 (.slice (some ⟨g, 0, none⟩) B.shots.length cap)
  have r8 : Blk W8 gR 26 #[.int .i64 0, .slice none 0 0, .slice none 0 0, .slice none 0 0] := by rw [hW8]; exact (r0.ext (X1.trans hE7)).far (by show gR ≠ gY; omega) _
  have X8 : Ext w W8 := by rw [hW8]; exact Below.setCell (E0.trans (X1.trans hE7)) hwY _
  have hg8 : W8.heap[g]? = w7.heap[g]? := by rw [hW8]; exact Below.heap_setCell w7 ⟨gY, 3, none⟩ _ g hne
  have hgl8 : g < W8.heap.size := by
    have : w7.heap[g]? ≠ none := by simp [l2g]
    rw [← hg8] at this
    simpa using this
  rw [← hW8]
  clear hW8 x0 x1 x2 x3 z0 z1 z2 z3 u0 u1 u2 u3 s0 s1 s2 s3 f1 f7 hown hown' hnews hone
  have HS := Lib.hid (fun W (hW : Ext W8 W) => ((t8.ext hW).c4 : (W.cell? ⟨gY, 0, none⟩ = some (.int .i64 B.comp) ∧ W.cell? ⟨gY, 1, none⟩ = some (.slice a1 B.bounds.length c1) ∧ W.cell? ⟨gY, 2, none⟩ = some (.slice a2 B.orders.length c2) ∧ W.cell? ⟨gY, 3, none⟩ = some (.slice (some ⟨g, 0, none⟩) B.shots.length cap))))
  refine wp_plan (fun W => (W.cell? ⟨gY, 0, none⟩ = some (.int .i64 B.comp) ∧ W.cell? ⟨gY, 1, none⟩ = some (.slice a1 B.bounds.length c1) ∧ W.cell? ⟨gY, 2, none⟩ = some (.slice a2 B.orders.length c2) ∧ W.cell? ⟨gY, 3, none⟩ = some (.slice (some ⟨g, 0, none⟩) B.shots.length cap))) (.tames [0, 1, 2, 3] (.one 4 (.tames [5, 6] (.one 7 (.done))))) (by kernel_rfl) (by kernel_rfl) (by kernel_rfl) (fun c a d v w h => by cases d <;> exact h) ?_ ?_
  · exact HS.out _ (Ext.drew _)
  refine pl_tames ?_
  (try simp only [Act.put, List.setIfInBounds_toArray, List.set_cons_zero, List.set_cons_succ])
  repeat (first
    | (refine pl_run (v := ?_) rfl ?_ (fun W hW => ?_) ?_; rotate_left; rfl; ((try dsimp only at hW); go_simp; try with_reducible rfl); (try simp only [Act.put, List.setIfInBounds_toArray, List.set_cons_zero, List.set_cons_succ]))
    | (refine pl_skip rfl ?_ ?_; rfl; (try simp only [Act.put, List.setIfInBounds_toArray, List.set_cons_zero, List.set_cons_succ])))
  refine pl_end ?_
  refine pl_one rfl (by rfl) (fun K hK => ?_)
  go_simp
  (go_at_call 56; refine (just_any _ _).mono ?_; rintro e w9 ⟨rfl, hV9⟩)
  refine hK.out _ _ (HS.out _ ((Ext.drew _).trans hV9)) ?_
  clear hK K
  (try refine pl_tames ?_)
  (try simp only [Act.put, List.setIfInBounds_toArray, List.set_cons_zero, List.set_cons_succ])
  try ((repeat (first   | (refine pl_run (v := ?_) rfl ?_ (fun W hW => ?_) ?_; rotate_left; rfl; ((try dsimp only at hW); go_simp; try with_reducible rfl); (try simp only [Act.put, List.setIfInBounds_toArray, List.set_cons_zero, List.set_cons_succ]))   | (refine pl_skip rfl ?_ ?_; rfl; (try simp only [Act.put, List.setIfInBounds_toArray, List.set_cons_zero, List.set_cons_succ])))); refine pl_end ?_)
  have E9 := (Ext.drew W8).trans hV9
  have hg9 : w9.heap[g]? = w7.heap[g]? := (E9.block g hgl8).trans hg8
  have c9 : ∀ i, w9.cell? ⟨g, i, none⟩ = w7.cell? ⟨g, i, none⟩ := fun i => by unfold World.cell?; rw [hg9]
  have fz9 : ∀ i, w9.frozen? ⟨g, i, none⟩ = false := fun i => by rw [← l5g i]; unfold World.frozen?; rw [hg9]
  obtain ⟨u0, k0⟩ := Option.isSome_iff_exists.1 l3g
  obtain ⟨u1, k1⟩ := Option.isSome_iff_exists.1 l4g
  rw [← c9] at k0 k1
  have g0 := fz9 (k * 4 + 2)
  have g1 := fz9 (k * 4 + 2 + 1)
  have hspan := l6g w9 hg9
  have t10 := ((t8.ext E9).far (p := ⟨g, k * 4 + 2, none⟩) (by show gY ≠ g; omega) (.int .i64 m)).far (p := ⟨g, k * 4 + 2 + 1, none⟩) (by show gY ≠ g; omega) (.int .i64 m)
  have r10 := ((r8.ext E9).far (p := ⟨g, k * 4 + 2, none⟩) (by show gR ≠ g; omega) (.int .i64 m)).far (p := ⟨g, k * 4 + 2 + 1, none⟩) (by show gR ≠ g; omega) (.int .i64 m)
  have hwg : w.heap.size ≤ g := by omega
  have X10 : Ext w ((w9.setCell ⟨g, k * 4 + 2, none⟩ (.int .i64 m)).setCell ⟨g, k * 4 + 2 + 1, none⟩ (.int .i64 m)) := Below.setCell (Below.setCell (X8.trans E9) hwg _) hwg _
  clear HS c9 fz9 l3g l4g l5g l6g hg9
  refine pl_one rfl (by rfl) (fun K hK => ?_)
  go_simp
  skip
  refine hK.out _ _ (t10.c4) ?_
  clear hK K
  (try refine pl_tames ?_)
  (try simp only [Act.put, List.setIfInBounds_toArray, List.set_cons_zero, List.set_cons_succ])
  try ((repeat (first   | (refine pl_run (v := ?_) rfl ?_ (fun W hW => ?_) ?_; rotate_left; rfl; ((try dsimp only at hW); go_simp; try with_reducible rfl); (try simp only [Act.put, List.setIfInBounds_toArray, List.set_cons_zero, List.set_cons_succ]))   | (refine pl_skip rfl ?_ ?_; rfl; (try simp only [Act.put, List.setIfInBounds_toArray, List.set_cons_zero, List.set_cons_succ])))); refine pl_end ?_)
  refine pl_done ?_
  (try simp only [Act.put])
  obtain ⟨W10, hW10⟩ : ∃ W10, W10 = (w9.setCell ⟨g, k * 4 + 2, none⟩ (.int .i64 m)).setCell ⟨g, k * 4 + 2 + 1, none⟩ (.int .i64 m) := ⟨_, rfl⟩
  rw [← hW10] at t10 r10 X10 hspan ⊢
  clear hW10 k0 k1 g0 g1
  obtain ⟨x0, x1, x2, x3⟩ := t10.c4
  obtain ⟨z0, z1, z2, z3⟩ := r10.c4
  have f0 := r10.frozen 0
  have f1 := r10.frozen 1
  have f2 := r10.frozen 2
  have f3 := r10.frozen 3
  go_wp2
  obtain ⟨W11, hW11⟩ : ∃ W11, W11 = (((W10.setCell ⟨gR, 0, none⟩ (.int .i64 B.comp)).setCell ⟨gR, 1, none⟩ (.slice a1 B.bounds.length c1)).setCell ⟨gR, 2, none⟩ (.slice a2 B.orders.length c2)).setCell ⟨gR, 3, none⟩ (.slice (some ⟨g, 0, none⟩) B.shots.length cap) := ⟨_, rfl⟩
  have r11 : Blk W11 gR 26 #[.int .i64 B.comp, .slice a1 B.bounds.length c1, .slice a2 B.orders.length c2, .slice (some ⟨g, 0, none⟩) B.shots.length cap] := by
    rw [hW11]; simpa using (((r10.put 0 (.int .i64 B.comp)).put 1 (.slice a1 B.bounds.length c1)).put 2 (.slice a2 B.orders.length c2)).put 3 (.slice (some ⟨g, 0, none⟩) B.shots.length cap)
  have X11 : Ext w W11 := by rw [hW11]; exact Below.setCell (Below.setCell (Below.setCell (Below.setCell X10 hgR' _) hgR' _) hgR' _) hgR' _
  have hg11 : W11.heap[g]? = W10.heap[g]? := by
    rw [hW11, Below.heap_setCell _ ⟨gR, 3, none⟩ _ g hneR, Below.heap_setCell _ ⟨gR, 2, none⟩ _ g hneR, Below.heap_setCell _ ⟨gR, 1, none⟩ _ g hneR, Below.heap_setCell _ ⟨gR, 0, none⟩ _ g hneR]
  rw [← hW11]
  clear hW11 x0 x1 x2 x3 z0 z1 z2 z3 f0 f1 f2 f3
  obtain ⟨z0, z1, z2, z3⟩ := r11.c4
  have hBf := HB.out.ext X11
  refine bodyPost_ret (v := .agg #[.int .i64 B.comp, .slice a1 B.bounds.length c1, .slice a2 B.orders.length c2, .slice (some ⟨g, 0, none⟩) B.shots.length cap]) ?_ rfl ⟨⟨_, _, rfl, hBf.bounds, hBf.orders, shotA_same hspan hg11, hBf.l1, hBf.l2, by simp only [onlyB, List.length_set]; exact hBf.l3⟩, X11⟩
  simp [results, Tryd.results47, go_sem, z0, z1, z2, z3]
end Go.Proofs.YtnhdcdhpfgdphaaDoor
