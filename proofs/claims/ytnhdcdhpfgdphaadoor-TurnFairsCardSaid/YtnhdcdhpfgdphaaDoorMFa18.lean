/-
  only: a book of which the minute of a shot is known.
-/
import Derived.Test.YtnhdcdhpfgdphaaDoorMFa16
import Derived.Test.YtnhdcdhpfgdphaaDoorMFa12
import Derived.Test.YtnhdcdhpfgdphaaDoorMFa17
import Derived.Test.YtnhdcdhpfgdphaaDoorMFa9
set_option linter.unusedSimpArgs false
set_option linter.unusedVariables false
namespace Go.Proofs.YtnhdcdhpfgdphaaDoor
open Go Go.RowKit

/-- A shot whose minute is known. -/
def atX (x : Sh) (m : Int) : Sh := { x with lo := m, hi := m }
def onlyB (B : Bk) (k : Nat) (m : Int) : Bk := { B with shots := B.shots.set k (atX (sAt B.shots k) m) }
theorem sAt_set {ss : List Sh} {k : Nat} (x : Sh) (hk : k < ss.length) (i : Nat) : sAt (ss.set k x) i = if i = k then x else sAt ss i := by
  by_cases h : i = k
  · subst h; simp [sAt, List.getD, hk]
  · rw [if_neg h]
    simp only [sAt, List.getD]
    rw [List.getElem?_set_ne (by omega)]
theorem own_x_open {w : World} {base n : Nat} {v : Value} {xs : List Value} (h : w.ownsRow base 59 4 v n xs) (hn : 0 < n) : ∃ g cap, v = .slice (some ⟨g, 0, none⟩) n cap ∧ n ≤ cap ∧ cap ≤ maxLen := by
  rcases h.2 with ⟨_, h1⟩ | ⟨g, cap, cur, rfl, hg, hh, h1, h2, h3, h4⟩
  · omega
  · exact ⟨g, cap, rfl, h1, h2⟩
theorem shotA_same {W1 W2 : World} {g o : Nat} {L : List Sh} (h : ShotA W1 (some ⟨g, o, none⟩) L) (he : W2.heap[g]? = W1.heap[g]?) : ShotA W2 (some ⟨g, o, none⟩) L := fun hp => by
  obtain ⟨b, o', e, hl, hc⟩ := h hp
  simp only [Option.some.injEq, Addr.mk.injEq] at e
  obtain ⟨rfl, rfl, -⟩ := e
  have hcell : ∀ i, W2.cell? ⟨g, i, none⟩ = W1.cell? ⟨g, i, none⟩ := fun i => by unfold World.cell?; rw [he]
  refine ⟨g, o, rfl, ?_, fun i hi => ⟨by rw [hcell]; exact (hc i hi).1, by rw [hcell]; exact (hc i hi).2.1, by rw [hcell]; exact (hc i hi).2.2.1, by rw [hcell]; exact (hc i hi).2.2.2⟩⟩
  have h0 := (hc 0 hp).1
  rw [← hcell] at h0
  exact lt_of_cell h0
/-- One shot of a row of the call's own gets another minute. -/
theorem own_shot_set {w : World} {base n g cap : Nat} {L : List Sh} (h : w.ownsRow base 59 4 (.slice (some ⟨g, 0, none⟩) n cap) n (flatX L)) {k : Nat} (hk : k < L.length) (m : Int) :
    base ≤ g ∧ g < w.heap.size ∧ (w.cell? ⟨g, k * 4 + 2, none⟩).isSome = true ∧ (w.cell? ⟨g, k * 4 + 2 + 1, none⟩).isSome = true ∧ (∀ i, w.frozen? ⟨g, i, none⟩ = false) ∧
      ∀ W : World, W.heap[g]? = w.heap[g]? → ShotA ((W.setCell ⟨g, k * 4 + 2, none⟩ (.int .i64 m)).setCell ⟨g, k * 4 + 2 + 1, none⟩ (.int .i64 m)) (some ⟨g, 0, none⟩) (L.set k (atX (sAt L k) m)) := by
  have hl : n = L.length := by have := h.1; rw [flatX_len] at this; omega
  rcases h.2 with ⟨e, _⟩ | ⟨g', cap', cur, e, hg, hh, h1, h2, h3, h4⟩
  · cases e
  · simp only [Value.slice.injEq, Option.some.injEq, Addr.mk.injEq] at e
    obtain ⟨⟨rfl, -, -⟩, -, rfl⟩ := e
    have hb : Blk w g 59 cur := hh
    have hcell : ∀ i, i < L.length → cur[i * 4]? = some (.int .i64 (sAt L i).st) ∧ cur[i * 4 + 1]? = some (.int .i64 (sAt L i).co) ∧ cur[i * 4 + 2]? = some (.int .i64 (sAt L i).lo) ∧ cur[i * 4 + 3]? = some (.int .i64 (sAt L i).hi) := by
      intro i hi
      obtain ⟨f1, f2, f3, f4⟩ := flatX_at L i hi
      rw [← h4, List.getElem?_take, if_pos (by omega)] at f1 f2 f3 f4
      exact ⟨by simpa using f1, by simpa using f2, by simpa using f3, by simpa using f4⟩
    refine ⟨hg, hb.lt, by rw [hb.cell (hcell k hk).2.2.1]; rfl, by rw [hb.cell (hcell k hk).2.2.2]; rfl, fun i => hb.frozen i, fun W hW _ => ⟨g, 0, rfl, ?_, fun i hi => ?_⟩⟩
    · have hbW : Blk W g 59 cur := hW.trans hh
      exact ((hbW.put _ _).put _ _).lt
    · have hbW : Blk W g 59 cur := hW.trans hh
      have hb2 := (hbW.put (k * 4 + 2) (.int .i64 m)).put (k * 4 + 2 + 1) (.int .i64 m)
      rw [List.length_set] at hi
      have hc := hcell i hi
      have hck := hcell k hk
      have hs1 := (Array.getElem?_eq_some_iff.1 hck.2.2.1).1
      have hs2 := (Array.getElem?_eq_some_iff.1 hck.2.2.2).1
      have far : ∀ j, j ≠ k * 4 + 2 → j ≠ k * 4 + 2 + 1 → ((cur.setIfInBounds (k * 4 + 2) (.int .i64 m)).setIfInBounds (k * 4 + 2 + 1) (.int .i64 m))[j]? = cur[j]? := fun j e1 e2 => by
        rw [Array.getElem?_setIfInBounds_ne (Ne.symm e2), Array.getElem?_setIfInBounds_ne (Ne.symm e1)]
      rw [sAt_set _ hk]
      by_cases e : i = k
      · subst e
        rw [if_pos rfl]
        refine ⟨hb2.cell ?_, hb2.cell ?_, hb2.cell ?_, hb2.cell ?_⟩
        · rw [far _ (by omega) (by omega), Nat.zero_add]; exact hc.1
        · rw [far _ (by omega) (by omega), Nat.zero_add]; exact hc.2.1
        · rw [Nat.zero_add, Array.getElem?_setIfInBounds_ne (by omega), Array.getElem?_setIfInBounds_self_of_lt hs1]; rfl
        · rw [Nat.zero_add, Array.getElem?_setIfInBounds_self_of_lt (by simpa using hs2)]; rfl
      · rw [if_neg e]
        refine ⟨hb2.cell ?_, hb2.cell ?_, hb2.cell ?_, hb2.cell ?_⟩
        · rw [far _ (by omega) (by omega), Nat.zero_add]; exact hc.1
        · rw [far _ (by omega) (by omega), Nat.zero_add]; exact hc.2.1
        · rw [far _ (by omega) (by omega), Nat.zero_add]; exact hc.2.2.1
        · rw [far _ (by omega) (by omega), Nat.zero_add]; exact hc.2.2.2

set_option maxRecDepth 100000 in
set_option maxHeartbeats 2000000 in
theorem only_any (B : Bk) (a1 a2 a3 : Option Addr) (c1 c2 c3 : Nat) (k : Nat) (m : Int) (w : World) (h : BookA w B a1 a2 a3) (hk : k < B.shots.length) (hb4 : B.shots.length ≤ 1000) :
    Calls Tryd.prog 47 #[.agg #[.int .i64 B.comp, .slice a1 B.bounds.length c1, .slice a2 B.orders.length c2, .slice a3 B.shots.length c3], .int .i64 k, .int .i64 m] w
      fun e w' => (∃ a cp, e = .returned (.agg #[.int .i64 B.comp, .slice a1 B.bounds.length c1, .slice a2 B.orders.length c2, .slice a B.shots.length cp]) ∧ BookA w' (onlyB B k m) a1 a2 a) ∧ Ext w w' := by
  obtain ⟨i0, hi, hz0, hz1, hz2⟩ := info_parts shot_info
  have HB := Lib.hid h
  clear h
  go_enter Tryd.func47, Tryd.ntmps47
  go_upto_region 1 with (fail)
  obtain ⟨W0, hW0⟩ : ∃ W0, W0 = (w.alloc (.cells #[.int .i64 B.comp, .slice a1 B.bounds.length c1, .slice a2 B.orders.length c2, .slice a3 B.shots.length c3] 26)).alloc (.cells #[.int .i64 0, .slice none 0 0, .slice none 0 0, .slice none 0 0] 26) := ⟨_, rfl⟩
  have b0 : Blk W0 w.heap.size 26 #[.int .i64 B.comp, .slice a1 B.bounds.length c1, .slice a2 B.orders.length c2, .slice a3 B.shots.length c3] := by rw [hW0]; exact (Blk.new _ _ _).alloc _
  have r0 : Blk W0 (w.heap.size + 1) 26 #[.int .i64 0, .slice none 0 0, .slice none 0 0, .slice none 0 0] := by rw [hW0]; have := Blk.new (w.alloc (.cells #[.int .i64 B.comp, .slice a1 B.bounds.length c1, .slice a2 B.orders.length c2, .slice a3 B.shots.length c3] 26)) 26 #[.int .i64 0, .slice none 0 0, .slice none 0 0, .slice none 0 0]; simpa using this
  have E0 : Ext w W0 := by rw [hW0]; exact (Ext.alloc _ _).trans (Ext.alloc _ _)
  rw [← hW0]
  clear hW0
  obtain ⟨gR, hgR⟩ : ∃ g, g = w.heap.size + 1 := ⟨_, rfl⟩
  rw [← hgR] at r0 ⊢
  have hgR' : w.heap.size ≤ gR := by omega
  clear hgR
  obtain ⟨gB, hgB⟩ : ∃ g, g = w.heap.size := ⟨_, rfl⟩
  rw [← hgB] at b0 ⊢
  clear hgB
  obtain ⟨x0, x1, x2, x3⟩ := b0.c4
  go_upto_region 2 with (fail)
  obtain ⟨W1, hW1⟩ : ∃ W1, W1 = W0.alloc (.cells #[.int .i64 B.comp, .slice a1 B.bounds.length c1, .slice a2 B.orders.length c2, .slice a3 B.shots.length c3] 26) := ⟨_, rfl⟩
  have X1 : Ext W0 W1 := by rw [hW1]; exact Ext.alloc _ _
  have y1 : Blk W1 W0.heap.size 26 #[.int .i64 B.comp, .slice a1 B.bounds.length c1, .slice a2 B.orders.length c2, .slice a3 B.shots.length c3] := by rw [hW1]; exact Blk.new _ _ _
  rw [← hW1]
  clear hW1
  obtain ⟨gY, hgY⟩ : ∃ g, g = W0.heap.size := ⟨_, rfl⟩
  rw [← hgY] at y1 ⊢
  have hRY : gR < gY := by rw [hgY]; exact r0.lt
  have hwY : w.heap.size ≤ gY := by omega
  have hgYl := y1.lt
  clear hgY x0 x1 x2 x3
  obtain ⟨x0, x1, x2, x3⟩ := (b0.ext X1).c4
  obtain ⟨z0, z1, z2, z3⟩ := y1.c4
  have f1 := y1.frozen 3
  have hBA := (HB.out.ext E0).ext X1
  obtain ⟨b, o, e1, hbl, hc⟩ := hBA.shots (by omega)
  have hnews : ∀ j u, (flatX B.shots)[j]? = some u → (W1.alloc (.cells #[] 59)).cell? ((⟨b, o, none⟩ : Addr).add j) = some u := by
    intro j u hj
    have hjl : j < B.shots.length * 4 := by have := (List.getElem?_eq_some_iff.1 hj).1; rwa [flatX_len] at this
    have hq := hc (j / 4) (by omega)
    obtain ⟨g1, g2, g3, g4⟩ := flatX_at B.shots (j / 4) (by omega)
    rcases (by omega : j = j / 4 * 4 ∨ j = j / 4 * 4 + 1 ∨ j = j / 4 * 4 + 2 ∨ j = j / 4 * 4 + 3) with e | e | e | e
    · rw [← e] at g1 hq
      rw [g1] at hj
      cases hj
      exact (Ext.alloc W1 _).keep (by rw [add_at]; exact hq.1)
    · rw [← e] at g2
      rw [g2] at hj
      cases hj
      have := hq.2.1
      rw [Nat.add_assoc, ← e] at this
      exact (Ext.alloc W1 _).keep (by rw [add_at]; exact this)
    · rw [← e] at g3
      rw [g3] at hj
      cases hj
      have := hq.2.2.1
      rw [Nat.add_assoc, ← e] at this
      exact (Ext.alloc W1 _).keep (by rw [add_at]; exact this)
    · rw [← e] at g4
      rw [g4] at hj
      cases hj
      have := hq.2.2.2
      rw [Nat.add_assoc, ← e] at this
      exact (Ext.alloc W1 _).keep (by rw [add_at]; exact this)
  have hone : ∀ u ∈ flatX B.shots, u.oneCell' = true := by
    intro u hu
    simp only [flatX, List.mem_flatMap, List.mem_cons, List.not_mem_nil, or_false] at hu
    obtain ⟨p, _, rfl | rfl | rfl | rfl⟩ := hu <;> rfl
  have hown : (W1.alloc (.cells #[] 59)).ownsRow W1.heap.size 59 4 (.slice (some ⟨W1.heap.size, 0, none⟩) 0 0) 0 [] :=
    ⟨rfl, .inr ⟨W1.heap.size, 0, #[], rfl, Nat.le_refl _, heap_new W1 _, Nat.le_refl _, Nat.zero_le _, rfl, rfl⟩⟩
  clear hc hBA
  subst e1
  obtain ⟨s0, s1, s2, s3⟩ := (b0.ext (X1.trans (Ext.alloc W1 (.cells #[] 59)))).c4
  go_upto_region 3 with (at_builtin; go_must (refine wpList_append_own _ rfl _ _ 24 rfl W1.heap.size 59 i0 (.agg #[.int .i64 0, .int .i64 0, .int .i64 0, .int .i64 0]) 4 32 Tryd.underlying24 hi hz0 hz1 hz2 rfl (by decide) _ _ _ rfl hown ⟨b, o, none⟩ B.shots.length c3 (flatX B.shots) rfl (flatX_len B.shots) hnews hone (by unfold maxLen; omega) (by omega) (by simp) ?_; intro v' w7 hown' hgrow _; have hE7 : Ext W1 w7 := Below.grown (Ext.alloc W1 _) hgrow (by simp) (fun k e => by cases e; exact Nat.le_refl _); rw [Nat.zero_add, List.nil_append] at hown'; obtain ⟨g, cap, rfl, g2, g3⟩ := own_x_open hown' (by omega); unfold maxLen at g3; obtain ⟨u0, u1, u2, u3⟩ := (y1.ext hE7).c4; have f7 := (y1.ext hE7).frozen 3))
  obtain ⟨W8, hW8⟩ : ∃ W8, W8 = w7.setCell ⟨gY, 3, none⟩ (.slice (some ⟨g, 0, none⟩) B.shots.length cap) := ⟨_, rfl⟩
  obtain ⟨l1, l2g, l3g, l4g, l5g, l6g⟩ := own_shot_set hown' hk m
  have hne : g ≠ gY := by omega
  have hneR : g ≠ gR := by omega
  have t8 : Blk W8 gY 26 #[.int .i64 B.comp, .slice a1 B.bounds.length c1, .slice a2 B.orders.length c2, .slice (some ⟨g, 0, none⟩) B.shots.length cap] := by rw [hW8]; simpa using (y1.ext hE7).put 3 (.slice (some ⟨g, 0, none⟩) B.shots.length cap)
  have r8 : Blk W8 gR 26 #[.int .i64 0, .slice none 0 0, .slice none 0 0, .slice none 0 0] := by rw [hW8]; exact (r0.ext (X1.trans hE7)).far (by show gR ≠ gY; omega) _
  have X8 : Ext w W8 := by rw [hW8]; exact Below.setCell (E0.trans (X1.trans hE7)) hwY _
  have hg8 : W8.heap[g]? = w7.heap[g]? := by rw [hW8]; exact Below.heap_setCell w7 ⟨gY, 3, none⟩ _ g hne
  have hgl8 : g < W8.heap.size := by
    have : w7.heap[g]? ≠ none := by simp [l2g]
    rw [← hg8] at this
    simpa using this
  rw [← hW8]
  clear hW8 x0 x1 x2 x3 z0 z1 z2 z3 u0 u1 u2 u3 s0 s1 s2 s3 f1 f7 hown hown' hnews hone
  have HS := Lib.hid (fun W (hW : Ext W8 W) => ((t8.ext hW).c4 : (W.cell? ⟨gY, 0, none⟩ = some (.int .i64 B.comp) ∧ W.cell? ⟨gY, 1, none⟩ = some (.slice a1 B.bounds.length c1) ∧ W.cell? ⟨gY, 2, none⟩ = some (.slice a2 B.orders.length c2) ∧ W.cell? ⟨gY, 3, none⟩ = some (.slice (some ⟨g, 0, none⟩) B.shots.length cap))))
  refine wp_plan (fun W => (W.cell? ⟨gY, 0, none⟩ = some (.int .i64 B.comp) ∧ W.cell? ⟨gY, 1, none⟩ = some (.slice a1 B.bounds.length c1) ∧ W.cell? ⟨gY, 2, none⟩ = some (.slice a2 B.orders.length c2) ∧ W.cell? ⟨gY, 3, none⟩ = some (.slice (some ⟨g, 0, none⟩) B.shots.length cap))) (.tames [0, 1, 2, 3] (.one 4 (.tames [5, 6] (.one 7 (.done))))) (by kernel_rfl) (by kernel_rfl) (by kernel_rfl) (fun c a d v w h => by cases d <;> exact h) ?_ ?_
  · exact HS.out _ (Ext.drew _)
  refine pl_tames ?_
  (try simp only [Act.put, List.setIfInBounds_toArray, List.set_cons_zero, List.set_cons_succ])
  repeat (first
    | (refine pl_run (v := ?_) rfl ?_ (fun W hW => ?_) ?_; rotate_left; rfl; ((try dsimp only at hW); go_simp; try with_reducible rfl); (try simp only [Act.put, List.setIfInBounds_toArray, List.set_cons_zero, List.set_cons_succ]))
    | (refine pl_skip rfl ?_ ?_; rfl; (try simp only [Act.put, List.setIfInBounds_toArray, List.set_cons_zero, List.set_cons_succ])))
  refine pl_end ?_
  refine pl_one rfl (by rfl) (fun K hK => ?_)
  go_simp
  (go_at_call 56; refine (just_any _ _).mono ?_; rintro e w9 ⟨rfl, hV9⟩)
  refine hK.out _ _ (HS.out _ ((Ext.drew _).trans hV9)) ?_
  clear hK K
  (try refine pl_tames ?_)
  (try simp only [Act.put, List.setIfInBounds_toArray, List.set_cons_zero, List.set_cons_succ])
  try ((repeat (first   | (refine pl_run (v := ?_) rfl ?_ (fun W hW => ?_) ?_; rotate_left; rfl; ((try dsimp only at hW); go_simp; try with_reducible rfl); (try simp only [Act.put, List.setIfInBounds_toArray, List.set_cons_zero, List.set_cons_succ]))   | (refine pl_skip rfl ?_ ?_; rfl; (try simp only [Act.put, List.setIfInBounds_toArray, List.set_cons_zero, List.set_cons_succ])))); refine pl_end ?_)
  have E9 := (Ext.drew W8).trans hV9
  have hg9 : w9.heap[g]? = w7.heap[g]? := (E9.block g hgl8).trans hg8
  have c9 : ∀ i, w9.cell? ⟨g, i, none⟩ = w7.cell? ⟨g, i, none⟩ := fun i => by unfold World.cell?; rw [hg9]
  have fz9 : ∀ i, w9.frozen? ⟨g, i, none⟩ = false := fun i => by rw [← l5g i]; unfold World.frozen?; rw [hg9]
  obtain ⟨u0, k0⟩ := Option.isSome_iff_exists.1 l3g
  obtain ⟨u1, k1⟩ := Option.isSome_iff_exists.1 l4g
  rw [← c9] at k0 k1
  have g0 := fz9 (k * 4 + 2)
  have g1 := fz9 (k * 4 + 2 + 1)
  have hspan := l6g w9 hg9
  have t10 := ((t8.ext E9).far (p := ⟨g, k * 4 + 2, none⟩) (by show gY ≠ g; omega) (.int .i64 m)).far (p := ⟨g, k * 4 + 2 + 1, none⟩) (by show gY ≠ g; omega) (.int .i64 m)
  have r10 := ((r8.ext E9).far (p := ⟨g, k * 4 + 2, none⟩) (by show gR ≠ g; omega) (.int .i64 m)).far (p := ⟨g, k * 4 + 2 + 1, none⟩) (by show gR ≠ g; omega) (.int .i64 m)
  have hwg : w.heap.size ≤ g := by omega
  have X10 : Ext w ((w9.setCell ⟨g, k * 4 + 2, none⟩ (.int .i64 m)).setCell ⟨g, k * 4 + 2 + 1, none⟩ (.int .i64 m)) := Below.setCell (Below.setCell (X8.trans E9) hwg _) hwg _
  clear HS c9 fz9 l3g l4g l5g l6g hg9
  refine pl_one rfl (by rfl) (fun K hK => ?_)
  go_simp
  skip
  refine hK.out _ _ (t10.c4) ?_
  clear hK K
  (try refine pl_tames ?_)
  (try simp only [Act.put, List.setIfInBounds_toArray, List.set_cons_zero, List.set_cons_succ])
  try ((repeat (first   | (refine pl_run (v := ?_) rfl ?_ (fun W hW => ?_) ?_; rotate_left; rfl; ((try dsimp only at hW); go_simp; try with_reducible rfl); (try simp only [Act.put, List.setIfInBounds_toArray, List.set_cons_zero, List.set_cons_succ]))   | (refine pl_skip rfl ?_ ?_; rfl; (try simp only [Act.put, List.setIfInBounds_toArray, List.set_cons_zero, List.set_cons_succ])))); refine pl_end ?_)
  refine pl_done ?_
  (try simp only [Act.put])
  obtain ⟨W10, hW10⟩ : ∃ W10, W10 = (w9.setCell ⟨g, k * 4 + 2, none⟩ (.int .i64 m)).setCell ⟨g, k * 4 + 2 + 1, none⟩ (.int .i64 m) := ⟨_, rfl⟩
  rw [← hW10] at t10 r10 X10 hspan ⊢
  clear hW10 k0 k1 g0 g1
  obtain ⟨x0, x1, x2, x3⟩ := t10.c4
  obtain ⟨z0, z1, z2, z3⟩ := r10.c4
  have f0 := r10.frozen 0
  have f1 := r10.frozen 1
  have f2 := r10.frozen 2
  have f3 := r10.frozen 3
  go_wp2
  obtain ⟨W11, hW11⟩ : ∃ W11, W11 = (((W10.setCell ⟨gR, 0, none⟩ (.int .i64 B.comp)).setCell ⟨gR, 1, none⟩ (.slice a1 B.bounds.length c1)).setCell ⟨gR, 2, none⟩ (.slice a2 B.orders.length c2)).setCell ⟨gR, 3, none⟩ (.slice (some ⟨g, 0, none⟩) B.shots.length cap) := ⟨_, rfl⟩
  have r11 : Blk W11 gR 26 #[.int .i64 B.comp, .slice a1 B.bounds.length c1, .slice a2 B.orders.length c2, .slice (some ⟨g, 0, none⟩) B.shots.length cap] := by
    rw [hW11]; simpa using (((r10.put 0 (.int .i64 B.comp)).put 1 (.slice a1 B.bounds.length c1)).put 2 (.slice a2 B.orders.length c2)).put 3 (.slice (some ⟨g, 0, none⟩) B.shots.length cap)
  have X11 : Ext w W11 := by rw [hW11]; exact Below.setCell (Below.setCell (Below.setCell (Below.setCell X10 hgR' _) hgR' _) hgR' _) hgR' _
  have hg11 : W11.heap[g]? = W10.heap[g]? := by
    rw [hW11, Below.heap_setCell _ ⟨gR, 3, none⟩ _ g hneR, Below.heap_setCell _ ⟨gR, 2, none⟩ _ g hneR, Below.heap_setCell _ ⟨gR, 1, none⟩ _ g hneR, Below.heap_setCell _ ⟨gR, 0, none⟩ _ g hneR]
  rw [← hW11]
  clear hW11 x0 x1 x2 x3 z0 z1 z2 z3 f0 f1 f2 f3
  obtain ⟨z0, z1, z2, z3⟩ := r11.c4
  have hBf := HB.out.ext X11
  refine bodyPost_ret (v := .agg #[.int .i64 B.comp, .slice a1 B.bounds.length c1, .slice a2 B.orders.length c2, .slice (some ⟨g, 0, none⟩) B.shots.length cap]) ?_ rfl ⟨⟨_, _, rfl, hBf.bounds, hBf.orders, shotA_same hspan hg11, hBf.l1, hBf.l2, by simp only [onlyB, List.length_set]; exact hBf.l3⟩, X11⟩
  simp [results, Tryd.results47, go_sem, z0, z1, z2, z3]
end Go.Proofs.YtnhdcdhpfgdphaaDoor

/-
  Of whom more is known: books of fewer truths.
-/
set_option linter.unusedSimpArgs false
set_option linter.unusedVariables false
namespace Go.Proofs.YtnhdcdhpfgdphaaDoor
open Go Go.RowKit

/-- A book of which more is known than of another one. -/
structure Tight (X B : Bk) : Prop where
  valid : validB X = true
  comp : X.comp = B.comp
  orders : X.orders = B.orders
  bounds : X.bounds.length = B.bounds.length
  shots : X.shots.length = B.shots.length
  truths : ∀ t ∈ truthsL X, t ∈ truthsL B
  shot : ∀ i, i < B.shots.length → (sAt X.shots i).st = (sAt B.shots i).st ∧ (sAt X.shots i).co = (sAt B.shots i).co ∧ (sAt B.shots i).lo ≤ (sAt X.shots i).lo ∧ (sAt X.shots i).lo ≤ (sAt X.shots i).hi ∧ (sAt X.shots i).hi ≤ (sAt B.shots i).hi
theorem tight_refl {B : Bk} (hv : validB B = true) : Tight B B :=
  ⟨hv, rfl, rfl, rfl, rfl, fun _ h => h, fun i hi => ⟨rfl, rfl, Int.le_refl _, (valid_shot hv hi).2.2.2.2.2.1, Int.le_refl _⟩⟩
theorem Tight.trans {X Y Z : Bk} (h : Tight X Y) (k : Tight Y Z) : Tight X Z :=
  ⟨h.valid, h.comp.trans k.comp, h.orders.trans k.orders, h.bounds.trans k.bounds, h.shots.trans k.shots, fun t ht => k.truths t (h.truths t ht), fun i hi => by
    have h1 := h.shot i (by rw [k.shots]; exact hi)
    have h2 := k.shot i hi
    exact ⟨h1.1.trans h2.1, h1.2.1.trans h2.2.1, by omega, h1.2.2.2.1, by omega⟩⟩
theorem fit_same {X B : Bk} (ho : X.orders = B.orders) (hb : X.bounds.length = B.bounds.length) (t : Q4) (x y : Sh) (h1 : x.st = y.st) (h2 : x.co = y.co) (m : Int) : fitX X t x m = fitX B t y m := by
  rw [Bool.eq_iff_iff, fit_iff, fit_iff, ho, hb, h1, h2]
theorem Tight.fair {X B : Bk} (h : Tight X B) (hv : validB B = true) {i : Nat} (hi : i < B.shots.length) (h1 : fairN B (sAt B.shots i) ≠ 1) : fairN X (sAt X.shots i) = fairN B (sAt B.shots i) := by
  obtain ⟨s1, s2, s3, s4, s5⟩ := h.shot i hi
  have hr := fair_range B (sAt B.shots i)
  rcases (by omega : fairN B (sAt B.shots i) = 2 ∨ fairN B (sAt B.shots i) = 0) with e | e
  · rw [e, fair_two h.valid s4]
    intro t ht m l1 l2
    rw [fit_same h.orders h.bounds t _ _ s1 s2]
    exact (fair_two hv (by omega)).1 e t (h.truths t ht) m (by omega) (by omega)
  · rw [e, fair_zero h.valid s4]
    intro t ht m l1 l2
    rw [fit_same h.orders h.bounds t _ _ s1 s2]
    exact (fair_zero hv (by omega)).1 e t (h.truths t ht) m (by omega) (by omega)
theorem Tight.wrong {X B : Bk} (h : Tight X B) (hv : validB B = true) : (wrongL B).length ≤ (wrongL X).length := by
  obtain ⟨m, h1, h2, h3⟩ := wrong_is h.valid
  have h4 : togB B (restK B.shots m B.shots.length) = true := by
    obtain ⟨t, ht, hx⟩ := (togB_iff X _).1 h2
    refine (togB_iff B _).2 ⟨t, h.truths t ht, fun x hx' => ?_⟩
    unfold restK at hx'
    obtain ⟨i, hi, rfl⟩ := List.mem_map.1 hx'
    obtain ⟨hi1, hi2⟩ := List.mem_filter.1 hi
    have hi3 := List.mem_range.1 hi1
    obtain ⟨s1, s2, s3, s4, s5⟩ := h.shot i hi3
    have hin : sAt X.shots i ∈ restK X.shots m X.shots.length := List.mem_map.2 ⟨i, List.mem_filter.2 ⟨List.mem_range.2 (by rw [h.shots]; exact hi3), hi2⟩, rfl⟩
    obtain ⟨mm, l1, l2, l3⟩ := (canX_iff X t _).1 (hx _ hin)
    refine (canX_iff B t _).2 ⟨mm, by omega, by omega, ?_⟩
    rw [← fit_same h.orders h.bounds t _ _ s1 s2]
    exact l3
  have h5 := ((wrong_best B (2 ^ B.shots.length)).2 m (by rw [← h.shots]; exact h1) h4).2
  have e : wrongL B = (wrongK B (2 ^ B.shots.length)).1 := rfl
  rw [← e, ← h.shots, ← h3] at h5
  unfold better at h5
  omega

/-! ### A bound -/
section
variable {B : Bk} (hv : validB B = true) {k : Nat} (hk : k < B.bounds.length) {m : Int} (h1 : bLo B.bounds k ≤ m) (h2 : m ≤ bHi B.bounds k)
include hv hk h1 h2
theorem known_truth (t : Q4) : t ∈ truthsL (knownB B k m) ↔ t ∈ truthsL B ∧ nAt (q4L t) k = m := by
  have hx := known_valid hv hk h1 h2
  rw [mem_truths hx, mem_truths hv]
  have e : (knownB B k m).bounds.length = B.bounds.length := by simp [knownB]
  have el : ∀ i, bLo (knownB B k m).bounds i = if i = k then m else bLo B.bounds i := fun i => bLo_set m hk i
  have eh : ∀ i, bHi (knownB B k m).bounds i = if i = k then m else bHi B.bounds i := fun i => bHi_set m hk i
  rw [e]
  constructor
  · rintro ⟨a, b⟩
    have hq := b k hk
    rw [el, eh, if_pos rfl] at hq
    refine ⟨⟨a, fun i hi => ?_⟩, by omega⟩
    have := b i hi
    rw [el, eh] at this
    by_cases hik : i = k
    · subst hik; omega
    · rwa [if_neg hik, if_neg hik] at this
  · rintro ⟨⟨a, b⟩, c⟩
    refine ⟨a, fun i hi => ?_⟩
    rw [el, eh]
    by_cases hik : i = k
    · subst hik; rw [if_pos rfl]; simp only [if_true]; omega
    · rw [if_neg hik, if_neg hik]; exact b i hi
theorem known_tight : Tight (knownB B k m) B :=
  ⟨known_valid hv hk h1 h2, rfl, rfl, by simp [knownB], rfl, fun t ht => ((known_truth hv hk h1 h2 t).1 ht).1, fun i hi => ⟨rfl, rfl, Int.le_refl _, (valid_shot hv hi).2.2.2.2.2.1, Int.le_refl _⟩⟩
end
theorem hang_iff (B : Bk) (x : Sh) (k : Nat) : hangB B x k = true ↔ ∃ t ∈ truthsL B, nAt (q4L t) k = bLo B.bounds k ∧ ∃ n, n < widX x ∧ ∃ j, j < wid B.bounds k ∧ fitX B (setQ t k (bLo B.bounds k + j)) x (x.lo + n) ≠ fitX B t x (x.lo + n) := by
  simp only [hangB, hangT, hangN, hangM, List.any_eq_true, Bool.and_eq_true, decide_eq_true_eq, List.mem_range, bne_iff_ne]
section
variable {B : Bk} (hv : validB B = true) {k : Nat} (hk : k < B.bounds.length) {m : Int} (h1 : bLo B.bounds k ≤ m) (h2 : m ≤ bHi B.bounds k)
include hv hk h1 h2
theorem known_hang (x : Sh) (j : Nat) (h : hangB (knownB B k m) x j = true) : j ≠ k ∧ hangB B x j = true := by
  obtain ⟨t, ht, e, n, hn, i, hi, hf⟩ := (hang_iff _ _ _).1 h
  obtain ⟨ht1, ht2⟩ := (known_truth hv hk h1 h2 t).1 ht
  have el : bLo (knownB B k m).bounds j = if j = k then m else bLo B.bounds j := bLo_set m hk j
  have eh : bHi (knownB B k m).bounds j = if j = k then m else bHi B.bounds j := bHi_set m hk j
  have hfs : ∀ t x m', fitX (knownB B k m) t x m' = fitX B t x m' := fun t x m' => fit_same (X := knownB B k m) (B := B) rfl (by simp [knownB]) t x x rfl rfl m'
  rw [hfs, hfs] at hf
  unfold wid at hi
  rw [el, eh] at hi
  rw [el] at e hf
  by_cases hjk : j = k
  · subst hjk
    simp only [if_true] at hi hf
    have hi0 : i = 0 := by omega
    subst hi0
    exfalso
    apply hf
    congr 1
    apply q4_ext
    intro q hq
    rw [nAt_setQ t (by have := (valid_sizes hv).2.2.2.2.1; omega)]
    by_cases hqj : q = j
    · subst hqj; rw [if_pos rfl, ht2]; simp
    · rw [if_neg hqj]
  · rw [if_neg hjk] at hi hf e
    rw [if_neg hjk] at hi
    exact ⟨hjk, (hang_iff _ _ _).2 ⟨t, ht1, e, n, hn, i, by unfold wid; exact hi, hf⟩⟩
theorem known_hangs (x : Sh) (n : Nat) : (∀ y ∈ hangsI (knownB B k m) x n, y ∈ hangsI B x n) ∧ placeL (hangsI (knownB B k m) x n) k < 0 := by
  constructor
  · intro y hy
    unfold hangsI at hy ⊢
    obtain ⟨j, hj, rfl⟩ := List.mem_map.1 hy
    obtain ⟨hj1, hj2⟩ := List.mem_filter.1 hj
    exact List.mem_map.2 ⟨j, List.mem_filter.2 ⟨hj1, (known_hang hv hk h1 h2 x j hj2).2⟩, rfl⟩
  · have h : ¬ (0 ≤ placeL (hangsI (knownB B k m) x n) k) := fun hp => by
      have hm := placeL_in.1 hp
      unfold hangsI at hm
      obtain ⟨j, hj, e⟩ := List.mem_map.1 hm
      obtain ⟨hj1, hj2⟩ := List.mem_filter.1 hj
      have := (known_hang hv hk h1 h2 x j hj2).1
      omega
    omega
end

/-! ### A shot -/
theorem only_tight {B : Bk} (hv : validB B = true) {k : Nat} (hk : k < B.shots.length) {m : Int} (h1 : (sAt B.shots k).lo ≤ m) (h2 : m ≤ (sAt B.shots k).hi) : Tight (onlyB B k m) B := by
  obtain ⟨p1, p2, p3, p4⟩ := valid_parts hv
  have el : (onlyB B k m).shots.length = B.shots.length := by simp [onlyB]
  have hs := valid_sizes hv
  have hsh := valid_shot hv hk
  have q1 : ok0 (onlyB B k m) = true := by
    have e2 : (onlyB B k m).comp = B.comp := rfl
    have e3 : (onlyB B k m).bounds.length = B.bounds.length := rfl
    have e4 : (onlyB B k m).orders.length = B.orders.length := rfl
    simp only [ok0, inB, Bool.and_eq_true, decide_eq_true_eq] at p1 ⊢
    rw [el, e2, e3, e4]
    exact p1
  have q4 : okShots (onlyB B k m) (onlyB B k m).shots.length = true := by
    rw [el]
    simp only [okShots, List.all_eq_true, List.mem_range] at p4 ⊢
    intro i hi
    have h := p4 i hi
    have e : sAt (onlyB B k m).shots i = if i = k then atX (sAt B.shots k) m else sAt B.shots i := sAt_set _ hk i
    rw [e]
    by_cases hik : i = k
    · subst hik
      rw [if_pos rfl]
      have h0 : okShot (onlyB B i m) (sAt B.shots i) = true := h
      have e0 : okShot (onlyB B i m) (atX (sAt B.shots i) m) = (inB (sAt B.shots i).st 0 ((onlyB B i m).orders.length - 1) && inB (sAt B.shots i).co 0 ((onlyB B i m).comp - 1) && isSpanB m m) := rfl
      rw [e0, Bool.and_eq_true]
      unfold okShot at h0
      rw [Bool.and_eq_true] at h0
      refine ⟨h0.1, ?_⟩
      simp [isSpanB]
      omega
    · rw [if_neg hik]; exact h
  have hval : validB (onlyB B k m) = true := by
    show (ok0 (onlyB B k m) && okBounds B.bounds B.bounds.length && okRows B.comp B.bounds.length B.orders B.orders.length && okShots (onlyB B k m) (onlyB B k m).shots.length) = true
    rw [q1, p2, p3, q4]
    rfl
  refine ⟨hval, rfl, rfl, rfl, el, fun t ht => ht, fun i hi => ?_⟩
  have e : sAt (onlyB B k m).shots i = if i = k then atX (sAt B.shots k) m else sAt B.shots i := sAt_set _ hk i
  rw [e]
  by_cases hik : i = k
  · subst hik
    rw [if_pos rfl]
    exact ⟨rfl, rfl, h1, Int.le_refl _, h2⟩
  · rw [if_neg hik]
    exact ⟨rfl, rfl, Int.le_refl _, (valid_shot hv hi).2.2.2.2.2.1, Int.le_refl _⟩

/-! ### Sets of bounds -/
theorem setN_bit (xs : List Int) (i : Nat) : ∀ s, (xs.foldl (fun s x => s ||| (1 <<< x.toNat)) s).testBit i = (s.testBit i || xs.any fun x => x.toNat == i) := by
  induction xs with
  | nil => intro s; simp
  | cons x xs ih =>
    intro s
    rw [List.foldl_cons, ih, Nat.testBit_or, List.any_cons, Bool.or_assoc]
    congr 2
    rw [Nat.one_shiftLeft, Nat.testBit_two_pow]
    by_cases h : x.toNat = i <;> simp [h]
theorem setN_sub {l m : List Int} (h : ∀ x ∈ l, x ∈ m) : setN l ||| setN m = setN m := by
  apply Nat.eq_of_testBit_eq
  intro i
  unfold setN
  rw [Nat.testBit_or, setN_bit, setN_bit]
  simp only [Nat.zero_testBit, Bool.false_or]
  cases hl : l.any fun x => x.toNat == i with
  | false => simp
  | true =>
    obtain ⟨x, hx, hi⟩ := List.any_eq_true.1 hl
    have : (m.any fun x => x.toNat == i) = true := List.any_eq_true.2 ⟨x, h x hx, hi⟩
    rw [this]; rfl
theorem or_two_all : ((List.range 16).all fun a => (List.range 16).all fun b => bits BinOp.or IntKind.i64 (a : Int) (b : Int) == ((a ||| b : Nat) : Int)) = true := by kernel_rfl
theorem or_two {a b : Nat} (ha : a < 16) (hb : b < 16) : bits BinOp.or IntKind.i64 (a : Int) (b : Int) = ((a ||| b : Nat) : Int) := by
  have h := or_two_all
  simp only [List.all_eq_true, List.mem_range, beq_iff_eq] at h
  exact h a ha b hb
theorem hangsI_in (B : Bk) (x : Sh) (n : Nat) : ∀ y ∈ hangsI B x n, 0 ≤ y ∧ y < n := by
  intro y hy
  unfold hangsI at hy
  obtain ⟨j, hj, rfl⟩ := List.mem_map.1 hy
  have := List.mem_range.1 (List.mem_filter.1 hj).1
  omega
theorem hangsI_rises (B : Bk) (x : Sh) (n : Nat) : risesF n 0 (hangsI B x n) = true := by
  refine rises_yes _ _ ?_ (hangsI_in B x n)
  unfold hangsI
  rw [List.pairwise_map]
  refine (List.Pairwise.filter _ List.pairwise_lt_range).imp ?_
  intro a b h
  omega
end Go.Proofs.YtnhdcdhpfgdphaaDoor

/-
  On which bound a shot of a known minute hangs.
-/
set_option linter.unusedSimpArgs false
set_option linter.unusedVariables false
namespace Go.Proofs.YtnhdcdhpfgdphaaDoor
open Go Go.RowKit

section
variable {B : Bk} (hv : validB B = true)
include hv
theorem truth_set {t : Q4} (ht : t ∈ truthsL B) {k : Nat} (hk : k < B.bounds.length) {v : Int} (h1 : bLo B.bounds k ≤ v) (h2 : v ≤ bHi B.bounds k) : setQ t k v ∈ truthsL B := by
  have h4 := (valid_sizes hv).2.2.2.2.1
  rw [mem_truths hv] at ht ⊢
  refine ⟨fun i hi hn => ?_, fun i hi => ?_⟩
  · rw [nAt_setQ t (by omega), if_neg (by omega)]; exact ht.1 i hi hn
  · rw [nAt_setQ t (by omega)]
    by_cases hik : i = k
    · subst hik; rw [if_pos rfl]; exact ⟨h1, h2⟩
    · rw [if_neg hik]; exact ht.2 i hi
theorem turn_at {t : Q4} (ht : t ∈ truthsL B) (m : Int) : cT (q4L t) m B.bounds.length = if tLo B m = tHi B m then tLo B m else if nAt (q4L t) (tLo B m) ≤ m then tLo B m + 1 else tLo B m := by
  have hb := truth_in hv ht
  obtain ⟨h1, h2⟩ := cT_in hv hb m
  have h3 := tHi_le_succ hv m
  by_cases he : tLo B m = tHi B m
  · rw [if_pos he]; omega
  · rw [if_neg he]
    have hlt : tLo B m < B.bounds.length := by have := tHi_le hv m; omega
    have h4 := lt_cT hv hb m hlt
    by_cases hn : nAt (q4L t) (tLo B m) ≤ m
    · rw [if_pos hn]; have := h4.2 hn; omega
    · rw [if_neg hn]
      have : ¬ (tLo B m < cT (q4L t) m B.bounds.length) := fun hh => hn (h4.1 hh)
      omega
theorem hang_none {x : Sh} {m : Int} (h1 : x.lo = m) (h2 : x.hi = m) (r : Bool) (hr : ∀ t ∈ truthsL B, fitX B t x m = r) : fairN B x ≠ 1 ∧ ∀ k, k < B.bounds.length → hangB B x k = false := by
  constructor
  · cases r with
    | true =>
      have : fairN B x = 2 := (fair_two hv (by omega)).2 fun t ht mm l1 l2 => by rw [show mm = m by omega]; exact hr t ht
      omega
    | false =>
      have : fairN B x = 0 := (fair_zero hv (by omega)).2 fun t ht mm l1 l2 => by rw [show mm = m by omega]; exact hr t ht
      omega
  · intro k hk
    cases hh : hangB B x k with
    | false => rfl
    | true =>
      obtain ⟨t, ht, e, n, hn, j, hj, hf⟩ := (hang_iff B x k).1 hh
      exfalso
      apply hf
      have hn0 : x.lo + (n : Int) = m := by unfold widX at hn; omega
      unfold wid at hj
      rw [hn0, hr t ht, hr _ (truth_set hv ht hk (by omega) (by omega))]
theorem quarrel {x : Sh} {m : Int} (h1 : x.lo = m) (h2 : x.hi = m) :
    (fairN B x ≠ 1 ∧ ∀ k, k < B.bounds.length → hangB B x k = false) ∨
    (fairN B x = 1 ∧ ∃ p, p < B.bounds.length ∧ bLo B.bounds p ≤ m ∧ m < bHi B.bounds p ∧ (∀ k, k < B.bounds.length → (hangB B x k = true ↔ k = p)) ∧
      (∃ r : Bool, ∀ t ∈ truthsL B, fitX B t x m = if nAt (q4L t) p ≤ m then r else !r)) := by
  obtain ⟨row, hrow⟩ : ∃ row, oAt B.orders x.st.toNat = row := ⟨_, rfl⟩
  have hfit : ∀ t, fitX B t x m = decide (nAt row (cT (q4L t) m B.bounds.length) = x.co) := fun t => by
    rw [Bool.eq_iff_iff, fit_iff, hrow, decide_eq_true_iff]
  by_cases he : tLo B m = tHi B m
  · left
    refine hang_none hv h1 h2 (decide (nAt row (tLo B m) = x.co)) fun t ht => ?_
    rw [hfit, turn_at hv ht, if_pos he]
  · obtain ⟨p, hp⟩ : ∃ p, tLo B m = p := ⟨_, rfl⟩
    have hle := tLo_le_tHi hv m
    have h4 := (valid_sizes hv).2.2.2.2.1
    have hpl : p < B.bounds.length := by have := tHi_le hv m; omega
    have hlo : bLo B.bounds p ≤ m := (lt_tHi hv m hpl).1 (by omega)
    have hhi : m < bHi B.bounds p := by
      have : ¬ (bHi B.bounds p ≤ m) := fun h => by have := (lt_tLo hv m hpl).2 h; omega
      omega
    have hturn : ∀ t ∈ truthsL B, fitX B t x m = if nAt (q4L t) p ≤ m then decide (nAt row (p + 1) = x.co) else decide (nAt row p = x.co) := fun t ht => by
      rw [hfit, turn_at hv ht, if_neg he, hp]
      by_cases hn : nAt (q4L t) p ≤ m
      · rw [if_pos hn, if_pos hn]
      · rw [if_neg hn, if_neg hn]
    by_cases hs : decide (nAt row (p + 1) = x.co) = decide (nAt row p = x.co)
    · left
      refine hang_none hv h1 h2 (decide (nAt row p = x.co)) fun t ht => ?_
      rw [hturn t ht, hs]
      split <;> rfl
    · right
      obtain ⟨r, hr⟩ : ∃ r, decide (nAt row (p + 1) = x.co) = r := ⟨_, rfl⟩
      have hr2 : decide (nAt row p = x.co) = !r := by
        rw [hr] at hs
        cases r <;> cases hq : decide (nAt row p = x.co) <;> simp_all
      have hT : ∀ t ∈ truthsL B, fitX B t x m = if nAt (q4L t) p ≤ m then r else !r := fun t ht => by rw [hturn t ht, hr, hr2]
      obtain ⟨t, ht, hte⟩ := truth_of hv (fun i => bLo B.bounds i) (fun i hi => ⟨Int.le_refl _, (valid_bound hv hi).2.1⟩)
      have htp := hte p hpl
      have ht2 : setQ t p (bHi B.bounds p) ∈ truthsL B := truth_set hv ht hpl (by omega) (Int.le_refl _)
      have hn2 : nAt (q4L (setQ t p (bHi B.bounds p))) p = bHi B.bounds p := by rw [nAt_setQ t (by omega), if_pos rfl]
      have hf1 : fitX B t x m = r := by rw [hT t ht, if_pos (by omega)]
      have hf2 : fitX B (setQ t p (bHi B.bounds p)) x m = !r := by rw [hT _ ht2, if_neg (by omega)]
      refine ⟨?_, p, hpl, hlo, hhi, fun k hk => ⟨fun hh => ?_, fun e => ?_⟩, r, hT⟩
      · have hrg := fair_range B x
        have n2 : fairN B x ≠ 2 := fun e => by
          have a := (fair_two hv (by omega)).1 e t ht m (by omega) (by omega)
          have b := (fair_two hv (by omega)).1 e _ ht2 m (by omega) (by omega)
          rw [hf1] at a; rw [hf2, a] at b; cases b
        have n0 : fairN B x ≠ 0 := fun e => by
          have a := (fair_zero hv (by omega)).1 e t ht m (by omega) (by omega)
          have b := (fair_zero hv (by omega)).1 e _ ht2 m (by omega) (by omega)
          rw [hf1] at a; rw [hf2, a] at b; cases b
        omega
      · obtain ⟨t', ht', e, n, hn, j, hj, hf⟩ := (hang_iff B x k).1 hh
        have hn0 : x.lo + (n : Int) = m := by unfold widX at hn; omega
        unfold wid at hj
        rw [hn0, hT t' ht', hT _ (truth_set hv ht' hk (by omega) (by omega)), nAt_setQ t' (by omega)] at hf
        by_cases hkp : k = p
        · exact hkp
        · rw [if_neg (Ne.symm hkp)] at hf
          exact absurd rfl hf
      · subst e
        refine (hang_iff B x k).2 ⟨t, ht, htp, 0, by unfold widX; omega, (bHi B.bounds k - bLo B.bounds k).toNat, by unfold wid; omega, ?_⟩
        have e1 : bLo B.bounds k + ((bHi B.bounds k - bLo B.bounds k).toNat : Int) = bHi B.bounds k := by omega
        have e2 : x.lo + ((0 : Nat) : Int) = m := by simp [h1]
        rw [e1, e2, hf1, hf2]
        cases r <;> simp
end
theorem hangsI_nil {B : Bk} {x : Sh} {n : Nat} (h : ∀ k, k < n → hangB B x k = false) : hangsI B x n = [] := by
  unfold hangsI
  rw [List.map_eq_nil_iff, List.filter_eq_nil_iff]
  intro k hk
  rw [h k (List.mem_range.1 hk)]
  simp
theorem hangsI_one {B : Bk} {x : Sh} {p : Nat} : ∀ n, (∀ k, k < n → (hangB B x k = true ↔ k = p)) → hangsI B x n = if p < n then [(p : Int)] else [] := by
  intro n
  induction n with
  | zero => intro _; rfl
  | succ n ih =>
    intro h
    rw [hangsI_succ, ih (fun k hk => h k (by omega))]
    have hn := h n (by omega)
    by_cases he : n = p
    · subst he
      rw [if_pos (hn.2 rfl), if_neg (by omega), if_pos (by omega)]
      rfl
    · have : hangB B x n = false := by
        cases hh : hangB B x n with
        | false => rfl
        | true => exact absurd (hn.1 hh) he
      rw [this]
      simp only [Bool.false_eq_true, if_false]
      by_cases hp : p < n
      · rw [if_pos hp, if_pos (by omega)]
      · rw [if_neg hp, if_neg (by omega)]

/-- What the law says of a shot of a known minute. -/
theorem hangs_law {B : Bk} (hv : validB B = true) {k : Nat} (hk : k < B.shots.length) {m : Int} (h1 : (sAt B.shots k).lo ≤ m) (h2 : m ≤ (sAt B.shots k).hi) :
    (fairN (onlyB B k m) (atX (sAt B.shots k) m) ≠ 1 ∧ hangsI (onlyB B k m) (atX (sAt B.shots k) m) B.bounds.length = []) ∨
    (fairN (onlyB B k m) (atX (sAt B.shots k) m) = 1 ∧ ∃ p, p < B.bounds.length ∧ bLo B.bounds p ≤ m ∧ m < bHi B.bounds p ∧ hangsI (onlyB B k m) (atX (sAt B.shots k) m) B.bounds.length = [(p : Int)] ∧
      0 ≤ placeL (hangsI B (sAt B.shots k) B.bounds.length) p ∧
      ((fairN (knownB (onlyB B k m) p (bLo B.bounds p)) (atX (sAt B.shots k) m) = 2 ∧ fairN (knownB (onlyB B k m) p (bHi B.bounds p)) (atX (sAt B.shots k) m) = 0) ∨
       (fairN (knownB (onlyB B k m) p (bLo B.bounds p)) (atX (sAt B.shots k) m) = 0 ∧ fairN (knownB (onlyB B k m) p (bHi B.bounds p)) (atX (sAt B.shots k) m) = 2))) := by
  have hX := (only_tight hv hk h1 h2).valid
  have hbo : (onlyB B k m).bounds = B.bounds := rfl
  rcases quarrel hX (x := atX (sAt B.shots k) m) (m := m) rfl rfl with ⟨a, b⟩ | ⟨a, p, hp, b, c, d, r, e⟩
  · exact .inl ⟨a, hangsI_nil b⟩
  · right
    rw [hbo] at hp b c d
    have hpv := valid_bound hv hp
    have hoL : hangsI (onlyB B k m) (atX (sAt B.shots k) m) B.bounds.length = [(p : Int)] := by rw [hangsI_one _ d, if_pos hp]
    refine ⟨a, p, hp, b, c, hoL, ?_, ?_⟩
    · rw [placeL_in]
      unfold hangsI
      refine List.mem_map.2 ⟨p, List.mem_filter.2 ⟨List.mem_range.2 hp, ?_⟩, rfl⟩
      obtain ⟨t, ht, e1, n, hn, j, hj, hf⟩ := (hang_iff _ _ _).1 ((d p hp).2 rfl)
      refine (hang_iff B _ p).2 ⟨t, ht, e1, (m - (sAt B.shots k).lo).toNat, by unfold widX; omega, j, hj, ?_⟩
      have e2 : (sAt B.shots k).lo + ((m - (sAt B.shots k).lo).toNat : Int) = m := by omega
      have e3 : (atX (sAt B.shots k) m).lo + (n : Int) = m := by
        have : (atX (sAt B.shots k) m).lo = m := rfl
        have h3 : (atX (sAt B.shots k) m).hi = m := rfl
        unfold widX at hn
        omega
      rw [e2]
      rw [e3] at hf
      exact hf
    · have hk1 := fun v (l1 : bLo B.bounds p ≤ v) (l2 : v ≤ bHi B.bounds p) => known_truth hX (k := p) hp (m := v) l1 l2
      have hkv := fun v (l1 : bLo B.bounds p ≤ v) (l2 : v ≤ bHi B.bounds p) => known_valid hX (k := p) hp (m := v) l1 l2
      have hfx : ∀ v t, fitX (knownB (onlyB B k m) p v) t (atX (sAt B.shots k) m) m = fitX (onlyB B k m) t (atX (sAt B.shots k) m) m := fun v t => fit_same (X := knownB (onlyB B k m) p v) (B := onlyB B k m) rfl (by simp [knownB]) t _ _ rfl rfl m
      have hlow : ∀ t ∈ truthsL (knownB (onlyB B k m) p (bLo B.bounds p)), fitX (knownB (onlyB B k m) p (bLo B.bounds p)) t (atX (sAt B.shots k) m) m = r := fun t ht => by
        obtain ⟨ht1, ht2⟩ := (hk1 _ (Int.le_refl _) hpv.2.1 t).1 ht
        rw [hfx, e t ht1, if_pos (by omega)]
      have hhigh : ∀ t ∈ truthsL (knownB (onlyB B k m) p (bHi B.bounds p)), fitX (knownB (onlyB B k m) p (bHi B.bounds p)) t (atX (sAt B.shots k) m) m = !r := fun t ht => by
        obtain ⟨ht1, ht2⟩ := (hk1 _ hpv.2.1 (Int.le_refl _) t).1 ht
        rw [hfx, e t ht1, if_neg (by omega)]
      have two : ∀ Y, validB Y = true → (∀ t ∈ truthsL Y, fitX Y t (atX (sAt B.shots k) m) m = true) → fairN Y (atX (sAt B.shots k) m) = 2 := fun Y hy hh => (fair_two hy (Int.le_refl _)).2 fun t ht mm l1 l2 => by
        have : mm = m := Int.le_antisymm l2 l1
        rw [this]; exact hh t ht
      have zero : ∀ Y, validB Y = true → (∀ t ∈ truthsL Y, fitX Y t (atX (sAt B.shots k) m) m = false) → fairN Y (atX (sAt B.shots k) m) = 0 := fun Y hy hh => (fair_zero hy (Int.le_refl _)).2 fun t ht mm l1 l2 => by
        have : mm = m := Int.le_antisymm l2 l1
        rw [this]; exact hh t ht
      have v1 := hkv _ (Int.le_refl _) hpv.2.1
      have v2 := hkv _ hpv.2.1 (Int.le_refl _)
      cases r with
      | true => exact .inl ⟨two _ v1 hlow, zero _ v2 hhigh⟩
      | false => exact .inr ⟨zero _ v1 hlow, two _ v2 hhigh⟩
end Go.Proofs.YtnhdcdhpfgdphaaDoor
