/-
  The chapter's books: book, own, late, torn.
-/
import Derived.Test.YtnhdcdhpfgdphaaDoorRF
import Derived.Test.YtnhdcdhpfgdphaaDoorL1
import Derived.Test.YtnhdcdhpfgdphaaDoorAB
set_option linter.unusedSimpArgs false
set_option linter.unusedVariables false
namespace Go.Proofs.YtnhdcdhpfgdphaaDoor
open Go Go.RowKit

def bookB (lo hi : Int) : Bk := ⟨3, [(360, 364), (540, 545)], [[0, 1, 2], [1, 2, 0]], [⟨0, 1, 362, 366⟩, ⟨1, 2, 400, 400⟩, ⟨0, 0, 359, 359⟩, ⟨1, 0, lo, hi⟩]⟩

/-- The book's blocks. -/
structure BkB (w : World) (n0 : Nat) (lo hi : Int) (g1 g2 r1 r2 g3 : Nat) : Prop where
  n1 : n0 ≤ g1
  n2 : n0 ≤ g2
  n3 : n0 ≤ r1
  n4 : n0 ≤ r2
  n5 : n0 ≤ g3
  b1 : Blk w g1 29 #[.int .i64 360, .int .i64 364, .int .i64 540, .int .i64 545]
  b2 : Blk w g2 34 #[.slice (some ⟨r1, 0, none⟩) 3 3, .slice (some ⟨r2, 0, none⟩) 3 3]
  b3 : Blk w r1 3 #[.int .i64 0, .int .i64 1, .int .i64 2]
  b4 : Blk w r2 3 #[.int .i64 1, .int .i64 2, .int .i64 0]
  b5 : Blk w g3 59 (flatX (bookB lo hi).shots).toArray
theorem BkB.ext {w w' : World} {n0 : Nat} {lo hi : Int} {g1 g2 r1 r2 g3 : Nat} (h : BkB w n0 lo hi g1 g2 r1 r2 g3) (hE : Ext w w') : BkB w' n0 lo hi g1 g2 r1 r2 g3 :=
  ⟨h.n1, h.n2, h.n3, h.n4, h.n5, h.b1.ext hE, h.b2.ext hE, h.b3.ext hE, h.b4.ext hE, h.b5.ext hE⟩
theorem BkB.far {w : World} {n0 : Nat} {lo hi : Int} {g1 g2 r1 r2 g3 : Nat} (h : BkB w n0 lo hi g1 g2 r1 r2 g3) {p : Addr} (hp : p.block < n0) (u : Value) : BkB (w.setCell p u) n0 lo hi g1 g2 r1 r2 g3 :=
  ⟨h.n1, h.n2, h.n3, h.n4, h.n5, h.b1.far (by have := h.n1; omega) u, h.b2.far (by have := h.n2; omega) u, h.b3.far (by have := h.n3; omega) u, h.b4.far (by have := h.n4; omega) u, h.b5.far (by have := h.n5; omega) u⟩
theorem BkB.le {w : World} {n0 n1 : Nat} {lo hi : Int} {g1 g2 r1 r2 g3 : Nat} (h : BkB w n0 lo hi g1 g2 r1 r2 g3) (hn : n1 ≤ n0) : BkB w n1 lo hi g1 g2 r1 r2 g3 :=
  ⟨Nat.le_trans hn h.n1, Nat.le_trans hn h.n2, Nat.le_trans hn h.n3, Nat.le_trans hn h.n4, Nat.le_trans hn h.n5, h.b1, h.b2, h.b3, h.b4, h.b5⟩
theorem intA_blk {w : World} {g : Nat} {t : TypeId} (xs : List Int) (h : Blk w g t (ints xs).toArray) : IntA w (some ⟨g, 0, none⟩) xs := fun hp =>
  ⟨_, 0, rfl, h.lt, fun i hi => h.cell (by simp [ints, nAt, List.getElem?_eq_getElem hi])⟩
theorem spanA_blk {w : World} {g : Nat} {t : TypeId} (L : List (Int × Int)) (h : Blk w g t (flatS L).toArray) : SpanA w (some ⟨g, 0, none⟩) L := fun hp =>
  ⟨_, 0, rfl, h.lt, fun i hi => ⟨h.cell (by simpa using (flatS_at L i hi).1), h.cell (by simpa using (flatS_at L i hi).2)⟩⟩
theorem shotA_blk {w : World} {g : Nat} {t : TypeId} (L : List Sh) (h : Blk w g t (flatX L).toArray) : ShotA w (some ⟨g, 0, none⟩) L := fun hp =>
  ⟨_, 0, rfl, h.lt, fun i hi => ⟨h.cell (by simpa using (flatX_at L i hi).1), h.cell (by simpa using (flatX_at L i hi).2.1), h.cell (by simpa using (flatX_at L i hi).2.2.1), h.cell (by simpa using (flatX_at L i hi).2.2.2)⟩⟩
theorem BkB.book {w : World} {n0 : Nat} {lo hi : Int} {g1 g2 r1 r2 g3 : Nat} (h : BkB w n0 lo hi g1 g2 r1 r2 g3) : BookA w (bookB lo hi) (some ⟨g1, 0, none⟩) (some ⟨g2, 0, none⟩) (some ⟨g3, 0, none⟩) :=
  ⟨spanA_blk [(360, 364), (540, 545)] h.b1, fun _ => ⟨g2, 0, rfl, h.b2.lt, fun i hi => by
    rcases i with _ | _ | i
    · exact ⟨_, _, h.b2.cell rfl, by simp [bookB, oAt], intA_blk [0, 1, 2] h.b3⟩
    · exact ⟨_, _, h.b2.cell rfl, by simp [bookB, oAt], intA_blk [1, 2, 0] h.b4⟩
    · simp [bookB] at hi; omega⟩, shotA_blk (bookB lo hi).shots h.b5, by simp [bookB], by simp [bookB], by simp [bookB]⟩

def bkFact (n0 : Nat) (lo hi : Int) : Nat → Value → World → Prop
  | 0, v, _ => v = .agg #[.int .i64 360, .int .i64 364]
  | 1, v, _ => v = .agg #[.int .i64 540, .int .i64 545]
  | 2, v, w => ∃ g, v = .slice (some ⟨g, 0, none⟩) 2 2 ∧ n0 ≤ g ∧ Blk w g 29 #[.int .i64 360, .int .i64 364, .int .i64 540, .int .i64 545]
  | 3, v, w => ∃ g, v = .slice (some ⟨g, 0, none⟩) 3 3 ∧ n0 ≤ g ∧ Blk w g 3 #[.int .i64 0, .int .i64 1, .int .i64 2]
  | 4, v, w => ∃ g, v = .slice (some ⟨g, 0, none⟩) 3 3 ∧ n0 ≤ g ∧ Blk w g 3 #[.int .i64 1, .int .i64 2, .int .i64 0]
  | 5, v, w => ∃ g r1 r2, v = .slice (some ⟨g, 0, none⟩) 2 2 ∧ (n0 ≤ g ∧ n0 ≤ r1 ∧ n0 ≤ r2) ∧ Blk w g 34 #[.slice (some ⟨r1, 0, none⟩) 3 3, .slice (some ⟨r2, 0, none⟩) 3 3] ∧ Blk w r1 3 #[.int .i64 0, .int .i64 1, .int .i64 2] ∧ Blk w r2 3 #[.int .i64 1, .int .i64 2, .int .i64 0]
  | 6, v, _ => v = .agg #[.int .i64 362, .int .i64 366]
  | 7, v, _ => v = .agg #[.int .i64 0, .int .i64 1, .int .i64 362, .int .i64 366]
  | 8, v, _ => v = .agg #[.int .i64 400, .int .i64 400]
  | 9, v, _ => v = .agg #[.int .i64 1, .int .i64 2, .int .i64 400, .int .i64 400]
  | 10, v, _ => v = .agg #[.int .i64 359, .int .i64 359]
  | 11, v, _ => v = .agg #[.int .i64 0, .int .i64 0, .int .i64 359, .int .i64 359]
  | 12, v, _ => v = .agg #[.int .i64 lo, .int .i64 hi]
  | 13, v, _ => v = .agg #[.int .i64 1, .int .i64 0, .int .i64 lo, .int .i64 hi]
  | 14, v, w => ∃ g, v = .slice (some ⟨g, 0, none⟩) 4 4 ∧ n0 ≤ g ∧ Blk w g 59 (flatX (bookB lo hi).shots).toArray
  | 15, v, w => ∃ g1 g2 r1 r2 g3, v = .agg #[.int .i64 3, .slice (some ⟨g1, 0, none⟩) 2 2, .slice (some ⟨g2, 0, none⟩) 2 2, .slice (some ⟨g3, 0, none⟩) 4 4] ∧ BkB w n0 lo hi g1 g2 r1 r2 g3
  | _, _, _ => True
theorem bkFact_mono (n0 : Nat) (lo hi : Int) : ∀ i v w w', Ext w w' → bkFact n0 lo hi i v w → bkFact n0 lo hi i v w' := by
  intro i v w w' hE h
  match i, h with
  | 0, h | 1, h | 6, h | 7, h | 8, h | 9, h | 10, h | 11, h | 12, h | 13, h => exact h
  | 2, ⟨g, e, n, h⟩ => exact ⟨g, e, n, h.ext hE⟩
  | 3, ⟨g, e, n, h⟩ => exact ⟨g, e, n, h.ext hE⟩
  | 4, ⟨g, e, n, h⟩ => exact ⟨g, e, n, h.ext hE⟩
  | 5, ⟨g, r1, r2, e, n, h, h1, h2⟩ => exact ⟨g, r1, r2, e, n, h.ext hE, h1.ext hE, h2.ext hE⟩
  | 14, ⟨g, e, n, h⟩ => exact ⟨g, e, n, h.ext hE⟩
  | 15, ⟨g1, g2, r1, r2, g3, e, h⟩ => exact ⟨g1, g2, r1, r2, g3, e, h.ext hE⟩
  | n + 16, _ => trivial

/-- What stands still while the book is made: the span that came in, and the result's block. -/
def bkBase (lo hi : Int) (W0 : World) (g1 g2 : Nat) (z : Array Value) (w : World) : Prop := Ext W0 w ∧ Blk w g1 29 #[.int .i64 lo, .int .i64 hi] ∧ Blk w g2 26 z
theorem bkBase.ext {lo hi : Int} {W0 : World} {g1 g2 : Nat} {z : Array Value} {w w' : World} (h : bkBase lo hi W0 g1 g2 z w) (hE : Ext w w') : bkBase lo hi W0 g1 g2 z w' := ⟨h.1.trans hE, h.2.1.ext hE, h.2.2.ext hE⟩

set_option maxRecDepth 100000 in
set_option maxHeartbeats 4000000 in
theorem book_any (lo hi : Int) (w : World) : Calls Tryd.prog 55 #[.agg #[.int .i64 lo, .int .i64 hi]] w
    fun e w' => (∃ g1 g2 r1 r2 g3, e = .returned (.agg #[.int .i64 3, .slice (some ⟨g1, 0, none⟩) 2 2, .slice (some ⟨g2, 0, none⟩) 2 2, .slice (some ⟨g3, 0, none⟩) 4 4]) ∧ BkB w' w.heap.size lo hi g1 g2 r1 r2 g3) ∧ Ext w w' := by
  go_enter Tryd.func55, Tryd.ntmps55
  go_upto_region 1 with (fail)
  obtain ⟨W0, hW0⟩ : ∃ W0, W0 = (w.alloc (.cells #[.int .i64 lo, .int .i64 hi] 29)).alloc (.cells #[.int .i64 0, .slice none 0 0, .slice none 0 0, .slice none 0 0] 26) := ⟨_, rfl⟩
  have E0 : Ext w W0 := by rw [hW0]; exact (Ext.alloc _ _).trans (Ext.alloc _ _)
  have bA : Blk W0 w.heap.size 29 #[.int .i64 lo, .int .i64 hi] := by rw [hW0]; exact (Blk.new _ _ _).alloc _
  have bR : Blk W0 (w.heap.size + 1) 26 #[.int .i64 0, .slice none 0 0, .slice none 0 0, .slice none 0 0] := by rw [hW0]; have := Blk.new (w.alloc (.cells #[.int .i64 lo, .int .i64 hi] 29)) 26 #[.int .i64 0, .slice none 0 0, .slice none 0 0, .slice none 0 0]; simpa using this
  rw [← hW0]
  clear hW0
  have hgR : w.heap.size ≤ w.heap.size + 1 := Nat.le_succ _
  obtain ⟨gA, hgA⟩ : ∃ g, g = w.heap.size := ⟨_, rfl⟩
  obtain ⟨gR, hgR'⟩ : ∃ g, g = w.heap.size + 1 := ⟨_, rfl⟩
  rw [← hgR'] at bR hgR ⊢
  rw [← hgA] at bA ⊢
  clear hgA hgR'
  refine wp_region_facts 16 (fun v => ⟨#[.agg #[.int .i64 lo, .int .i64 hi], .pointer (some ⟨gA, 0, none⟩), .pointer (some ⟨gR, 0, none⟩), v 0, v 1, v 2, v 3, v 4, v 5, v 6, v 7, v 8, v 9, v 10, v 11, v 12, v 13, v 14, v 15], []⟩) (bkFact W0.heap.size lo hi) (bkBase lo hi W0 gA gR #[.int .i64 0, .slice none 0 0, .slice none 0 0, .slice none 0 0]) (fun _ => undef) (by kernel_rfl) rfl (by kernel_rfl) (by kernel_rfl) (bkFact_mono W0.heap.size lo hi) ⟨Ext.drew _, bA.drew, bR.drew⟩ ?_ ?_
  · intro i hil vals wx K hb hd HK
    have hsz := hb.1.size
    have hb' := Lib.hid hb
    rcases i with _ | _ | _ | _ | _ | _ | _ | _ | _ | _ | _ | _ | _ | _ | _ | _ | i
    · refine wpOp_step (nth_at rfl) fun K' hK' => ?_
      rw [if_pos (by rfl)]
      go_simp
      go_at_call 45
      refine (to_any _ _ _).mono ?_
      rintro e w1 ⟨rfl, hE1⟩
      have hk := HK.out _ _ (show bkFact W0.heap.size lo hi _ _ _ from rfl) (hb.ext hE1) hE1
      refine hK' _ _ ?_
      exact hk
    · refine wpOp_step (nth_at rfl) fun K' hK' => ?_
      rw [if_pos (by rfl)]
      go_simp
      go_at_call 45
      refine (to_any _ _ _).mono ?_
      rintro e w1 ⟨rfl, hE1⟩
      have hk := HK.out _ _ (show bkFact W0.heap.size lo hi _ _ _ from rfl) (hb.ext hE1) hE1
      refine hK' _ _ ?_
      exact hk
    · have f0 : vals 0 = _ := hd _ rfl 0 (by decide)
      have f1 : vals 1 = _ := hd _ rfl 1 (by decide)
      refine wpOp_step (nth_at rfl) fun K' hK' => ?_
      rw [if_pos (by rfl)]
      go_simp
      have hE1 := Ext.alloc wx (.cells #[.int .i64 360, .int .i64 364, .int .i64 540, .int .i64 545] 29)
      have hk := HK.out (.slice (some ⟨wx.heap.size, 0, none⟩) 2 2) _ ⟨_, rfl, hsz, Blk.new _ _ _⟩ (hb.ext hE1) hE1
      refine hK' _ _ ?_
      simpa [upd, f0, f1, flatS] using hk
    · refine wpOp_step (nth_at rfl) fun K' hK' => ?_
      rw [if_pos (by rfl)]
      go_simp
      have hE1 := Ext.alloc wx (.cells #[.int .i64 0, .int .i64 1, .int .i64 2] 3)
      exact hK' _ _ (HK.out (.slice (some ⟨wx.heap.size, 0, none⟩) 3 3) _ ⟨_, rfl, hsz, Blk.new _ _ _⟩ (hb.ext hE1) hE1)
    · refine wpOp_step (nth_at rfl) fun K' hK' => ?_
      rw [if_pos (by rfl)]
      go_simp
      have hE1 := Ext.alloc wx (.cells #[.int .i64 1, .int .i64 2, .int .i64 0] 3)
      exact hK' _ _ (HK.out (.slice (some ⟨wx.heap.size, 0, none⟩) 3 3) _ ⟨_, rfl, hsz, Blk.new _ _ _⟩ (hb.ext hE1) hE1)
    · obtain ⟨g1, f3, m3, h3⟩ : ∃ g, vals 3 = .slice (some ⟨g, 0, none⟩) 3 3 ∧ W0.heap.size ≤ g ∧ Blk wx g 3 #[.int .i64 0, .int .i64 1, .int .i64 2] := hd _ rfl 3 (by decide)
      obtain ⟨g2, f4, m4, h4⟩ : ∃ g, vals 4 = .slice (some ⟨g, 0, none⟩) 3 3 ∧ W0.heap.size ≤ g ∧ Blk wx g 3 #[.int .i64 1, .int .i64 2, .int .i64 0] := hd _ rfl 4 (by decide)
      refine wpOp_step (nth_at rfl) fun K' hK' => ?_
      rw [if_pos (by rfl)]
      go_simp
      have hE1 := Ext.alloc wx (.cells #[.slice (some ⟨g1, 0, none⟩) 3 3, .slice (some ⟨g2, 0, none⟩) 3 3] 34)
      have hk := HK.out (.slice (some ⟨wx.heap.size, 0, none⟩) 2 2) _ ⟨_, g1, g2, rfl, ⟨hsz, m3, m4⟩, Blk.new _ _ _, h3.ext hE1, h4.ext hE1⟩ (hb.ext hE1) hE1
      refine hK' _ _ ?_
      simpa [upd, f3, f4] using hk
    · refine wpOp_step (nth_at rfl) fun K' hK' => ?_
      rw [if_pos (by rfl)]
      go_simp
      go_at_call 45
      refine (to_any _ _ _).mono ?_
      rintro e w1 ⟨rfl, hE1⟩
      have hk := HK.out _ _ (show bkFact W0.heap.size lo hi _ _ _ from rfl) (hb.ext hE1) hE1
      refine hK' _ _ ?_
      exact hk
    · have f6 : vals 6 = _ := hd _ rfl 6 (by decide)
      refine wpOp_step (nth_at rfl) fun K' hK' => ?_
      rw [if_pos (by rfl)]
      go_simp
      go_at_call 91
      refine (aim_any _ _ _ _ _).mono ?_
      rintro e w1 ⟨rfl, hE1⟩
      have hk := HK.out _ _ (show bkFact W0.heap.size lo hi _ _ _ from rfl) (hb.ext hE1) hE1
      refine hK' _ _ ?_
      simpa [upd, f6] using hk
    · refine wpOp_step (nth_at rfl) fun K' hK' => ?_
      rw [if_pos (by rfl)]
      go_simp
      go_at_call 56
      refine (just_any _ _).mono ?_
      rintro e w1 ⟨rfl, hE1⟩
      have hk := HK.out _ _ (show bkFact W0.heap.size lo hi _ _ _ from rfl) (hb.ext hE1) hE1
      refine hK' _ _ ?_
      exact hk
    · have f8 : vals 8 = _ := hd _ rfl 8 (by decide)
      refine wpOp_step (nth_at rfl) fun K' hK' => ?_
      rw [if_pos (by rfl)]
      go_simp
      go_at_call 91
      refine (aim_any _ _ _ _ _).mono ?_
      rintro e w1 ⟨rfl, hE1⟩
      have hk := HK.out _ _ (show bkFact W0.heap.size lo hi _ _ _ from rfl) (hb.ext hE1) hE1
      refine hK' _ _ ?_
      simpa [upd, f8] using hk
    · refine wpOp_step (nth_at rfl) fun K' hK' => ?_
      rw [if_pos (by rfl)]
      go_simp
      go_at_call 56
      refine (just_any _ _).mono ?_
      rintro e w1 ⟨rfl, hE1⟩
      have hk := HK.out _ _ (show bkFact W0.heap.size lo hi _ _ _ from rfl) (hb.ext hE1) hE1
      refine hK' _ _ ?_
      exact hk
    · have f10 : vals 10 = _ := hd _ rfl 10 (by decide)
      refine wpOp_step (nth_at rfl) fun K' hK' => ?_
      rw [if_pos (by rfl)]
      go_simp
      go_at_call 91
      refine (aim_any _ _ _ _ _).mono ?_
      rintro e w1 ⟨rfl, hE1⟩
      have hk := HK.out _ _ (show bkFact W0.heap.size lo hi _ _ _ from rfl) (hb.ext hE1) hE1
      refine hK' _ _ ?_
      simpa [upd, f10] using hk
    · obtain ⟨k0, k1⟩ := hb.2.1.c2
      refine wpOp_step (nth_at rfl) fun K' hK' => ?_
      rw [if_pos (by rfl)]
      go_simp
      exact hK' _ _ (HK.out _ _ (show bkFact W0.heap.size lo hi 12 (.agg #[.int .i64 lo, .int .i64 hi]) _ from rfl) hb (Ext.refl _))
    · have f12 : vals 12 = _ := hd _ rfl 12 (by decide)
      refine wpOp_step (nth_at rfl) fun K' hK' => ?_
      rw [if_pos (by rfl)]
      go_simp
      go_at_call 91
      refine (aim_any _ _ _ _ _).mono ?_
      rintro e w1 ⟨rfl, hE1⟩
      have hk := HK.out _ _ (show bkFact W0.heap.size lo hi _ _ _ from rfl) (hb.ext hE1) hE1
      refine hK' _ _ ?_
      simpa [upd, f12] using hk
    · have f7 : vals 7 = _ := hd _ rfl 7 (by decide)
      have f9 : vals 9 = _ := hd _ rfl 9 (by decide)
      have f11 : vals 11 = _ := hd _ rfl 11 (by decide)
      have f13 : vals 13 = _ := hd _ rfl 13 (by decide)
      refine wpOp_step (nth_at rfl) fun K' hK' => ?_
      rw [if_pos (by rfl)]
      go_simp
      have hE1 := Ext.alloc wx (.cells (flatX (bookB lo hi).shots).toArray 59)
      have hk := HK.out (.slice (some ⟨wx.heap.size, 0, none⟩) 4 4) _ ⟨_, rfl, hsz, Blk.new _ _ _⟩ (hb.ext hE1) hE1
      refine hK' _ _ ?_
      simpa [upd, f7, f9, f11, f13, flatX, bookB] using hk
    · obtain ⟨g1, f2, m2, h2⟩ : ∃ g, vals 2 = .slice (some ⟨g, 0, none⟩) 2 2 ∧ W0.heap.size ≤ g ∧ Blk wx g 29 #[.int .i64 360, .int .i64 364, .int .i64 540, .int .i64 545] := hd _ rfl 2 (by decide)
      obtain ⟨g2, r1, r2, f5, ⟨m5, m6, m7⟩, h5, h6, h7⟩ : ∃ g r1 r2, vals 5 = .slice (some ⟨g, 0, none⟩) 2 2 ∧ (W0.heap.size ≤ g ∧ W0.heap.size ≤ r1 ∧ W0.heap.size ≤ r2) ∧ Blk wx g 34 #[.slice (some ⟨r1, 0, none⟩) 3 3, .slice (some ⟨r2, 0, none⟩) 3 3] ∧ Blk wx r1 3 #[.int .i64 0, .int .i64 1, .int .i64 2] ∧ Blk wx r2 3 #[.int .i64 1, .int .i64 2, .int .i64 0] := hd _ rfl 5 (by decide)
      obtain ⟨g3, f14, m14, h14⟩ : ∃ g, vals 14 = .slice (some ⟨g, 0, none⟩) 4 4 ∧ W0.heap.size ≤ g ∧ Blk wx g 59 (flatX (bookB lo hi).shots).toArray := hd _ rfl 14 (by decide)
      refine wpOp_step (nth_at rfl) fun K' hK' => ?_
      rw [if_pos (by rfl)]
      go_simp
      have hk := HK.out (.agg #[.int .i64 3, .slice (some ⟨g1, 0, none⟩) 2 2, .slice (some ⟨g2, 0, none⟩) 2 2, .slice (some ⟨g3, 0, none⟩) 4 4]) _ ⟨_, _, r1, r2, _, rfl, ⟨m2, m5, m6, m7, m14, h2, h5, h6, h7, h14⟩⟩ hb (Ext.refl _)
      refine hK' _ _ ?_
      simpa [upd, f2, f5, f14] using hk
    · omega
  · intro vals wx hb hf
    obtain ⟨g1, g2, r1, r2, g3, f15, h15⟩ := hf 15 (by decide)
    have hlt := bR.lt
    obtain ⟨z0, z1, z2, z3⟩ := hb.2.2.c4
    have fz := fun i => hb.2.2.frozen i
    refine wpOp_step (nth_at rfl) fun K' hK' => ?_
    rw [if_pos (by rfl)]
    go_simp
    refine hK' _ _ ?_
    obtain ⟨W1, hW1⟩ : ∃ W1, W1 = (((wx.setCell ⟨gR, 0, none⟩ (.int .i64 3)).setCell ⟨gR, 1, none⟩ (.slice (some ⟨g1, 0, none⟩) 2 2)).setCell ⟨gR, 2, none⟩ (.slice (some ⟨g2, 0, none⟩) 2 2)).setCell ⟨gR, 3, none⟩ (.slice (some ⟨g3, 0, none⟩) 4 4) := ⟨_, rfl⟩
    have t1 : Blk W1 gR 26 #[.int .i64 3, .slice (some ⟨g1, 0, none⟩) 2 2, .slice (some ⟨g2, 0, none⟩) 2 2, .slice (some ⟨g3, 0, none⟩) 4 4] := by
      rw [hW1]; simpa using (((hb.2.2.put 0 (.int .i64 3)).put 1 (.slice (some ⟨g1, 0, none⟩) 2 2)).put 2 (.slice (some ⟨g2, 0, none⟩) 2 2)).put 3 (.slice (some ⟨g3, 0, none⟩) 4 4)
    have X1 : Ext w W1 := by rw [hW1]; exact Below.setCell (Below.setCell (Below.setCell (Below.setCell (E0.trans hb.1) hgR _) hgR _) hgR _) hgR _
    have hB1 : BkB W1 W0.heap.size lo hi g1 g2 r1 r2 g3 := by rw [hW1]; exact (((h15.far hlt _).far hlt _).far hlt _).far hlt _
    rw [← hW1]
    clear hW1 z0 z1 z2 z3 fz
    obtain ⟨z0, z1, z2, z3⟩ := t1.c4
    go_wp2
    refine bodyPost_ret (v := .agg #[.int .i64 3, .slice (some ⟨g1, 0, none⟩) 2 2, .slice (some ⟨g2, 0, none⟩) 2 2, .slice (some ⟨g3, 0, none⟩) 4 4]) ?_ rfl ⟨⟨_, _, r1, r2, _, rfl, hB1.le E0.size⟩, X1⟩
    simp [results, Tryd.results55, go_sem, z0, z1, z2, z3]

set_option maxRecDepth 100000 in
set_option maxHeartbeats 4000000 in
theorem own_any (w : World) : Calls Tryd.prog 54 #[] w
    fun e w' => (∃ g1 g2 r1 r2 g3, e = .returned (.agg #[.int .i64 3, .slice (some ⟨g1, 0, none⟩) 2 2, .slice (some ⟨g2, 0, none⟩) 2 2, .slice (some ⟨g3, 0, none⟩) 4 4]) ∧ BkB w' w.heap.size 541 543 g1 g2 r1 r2 g3) ∧ Ext w w' := by
  go_enter Tryd.func54, Tryd.ntmps54
  go_upto_region 1 with (fail)
  obtain ⟨W0, hW0⟩ : ∃ W0, W0 = w.alloc (.cells #[.int .i64 0, .slice none 0 0, .slice none 0 0, .slice none 0 0] 26) := ⟨_, rfl⟩
  have E0 : Ext w W0 := by rw [hW0]; exact Ext.alloc _ _
  have b0 : Blk W0 w.heap.size 26 #[.int .i64 0, .slice none 0 0, .slice none 0 0, .slice none 0 0] := by rw [hW0]; exact Blk.new _ _ _
  rw [← hW0]
  clear hW0
  obtain ⟨gR, hgR⟩ : ∃ g, g = w.heap.size := ⟨_, rfl⟩
  rw [← hgR] at b0 ⊢
  have hgR' : w.heap.size ≤ gR := by omega
  have hlt := b0.lt
  clear hgR
  go_wp2_with (first | (go_at_call 45; refine (to_any _ _ _).mono ?_; rintro e w1 ⟨rfl, hE1⟩) | (go_at_call 55; refine (book_any _ _ _).mono ?_; rintro e w2 ⟨⟨g1, g2, r1, r2, g3, rfl, hB⟩, hE2⟩; have hE12 := Ext.trans hE1 hE2; obtain ⟨z0, z1, z2, z3⟩ := (b0.ext hE12).c4; have f0 := (b0.ext hE12).frozen 0; have f1 := (b0.ext hE12).frozen 1; have f2 := (b0.ext hE12).frozen 2; have f3 := (b0.ext hE12).frozen 3))
  obtain ⟨W1, hW1⟩ : ∃ W1, W1 = (((w2.setCell ⟨gR, 0, none⟩ (.int .i64 3)).setCell ⟨gR, 1, none⟩ (.slice (some ⟨g1, 0, none⟩) 2 2)).setCell ⟨gR, 2, none⟩ (.slice (some ⟨g2, 0, none⟩) 2 2)).setCell ⟨gR, 3, none⟩ (.slice (some ⟨g3, 0, none⟩) 4 4) := ⟨_, rfl⟩
  have t1 : Blk W1 gR 26 #[.int .i64 3, .slice (some ⟨g1, 0, none⟩) 2 2, .slice (some ⟨g2, 0, none⟩) 2 2, .slice (some ⟨g3, 0, none⟩) 4 4] := by
    rw [hW1]; simpa using ((((b0.ext hE12).put 0 (.int .i64 3)).put 1 (.slice (some ⟨g1, 0, none⟩) 2 2)).put 2 (.slice (some ⟨g2, 0, none⟩) 2 2)).put 3 (.slice (some ⟨g3, 0, none⟩) 4 4)
  have X1 : Ext w W1 := by rw [hW1]; exact Below.setCell (Below.setCell (Below.setCell (Below.setCell (E0.trans hE12) hgR' _) hgR' _) hgR' _) hgR' _
  have hlt1 : gR < w1.heap.size := Nat.lt_of_lt_of_le hlt hE1.size
  have hB1 : BkB W1 w1.heap.size 541 543 g1 g2 r1 r2 g3 := by rw [hW1]; exact (((hB.far hlt1 _).far hlt1 _).far hlt1 _).far hlt1 _
  rw [← hW1]
  clear hW1 z0 z1 z2 z3 f0 f1 f2 f3
  obtain ⟨z0, z1, z2, z3⟩ := t1.c4
  refine bodyPost_ret (v := .agg #[.int .i64 3, .slice (some ⟨g1, 0, none⟩) 2 2, .slice (some ⟨g2, 0, none⟩) 2 2, .slice (some ⟨g3, 0, none⟩) 4 4]) ?_ rfl ⟨⟨_, _, r1, r2, _, rfl, hB1.le (E0.trans hE1).size⟩, X1⟩
  simp [results, Tryd.results54, go_sem, z0, z1, z2, z3]

set_option maxRecDepth 100000 in
set_option maxHeartbeats 4000000 in
theorem late_any (w : World) : Calls Tryd.prog 73 #[] w
    fun e w' => (∃ g1 g2 r1 r2 g3, e = .returned (.agg #[.int .i64 3, .slice (some ⟨g1, 0, none⟩) 2 2, .slice (some ⟨g2, 0, none⟩) 2 2, .slice (some ⟨g3, 0, none⟩) 4 4]) ∧ BkB w' w.heap.size 542 542 g1 g2 r1 r2 g3) ∧ Ext w w' := by
  go_enter Tryd.func73, Tryd.ntmps73
  go_upto_region 1 with (fail)
  obtain ⟨W0, hW0⟩ : ∃ W0, W0 = w.alloc (.cells #[.int .i64 0, .slice none 0 0, .slice none 0 0, .slice none 0 0] 26) := ⟨_, rfl⟩
  have E0 : Ext w W0 := by rw [hW0]; exact Ext.alloc _ _
  have b0 : Blk W0 w.heap.size 26 #[.int .i64 0, .slice none 0 0, .slice none 0 0, .slice none 0 0] := by rw [hW0]; exact Blk.new _ _ _
  rw [← hW0]
  clear hW0
  obtain ⟨gR, hgR⟩ : ∃ g, g = w.heap.size := ⟨_, rfl⟩
  rw [← hgR] at b0 ⊢
  have hgR' : w.heap.size ≤ gR := by omega
  have hlt := b0.lt
  clear hgR
  go_wp2_with (first | (go_at_call 56; refine (just_any _ _).mono ?_; rintro e w1 ⟨rfl, hE1⟩) | (go_at_call 55; refine (book_any _ _ _).mono ?_; rintro e w2 ⟨⟨g1, g2, r1, r2, g3, rfl, hB⟩, hE2⟩; have hE12 := Ext.trans hE1 hE2; obtain ⟨z0, z1, z2, z3⟩ := (b0.ext hE12).c4; have f0 := (b0.ext hE12).frozen 0; have f1 := (b0.ext hE12).frozen 1; have f2 := (b0.ext hE12).frozen 2; have f3 := (b0.ext hE12).frozen 3))
  obtain ⟨W1, hW1⟩ : ∃ W1, W1 = (((w2.setCell ⟨gR, 0, none⟩ (.int .i64 3)).setCell ⟨gR, 1, none⟩ (.slice (some ⟨g1, 0, none⟩) 2 2)).setCell ⟨gR, 2, none⟩ (.slice (some ⟨g2, 0, none⟩) 2 2)).setCell ⟨gR, 3, none⟩ (.slice (some ⟨g3, 0, none⟩) 4 4) := ⟨_, rfl⟩
  have t1 : Blk W1 gR 26 #[.int .i64 3, .slice (some ⟨g1, 0, none⟩) 2 2, .slice (some ⟨g2, 0, none⟩) 2 2, .slice (some ⟨g3, 0, none⟩) 4 4] := by
    rw [hW1]; simpa using ((((b0.ext hE12).put 0 (.int .i64 3)).put 1 (.slice (some ⟨g1, 0, none⟩) 2 2)).put 2 (.slice (some ⟨g2, 0, none⟩) 2 2)).put 3 (.slice (some ⟨g3, 0, none⟩) 4 4)
  have X1 : Ext w W1 := by rw [hW1]; exact Below.setCell (Below.setCell (Below.setCell (Below.setCell (E0.trans hE12) hgR' _) hgR' _) hgR' _) hgR' _
  have hlt1 : gR < w1.heap.size := Nat.lt_of_lt_of_le hlt hE1.size
  have hB1 : BkB W1 w1.heap.size 542 542 g1 g2 r1 r2 g3 := by rw [hW1]; exact (((hB.far hlt1 _).far hlt1 _).far hlt1 _).far hlt1 _
  rw [← hW1]
  clear hW1 z0 z1 z2 z3 f0 f1 f2 f3
  obtain ⟨z0, z1, z2, z3⟩ := t1.c4
  refine bodyPost_ret (v := .agg #[.int .i64 3, .slice (some ⟨g1, 0, none⟩) 2 2, .slice (some ⟨g2, 0, none⟩) 2 2, .slice (some ⟨g3, 0, none⟩) 4 4]) ?_ rfl ⟨⟨_, _, r1, r2, _, rfl, hB1.le (E0.trans hE1).size⟩, X1⟩
  simp [results, Tryd.results73, go_sem, z0, z1, z2, z3]
end Go.Proofs.YtnhdcdhpfgdphaaDoor
