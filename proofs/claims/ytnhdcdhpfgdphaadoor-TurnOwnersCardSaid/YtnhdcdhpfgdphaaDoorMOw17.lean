/-
  The chapter's books: book, own, late, torn.
-/
import Derived.Test.YtnhdcdhpfgdphaaDoorMOw16
import Derived.Test.YtnhdcdhpfgdphaaDoorMOw9
import Derived.Test.YtnhdcdhpfgdphaaDoorMOw10
import Derived.Deep.RegionLawGrows
set_option linter.unusedSimpArgs false
set_option linter.unusedVariables false
namespace Go.Proofs.YtnhdcdhpfgdphaaDoor
open Go Go.RowKit

def bookB (lo hi : Int) : Bk := ⟨3, [(360, 364), (540, 545)], [[0, 1, 2], [1, 2, 0]], [⟨0, 1, 362, 366⟩, ⟨1, 2, 400, 400⟩, ⟨0, 0, 359, 359⟩, ⟨1, 0, lo, hi⟩]⟩

/-- The book's blocks. -/
structure BkB (w : World) (n0 : Nat) (lo hi : Int) (g1 g2 r1 r2 g3 : Nat) : Prop where
  n1 : n0 ≤ g1
  n2 : n0 ≤ g2
  n3 : n0 ≤ r1
  n4 : n0 ≤ r2
  n5 : n0 ≤ g3
  b1 : Blk w g1 29 #[.int .i64 360, .int .i64 364, .int .i64 540, .int .i64 545]
  b2 : Blk w g2 34 #[.slice (some ⟨r1, 0, none⟩) 3 3, .slice (some ⟨r2, 0, none⟩) 3 3]
  b3 : Blk w r1 3 #[.int .i64 0, .int .i64 1, .int .i64 2]
  b4 : Blk w r2 3 #[.int .i64 1, .int .i64 2, .int .i64 0]
  b5 : Blk w g3 59 (flatX (bookB lo hi).shots).toArray
theorem BkB.ext {w w' : World} {n0 : Nat} {lo hi : Int} {g1 g2 r1 r2 g3 : Nat} (h : BkB w n0 lo hi g1 g2 r1 r2 g3) (hE : Ext w w') : BkB w' n0 lo hi g1 g2 r1 r2 g3 :=
  ⟨h.n1, h.n2, h.n3, h.n4, h.n5, h.b1.ext hE, h.b2.ext hE, h.b3.ext hE, h.b4.ext hE, h.b5.ext hE⟩
theorem BkB.far {w : World} {n0 : Nat} {lo hi : Int} {g1 g2 r1 r2 g3 : Nat} (h : BkB w n0 lo hi g1 g2 r1 r2 g3) {p : Addr} (hp : p.block < n0) (u : Value) : BkB (w.setCell p u) n0 lo hi g1 g2 r1 r2 g3 :=
  ⟨h.n1, h.n2, h.n3, h.n4, h.n5, h.b1.far (by have := h.n1; omega) u, h.b2.far (by have := h.n2; omega) u, h.b3.far (by have := h.n3; omega) u, h.b4.far (by have := h.n4; omega) u, h.b5.far (by have := h.n5; omega) u⟩
theorem BkB.le {w : World} {n0 n1 : Nat} {lo hi : Int} {g1 g2 r1 r2 g3 : Nat} (h : BkB w n0 lo hi g1 g2 r1 r2 g3) (hn : n1 ≤ n0) : BkB w n1 lo hi g1 g2 r1 r2 g3 :=
  ⟨Nat.le_trans hn h.n1, Nat.le_trans hn h.n2, Nat.le_trans hn h.n3, Nat.le_trans hn h.n4, Nat.le_trans hn h.n5, h.b1, h.b2, h.b3, h.b4, h.b5⟩
theorem intA_blk {w : World} {g : Nat} {t : TypeId} (xs : List Int) (h : Blk w g t (ints xs).toArray) : IntA w (some ⟨g, 0, none⟩) xs := fun hp =>
  ⟨_, 0, rfl, h.lt, fun i hi => h.cell (by simp [ints, nAt, List.getElem?_eq_getElem hi])⟩
theorem spanA_blk {w : World} {g : Nat} {t : TypeId} (L : List (Int × Int)) (h : Blk w g t (flatS L).toArray) : SpanA w (some ⟨g, 0, none⟩) L := fun hp =>
  ⟨_, 0, rfl, h.lt, fun i hi => ⟨h.cell (by simpa using (flatS_at L i hi).1), h.cell (by simpa using (flatS_at L i hi).2)⟩⟩
theorem shotA_blk {w : World} {g : Nat} {t : TypeId} (L : List Sh) (h : Blk w g t (flatX L).toArray) : ShotA w (some ⟨g, 0, none⟩) L := fun hp =>
  ⟨_, 0, rfl, h.lt, fun i hi => ⟨h.cell (by simpa using (flatX_at L i hi).1), h.cell (by simpa using (flatX_at L i hi).2.1), h.cell (by simpa using (flatX_at L i hi).2.2.1), h.cell (by simpa using (flatX_at L i hi).2.2.2)⟩⟩
theorem BkB.book {w : World} {n0 : Nat} {lo hi : Int} {g1 g2 r1 r2 g3 : Nat} (h : BkB w n0 lo hi g1 g2 r1 r2 g3) : BookA w (bookB lo hi) (some ⟨g1, 0, none⟩) (some ⟨g2, 0, none⟩) (some ⟨g3, 0, none⟩) :=
  ⟨spanA_blk [(360, 364), (540, 545)] h.b1, fun _ => ⟨g2, 0, rfl, h.b2.lt, fun i hi => by
    rcases i with _ | _ | i
    · exact ⟨_, _, h.b2.cell rfl, by simp [bookB, oAt], intA_blk [0, 1, 2] h.b3⟩
    · exact ⟨_, _, h.b2.cell rfl, by simp [bookB, oAt], intA_blk [1, 2, 0] h.b4⟩
    · simp [bookB] at hi; omega⟩, shotA_blk (bookB lo hi).shots h.b5, by simp [bookB], by simp [bookB], by simp [bookB]⟩

def bkFact (n0 : Nat) (lo hi : Int) : Nat → Value → World → Prop
  | 0, v, _ => v = .agg #[.int .i64 360, .int .i64 364]
  | 1, v, _ => v = .agg #[.int .i64 540, .int .i64 545]
  | 2, v, w => ∃ g, v = .slice (some ⟨g, 0, none⟩) 2 2 ∧ n0 ≤ g ∧ Blk w g 29 #[.int .i64 360, .int .i64 364, .int .i64 540, .int .i64 545]
  | 3, v, w => ∃ g, v = .slice (some ⟨g, 0, none⟩) 3 3 ∧ n0 ≤ g ∧ Blk w g 3 #[.int .i64 0, .int .i64 1, .int .i64 2]
  | 4, v, w => ∃ g, v = .slice (some ⟨g, 0, none⟩) 3 3 ∧ n0 ≤ g ∧ Blk w g 3 #[.int .i64 1, .int .i64 2, .int .i64 0]
  | 5, v, w => ∃ g r1 r2, v = .slice (some ⟨g, 0, none⟩) 2 2 ∧ (n0 ≤ g ∧ n0 ≤ r1 ∧ n0 ≤ r2) ∧ Blk w g 34 #[.slice (some ⟨r1, 0, none⟩) 3 3, .slice (some ⟨r2, 0, none⟩) 3 3] ∧ Blk w r1 3 #[.int .i64 0, .int .i64 1, .int .i64 2] ∧ Blk w r2 3 #[.int .i64 1, .int .i64 2, .int .i64 0]
  | 6, v, _ => v = .agg #[.int .i64 362, .int .i64 366]
  | 7, v, _ => v = .agg #[.int .i64 0, .int .i64 1, .int .i64 362, .int .i64 366]
  | 8, v, _ => v = .agg #[.int .i64 400, .int .i64 400]
  | 9, v, _ => v = .agg #[.int .i64 1, .int .i64 2, .int .i64 400, .int .i64 400]
  | 10, v, _ => v = .agg #[.int .i64 359, .int .i64 359]
  | 11, v, _ => v = .agg #[.int .i64 0, .int .i64 0, .int .i64 359, .int .i64 359]
  | 12, v, _ => v = .agg #[.int .i64 lo, .int .i64 hi]
  | 13, v, _ => v = .agg #[.int .i64 1, .int .i64 0, .int .i64 lo, .int .i64 hi]
  | 14, v, w => ∃ g, v = .slice (some ⟨g, 0, none⟩) 4 4 ∧ n0 ≤ g ∧ Blk w g 59 (flatX (bookB lo hi).shots).toArray
  | 15, v, w => ∃ g1 g2 r1 r2 g3, v = .agg #[.int .i64 3, .slice (some ⟨g1, 0, none⟩) 2 2, .slice (some ⟨g2, 0, none⟩) 2 2, .slice (some ⟨g3, 0, none⟩) 4 4] ∧ BkB w n0 lo hi g1 g2 r1 r2 g3
  | _, _, _ => True
theorem bkFact_mono (n0 : Nat) (lo hi : Int) : ∀ i v w w', Ext w w' → bkFact n0 lo hi i v w → bkFact n0 lo hi i v w' := by
  intro i v w w' hE h
  match i, h with
  | 0, h | 1, h | 6, h | 7, h | 8, h | 9, h | 10, h | 11, h | 12, h | 13, h => exact h
  | 2, ⟨g, e, n, h⟩ => exact ⟨g, e, n, h.ext hE⟩
  | 3, ⟨g, e, n, h⟩ => exact ⟨g, e, n, h.ext hE⟩
  | 4, ⟨g, e, n, h⟩ => exact ⟨g, e, n, h.ext hE⟩
  | 5, ⟨g, r1, r2, e, n, h, h1, h2⟩ => exact ⟨g, r1, r2, e, n, h.ext hE, h1.ext hE, h2.ext hE⟩
  | 14, ⟨g, e, n, h⟩ => exact ⟨g, e, n, h.ext hE⟩
  | 15, ⟨g1, g2, r1, r2, g3, e, h⟩ => exact ⟨g1, g2, r1, r2, g3, e, h.ext hE⟩
  | n + 16, _ => trivial

/-- What stands still while the book is made: the span that came in, and the result's block. -/
def bkBase (lo hi : Int) (W0 : World) (g1 g2 : Nat) (z : Array Value) (w : World) : Prop := Ext W0 w ∧ Blk w g1 29 #[.int .i64 lo, .int .i64 hi] ∧ Blk w g2 26 z
theorem bkBase.ext {lo hi : Int} {W0 : World} {g1 g2 : Nat} {z : Array Value} {w w' : World} (h : bkBase lo hi W0 g1 g2 z w) (hE : Ext w w') : bkBase lo hi W0 g1 g2 z w' := ⟨h.1.trans hE, h.2.1.ext hE, h.2.2.ext hE⟩

set_option maxRecDepth 100000 in
set_option maxHeartbeats 4000000 in
theorem book_any (lo hi : Int) (w : World) : Calls Tryd.prog 55 #[.agg #[.int .i64 lo, .int .i64 hi]] w
    fun e w' => (∃ g1 g2 r1 r2 g3, e = .returned (.agg #[.int .i64 3, .slice (some ⟨g1, 0, none⟩) 2 2, .slice (some ⟨g2, 0, none⟩) 2 2, .slice (some ⟨g3, 0, none⟩) 4 4]) ∧ BkB w' w.heap.size lo hi g1 g2 r1 r2 g3) ∧ Ext w w' := by
  go_enter Tryd.func55, Tryd.ntmps55
  go_upto_region 1 with (fail)
  obtain ⟨W0, hW0⟩ : ∃ W0, W0 = (w.alloc (.cells #[.int .i64 lo, .int .i64 hi] 29)).alloc (.cells #[.int .i64 0, .slice none 0 0, .slice none 0 0, .slice none 0 0] 26) := ⟨_, rfl⟩
  have E0 : Ext w W0 := by rw [hW0]; exact (Ext.alloc _ _).trans (Ext.alloc _ _)
  have bA : Blk W0 w.heap.size 29 #[.int .i64 lo, .int .i64 hi] := by rw [hW0]; exact (Blk.new _ _ _).alloc _
  have bR : Blk W0 (w.heap.size + 1) 26 #[.int .i64 0, .slice none 0 0, .slice none 0 0, .slice none 0 0] := by rw [hW0]; have := Blk.new (w.alloc (.cells #[.int .i64 lo, .int .i64 hi] 29)) 26 #[.int .i64 0, .slice none 0 0, .slice none 0 0, .slice none 0 0]; simpa using this
  rw [← hW0]
  clear hW0
  have hgR : w.heap.size ≤ w.heap.size + 1 := Nat.le_succ _
  obtain ⟨gA, hgA⟩ : ∃ g, g = w.heap.size := ⟨_, rfl⟩
  obtain ⟨gR, hgR'⟩ : ∃ g, g = w.heap.size + 1 := ⟨_, rfl⟩
  rw [← hgR'] at bR hgR ⊢
  rw [← hgA] at bA ⊢
  clear hgA hgR'
  refine wp_region_facts 16 (fun v => ⟨#[.agg #[.int .i64 lo, .int .i64 hi], .pointer (some ⟨gA, 0, none⟩), .pointer (some ⟨gR, 0, none⟩), v 0, v 1, v 2, v 3, v 4, v 5, v 6, v 7, v 8, v 9, v 10, v 11, v 12, v 13, v 14, v 15], []⟩) (bkFact W0.heap.size lo hi) (bkBase lo hi W0 gA gR #[.int .i64 0, .slice none 0 0, .slice none 0 0, .slice none 0 0]) (fun _ => undef) (by kernel_rfl) rfl (by kernel_rfl) (by kernel_rfl) (bkFact_mono W0.heap.size lo hi) ⟨Ext.drew _, bA.drew, bR.drew⟩ ?_ ?_
  · intro i hil vals wx K hb hd HK
    have hsz := hb.1.size
    have hb' := Lib.hid hb
    rcases i with _ | _ | _ | _ | _ | _ | _ | _ | _ | _ | _ | _ | _ | _ | _ | _ | i
    · refine wpOp_step (nth_at rfl) fun K' hK' => ?_
      rw [if_pos (by rfl)]
      go_simp
      go_at_call 45
      refine (to_any _ _ _).mono ?_
      rintro e w1 ⟨rfl, hE1⟩
      have hk := HK.out _ _ (show bkFact W0.heap.size lo hi _ _ _ from rfl) (hb.ext hE1) hE1
      refine hK' _ _ ?_
      exact hk
    · refine wpOp_step (nth_at rfl) fun K' hK' => ?_
      rw [if_pos (by rfl)]
      go_simp
      go_at_call 45
      refine (to_any _ _ _).mono ?_
      rintro e w1 ⟨rfl, hE1⟩
      have hk := HK.out _ _ (show bkFact W0.heap.size lo hi _ _ _ from rfl) (hb.ext hE1) hE1
      refine hK' _ _ ?_
      exact hk
    · have f0 : vals 0 = _ := hd _ rfl 0 (by decide)
      have f1 : vals 1 = _ := hd _ rfl 1 (by decide)
      refine wpOp_step (nth_at rfl) fun K' hK' => ?_
      rw [if_pos (by rfl)]
      go_simp
      have hE1 := Ext.alloc wx (.cells #[.int .i64 360, .int .i64 364, .int .i64 540, .int .i64 545] 29)
      have hk := HK.out (.slice (some ⟨wx.heap.size, 0, none⟩) 2 2) _ ⟨_, rfl, hsz, Blk.new _ _ _⟩ (hb.ext hE1) hE1
      refine hK' _ _ ?_
      simpa [upd, f0, f1, flatS] using hk
    · refine wpOp_step (nth_at rfl) fun K' hK' => ?_
      rw [if_pos (by rfl)]
      go_simp
      have hE1 := Ext.alloc wx (.cells #[.int .i64 0, .int .i64 1, .int .i64 2] 3)
      exact hK' _ _ (HK.out (.slice (some ⟨wx.heap.size, 0, none⟩) 3 3) _ ⟨_, rfl, hsz, Blk.new _ _ _⟩ (hb.ext hE1) hE1)
    · refine wpOp_step (nth_at rfl) fun K' hK' => ?_
      rw [if_pos (by rfl)]
      go_simp
      have hE1 := Ext.alloc wx (.cells #[.int .i64 1, .int .i64 2, .int .i64 0] 3)
      exact hK' _ _ (HK.out (.slice (some ⟨wx.heap.size, 0, none⟩) 3 3) _ ⟨_, rfl, hsz, Blk.new _ _ _⟩ (hb.ext hE1) hE1)
    · obtain ⟨g1, f3, m3, h3⟩ : ∃ g, vals 3 = .slice (some ⟨g, 0, none⟩) 3 3 ∧ W0.heap.size ≤ g ∧ Blk wx g 3 #[.int .i64 0, .int .i64 1, .int .i64 2] := hd _ rfl 3 (by decide)
      obtain ⟨g2, f4, m4, h4⟩ : ∃ g, vals 4 = .slice (some ⟨g, 0, none⟩) 3 3 ∧ W0.heap.size ≤ g ∧ Blk wx g 3 #[.int .i64 1, .int .i64 2, .int .i64 0] := hd _ rfl 4 (by decide)
      refine wpOp_step (nth_at rfl) fun K' hK' => ?_
      rw [if_pos (by rfl)]
      go_simp
      have hE1 := Ext.alloc wx (.cells #[.slice (some ⟨g1, 0, none⟩) 3 3, .slice (some ⟨g2, 0, none⟩) 3 3] 34)
      have hk := HK.out (.slice (some ⟨wx.heap.size, 0, none⟩) 2 2) _ ⟨_, g1, g2, rfl, ⟨hsz, m3, m4⟩, Blk.new _ _ _, h3.ext hE1, h4.ext hE1⟩ (hb.ext hE1) hE1
      refine hK' _ _ ?_
      simpa [upd, f3, f4] using hk
    · refine wpOp_step (nth_at rfl) fun K' hK' => ?_
      rw [if_pos (by rfl)]
      go_simp
      go_at_call 45
      refine (to_any _ _ _).mono ?_
      rintro e w1 ⟨rfl, hE1⟩
      have hk := HK.out _ _ (show bkFact W0.heap.size lo hi _ _ _ from rfl) (hb.ext hE1) hE1
      refine hK' _ _ ?_
      exact hk
    · have f6 : vals 6 = _ := hd _ rfl 6 (by decide)
      refine wpOp_step (nth_at rfl) fun K' hK' => ?_
      rw [if_pos (by rfl)]
      go_simp
      go_at_call 91
      refine (aim_any _ _ _ _ _).mono ?_
      rintro e w1 ⟨rfl, hE1⟩
      have hk := HK.out _ _ (show bkFact W0.heap.size lo hi _ _ _ from rfl) (hb.ext hE1) hE1
      refine hK' _ _ ?_
      simpa [upd, f6] using hk
    · refine wpOp_step (nth_at rfl) fun K' hK' => ?_
      rw [if_pos (by rfl)]
      go_simp
      go_at_call 56
      refine (just_any _ _).mono ?_
      rintro e w1 ⟨rfl, hE1⟩
      have hk := HK.out _ _ (show bkFact W0.heap.size lo hi _ _ _ from rfl) (hb.ext hE1) hE1
      refine hK' _ _ ?_
      exact hk
    · have f8 : vals 8 = _ := hd _ rfl 8 (by decide)
      refine wpOp_step (nth_at rfl) fun K' hK' => ?_
      rw [if_pos (by rfl)]
      go_simp
      go_at_call 91
      refine (aim_any _ _ _ _ _).mono ?_
      rintro e w1 ⟨rfl, hE1⟩
      have hk := HK.out _ _ (show bkFact W0.heap.size lo hi _ _ _ from rfl) (hb.ext hE1) hE1
      refine hK' _ _ ?_
      simpa [upd, f8] using hk
    · refine wpOp_step (nth_at rfl) fun K' hK' => ?_
      rw [if_pos (by rfl)]
      go_simp
      go_at_call 56
      refine (just_any _ _).mono ?_
      rintro e w1 ⟨rfl, hE1⟩
      have hk := HK.out _ _ (show bkFact W0.heap.size lo hi _ _ _ from rfl) (hb.ext hE1) hE1
      refine hK' _ _ ?_
      exact hk
    · have f10 : vals 10 = _ := hd _ rfl 10 (by decide)
      refine wpOp_step (nth_at rfl) fun K' hK' => ?_
      rw [if_pos (by rfl)]
      go_simp
      go_at_call 91
      refine (aim_any _ _ _ _ _).mono ?_
      rintro e w1 ⟨rfl, hE1⟩
      have hk := HK.out _ _ (show bkFact W0.heap.size lo hi _ _ _ from rfl) (hb.ext hE1) hE1
      refine hK' _ _ ?_
      simpa [upd, f10] using hk
    · obtain ⟨k0, k1⟩ := hb.2.1.c2
      refine wpOp_step (nth_at rfl) fun K' hK' => ?_
      rw [if_pos (by rfl)]
      go_simp
      exact hK' _ _ (HK.out _ _ (show bkFact W0.heap.size lo hi 12 (.agg #[.int .i64 lo, .int .i64 hi]) _ from rfl) hb (Ext.refl _))
    · have f12 : vals 12 = _ := hd _ rfl 12 (by decide)
      refine wpOp_step (nth_at rfl) fun K' hK' => ?_
      rw [if_pos (by rfl)]
      go_simp
      go_at_call 91
      refine (aim_any _ _ _ _ _).mono ?_
      rintro e w1 ⟨rfl, hE1⟩
      have hk := HK.out _ _ (show bkFact W0.heap.size lo hi _ _ _ from rfl) (hb.ext hE1) hE1
      refine hK' _ _ ?_
      simpa [upd, f12] using hk
    · have f7 : vals 7 = _ := hd _ rfl 7 (by decide)
      have f9 : vals 9 = _ := hd _ rfl 9 (by decide)
      have f11 : vals 11 = _ := hd _ rfl 11 (by decide)
      have f13 : vals 13 = _ := hd _ rfl 13 (by decide)
      refine wpOp_step (nth_at rfl) fun K' hK' => ?_
      rw [if_pos (by rfl)]
      go_simp
      have hE1 := Ext.alloc wx (.cells (flatX (bookB lo hi).shots).toArray 59)
      have hk := HK.out (.slice (some ⟨wx.heap.size, 0, none⟩) 4 4) _ ⟨_, rfl, hsz, Blk.new _ _ _⟩ (hb.ext hE1) hE1
      refine hK' _ _ ?_
      simpa [upd, f7, f9, f11, f13, flatX, bookB] using hk
    · obtain ⟨g1, f2, m2, h2⟩ : ∃ g, vals 2 = .slice (some ⟨g, 0, none⟩) 2 2 ∧ W0.heap.size ≤ g ∧ Blk wx g 29 #[.int .i64 360, .int .i64 364, .int .i64 540, .int .i64 545] := hd _ rfl 2 (by decide)
      obtain ⟨g2, r1, r2, f5, ⟨m5, m6, m7⟩, h5, h6, h7⟩ : ∃ g r1 r2, vals 5 = .slice (some ⟨g, 0, none⟩) 2 2 ∧ (W0.heap.size ≤ g ∧ W0.heap.size ≤ r1 ∧ W0.heap.size ≤ r2) ∧ Blk wx g 34 #[.slice (some ⟨r1, 0, none⟩) 3 3, .slice (some ⟨r2, 0, none⟩) 3 3] ∧ Blk wx r1 3 #[.int .i64 0, .int .i64 1, .int .i64 2] ∧ Blk wx r2 3 #[.int .i64 1, .int .i64 2, .int .i64 0] := hd _ rfl 5 (by decide)
      obtain ⟨g3, f14, m14, h14⟩ : ∃ g, vals 14 = .slice (some ⟨g, 0, none⟩) 4 4 ∧ W0.heap.size ≤ g ∧ Blk wx g 59 (flatX (bookB lo hi).shots).toArray := hd _ rfl 14 (by decide)
      refine wpOp_step (nth_at rfl) fun K' hK' => ?_
      rw [if_pos (by rfl)]
      go_simp
      have hk := HK.out (.agg #[.int .i64 3, .slice (some ⟨g1, 0, none⟩) 2 2, .slice (some ⟨g2, 0, none⟩) 2 2, .slice (some ⟨g3, 0, none⟩) 4 4]) _ ⟨_, _, r1, r2, _, rfl, ⟨m2, m5, m6, m7, m14, h2, h5, h6, h7, h14⟩⟩ hb (Ext.refl _)
      refine hK' _ _ ?_
      simpa [upd, f2, f5, f14] using hk
    · omega
  · intro vals wx hb hf
    obtain ⟨g1, g2, r1, r2, g3, f15, h15⟩ := hf 15 (by decide)
    have hlt := bR.lt
    obtain ⟨z0, z1, z2, z3⟩ := hb.2.2.c4
    have fz := fun i => hb.2.2.frozen i
    refine wpOp_step (nth_at rfl) fun K' hK' => ?_
    rw [if_pos (by rfl)]
    go_simp
    refine hK' _ _ ?_
    obtain ⟨W1, hW1⟩ : ∃ W1, W1 = (((wx.setCell ⟨gR, 0, none⟩ (.int .i64 3)).setCell ⟨gR, 1, none⟩ (.slice (some ⟨g1, 0, none⟩) 2 2)).setCell ⟨gR, 2, none⟩ (.slice (some ⟨g2, 0, none⟩) 2 2)).setCell ⟨gR, 3, none⟩ (.slice (some ⟨g3, 0, none⟩) 4 4) := ⟨_, rfl⟩
    have t1 : Blk W1 gR 26 #[.int .i64 3, .slice (some ⟨g1, 0, none⟩) 2 2, .slice (some ⟨g2, 0, none⟩) 2 2, .slice (some ⟨g3, 0, none⟩) 4 4] := by
      rw [hW1]; simpa using (((hb.2.2.put 0 (.int .i64 3)).put 1 (.slice (some ⟨g1, 0, none⟩) 2 2)).put 2 (.slice (some ⟨g2, 0, none⟩) 2 2)).put 3 (.slice (some ⟨g3, 0, none⟩) 4 4)
    have X1 : Ext w W1 := by rw [hW1]; exact Below.setCell (Below.setCell (Below.setCell (Below.setCell (E0.trans hb.1) hgR _) hgR _) hgR _) hgR _
    have hB1 : BkB W1 W0.heap.size lo hi g1 g2 r1 r2 g3 := by rw [hW1]; exact (((h15.far hlt _).far hlt _).far hlt _).far hlt _
    rw [← hW1]
    clear hW1 z0 z1 z2 z3 fz
    obtain ⟨z0, z1, z2, z3⟩ := t1.c4
    go_wp2
    refine bodyPost_ret (v := .agg #[.int .i64 3, .slice (some ⟨g1, 0, none⟩) 2 2, .slice (some ⟨g2, 0, none⟩) 2 2, .slice (some ⟨g3, 0, none⟩) 4 4]) ?_ rfl ⟨⟨_, _, r1, r2, _, rfl, hB1.le E0.size⟩, X1⟩
    simp [results, Tryd.results55, go_sem, z0, z1, z2, z3]

set_option maxRecDepth 100000 in
set_option maxHeartbeats 4000000 in
theorem own_any (w : World) : Calls Tryd.prog 54 #[] w
    fun e w' => (∃ g1 g2 r1 r2 g3, e = .returned (.agg #[.int .i64 3, .slice (some ⟨g1, 0, none⟩) 2 2, .slice (some ⟨g2, 0, none⟩) 2 2, .slice (some ⟨g3, 0, none⟩) 4 4]) ∧ BkB w' w.heap.size 541 543 g1 g2 r1 r2 g3) ∧ Ext w w' := by
  go_enter Tryd.func54, Tryd.ntmps54
  go_upto_region 1 with (fail)
  obtain ⟨W0, hW0⟩ : ∃ W0, W0 = w.alloc (.cells #[.int .i64 0, .slice none 0 0, .slice none 0 0, .slice none 0 0] 26) := ⟨_, rfl⟩
  have E0 : Ext w W0 := by rw [hW0]; exact Ext.alloc _ _
  have b0 : Blk W0 w.heap.size 26 #[.int .i64 0, .slice none 0 0, .slice none 0 0, .slice none 0 0] := by rw [hW0]; exact Blk.new _ _ _
  rw [← hW0]
  clear hW0
  obtain ⟨gR, hgR⟩ : ∃ g, g = w.heap.size := ⟨_, rfl⟩
  rw [← hgR] at b0 ⊢
  have hgR' : w.heap.size ≤ gR := by omega
  have hlt := b0.lt
  clear hgR
  go_wp2_with (first | (go_at_call 45; refine (to_any _ _ _).mono ?_; rintro e w1 ⟨rfl, hE1⟩) | (go_at_call 55; refine (book_any _ _ _).mono ?_; rintro e w2 ⟨⟨g1, g2, r1, r2, g3, rfl, hB⟩, hE2⟩; have hE12 := Ext.trans hE1 hE2; obtain ⟨z0, z1, z2, z3⟩ := (b0.ext hE12).c4; have f0 := (b0.ext hE12).frozen 0; have f1 := (b0.ext hE12).frozen 1; have f2 := (b0.ext hE12).frozen 2; have f3 := (b0.ext hE12).frozen 3))
  obtain ⟨W1, hW1⟩ : ∃ W1, W1 = (((w2.setCell ⟨gR, 0, none⟩ (.int .i64 3)).setCell ⟨gR, 1, none⟩ (.slice (some ⟨g1, 0, none⟩) 2 2)).setCell ⟨gR, 2, none⟩ (.slice (some ⟨g2, 0, none⟩) 2 2)).setCell ⟨gR, 3, none⟩ (.slice (some ⟨g3, 0, none⟩) 4 4) := ⟨_, rfl⟩
  have t1 : Blk W1 gR 26 #[.int .i64 3, .slice (some ⟨g1, 0, none⟩) 2 2, .slice (some ⟨g2, 0, none⟩) 2 2, .slice (some ⟨g3, 0, none⟩) 4 4] := by
    rw [hW1]; simpa using ((((b0.ext hE12).put 0 (.int .i64 3)).put 1 (.slice (some ⟨g1, 0, none⟩) 2 2)).put 2 (.slice (some ⟨g2, 0, none⟩) 2 2)).put 3 (.slice (some ⟨g3, 0, none⟩) 4 4)
  have X1 : Ext w W1 := by rw [hW1]; exact Below.setCell (Below.setCell (Below.setCell (Below.setCell (E0.trans hE12) hgR' _) hgR' _) hgR' _) hgR' _
  have hlt1 : gR < w1.heap.size := Nat.lt_of_lt_of_le hlt hE1.size
  have hB1 : BkB W1 w1.heap.size 541 543 g1 g2 r1 r2 g3 := by rw [hW1]; exact (((hB.far hlt1 _).far hlt1 _).far hlt1 _).far hlt1 _
  rw [← hW1]
  clear hW1 z0 z1 z2 z3 f0 f1 f2 f3
  obtain ⟨z0, z1, z2, z3⟩ := t1.c4
  refine bodyPost_ret (v := .agg #[.int .i64 3, .slice (some ⟨g1, 0, none⟩) 2 2, .slice (some ⟨g2, 0, none⟩) 2 2, .slice (some ⟨g3, 0, none⟩) 4 4]) ?_ rfl ⟨⟨_, _, r1, r2, _, rfl, hB1.le (E0.trans hE1).size⟩, X1⟩
  simp [results, Tryd.results54, go_sem, z0, z1, z2, z3]

set_option maxRecDepth 100000 in
set_option maxHeartbeats 4000000 in
theorem late_any (w : World) : Calls Tryd.prog 73 #[] w
    fun e w' => (∃ g1 g2 r1 r2 g3, e = .returned (.agg #[.int .i64 3, .slice (some ⟨g1, 0, none⟩) 2 2, .slice (some ⟨g2, 0, none⟩) 2 2, .slice (some ⟨g3, 0, none⟩) 4 4]) ∧ BkB w' w.heap.size 542 542 g1 g2 r1 r2 g3) ∧ Ext w w' := by
  go_enter Tryd.func73, Tryd.ntmps73
  go_upto_region 1 with (fail)
  obtain ⟨W0, hW0⟩ : ∃ W0, W0 = w.alloc (.cells #[.int .i64 0, .slice none 0 0, .slice none 0 0, .slice none 0 0] 26) := ⟨_, rfl⟩
  have E0 : Ext w W0 := by rw [hW0]; exact Ext.alloc _ _
  have b0 : Blk W0 w.heap.size 26 #[.int .i64 0, .slice none 0 0, .slice none 0 0, .slice none 0 0] := by rw [hW0]; exact Blk.new _ _ _
  rw [← hW0]
  clear hW0
  obtain ⟨gR, hgR⟩ : ∃ g, g = w.heap.size := ⟨_, rfl⟩
  rw [← hgR] at b0 ⊢
  have hgR' : w.heap.size ≤ gR := by omega
  have hlt := b0.lt
  clear hgR
  go_wp2_with (first | (go_at_call 56; refine (just_any _ _).mono ?_; rintro e w1 ⟨rfl, hE1⟩) | (go_at_call 55; refine (book_any _ _ _).mono ?_; rintro e w2 ⟨⟨g1, g2, r1, r2, g3, rfl, hB⟩, hE2⟩; have hE12 := Ext.trans hE1 hE2; obtain ⟨z0, z1, z2, z3⟩ := (b0.ext hE12).c4; have f0 := (b0.ext hE12).frozen 0; have f1 := (b0.ext hE12).frozen 1; have f2 := (b0.ext hE12).frozen 2; have f3 := (b0.ext hE12).frozen 3))
  obtain ⟨W1, hW1⟩ : ∃ W1, W1 = (((w2.setCell ⟨gR, 0, none⟩ (.int .i64 3)).setCell ⟨gR, 1, none⟩ (.slice (some ⟨g1, 0, none⟩) 2 2)).setCell ⟨gR, 2, none⟩ (.slice (some ⟨g2, 0, none⟩) 2 2)).setCell ⟨gR, 3, none⟩ (.slice (some ⟨g3, 0, none⟩) 4 4) := ⟨_, rfl⟩
  have t1 : Blk W1 gR 26 #[.int .i64 3, .slice (some ⟨g1, 0, none⟩) 2 2, .slice (some ⟨g2, 0, none⟩) 2 2, .slice (some ⟨g3, 0, none⟩) 4 4] := by
    rw [hW1]; simpa using ((((b0.ext hE12).put 0 (.int .i64 3)).put 1 (.slice (some ⟨g1, 0, none⟩) 2 2)).put 2 (.slice (some ⟨g2, 0, none⟩) 2 2)).put 3 (.slice (some ⟨g3, 0, none⟩) 4 4)
  have X1 : Ext w W1 := by rw [hW1]; exact Below.setCell (Below.setCell (Below.setCell (Below.setCell (E0.trans hE12) hgR' _) hgR' _) hgR' _) hgR' _
  have hlt1 : gR < w1.heap.size := Nat.lt_of_lt_of_le hlt hE1.size
  have hB1 : BkB W1 w1.heap.size 542 542 g1 g2 r1 r2 g3 := by rw [hW1]; exact (((hB.far hlt1 _).far hlt1 _).far hlt1 _).far hlt1 _
  rw [← hW1]
  clear hW1 z0 z1 z2 z3 f0 f1 f2 f3
  obtain ⟨z0, z1, z2, z3⟩ := t1.c4
  refine bodyPost_ret (v := .agg #[.int .i64 3, .slice (some ⟨g1, 0, none⟩) 2 2, .slice (some ⟨g2, 0, none⟩) 2 2, .slice (some ⟨g3, 0, none⟩) 4 4]) ?_ rfl ⟨⟨_, _, r1, r2, _, rfl, hB1.le (E0.trans hE1).size⟩, X1⟩
  simp [results, Tryd.results73, go_sem, z0, z1, z2, z3]
end Go.Proofs.YtnhdcdhpfgdphaaDoor

/-
  The chapter's torn book.
-/
set_option linter.unusedSimpArgs false
set_option linter.unusedVariables false
namespace Go.Proofs.YtnhdcdhpfgdphaaDoor
open Go Go.RowKit

def tornB : Bk := { bookB 541 543 with shots := (bookB 541 543).shots ++ [⟨0, 0, 366, 366⟩] }
theorem ownsRow_far {w : World} {base n e s : Nat} {v : Value} {xs : List Value} (h : w.ownsRow base e s v n xs) {p : Addr} (hp : p.block < base) (u : Value) : (w.setCell p u).ownsRow base e s v n xs := by
  refine ⟨h.1, ?_⟩
  rcases h.2 with hn | ⟨g, cap, cur, hv, hb, hg, rest⟩
  · exact .inl hn
  · exact .inr ⟨g, cap, cur, hv, hb, (Below.heap_setCell w p u g (by omega)).trans hg, rest⟩

def tnFact (gT g3 n0 : Nat) : Nat → Value → World → Prop
  | 0, v, _ => v = .pointer (some ⟨gT, 3, none⟩)
  | 1, v, _ => v = .slice (some ⟨g3, 0, none⟩) 4 4
  | 2, v, _ => v = .agg #[.int .i64 366, .int .i64 366]
  | 3, v, _ => v = .agg #[.int .i64 0, .int .i64 0, .int .i64 366, .int .i64 366]
  | 4, v, w => ∃ g, v = .slice (some ⟨g, 0, none⟩) 1 1 ∧ Blk w g 59 #[.int .i64 0, .int .i64 0, .int .i64 366, .int .i64 366]
  | 5, v, w => w.ownsRow n0 59 4 v 5 (flatX tornB.shots)
  | 6, v, _ => v = .pointer (some ⟨gT, 3, none⟩)
  | _, _, _ => True
theorem tnFact_mono (gT g3 n0 : Nat) : ∀ i v w w', Ext w w' → tnFact gT g3 n0 i v w → tnFact gT g3 n0 i v w' := by
  intro i v w w' hE h
  match i, h with
  | 0, h | 1, h | 2, h | 3, h | 6, h => exact h
  | 4, ⟨g, e, h⟩ => exact ⟨g, e, h.ext hE⟩
  | 5, h => exact ownsRow_ext h hE
  | n + 7, _ => trivial

set_option maxRecDepth 100000 in
set_option maxHeartbeats 4000000 in
theorem torn_any (w : World) : Calls Tryd.prog 57 #[] w
    fun e w' => (∃ a1 a2 a3 c3, e = .returned (.agg #[.int .i64 3, .slice a1 2 2, .slice a2 2 2, .slice a3 5 c3]) ∧ BookA w' tornB a1 a2 a3) ∧ Ext w w' := by
  obtain ⟨j0, ji, jz0, jz1, jz2⟩ := info_parts shot_info
  go_enter Tryd.func57, Tryd.ntmps57
  go_upto_region 1 with (fail)
  obtain ⟨W0, hW0⟩ : ∃ W0, W0 = w.alloc (.cells #[.int .i64 0, .slice none 0 0, .slice none 0 0, .slice none 0 0] 26) := ⟨_, rfl⟩
  have E0 : Ext w W0 := by rw [hW0]; exact Ext.alloc _ _
  have b0 : Blk W0 w.heap.size 26 #[.int .i64 0, .slice none 0 0, .slice none 0 0, .slice none 0 0] := by rw [hW0]; exact Blk.new _ _ _
  rw [← hW0]
  clear hW0
  obtain ⟨gR, hgR⟩ : ∃ g, g = w.heap.size := ⟨_, rfl⟩
  rw [← hgR] at b0 ⊢
  have hgR' : w.heap.size ≤ gR := by omega
  have hlt := b0.lt
  clear hgR
  go_upto_region 2 with (go_at_call 54; refine (own_any _).mono ?_; rintro e w1 ⟨⟨g1, g2, r1, r2, g3, rfl, hB⟩, hE1⟩)
  obtain ⟨W2, hW2⟩ : ∃ W2, W2 = w1.alloc (.cells #[.int .i64 3, .slice (some ⟨g1, 0, none⟩) 2 2, .slice (some ⟨g2, 0, none⟩) 2 2, .slice (some ⟨g3, 0, none⟩) 4 4] 26) := ⟨_, rfl⟩
  have X2 : Ext w1 W2 := by rw [hW2]; exact Ext.alloc _ _
  have bT : Blk W2 w1.heap.size 26 #[.int .i64 3, .slice (some ⟨g1, 0, none⟩) 2 2, .slice (some ⟨g2, 0, none⟩) 2 2, .slice (some ⟨g3, 0, none⟩) 4 4] := by rw [hW2]; exact Blk.new _ _ _
  rw [← hW2]
  clear hW2
  have hg := (⟨hB.b1.lt, hB.b2.lt, hB.b3.lt, hB.b4.lt, hB.b5.lt⟩ : g1 < w1.heap.size ∧ g2 < w1.heap.size ∧ r1 < w1.heap.size ∧ r2 < w1.heap.size ∧ g3 < w1.heap.size)
  have hs1 := hE1.size
  obtain ⟨gT, hgT⟩ : ∃ g, g = w1.heap.size := ⟨_, rfl⟩
  rw [← hgT] at bT hg ⊢
  have hB2 := hB.ext X2
  have hltT := bT.lt
  have E2 := E0.trans (hE1.trans X2)
  have hwT : w.heap.size ≤ gT := by have := E0.size; omega
  have hRT : gR < gT := by omega
  clear hgT hB
  refine wp_region_facts 7 (fun v => ⟨#[.pointer (some ⟨gR, 0, none⟩), .pointer (some ⟨gT, 0, none⟩), .agg #[.int .i64 3, .slice (some ⟨g1, 0, none⟩) 2 2, .slice (some ⟨g2, 0, none⟩) 2 2, .slice (some ⟨g3, 0, none⟩) 4 4], v 0, v 1, v 2, v 3, v 4, v 5, v 6, undef], []⟩) (tnFact gT g3 W2.heap.size) (fun W => Ext W2 W) (fun _ => undef) (by kernel_rfl) rfl (by kernel_rfl) (by kernel_rfl) (tnFact_mono gT g3 W2.heap.size) (Ext.drew _) ?_ ?_
  · intro i hil vals wx K hb hd HK
    have hsz := hb.size
    have hb' := Lib.hid hb
    obtain ⟨z0, z1, z2, z3⟩ := (bT.ext hb).c4
    rcases i with _ | _ | _ | _ | _ | _ | _ | i
    · refine wpOp_step (nth_at rfl) fun K' hK' => ?_
      rw [if_pos (by rfl)]
      go_simp
      exact hK' _ _ (HK.out (.pointer (some ⟨gT, 3, none⟩)) _ rfl hb (Ext.refl _))
    · have f0 : vals 0 = _ := hd _ rfl 0 (by decide)
      refine wpOp_step (nth_at rfl) fun K' hK' => ?_
      rw [if_pos (by rfl)]
      go_simp
      have hk := HK.out (.slice (some ⟨g3, 0, none⟩) 4 4) _ rfl hb (Ext.refl _)
      refine hK' _ _ ?_
      simpa [upd, f0] using hk
    · refine wpOp_step (nth_at rfl) fun K' hK' => ?_
      rw [if_pos (by rfl)]
      go_simp
      go_at_call 56
      refine (just_any _ _).mono ?_
      rintro e w2 ⟨rfl, hE2⟩
      exact hK' _ _ (HK.out _ _ (show tnFact gT g3 W2.heap.size _ _ _ from rfl) (hb.trans hE2) hE2)
    · have f2 : vals 2 = _ := hd _ rfl 2 (by decide)
      refine wpOp_step (nth_at rfl) fun K' hK' => ?_
      rw [if_pos (by rfl)]
      go_simp
      go_at_call 91
      refine (aim_any _ _ _ _ _).mono ?_
      rintro e w2 ⟨rfl, hE2⟩
      have hk := HK.out _ _ (show tnFact gT g3 W2.heap.size _ _ _ from rfl) (hb.trans hE2) hE2
      refine hK' _ _ ?_
      simpa [upd, f2] using hk
    · have f3 : vals 3 = _ := hd _ rfl 3 (by decide)
      refine wpOp_step (nth_at rfl) fun K' hK' => ?_
      rw [if_pos (by rfl)]
      go_simp
      have hE2 := Ext.alloc wx (.cells #[.int .i64 0, .int .i64 0, .int .i64 366, .int .i64 366] 59)
      have hk := HK.out (.slice (some ⟨wx.heap.size, 0, none⟩) 1 1) _ ⟨_, rfl, Blk.new _ _ _⟩ (hb.trans hE2) hE2
      refine hK' _ _ ?_
      simpa [upd, f3] using hk
    · have f1 : vals 1 = _ := hd _ rfl 1 (by decide)
      obtain ⟨g, f4, h4⟩ : ∃ g, vals 4 = .slice (some ⟨g, 0, none⟩) 1 1 ∧ Blk wx g 59 #[.int .i64 0, .int .i64 0, .int .i64 366, .int .i64 366] := hd _ rfl 4 (by decide)
      refine wpOp_step (nth_at rfl) fun K' hK' => ?_
      refine step_append_grows rfl (.tmp 4) (.tmp 7) 24 rfl 59 j0 (.agg #[.int .i64 0, .int .i64 0, .int .i64 0, .int .i64 0]) 4 32 Tryd.underlying24 ji jz0 jz1 jz2 rfl (by decide) (some ⟨g3, 0, none⟩) 4 4 (flatX (bookB 541 543).shots) (by simp [Act.eval, f1]) (fun h => by cases h) rfl (fun b hb3 j u hj => ?_) ⟨g, 0, none⟩ 1 1 [.int .i64 0, .int .i64 0, .int .i64 366, .int .i64 366] (by simp [Act.eval, f4]) rfl (fun j u hj => ?_) (by simp [Value.oneCell']) (by omega) (by unfold maxLen; omega) (by omega) (fun v' w' hown hgrow => ?_)
      · cases hb3
        rw [add_at]
        exact (hB2.ext hb).b5.cell (by simpa using hj)
      · rw [add_at]
        exact h4.cell (by simpa using hj)
      · have hE2 : Ext wx w' := Below.grown (Ext.refl wx) hgrow (Nat.le_refl _) (fun k e => by cases e)
        refine hK' _ _ (HK.out v' w' (show w'.ownsRow W2.heap.size 59 4 v' 5 (flatX tornB.shots) from own_from hown hsz) (hb.trans hE2) hE2)
    · refine wpOp_step (nth_at rfl) fun K' hK' => ?_
      rw [if_pos (by rfl)]
      go_simp
      exact hK' _ _ (HK.out (.pointer (some ⟨gT, 3, none⟩)) _ rfl hb (Ext.refl _))
    · omega
  · intro vals wx hb hf
    have f5 := hf 5 (by decide)
    have f6 : vals 6 = _ := hf 6 (by decide)
    change wx.ownsRow _ _ _ _ _ _ at f5
    obtain ⟨z0, z1, z2, z3⟩ := (bT.ext hb).c4
    have fz := (bT.ext hb).frozen 3
    obtain ⟨hn5, a5, c5, e5, hS5⟩ := own_shot f5
    rw [e5] at f5
    have F5 := Lib.hid f5
    clear f5 hS5 hn5
    refine wpOp_step (nth_at rfl) fun K' hK' => ?_
    rw [if_pos (by rfl)]
    go_simp
    refine hK' _ _ ?_
    obtain ⟨W3, hW3⟩ : ∃ W3, W3 = wx.setCell ⟨gT, 3, none⟩ (.slice a5 5 c5) := ⟨_, rfl⟩
    have t3 : Blk W3 gT 26 #[.int .i64 3, .slice (some ⟨g1, 0, none⟩) 2 2, .slice (some ⟨g2, 0, none⟩) 2 2, .slice a5 5 c5] := by rw [hW3]; simpa using (bT.ext hb).put 3 (.slice a5 5 c5)
    have t0 : Blk W3 gR 26 #[.int .i64 0, .slice none 0 0, .slice none 0 0, .slice none 0 0] := by rw [hW3]; exact (((b0.ext hE1).below (Below.refl _ _) (Nat.lt_of_lt_of_le hlt hE1.size)).ext (X2.trans hb)).far (by show gR ≠ gT; omega) _
    have X3 : Ext w W3 := by rw [hW3]; exact Below.setCell (E2.trans hb) hwT _
    have o3 : W3.ownsRow W2.heap.size 59 4 (.slice a5 5 c5) 5 (flatX tornB.shots) := by rw [hW3]; exact ownsRow_far F5.out hltT _
    have B3 : Blk W3 g1 29 #[.int .i64 360, .int .i64 364, .int .i64 540, .int .i64 545] ∧ Blk W3 g2 34 #[.slice (some ⟨r1, 0, none⟩) 3 3, .slice (some ⟨r2, 0, none⟩) 3 3] ∧ Blk W3 r1 3 #[.int .i64 0, .int .i64 1, .int .i64 2] ∧ Blk W3 r2 3 #[.int .i64 1, .int .i64 2, .int .i64 0] := by
      rw [hW3]
      have h := hB2.ext hb
      exact ⟨h.b1.far (by show g1 ≠ gT; omega) _, h.b2.far (by show g2 ≠ gT; omega) _, h.b3.far (by show r1 ≠ gT; omega) _, h.b4.far (by show r2 ≠ gT; omega) _⟩
    rw [← hW3]
    clear hW3 z0 z1 z2 z3 fz
    obtain ⟨z0, z1, z2, z3⟩ := t3.c4
    obtain ⟨y0, y1, y2, y3⟩ := t0.c4
    have f0 := t0.frozen 0
    have f1 := t0.frozen 1
    have f2 := t0.frozen 2
    have f3 := t0.frozen 3
    go_wp2
    obtain ⟨W4, hW4⟩ : ∃ W4, W4 = (((W3.setCell ⟨gR, 0, none⟩ (.int .i64 3)).setCell ⟨gR, 1, none⟩ (.slice (some ⟨g1, 0, none⟩) 2 2)).setCell ⟨gR, 2, none⟩ (.slice (some ⟨g2, 0, none⟩) 2 2)).setCell ⟨gR, 3, none⟩ (.slice a5 5 c5) := ⟨_, rfl⟩
    have t4 : Blk W4 gR 26 #[.int .i64 3, .slice (some ⟨g1, 0, none⟩) 2 2, .slice (some ⟨g2, 0, none⟩) 2 2, .slice a5 5 c5] := by
      rw [hW4]; simpa using (((t0.put 0 (.int .i64 3)).put 1 (.slice (some ⟨g1, 0, none⟩) 2 2)).put 2 (.slice (some ⟨g2, 0, none⟩) 2 2)).put 3 (.slice a5 5 c5)
    have X4 : Ext w W4 := by rw [hW4]; exact Below.setCell (Below.setCell (Below.setCell (Below.setCell X3 hgR' _) hgR' _) hgR' _) hgR' _
    have hRW : gR < W2.heap.size := by omega
    have n1 := hB2.n1
    have n2 := hB2.n2
    have n3 := hB2.n3
    have n4 := hB2.n4
    have o4 : W4.ownsRow W2.heap.size 59 4 (.slice a5 5 c5) 5 (flatX tornB.shots) := by rw [hW4]; exact ownsRow_far (ownsRow_far (ownsRow_far (ownsRow_far o3 hRW _) hRW _) hRW _) hRW _
    have far4 : ∀ g t cs, g ≠ gR → Blk W3 g t cs → Blk W4 g t cs := fun g t cs h b => by rw [hW4]; exact (((b.far h _).far h _).far h _).far h _
    obtain ⟨B1, B2, B3', B4⟩ := B3
    have C1 := far4 _ _ _ (by omega) B1
    have C2 := far4 _ _ _ (by omega) B2
    have C3 := far4 _ _ _ (by omega) B3'
    have C4 := far4 _ _ _ (by omega) B4
    rw [← hW4]
    clear hW4 z0 z1 z2 z3 y0 y1 y2 y3 f0 f1 f2 f3
    obtain ⟨z0, z1, z2, z3⟩ := t4.c4
    have hBook : BookA W4 tornB (some ⟨g1, 0, none⟩) (some ⟨g2, 0, none⟩) a5 := by
      obtain ⟨hn, a', c', e', hS⟩ := own_shot o4
      simp only [Value.slice.injEq] at e'
      obtain ⟨rfl, -, -⟩ := e'
      exact ⟨spanA_blk [(360, 364), (540, 545)] C1, fun _ => ⟨g2, 0, rfl, C2.lt, fun i hi => by
        rcases i with _ | _ | i
        · exact ⟨_, _, C2.cell rfl, by simp [tornB, bookB, oAt], intA_blk [0, 1, 2] C3⟩
        · exact ⟨_, _, C2.cell rfl, by simp [tornB, bookB, oAt], intA_blk [1, 2, 0] C4⟩
        · simp [tornB, bookB] at hi; omega⟩, hS, by simp [tornB, bookB], by simp [tornB, bookB], by simp [tornB, bookB]⟩
    refine bodyPost_ret (v := .agg #[.int .i64 3, .slice (some ⟨g1, 0, none⟩) 2 2, .slice (some ⟨g2, 0, none⟩) 2 2, .slice a5 5 c5]) ?_ rfl ⟨⟨_, _, _, _, rfl, hBook⟩, X4⟩
    simp [results, Tryd.results57, go_sem, z0, z1, z2, z3]
end Go.Proofs.YtnhdcdhpfgdphaaDoor

/-
  known: a book of which the minute of a bound is known.
-/
set_option linter.unusedSimpArgs false
set_option linter.unusedVariables false
namespace Go.Proofs.YtnhdcdhpfgdphaaDoor
open Go Go.RowKit

theorem spanA_same {W1 W2 : World} {g o : Nat} {L : List (Int × Int)} (h : SpanA W1 (some ⟨g, o, none⟩) L) (he : W2.heap[g]? = W1.heap[g]?) : SpanA W2 (some ⟨g, o, none⟩) L := fun hp => by
  obtain ⟨b, o', e, hl, hc⟩ := h hp
  simp only [Option.some.injEq, Addr.mk.injEq] at e
  obtain ⟨rfl, rfl, -⟩ := e
  have hcell : ∀ i, W2.cell? ⟨g, i, none⟩ = W1.cell? ⟨g, i, none⟩ := fun i => by unfold World.cell?; rw [he]
  refine ⟨g, o, rfl, ?_, fun i hi => ⟨by rw [hcell]; exact (hc i hi).1, by rw [hcell]; exact (hc i hi).2⟩⟩
  have h0 := (hc 0 hp).1
  rw [← hcell] at h0
  exact lt_of_cell h0

set_option maxRecDepth 100000 in
set_option maxHeartbeats 2000000 in
theorem known_any (B : Bk) (a1 a2 a3 : Option Addr) (c1 c2 c3 : Nat) (k : Nat) (m : Int) (w : World) (h : BookA w B a1 a2 a3) (hk : k < B.bounds.length) (hb4 : B.bounds.length ≤ 1000) :
    Calls Tryd.prog 48 #[.agg #[.int .i64 B.comp, .slice a1 B.bounds.length c1, .slice a2 B.orders.length c2, .slice a3 B.shots.length c3], .int .i64 k, .int .i64 m] w
      fun e w' => (∃ a cp, e = .returned (.agg #[.int .i64 B.comp, .slice a B.bounds.length cp, .slice a2 B.orders.length c2, .slice a3 B.shots.length c3]) ∧ BookA w' (knownB B k m) a a2 a3) ∧ Ext w w' := by
  obtain ⟨i0, hi, hz0, hz1, hz2⟩ := info_parts span_info
  have HB := Lib.hid h
  clear h
  go_enter Tryd.func48, Tryd.ntmps48
  go_upto_region 1 with (fail)
  obtain ⟨W0, hW0⟩ : ∃ W0, W0 = (w.alloc (.cells #[.int .i64 B.comp, .slice a1 B.bounds.length c1, .slice a2 B.orders.length c2, .slice a3 B.shots.length c3] 26)).alloc (.cells #[.int .i64 0, .slice none 0 0, .slice none 0 0, .slice none 0 0] 26) := ⟨_, rfl⟩
  have b0 : Blk W0 w.heap.size 26 #[.int .i64 B.comp, .slice a1 B.bounds.length c1, .slice a2 B.orders.length c2, .slice a3 B.shots.length c3] := by rw [hW0]; exact (Blk.new _ _ _).alloc _
  have r0 : Blk W0 (w.heap.size + 1) 26 #[.int .i64 0, .slice none 0 0, .slice none 0 0, .slice none 0 0] := by rw [hW0]; have := Blk.new (w.alloc (.cells #[.int .i64 B.comp, .slice a1 B.bounds.length c1, .slice a2 B.orders.length c2, .slice a3 B.shots.length c3] 26)) 26 #[.int .i64 0, .slice none 0 0, .slice none 0 0, .slice none 0 0]; simpa using this
  have E0 : Ext w W0 := by rw [hW0]; exact (Ext.alloc _ _).trans (Ext.alloc _ _)
  rw [← hW0]
  clear hW0
  obtain ⟨gR, hgR⟩ : ∃ g, g = w.heap.size + 1 := ⟨_, rfl⟩
  rw [← hgR] at r0 ⊢
  have hgR' : w.heap.size ≤ gR := by omega
  clear hgR
  obtain ⟨gB, hgB⟩ : ∃ g, g = w.heap.size := ⟨_, rfl⟩
  rw [← hgB] at b0 ⊢
  clear hgB
  obtain ⟨x0, x1, x2, x3⟩ := b0.c4
  go_upto_region 2 with (fail)
  obtain ⟨W1, hW1⟩ : ∃ W1, W1 = W0.alloc (.cells #[.int .i64 B.comp, .slice a1 B.bounds.length c1, .slice a2 B.orders.length c2, .slice a3 B.shots.length c3] 26) := ⟨_, rfl⟩
  have X1 : Ext W0 W1 := by rw [hW1]; exact Ext.alloc _ _
  have y1 : Blk W1 W0.heap.size 26 #[.int .i64 B.comp, .slice a1 B.bounds.length c1, .slice a2 B.orders.length c2, .slice a3 B.shots.length c3] := by rw [hW1]; exact Blk.new _ _ _
  rw [← hW1]
  clear hW1
  obtain ⟨gY, hgY⟩ : ∃ g, g = W0.heap.size := ⟨_, rfl⟩
  rw [← hgY] at y1 ⊢
  have hRY : gR < gY := by rw [hgY]; exact r0.lt
  have hwY : w.heap.size ≤ gY := by omega
  have hgYl := y1.lt
  clear hgY x0 x1 x2 x3
  obtain ⟨x0, x1, x2, x3⟩ := (b0.ext X1).c4
  obtain ⟨z0, z1, z2, z3⟩ := y1.c4
  have f1 := y1.frozen 1
  have hBA := (HB.out.ext E0).ext X1
  obtain ⟨b, o, e1, hbl, hc⟩ := hBA.bounds (by omega)
  have hnews : ∀ j u, (flatS B.bounds)[j]? = some u → (W1.alloc (.cells #[] 29)).cell? ((⟨b, o, none⟩ : Addr).add j) = some u := by
    intro j u hj
    have hjl : j < B.bounds.length * 2 := by have := (List.getElem?_eq_some_iff.1 hj).1; rwa [flatS_len] at this
    have hq := hc (j / 2) (by omega)
    obtain ⟨g1, g2⟩ := flatS_at B.bounds (j / 2) (by omega)
    rcases (by omega : j = j / 2 * 2 ∨ j = j / 2 * 2 + 1) with e | e
    · rw [← e] at g1 hq
      rw [g1] at hj
      cases hj
      exact (Ext.alloc W1 _).keep (by rw [add_at]; exact hq.1)
    · rw [← e] at g2
      rw [g2] at hj
      cases hj
      have := hq.2
      rw [Nat.add_assoc, ← e] at this
      exact (Ext.alloc W1 _).keep (by rw [add_at]; exact this)
  have hone : ∀ u ∈ flatS B.bounds, u.oneCell' = true := by
    intro u hu
    simp only [flatS, List.mem_flatMap, List.mem_cons, List.not_mem_nil, or_false] at hu
    obtain ⟨p, _, rfl | rfl⟩ := hu <;> rfl
  have hown : (W1.alloc (.cells #[] 29)).ownsRow W1.heap.size 29 2 (.slice (some ⟨W1.heap.size, 0, none⟩) 0 0) 0 [] :=
    ⟨rfl, .inr ⟨W1.heap.size, 0, #[], rfl, Nat.le_refl _, heap_new W1 _, Nat.le_refl _, Nat.zero_le _, rfl, rfl⟩⟩
  clear hc hBA
  subst e1
  obtain ⟨s0, s1, s2, s3⟩ := (b0.ext (X1.trans (Ext.alloc W1 (.cells #[] 29)))).c4
  go_upto_region 3 with (at_builtin; go_must (refine wpList_append_own _ rfl _ _ 22 rfl W1.heap.size 29 i0 (.agg #[.int .i64 0, .int .i64 0]) 2 16 Tryd.underlying22 hi hz0 hz1 hz2 rfl (by decide) _ _ _ rfl hown ⟨b, o, none⟩ B.bounds.length c1 (flatS B.bounds) rfl (flatS_len B.bounds) hnews hone (by unfold maxLen; omega) (by omega) (by simp) ?_; intro v' w7 hown' hgrow _; have hE7 : Ext W1 w7 := Below.grown (Ext.alloc W1 _) hgrow (by simp) (fun k e => by cases e; exact Nat.le_refl _); rw [Nat.zero_add, List.nil_append] at hown'; obtain ⟨g, cap, rfl, g2, g3⟩ := own_s_open hown' (by omega); unfold maxLen at g3; obtain ⟨u0, u1, u2, u3⟩ := (y1.ext hE7).c4; have f7 := (y1.ext hE7).frozen 1))
  obtain ⟨W8, hW8⟩ : ∃ W8, W8 = w7.setCell ⟨gY, 1, none⟩ (.slice (some ⟨g, 0, none⟩) B.bounds.length cap) := ⟨_, rfl⟩
  obtain ⟨l1, l2g, l3g, l4g, l5g, l6g⟩ := own_span_set hown' hk m
  have hne : g ≠ gY := by omega
  have hneR : g ≠ gR := by omega
  have t8 : Blk W8 gY 26 #[.int .i64 B.comp, .slice (some ⟨g, 0, none⟩) B.bounds.length cap, .slice a2 B.orders.length c2, .slice a3 B.shots.length c3] := by rw [hW8]; simpa using (y1.ext hE7).put 1 (.slice (some ⟨g, 0, none⟩) B.bounds.length cap)
  have r8 : Blk W8 gR 26 #[.int .i64 0, .slice none 0 0, .slice none 0 0, .slice none 0 0] := by rw [hW8]; exact (r0.ext (X1.trans hE7)).far (by show gR ≠ gY; omega) _
  have X8 : Ext w W8 := by rw [hW8]; exact Below.setCell (E0.trans (X1.trans hE7)) hwY _
  have hg8 : W8.heap[g]? = w7.heap[g]? := by rw [hW8]; exact Below.heap_setCell w7 ⟨gY, 1, none⟩ _ g hne
  have hgl8 : g < W8.heap.size := by
    have : w7.heap[g]? ≠ none := by simp [l2g]
    rw [← hg8] at this
    simpa using this
  rw [← hW8]
  clear hW8 x0 x1 x2 x3 z0 z1 z2 z3 u0 u1 u2 u3 s0 s1 s2 s3 f1 f7 hown hown' hnews hone
  have HS := Lib.hid (fun W (hW : Ext W8 W) => ((t8.ext hW).c4 : (W.cell? ⟨gY, 0, none⟩ = some (.int .i64 B.comp) ∧ W.cell? ⟨gY, 1, none⟩ = some (.slice (some ⟨g, 0, none⟩) B.bounds.length cap) ∧ W.cell? ⟨gY, 2, none⟩ = some (.slice a2 B.orders.length c2) ∧ W.cell? ⟨gY, 3, none⟩ = some (.slice a3 B.shots.length c3))))
  refine wp_plan (fun W => (W.cell? ⟨gY, 0, none⟩ = some (.int .i64 B.comp) ∧ W.cell? ⟨gY, 1, none⟩ = some (.slice (some ⟨g, 0, none⟩) B.bounds.length cap) ∧ W.cell? ⟨gY, 2, none⟩ = some (.slice a2 B.orders.length c2) ∧ W.cell? ⟨gY, 3, none⟩ = some (.slice a3 B.shots.length c3))) (.tames [0, 1, 2, 3] (.one 4 (.tames [5] (.one 6 (.done))))) (by kernel_rfl) (by kernel_rfl) (by kernel_rfl) (fun c a d v w h => by cases d <;> exact h) ?_ ?_
  · exact HS.out _ (Ext.drew _)
  refine pl_tames ?_
  (try simp only [Act.put, List.setIfInBounds_toArray, List.set_cons_zero, List.set_cons_succ])
  repeat (first
    | (refine pl_run (v := ?_) rfl ?_ (fun W hW => ?_) ?_; rotate_left; rfl; ((try dsimp only at hW); go_simp; try with_reducible rfl); (try simp only [Act.put, List.setIfInBounds_toArray, List.set_cons_zero, List.set_cons_succ]))
    | (refine pl_skip rfl ?_ ?_; rfl; (try simp only [Act.put, List.setIfInBounds_toArray, List.set_cons_zero, List.set_cons_succ])))
  refine pl_end ?_
  refine pl_one rfl (by rfl) (fun K hK => ?_)
  go_simp
  (go_at_call 56; refine (just_any _ _).mono ?_; rintro e w9 ⟨rfl, hV9⟩)
  refine hK.out _ _ (HS.out _ ((Ext.drew _).trans hV9)) ?_
  clear hK K
  (try refine pl_tames ?_)
  (try simp only [Act.put, List.setIfInBounds_toArray, List.set_cons_zero, List.set_cons_succ])
  try ((repeat (first   | (refine pl_run (v := ?_) rfl ?_ (fun W hW => ?_) ?_; rotate_left; rfl; ((try dsimp only at hW); go_simp; try with_reducible rfl); (try simp only [Act.put, List.setIfInBounds_toArray, List.set_cons_zero, List.set_cons_succ]))   | (refine pl_skip rfl ?_ ?_; rfl; (try simp only [Act.put, List.setIfInBounds_toArray, List.set_cons_zero, List.set_cons_succ])))); refine pl_end ?_)
  have E9 := (Ext.drew W8).trans hV9
  have hg9 : w9.heap[g]? = w7.heap[g]? := (E9.block g hgl8).trans hg8
  have c9 : ∀ i, w9.cell? ⟨g, i, none⟩ = w7.cell? ⟨g, i, none⟩ := fun i => by unfold World.cell?; rw [hg9]
  have fz9 : ∀ i, w9.frozen? ⟨g, i, none⟩ = false := fun i => by rw [← l5g i]; unfold World.frozen?; rw [hg9]
  obtain ⟨u0, k0⟩ := Option.isSome_iff_exists.1 l3g
  obtain ⟨u1, k1⟩ := Option.isSome_iff_exists.1 l4g
  rw [← c9] at k0 k1
  have g0 := fz9 (k * 2)
  have g1 := fz9 (k * 2 + 1)
  have hspan := l6g w9 hg9
  have t10 := ((t8.ext E9).far (p := ⟨g, k * 2, none⟩) (by show gY ≠ g; omega) (.int .i64 m)).far (p := ⟨g, k * 2 + 1, none⟩) (by show gY ≠ g; omega) (.int .i64 m)
  have r10 := ((r8.ext E9).far (p := ⟨g, k * 2, none⟩) (by show gR ≠ g; omega) (.int .i64 m)).far (p := ⟨g, k * 2 + 1, none⟩) (by show gR ≠ g; omega) (.int .i64 m)
  have hwg : w.heap.size ≤ g := by omega
  have X10 : Ext w ((w9.setCell ⟨g, k * 2, none⟩ (.int .i64 m)).setCell ⟨g, k * 2 + 1, none⟩ (.int .i64 m)) := Below.setCell (Below.setCell (X8.trans E9) hwg _) hwg _
  clear HS c9 fz9 l3g l4g l5g l6g hg9
  refine pl_one rfl (by rfl) (fun K hK => ?_)
  go_simp
  skip
  refine hK.out _ _ (t10.c4) ?_
  clear hK K
  (try refine pl_tames ?_)
  (try simp only [Act.put, List.setIfInBounds_toArray, List.set_cons_zero, List.set_cons_succ])
  try ((repeat (first   | (refine pl_run (v := ?_) rfl ?_ (fun W hW => ?_) ?_; rotate_left; rfl; ((try dsimp only at hW); go_simp; try with_reducible rfl); (try simp only [Act.put, List.setIfInBounds_toArray, List.set_cons_zero, List.set_cons_succ]))   | (refine pl_skip rfl ?_ ?_; rfl; (try simp only [Act.put, List.setIfInBounds_toArray, List.set_cons_zero, List.set_cons_succ])))); refine pl_end ?_)
  refine pl_done ?_
  (try simp only [Act.put])
  obtain ⟨W10, hW10⟩ : ∃ W10, W10 = (w9.setCell ⟨g, k * 2, none⟩ (.int .i64 m)).setCell ⟨g, k * 2 + 1, none⟩ (.int .i64 m) := ⟨_, rfl⟩
  rw [← hW10] at t10 r10 X10 hspan ⊢
  clear hW10 k0 k1 g0 g1
  obtain ⟨x0, x1, x2, x3⟩ := t10.c4
  obtain ⟨z0, z1, z2, z3⟩ := r10.c4
  have f0 := r10.frozen 0
  have f1 := r10.frozen 1
  have f2 := r10.frozen 2
  have f3 := r10.frozen 3
  go_wp2
  obtain ⟨W11, hW11⟩ : ∃ W11, W11 = (((W10.setCell ⟨gR, 0, none⟩ (.int .i64 B.comp)).setCell ⟨gR, 1, none⟩ (.slice (some ⟨g, 0, none⟩) B.bounds.length cap)).setCell ⟨gR, 2, none⟩ (.slice a2 B.orders.length c2)).setCell ⟨gR, 3, none⟩ (.slice a3 B.shots.length c3) := ⟨_, rfl⟩
  have r11 : Blk W11 gR 26 #[.int .i64 B.comp, .slice (some ⟨g, 0, none⟩) B.bounds.length cap, .slice a2 B.orders.length c2, .slice a3 B.shots.length c3] := by
    rw [hW11]; simpa using (((r10.put 0 (.int .i64 B.comp)).put 1 (.slice (some ⟨g, 0, none⟩) B.bounds.length cap)).put 2 (.slice a2 B.orders.length c2)).put 3 (.slice a3 B.shots.length c3)
  have X11 : Ext w W11 := by rw [hW11]; exact Below.setCell (Below.setCell (Below.setCell (Below.setCell X10 hgR' _) hgR' _) hgR' _) hgR' _
  have hg11 : W11.heap[g]? = W10.heap[g]? := by
    rw [hW11, Below.heap_setCell _ ⟨gR, 3, none⟩ _ g hneR, Below.heap_setCell _ ⟨gR, 2, none⟩ _ g hneR, Below.heap_setCell _ ⟨gR, 1, none⟩ _ g hneR, Below.heap_setCell _ ⟨gR, 0, none⟩ _ g hneR]
  rw [← hW11]
  clear hW11 x0 x1 x2 x3 z0 z1 z2 z3 f0 f1 f2 f3
  obtain ⟨z0, z1, z2, z3⟩ := r11.c4
  have hBf := HB.out.ext X11
  refine bodyPost_ret (v := .agg #[.int .i64 B.comp, .slice (some ⟨g, 0, none⟩) B.bounds.length cap, .slice a2 B.orders.length c2, .slice a3 B.shots.length c3]) ?_ rfl ⟨⟨_, _, rfl, spanA_same hspan hg11, hBf.orders, hBf.shots, by simp only [knownB, List.length_set]; exact hBf.l1, hBf.l2, hBf.l3⟩, X11⟩
  simp [results, Tryd.results48, go_sem, z0, z1, z2, z3]
end Go.Proofs.YtnhdcdhpfgdphaaDoor
