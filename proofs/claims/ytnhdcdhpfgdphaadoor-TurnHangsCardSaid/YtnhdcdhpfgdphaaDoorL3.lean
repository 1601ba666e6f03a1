/-
  The chapter's torn book.
-/
import Derived.Test.YtnhdcdhpfgdphaaDoorL2
import Derived.Deep.RegionLawGrows
set_option linter.unusedSimpArgs false
set_option linter.unusedVariables false
namespace Go.Proofs.YtnhdcdhpfgdphaaDoor
open Go Go.RowKit

def tornB : Bk := { bookB 541 543 with shots := (bookB 541 543).shots ++ [⟨0, 0, 366, 366⟩] }
theorem ownsRow_far {w : World} {base n e s : Nat} {v : Value} {xs : List Value} (h : w.ownsRow base e s v n xs) {p : Addr} (hp : p.block < base) (u : Value) : (w.setCell p u).ownsRow base e s v n xs := by
  refine ⟨h.1, ?_⟩
  rcases h.2 with hn | ⟨g, cap, cur, hv, hb, hg, rest⟩
  · exact .inl hn
  · exact .inr ⟨g, cap, cur, hv, hb, (Below.heap_setCell w p u g (by omega)).trans hg, rest⟩

def tnFact (gT g3 n0 : Nat) : Nat → Value → World → Prop
  | 0, v, _ => v = .pointer (some ⟨gT, 3, none⟩)
  | 1, v, _ => v = .slice (some ⟨g3, 0, none⟩) 4 4
  | 2, v, _ => v = .agg #[.int .i64 366, .int .i64 366]
  | 3, v, _ => v = .agg #[.int .i64 0, .int .i64 0, .int .i64 366, .int .i64 366]
  | 4, v, w => ∃ g, v = .slice (some ⟨g, 0, none⟩) 1 1 ∧ Blk w g 59 #[.int .i64 0, .int .i64 0, .int .i64 366, .int .i64 366]
  | 5, v, w => w.ownsRow n0 59 4 v 5 (flatX tornB.shots)
  | 6, v, _ => v = .pointer (some ⟨gT, 3, none⟩)
  | _, _, _ => True
theorem tnFact_mono (gT g3 n0 : Nat) : ∀ i v w w', Ext w w' → tnFact gT g3 n0 i v w → tnFact gT g3 n0 i v w' := by
  intro i v w w' hE h
  match i, h with
  | 0, h | 1, h | 2, h | 3, h | 6, h => exact h
  | 4, ⟨g, e, h⟩ => exact ⟨g, e, h.ext hE⟩
  | 5, h => exact ownsRow_ext h hE
  | n + 7, _ => trivial

set_option maxRecDepth 100000 in
set_option maxHeartbeats 4000000 in
theorem torn_any (w : World) : Calls Tryd.prog 57 #[] w
    fun e w' => (∃ a1 a2 a3 c3, e = .returned (.agg #[.int .i64 3, .slice a1 2 2, .slice a2 2 2, .slice a3 5 c3]) ∧ BookA w' tornB a1 a2 a3) ∧ Ext w w' := by
  obtain ⟨j0, ji, jz0, jz1, jz2⟩ := info_parts shot_info
  go_enter Tryd.func57, Tryd.ntmps57
  go_upto_region 1 with (fail)
  obtain ⟨W0, hW0⟩ : ∃ W0, W0 = w.alloc (.cells #[.int .i64 0, .slice none 0 0, .slice none 0 0, .slice none 0 0] 26) := ⟨_, rfl⟩
  have E0 : Ext w W0 := by rw [hW0]; exact Ext.alloc _ _
  have b0 : Blk W0 w.heap.size 26 #[.int .i64 0, .slice none 0 0, .slice none 0 0, .slice none 0 0] := by rw [hW0]; exact Blk.new _ _ _
  rw [← hW0]
  clear hW0
  obtain ⟨gR, hgR⟩ : ∃ g, g = w.heap.size := ⟨_, rfl⟩
  rw [← hgR] at b0 ⊢
  have hgR' : w.heap.size ≤ gR := by omega
  have hlt := b0.lt
  clear hgR
  go_upto_region 2 with (go_at_call 54; refine (own_any _).mono ?_; rintro e w1 ⟨⟨g1, g2, r1, r2, g3, rfl, hB⟩, hE1⟩)
  obtain ⟨W2, hW2⟩ : ∃ W2, W2 = w1.alloc (.cells #[.int .i64 3, .slice (some ⟨g1, 0, none⟩) 2 2, .slice (some ⟨g2, 0, none⟩) 2 2, .slice (some ⟨g3, 0, none⟩) 4 4] 26) := ⟨_, rfl⟩
  have X2 : Ext w1 W2 := by rw [hW2]; exact Ext.alloc _ _
  have bT : Blk W2 w1.heap.size 26 #[.int .i64 3, .slice (some ⟨g1, 0, none⟩) 2 2, .slice (some ⟨g2, 0, none⟩) 2 2, .slice (some ⟨g3, 0, none⟩) 4 4] := by rw [hW2]; exact Blk.new _ _ _
  rw [← hW2]
  clear hW2
  have hg := (⟨hB.b1.lt, hB.b2.lt, hB.b3.lt, hB.b4.lt, hB.b5.lt⟩ : g1 < w1.heap.size ∧ g2 < w1.heap.size ∧ r1 < w1.heap.size ∧ r2 < w1.heap.size ∧ g3 < w1.heap.size)
  have hs1 := hE1.size
  obtain ⟨gT, hgT⟩ : ∃ g, g = w1.heap.size := ⟨_, rfl⟩
  rw [← hgT] at bT hg ⊢
  have hB2 := hB.ext X2
  have hltT := bT.lt
  have E2 := E0.trans (hE1.trans X2)
  have hwT : w.heap.size ≤ gT := by have := E0.size; omega
  have hRT : gR < gT := by omega
  clear hgT hB
  refine wp_region_facts 7 (fun v => ⟨#[.pointer (some ⟨gR, 0, none⟩), .pointer (some ⟨gT, 0, none⟩), .agg #[.int .i64 3, .slice (some ⟨g1, 0, none⟩) 2 2, .slice (some ⟨g2, 0, none⟩) 2 2, .slice (some ⟨g3, 0, none⟩) 4 4], v 0, v 1, v 2, v 3, v 4, v 5, v 6, undef], []⟩) (tnFact gT g3 W2.heap.size) (fun W => Ext W2 W) (fun _ => undef) (by kernel_rfl) rfl (by kernel_rfl) (by kernel_rfl) (tnFact_mono gT g3 W2.heap.size) (Ext.drew _) ?_ ?_
  · intro i hil vals wx K hb hd HK
    have hsz := hb.size
    have hb' := Lib.hid hb
    obtain ⟨z0, z1, z2, z3⟩ := (bT.ext hb).c4
    rcases i with _ | _ | _ | _ | _ | _ | _ | i
    · refine wpOp_step (nth_at rfl) fun K' hK' => ?_
      rw [if_pos (by rfl)]
      go_simp
      exact hK' _ _ (HK.out (.pointer (some ⟨gT, 3, none⟩)) _ rfl hb (Ext.refl _))
    · have f0 : vals 0 = _ := hd _ rfl 0 (by decide)
      refine wpOp_step (nth_at rfl) fun K' hK' => ?_
      rw [if_pos (by rfl)]
      go_simp
      have hk := HK.out (.slice (some ⟨g3, 0, none⟩) 4 4) _ rfl hb (Ext.refl _)
      refine hK' _ _ ?_
      simpa [upd, f0] using hk
    · refine wpOp_step (nth_at rfl) fun K' hK' => ?_
      rw [if_pos (by rfl)]
      go_simp
      go_at_call 56
      refine (just_any _ _).mono ?_
      rintro e w2 ⟨rfl, hE2⟩
      exact hK' _ _ (HK.out _ _ (show tnFact gT g3 W2.heap.size _ _ _ from rfl) (hb.trans hE2) hE2)
    · have f2 : vals 2 = _ := hd _ rfl 2 (by decide)
      refine wpOp_step (nth_at rfl) fun K' hK' => ?_
      rw [if_pos (by rfl)]
      go_simp
      go_at_call 91
      refine (aim_any _ _ _ _ _).mono ?_
      rintro e w2 ⟨rfl, hE2⟩
      have hk := HK.out _ _ (show tnFact gT g3 W2.heap.size _ _ _ from rfl) (hb.trans hE2) hE2
      refine hK' _ _ ?_
      simpa [upd, f2] using hk
    · have f3 : vals 3 = _ := hd _ rfl 3 (by decide)
      refine wpOp_step (nth_at rfl) fun K' hK' => ?_
      rw [if_pos (by rfl)]
      go_simp
      have hE2 := Ext.alloc wx (.cells #[.int .i64 0, .int .i64 0, .int .i64 366, .int .i64 366] 59)
      have hk := HK.out (.slice (some ⟨wx.heap.size, 0, none⟩) 1 1) _ ⟨_, rfl, Blk.new _ _ _⟩ (hb.trans hE2) hE2
      refine hK' _ _ ?_
      simpa [upd, f3] using hk
    · have f1 : vals 1 = _ := hd _ rfl 1 (by decide)
      obtain ⟨g, f4, h4⟩ : ∃ g, vals 4 = .slice (some ⟨g, 0, none⟩) 1 1 ∧ Blk wx g 59 #[.int .i64 0, .int .i64 0, .int .i64 366, .int .i64 366] := hd _ rfl 4 (by decide)
      refine wpOp_step (nth_at rfl) fun K' hK' => ?_
      refine step_append_grows rfl (.tmp 4) (.tmp 7) 24 rfl 59 j0 (.agg #[.int .i64 0, .int .i64 0, .int .i64 0, .int .i64 0]) 4 32 Tryd.underlying24 ji jz0 jz1 jz2 rfl (by decide) (some ⟨g3, 0, none⟩) 4 4 (flatX (bookB 541 543).shots) (by simp [Act.eval, f1]) (fun h => by cases h) rfl (fun b hb3 j u hj => ?_) ⟨g, 0, none⟩ 1 1 [.int .i64 0, .int .i64 0, .int .i64 366, .int .i64 366] (by simp [Act.eval, f4]) rfl (fun j u hj => ?_) (by simp [Value.oneCell']) (by omega) (by unfold maxLen; omega) (by omega) (fun v' w' hown hgrow => ?_)
      · cases hb3
        rw [add_at]
        exact (hB2.ext hb).b5.cell (by simpa using hj)
      · rw [add_at]
        exact h4.cell (by simpa using hj)
      · have hE2 : Ext wx w' := Below.grown (Ext.refl wx) hgrow (Nat.le_refl _) (fun k e => by cases e)
        refine hK' _ _ (HK.out v' w' (show w'.ownsRow W2.heap.size 59 4 v' 5 (flatX tornB.shots) from own_from hown hsz) (hb.trans hE2) hE2)
    · refine wpOp_step (nth_at rfl) fun K' hK' => ?_
      rw [if_pos (by rfl)]
      go_simp
      exact hK' _ _ (HK.out (.pointer (some ⟨gT, 3, none⟩)) _ rfl hb (Ext.refl _))
    · omega
  · intro vals wx hb hf
    have f5 := hf 5 (by decide)
    have f6 : vals 6 = _ := hf 6 (by decide)
    change wx.ownsRow _ _ _ _ _ _ at f5
    obtain ⟨z0, z1, z2, z3⟩ := (bT.ext hb).c4
    have fz := (bT.ext hb).frozen 3
    obtain ⟨hn5, a5, c5, e5, hS5⟩ := own_shot f5
    rw [e5] at f5
    have F5 := Lib.hid f5
    clear f5 hS5 hn5
    refine wpOp_step (nth_at rfl) fun K' hK' => ?_
    rw [if_pos (by rfl)]
    go_simp
    refine hK' _ _ ?_
    obtain ⟨W3, hW3⟩ : ∃ W3, W3 = wx.setCell ⟨gT, 3, none⟩ (.slice a5 5 c5) := ⟨_, rfl⟩
    have t3 : Blk W3 gT 26 #[.int .i64 3, .slice (some ⟨g1, 0, none⟩) 2 2, .slice (some ⟨g2, 0, none⟩) 2 2, .slice a5 5 c5] := by rw [hW3]; simpa using (bT.ext hb).put 3 (.slice a5 5 c5)
    have t0 : Blk W3 gR 26 #[.int .i64 0, .slice none 0 0, .slice none 0 0, .slice none 0 0] := by rw [hW3]; exact (((b0.ext hE1).below (Below.refl _ _) (Nat.lt_of_lt_of_le hlt hE1.size)).ext (X2.trans hb)).far (by show gR ≠ gT; omega) _
    have X3 : Ext w W3 := by rw [hW3]; exact Below.setCell (E2.trans hb) hwT _
    have o3 : W3.ownsRow W2.heap.size 59 4 (.slice a5 5 c5) 5 (flatX tornB.shots) := by rw [hW3]; exact ownsRow_far F5.out hltT _
    have B3 : Blk W3 g1 29 #[.int .i64 360, .int .i64 364, .int .i64 540, .int .i64 545] ∧ Blk W3 g2 34 #[.slice (some ⟨r1, 0, none⟩) 3 3, .slice (some ⟨r2, 0, none⟩) 3 3] ∧ Blk W3 r1 3 #[.int .i64 0, .int .i64 1, .int .i64 2] ∧ Blk W3 r2 3 #[.int .i64 1, .int .i64 2, .int .i64 0] := by
      rw [hW3]
      have h := hB2.ext hb
      exact ⟨h.b1.far (by show g1 ≠ gT; omega) _, h.b2.far (by show g2 ≠ gT; omega) _, h.b3.far (by show r1 ≠ gT; omega) _, h.b4.far (by show r2 ≠ gT; omega) _⟩
    rw [← hW3]
    clear hW3 z0 z1 z2 z3 fz
    obtain ⟨z0, z1, z2, z3⟩ := t3.c4
    obtain ⟨y0, y1, y2, y3⟩ := t0.c4
    have f0 := t0.frozen 0
    have f1 := t0.frozen 1
    have f2 := t0.frozen 2
    have f3 := t0.frozen 3
    go_wp2
    obtain ⟨W4, hW4⟩ : ∃ W4, W4 = (((W3.setCell ⟨gR, 0, none⟩ (.int .i64 3)).setCell ⟨gR, 1, none⟩ (.slice (some ⟨g1, 0, none⟩) 2 2)).setCell ⟨gR, 2, none⟩ (.slice (some ⟨g2, 0, none⟩) 2 2)).setCell ⟨gR, 3, none⟩ (.slice a5 5 c5) := ⟨_, rfl⟩
    have t4 : Blk W4 gR 26 #[.int .i64 3, .slice (some ⟨g1, 0, none⟩) 2 2, .slice (some ⟨g2, 0, none⟩) 2 2, .slice a5 5 c5] := by
      rw [hW4]; simpa using (((t0.put 0 (.int .i64 3)).put 1 (.slice (some ⟨g1, 0, none⟩) 2 2)).put 2 (.slice (some ⟨g2, 0, none⟩) 2 2)).put 3 (.slice a5 5 c5)
    have X4 : Ext w W4 := by rw [hW4]; exact Below.setCell (Below.setCell (Below.setCell (Below.setCell X3 hgR' _) hgR' _) hgR' _) hgR' _
    have hRW : gR < W2.heap.size := by omega
    have n1 := hB2.n1
    have n2 := hB2.n2
    have n3 := hB2.n3
    have n4 := hB2.n4
    have o4 : W4.ownsRow W2.heap.size 59 4 (.slice a5 5 c5) 5 (flatX tornB.shots) := by rw [hW4]; exact ownsRow_far (ownsRow_far (ownsRow_far (ownsRow_far o3 hRW _) hRW _) hRW _) hRW _
    have far4 : ∀ g t cs, g ≠ gR → Blk W3 g t cs → Blk W4 g t cs := fun g t cs h b => by rw [hW4]; exact (((b.far h _).far h _).far h _).far h _
    obtain ⟨B1, B2, B3', B4⟩ := B3
    have C1 := far4 _ _ _ (by omega) B1
    have C2 := far4 _ _ _ (by omega) B2
    have C3 := far4 _ _ _ (by omega) B3'
    have C4 := far4 _ _ _ (by omega) B4
    rw [← hW4]
    clear hW4 z0 z1 z2 z3 y0 y1 y2 y3 f0 f1 f2 f3
    obtain ⟨z0, z1, z2, z3⟩ := t4.c4
    have hBook : BookA W4 tornB (some ⟨g1, 0, none⟩) (some ⟨g2, 0, none⟩) a5 := by
      obtain ⟨hn, a', c', e', hS⟩ := own_shot o4
      simp only [Value.slice.injEq] at e'
      obtain ⟨rfl, -, -⟩ := e'
      exact ⟨spanA_blk [(360, 364), (540, 545)] C1, fun _ => ⟨g2, 0, rfl, C2.lt, fun i hi => by
        rcases i with _ | _ | i
        · exact ⟨_, _, C2.cell rfl, by simp [tornB, bookB, oAt], intA_blk [0, 1, 2] C3⟩
        · exact ⟨_, _, C2.cell rfl, by simp [tornB, bookB, oAt], intA_blk [1, 2, 0] C4⟩
        · simp [tornB, bookB] at hi; omega⟩, hS, by simp [tornB, bookB], by simp [tornB, bookB], by simp [tornB, bookB]⟩
    refine bodyPost_ret (v := .agg #[.int .i64 3, .slice (some ⟨g1, 0, none⟩) 2 2, .slice (some ⟨g2, 0, none⟩) 2 2, .slice a5 5 c5]) ?_ rfl ⟨⟨_, _, _, _, rfl, hBook⟩, X4⟩
    simp [results, Tryd.results57, go_sem, z0, z1, z2, z3]
end Go.Proofs.YtnhdcdhpfgdphaaDoor
