/-
  TurnKnows: the walk.
-/
import Derived.Test.YtnhdcdhpfgdphaaDoorP5
import Derived.Test.YtnhdcdhpfgdphaaDoorL5
import Derived.Test.YtnhdcdhpfgdphaaDoorL7
import Derived.Test.YtnhdcdhpfgdphaaDoorA1
set_option linter.unusedSimpArgs false
set_option linter.unusedVariables false
namespace Go.Proofs.YtnhdcdhpfgdphaaDoor
open Go Go.RowKit

theorem hangs_of {X B : Bk} (hc : X.comp = B.comp) (ho : X.orders = B.orders) (hb : X.bounds.length = B.bounds.length) (hs : X.shots.length = B.shots.length) (a1 a2 a3 : Option Addr) (c1 c2 c3 : Nat) (k : Nat) (w : World) (h : BookA w X a1 a2 a3) (hG : Glob w) (hv : validB X = true) (hk : k < B.shots.length) :
    Calls Tryd.prog 28 #[.agg #[.int .i64 B.comp, .slice a1 B.bounds.length c1, .slice a2 B.orders.length c2, .slice a3 B.shots.length c3], .int .i64 k] w
      fun e w' => (∃ a cp, e = .returned (.tuple #[.slice a (hangsI X (sAt X.shots k) B.bounds.length).length cp, .int .i64 0]) ∧ IntA w' a (hangsI X (sAt X.shots k) B.bounds.length)) ∧ Ext w w' := by
  have := hangs_yes X a1 a2 a3 c1 c2 c3 k w h hG hv (by omega)
  rwa [hc, ho, hb, hs] at this
theorem fair_of {X B : Bk} (t : Tight X B) (a1 a2 a3 : Option Addr) (c1 c2 c3 : Nat) (k : Nat) (w : World) (h : BookA w X a1 a2 a3) (hG : Glob w) (hk : k < B.shots.length) :
    Calls Tryd.prog 26 #[.agg #[.int .i64 B.comp, .slice a1 B.bounds.length c1, .slice a2 B.orders.length c2, .slice a3 B.shots.length c3], .int .i64 k] w
      fun e w' => e = .returned (.tuple #[.int .i64 (fairN X (sAt X.shots k)), .int .i64 0]) ∧ Ext w w' := by
  have := fair_yes X a1 a2 a3 c1 c2 c3 k w h hG t.valid (by rw [t.shots]; exact hk)
  rwa [t.comp, t.orders, t.bounds, t.shots] at this
theorem wrong_of {X B : Bk} (t : Tight X B) (a1 a2 a3 : Option Addr) (c1 c2 c3 : Nat) (w : World) (h : BookA w X a1 a2 a3) (hG : Glob w) :
    Calls Tryd.prog 32 #[.agg #[.int .i64 B.comp, .slice a1 B.bounds.length c1, .slice a2 B.orders.length c2, .slice a3 B.shots.length c3]] w
      fun e w' => (∃ a cp, e = .returned (.tuple #[.slice a (wrongL X).length cp, .int .i64 0]) ∧ IntA w' a (wrongL X)) ∧ Ext w w' := by
  have := wrong_yes X a1 a2 a3 c1 c2 c3 w h hG t.valid
  rwa [t.comp, t.orders, t.bounds, t.shots] at this
theorem only_of {X B : Bk} (t : Tight X B) (a1 a2 a3 : Option Addr) (c1 c2 c3 : Nat) (k : Nat) (m : Int) (w : World) (h : BookA w X a1 a2 a3) (hk : k < B.shots.length) (h5 : B.shots.length ≤ 1000) :
    Calls Tryd.prog 47 #[.agg #[.int .i64 B.comp, .slice a1 B.bounds.length c1, .slice a2 B.orders.length c2, .slice a3 B.shots.length c3], .int .i64 k, .int .i64 m] w
      fun e w' => (∃ a cp, e = .returned (.agg #[.int .i64 B.comp, .slice a1 B.bounds.length c1, .slice a2 B.orders.length c2, .slice a B.shots.length cp]) ∧ BookA w' (onlyB X k m) a1 a2 a) ∧ Ext w w' := by
  have := only_any X a1 a2 a3 c1 c2 c3 k m w h (by rw [t.shots]; exact hk) (by rw [t.shots]; exact h5)
  rwa [t.comp, t.orders, t.bounds, t.shots] at this

theorem blk_at {w : World} {g i : Nat} {t : TypeId} {v0 v1 v2 v3 v : Value} (hb : Blk w g t #[v0, v1, v2, v3]) (h : w.cell? ⟨g, i, none⟩ = some v) : (i = 0 ∧ v = v0) ∨ (i = 1 ∧ v = v1) ∨ (i = 2 ∧ v = v2) ∨ (i = 3 ∧ v = v3) := by
  obtain ⟨c0, c1, c2, c3⟩ := hb.c4
  rcases i with _ | _ | _ | _ | i
  · rw [c0] at h; cases h; exact .inl ⟨rfl, rfl⟩
  · rw [c1] at h; cases h; exact .inr (.inl ⟨rfl, rfl⟩)
  · rw [c2] at h; cases h; exact .inr (.inr (.inl ⟨rfl, rfl⟩))
  · rw [c3] at h; cases h; exact .inr (.inr (.inr ⟨rfl, rfl⟩))
  · unfold Blk at hb
    simp [World.cell?, hb] at h
/-- A book's block holds no numbers behind one another: what is stored there changes no spans, and no shots. -/
theorem no_spans {w : World} {g o l1 l2 l3 q1 q2 q3 : Nat} {t : TypeId} {c : Int} {p1 p2 p3 : Option Addr} (hb : Blk w g t #[.int .i64 c, .slice p1 l1 q1, .slice p2 l2 q2, .slice p3 l3 q3]) {x y : Int}
    (h0 : w.cell? ⟨g, o, none⟩ = some (.int .i64 x)) (h1 : w.cell? ⟨g, o + 1, none⟩ = some (.int .i64 y)) : False := by
  rcases blk_at hb h0 with ⟨rfl, e⟩ | ⟨rfl, e⟩ | ⟨rfl, e⟩ | ⟨rfl, e⟩
  · rcases blk_at hb h1 with ⟨e1, e⟩ | ⟨e1, e⟩ | ⟨e1, e⟩ | ⟨e1, e⟩ <;> first | omega | cases e
  all_goals cases e
theorem span_stored {w w' : World} {g l1 l2 l3 q1 q2 q3 : Nat} {t : TypeId} {c : Int} {p1 p2 p3 : Option Addr} (hb : Blk w g t #[.int .i64 c, .slice p1 l1 q1, .slice p2 l2 q2, .slice p3 l3 q3])
    (hw : ∀ b, b ≠ g → w'.heap[b]? = w.heap[b]?) {a : Option Addr} {L : List (Int × Int)} (h : SpanA w a L) : SpanA w' a L := by
  rcases Nat.eq_zero_or_pos L.length with h0 | h0
  · exact fun hp => by omega
  · obtain ⟨b, o, rfl, hl, hc⟩ := h h0
    obtain ⟨e0, e1⟩ := hc 0 h0
    exact spanA_same h (hw b fun e => by subst e; exact no_spans hb e0 e1)
theorem shot_stored {w w' : World} {g l1 l2 l3 q1 q2 q3 : Nat} {t : TypeId} {c : Int} {p1 p2 p3 : Option Addr} (hb : Blk w g t #[.int .i64 c, .slice p1 l1 q1, .slice p2 l2 q2, .slice p3 l3 q3])
    (hw : ∀ b, b ≠ g → w'.heap[b]? = w.heap[b]?) {a : Option Addr} {L : List Sh} (h : ShotA w a L) : ShotA w' a L := by
  rcases Nat.eq_zero_or_pos L.length with h0 | h0
  · exact fun hp => by omega
  · obtain ⟨b, o, rfl, hl, hc⟩ := h h0
    obtain ⟨e0, e1, -⟩ := hc 0 h0
    exact shotA_same h (hw b fun e => by subst e; exact no_spans hb e0 e1)
def putBook (w : World) (g : Nat) (v0 v1 v2 v3 : Value) : World := (((w.setCell ⟨g, 0, none⟩ v0).setCell ⟨g, 1, none⟩ v1).setCell ⟨g, 2, none⟩ v2).setCell ⟨g, 3, none⟩ v3
theorem putBook_far (w : World) (g : Nat) (v0 v1 v2 v3 : Value) : ∀ b, b ≠ g → (putBook w g v0 v1 v2 v3).heap[b]? = w.heap[b]? := fun b hb => by
  unfold putBook
  rw [Below.heap_setCell _ ⟨g, 3, none⟩ _ b hb, Below.heap_setCell _ ⟨g, 2, none⟩ _ b hb, Below.heap_setCell _ ⟨g, 1, none⟩ _ b hb, Below.heap_setCell _ ⟨g, 0, none⟩ _ b hb]
theorem putBook_blk {w : World} {g : Nat} {t : TypeId} {u0 u1 u2 u3 : Value} (h : Blk w g t #[u0, u1, u2, u3]) (v0 v1 v2 v3 : Value) : Blk (putBook w g v0 v1 v2 v3) g t #[v0, v1, v2, v3] := by
  unfold putBook
  simpa using (((h.put 0 v0).put 1 v1).put 2 v2).put 3 v3
theorem putBook_ext {n g : Nat} {a w : World} (h : Below n a w) (hg : n ≤ g) (v0 v1 v2 v3 : Value) : Below n a (putBook w g v0 v1 v2 v3) :=
  Below.setCell (Below.setCell (Below.setCell (Below.setCell h hg _) hg _) hg _) hg _
theorem setN_16 {xs : List Int} (h : ∀ x ∈ xs, 0 ≤ x ∧ x < 4) : setN xs < 16 := setN_lt xs 0 (by omega) h

set_option maxRecDepth 100000 in
set_option maxHeartbeats 1000000 in
theorem turnKnows_no (B : Bk) (a1 a2 a3 : Option Addr) (c1 c2 c3 : Nat) (n0 n1 n2 n3 : Int) (w : World) (h : BookA w B a1 a2 a3) (hG : Glob w) (hv : validB B = false) :
    Calls Tryd.prog 10 #[.agg #[.int .i64 B.comp, .slice a1 B.bounds.length c1, .slice a2 B.orders.length c2, .slice a3 B.shots.length c3], .agg #[.int .i64 n0, .int .i64 n1, .int .i64 n2, .int .i64 n3]] w
      fun e w' => e = .returned (.bool true) ∧ Ext w w' := by
  have HB := Lib.hid h
  have HG := Lib.hid hG
  clear h hG
  go_enter Tryd.func10, Tryd.ntmps10
  go_upto_region 1 with (fail)
  obtain ⟨W0, hW0⟩ : ∃ W0, W0 = (w.alloc (.cells #[.int .i64 B.comp, .slice a1 B.bounds.length c1, .slice a2 B.orders.length c2, .slice a3 B.shots.length c3] 26)).alloc (.cells #[.int .i64 n0, .int .i64 n1, .int .i64 n2, .int .i64 n3] 70) := ⟨_, rfl⟩
  have b0 : Blk W0 w.heap.size 26 #[.int .i64 B.comp, .slice a1 B.bounds.length c1, .slice a2 B.orders.length c2, .slice a3 B.shots.length c3] := by rw [hW0]; exact (Blk.new _ _ _).alloc _
  have m0 : Blk W0 (w.heap.size + 1) 70 #[.int .i64 n0, .int .i64 n1, .int .i64 n2, .int .i64 n3] := by rw [hW0]; have := Blk.new (w.alloc (.cells #[.int .i64 B.comp, .slice a1 B.bounds.length c1, .slice a2 B.orders.length c2, .slice a3 B.shots.length c3] 26)) 70 #[.int .i64 n0, .int .i64 n1, .int .i64 n2, .int .i64 n3]; simpa using this
  have E0 : Ext w W0 := by rw [hW0]; exact (Ext.alloc _ _).trans (Ext.alloc _ _)
  rw [← hW0]
  clear hW0
  obtain ⟨gN, hgN⟩ : ∃ g, g = w.heap.size + 1 := ⟨_, rfl⟩
  rw [← hgN] at m0 ⊢
  clear hgN
  obtain ⟨gB, hgB⟩ : ∃ g, g = w.heap.size := ⟨_, rfl⟩
  rw [← hgB] at b0 ⊢
  clear hgB
  obtain ⟨x0, x1, x2, x3⟩ := b0.c4
  go_wp2_with (first | (go_at_call 36; refine (sound_no B a1 a2 a3 c1 c2 c3 _ (HB.out.ext E0) hv).mono ?_; rintro e w1 ⟨rfl, hE1⟩) | (go_at_call 25; refine (shot_any _ (HG.out.ext (E0.trans hE1))).mono ?_; rintro e w2 ⟨rfl, hE2⟩))
  go_ret
  exact ⟨rfl, E0.trans (hE1.trans hE2)⟩
set_option maxRecDepth 100000 in
set_option maxHeartbeats 4000000 in
theorem turnKnows_yes (B : Bk) (a1 a2 a3 : Option Addr) (c1 c2 c3 : Nat) (n0 n1 n2 n3 : Int) (w : World) (h : BookA w B a1 a2 a3) (hG : Glob w) (hv : validB B = true)
    (k0 : -9223372036854775808 ≤ n0 ∧ n0 ≤ 9223372036854775807) (k1 : -9223372036854775808 ≤ n1 ∧ n1 ≤ 9223372036854775807) (k2 : -9223372036854775808 ≤ n2 ∧ n2 ≤ 9223372036854775807) (k3 : -9223372036854775808 ≤ n3 ∧ n3 ≤ 9223372036854775807) :
    Calls Tryd.prog 10 #[.agg #[.int .i64 B.comp, .slice a1 B.bounds.length c1, .slice a2 B.orders.length c2, .slice a3 B.shots.length c3], .agg #[.int .i64 n0, .int .i64 n1, .int .i64 n2, .int .i64 n3]] w
      fun e w' => e = .returned (.bool true) ∧ Ext w w' := by
  obtain ⟨z1, z2, z3, z4, z5, z6⟩ := valid_sizes hv
  have HB := Lib.hid h
  have HG := Lib.hid hG
  clear h hG
  go_enter Tryd.func10, Tryd.ntmps10
  go_upto_region 1 with (fail)
  obtain ⟨W0, hW0⟩ : ∃ W0, W0 = (w.alloc (.cells #[.int .i64 B.comp, .slice a1 B.bounds.length c1, .slice a2 B.orders.length c2, .slice a3 B.shots.length c3] 26)).alloc (.cells #[.int .i64 n0, .int .i64 n1, .int .i64 n2, .int .i64 n3] 70) := ⟨_, rfl⟩
  have b0 : Blk W0 w.heap.size 26 #[.int .i64 B.comp, .slice a1 B.bounds.length c1, .slice a2 B.orders.length c2, .slice a3 B.shots.length c3] := by rw [hW0]; exact (Blk.new _ _ _).alloc _
  have m0 : Blk W0 (w.heap.size + 1) 70 #[.int .i64 n0, .int .i64 n1, .int .i64 n2, .int .i64 n3] := by rw [hW0]; have := Blk.new (w.alloc (.cells #[.int .i64 B.comp, .slice a1 B.bounds.length c1, .slice a2 B.orders.length c2, .slice a3 B.shots.length c3] 26)) 70 #[.int .i64 n0, .int .i64 n1, .int .i64 n2, .int .i64 n3]; simpa using this
  have E0 : Ext w W0 := by rw [hW0]; exact (Ext.alloc _ _).trans (Ext.alloc _ _)
  rw [← hW0]
  clear hW0
  obtain ⟨gN, hgN⟩ : ∃ g, g = w.heap.size + 1 := ⟨_, rfl⟩
  rw [← hgN] at m0 ⊢
  clear hgN
  obtain ⟨gB, hgB⟩ : ∃ g, g = w.heap.size := ⟨_, rfl⟩
  rw [← hgB] at b0 ⊢
  clear hgB
  obtain ⟨x0, x1, x2, x3⟩ := b0.c4
  go_upto_region 4 with (go_at_call 36; refine (sound_yes B a1 a2 a3 c1 c2 c3 _ (HB.out.ext E0) hv).mono ?_; rintro e w1 ⟨rfl, hE1⟩; clear x0 x1 x2 x3; obtain ⟨x0, x1, x2, x3⟩ := (b0.ext hE1).c4)
  obtain ⟨W2, hW2⟩ : ∃ W2, W2 = w1.alloc (.cells #[.int .i64 B.comp, .slice a1 B.bounds.length c1, .slice a2 B.orders.length c2, .slice a3 B.shots.length c3] 26) := ⟨_, rfl⟩
  have E2 : Ext w1 W2 := by rw [hW2]; exact Ext.alloc _ _
  have y2 : Blk W2 w1.heap.size 26 #[.int .i64 B.comp, .slice a1 B.bounds.length c1, .slice a2 B.orders.length c2, .slice a3 B.shots.length c3] := by rw [hW2]; exact Blk.new _ _ _
  rw [← hW2]
  clear hW2 x0 x1 x2 x3
  have b1 := b0.ext hE1
  have m1 := m0.ext hE1
  have HB1 := Lib.hid ((HB.out.ext E0).ext hE1)
  have HG1 := Lib.hid ((HG.out.ext E0).ext hE1)
  have EW1 := E0.trans hE1
  obtain ⟨gX, hgX⟩ : ∃ g, g = w1.heap.size := ⟨_, rfl⟩
  rw [← hgX] at y2 ⊢
  have hgX' : w1.heap.size ≤ gX := by omega
  clear hgX
  clear b0 m0 HB HG hE1 E0
  obtain ⟨x0, x1, x2, x3⟩ := (b1.ext E2).c4
  go_upto_if 30 with (fail)
  clear x0 x1 x2 x3
  go_cut [5] (fun p wx => p = .pointer (some ⟨gX, 0, none⟩) ∧ ∃ (X : Bk) (aX : Option Addr) (cX : Nat), Tight X B ∧ X.shots = B.shots ∧ BookA wx X aX a2 a3 ∧ Ext w1 wx ∧ Blk wx gX 26 #[.int .i64 B.comp, .slice aX B.bounds.length cX, .slice a2 B.orders.length c2, .slice a3 B.shots.length c3])
  case first =>
    obtain ⟨x0, x1, x2, x3⟩ := (b1.ext E2).c4
    rcases Nat.eq_zero_or_pos B.bounds.length with hb | hb
    · have hle : B.bounds.length ≤ 0 := by omega
      clear hb
      go_wp2_with (fail)
      go_meet
      case rel => exact ⟨rfl, B, a1, c1, tight_refl hv, rfl, HB1.out.ext E2, E2, y2⟩
    · obtain ⟨t0, t1, t2, t3⟩ := (m1.ext E2).c4
      go_upto_region 6 with (go_at_call 37; refine (wheel_any _ _ _ k0 (by omega)).mono ?_; rintro e w3 ⟨rfl, rfl⟩)
      obtain ⟨k, hke⟩ : ∃ k : Nat, wheelZ n0 B.bounds.length = k := ⟨(wheelZ n0 B.bounds.length).toNat, by have := wheelZ_in n0 B.bounds.length (by omega); omega⟩
      have hkl : k < B.bounds.length := by have := wheelZ_in n0 B.bounds.length (by omega); omega
      rw [hke]
      clear hke x0 x1 x2 x3 t0 t1 t2 t3 k0
      obtain ⟨v1, v2, v3, v4⟩ := valid_bound hv hkl
      obtain ⟨l1, l2⟩ := someZ_in n1 v2
      have hsa := fun W => some_any (bLo B.bounds k) (bHi B.bounds k) n1 W v1 v2 v3 k1
      obtain ⟨m, hm⟩ : ∃ m, someZ (bLo B.bounds k) (bHi B.bounds k) n1 = m := ⟨_, rfl⟩
      rw [hm] at l1 l2
      simp only [hm] at hsa
      have Hsa := Lib.hid hsa
      clear hsa hm
      have ht := known_tight hv hkl l1 l2
      have hhg := fun i => known_hangs hv hkl l1 l2 (sAt B.shots i) B.bounds.length
      have Hhg := Lib.hid hhg
      clear hhg l1 l2
      obtain ⟨b, o, rfl, hbl, hc⟩ := HB1.out.bounds (by omega)
      obtain ⟨q0, q1⟩ := hc k hkl
      have HS := Lib.hid (fun W (hW : Ext w1 W) => (⟨(b1.ext hW).c4, (m1.ext hW).c4, hW.keep q0, hW.keep q1⟩ : ((W.cell? ⟨gB, 0, none⟩ = some (.int .i64 B.comp) ∧ W.cell? ⟨gB, 1, none⟩ = some (.slice (some ⟨b, o, none⟩) B.bounds.length c1) ∧ W.cell? ⟨gB, 2, none⟩ = some (.slice a2 B.orders.length c2) ∧ W.cell? ⟨gB, 3, none⟩ = some (.slice a3 B.shots.length c3)) ∧ (W.cell? ⟨gN, 0, none⟩ = some (.int .i64 n0) ∧ W.cell? ⟨gN, 1, none⟩ = some (.int .i64 n1) ∧ W.cell? ⟨gN, 2, none⟩ = some (.int .i64 n2) ∧ W.cell? ⟨gN, 3, none⟩ = some (.int .i64 n3)) ∧ (W.cell? ⟨b, o + k * 2, none⟩ = some (.int .i64 (bLo B.bounds k)) ∧ W.cell? ⟨b, o + k * 2 + 1, none⟩ = some (.int .i64 (bHi B.bounds k))))))
      clear q0 q1 hc
      refine wp_plan (fun W => ((W.cell? ⟨gB, 0, none⟩ = some (.int .i64 B.comp) ∧ W.cell? ⟨gB, 1, none⟩ = some (.slice (some ⟨b, o, none⟩) B.bounds.length c1) ∧ W.cell? ⟨gB, 2, none⟩ = some (.slice a2 B.orders.length c2) ∧ W.cell? ⟨gB, 3, none⟩ = some (.slice a3 B.shots.length c3)) ∧ (W.cell? ⟨gN, 0, none⟩ = some (.int .i64 n0) ∧ W.cell? ⟨gN, 1, none⟩ = some (.int .i64 n1) ∧ W.cell? ⟨gN, 2, none⟩ = some (.int .i64 n2) ∧ W.cell? ⟨gN, 3, none⟩ = some (.int .i64 n3)) ∧ (W.cell? ⟨b, o + k * 2, none⟩ = some (.int .i64 (bLo B.bounds k)) ∧ W.cell? ⟨b, o + k * 2 + 1, none⟩ = some (.int .i64 (bHi B.bounds k))))) (.tames [0, 1, 2, 3, 4, 5, 6, 7, 8] (.one 9 (.one 10 (.one 11 (.done))))) (by kernel_rfl) (by kernel_rfl) (by kernel_rfl) (fun c a d v w h => by cases d <;> exact h) ?_ ?_
      · exact HS.out _ (Below.drew E2)
      refine pl_tames ?_
      (try simp only [Act.put, List.setIfInBounds_toArray, List.set_cons_zero, List.set_cons_succ])
      repeat (first
        | (refine pl_run (v := ?_) rfl ?_ (fun W hW => ?_) ?_; rotate_left; rfl; ((try dsimp only at hW); go_simp; try with_reducible rfl); (try simp only [Act.put, List.setIfInBounds_toArray, List.set_cons_zero, List.set_cons_succ]))
        | (refine pl_skip rfl ?_ ?_; rfl; (try simp only [Act.put, List.setIfInBounds_toArray, List.set_cons_zero, List.set_cons_succ])))
      refine pl_end ?_
      refine pl_one rfl (by rfl) (fun K hK => ?_)
      go_simp
      (go_at_call 42; refine (Hsa.out _).mono ?_; rintro e w3 ⟨rfl, hE3⟩)
      refine hK.out _ _ (HS.out _ ((E2.trans (Ext.drew _)).trans hE3)) ?_
      clear hK K
      (try refine pl_tames ?_)
      (try simp only [Act.put, List.setIfInBounds_toArray, List.set_cons_zero, List.set_cons_succ])
      try ((repeat (first   | (refine pl_run (v := ?_) rfl ?_ (fun W hW => ?_) ?_; rotate_left; rfl; ((try dsimp only at hW); go_simp; try with_reducible rfl); (try simp only [Act.put, List.setIfInBounds_toArray, List.set_cons_zero, List.set_cons_succ]))   | (refine pl_skip rfl ?_ ?_; rfl; (try simp only [Act.put, List.setIfInBounds_toArray, List.set_cons_zero, List.set_cons_succ])))); refine pl_end ?_)
      refine pl_one rfl (by rfl) (fun K hK => ?_)
      go_simp
      (go_at_call 48; refine (known_any B _ a2 a3 c1 c2 c3 k m _ (HB1.out.ext ((E2.trans (Ext.drew _)).trans hE3)) hkl (by omega)).mono ?_; rintro e w4 ⟨⟨ak, ck, rfl, hBk⟩, hE4⟩)
      refine hK.out _ _ (HS.out _ (((E2.trans (Ext.drew _)).trans hE3).trans hE4)) ?_
      clear hK K
      (try refine pl_tames ?_)
      (try simp only [Act.put, List.setIfInBounds_toArray, List.set_cons_zero, List.set_cons_succ])
      try ((repeat (first   | (refine pl_run (v := ?_) rfl ?_ (fun W hW => ?_) ?_; rotate_left; rfl; ((try dsimp only at hW); go_simp; try with_reducible rfl); (try simp only [Act.put, List.setIfInBounds_toArray, List.set_cons_zero, List.set_cons_succ]))   | (refine pl_skip rfl ?_ ?_; rfl; (try simp only [Act.put, List.setIfInBounds_toArray, List.set_cons_zero, List.set_cons_succ])))); refine pl_end ?_)
      have E24 := ((Ext.drew W2).trans hE3).trans hE4
      have E4 := E2.trans E24
      have y4 := y2.ext E24
      obtain ⟨u0, u1, u2, u3⟩ := y4.c4
      have f0 := y4.frozen 0
      have f1 := y4.frozen 1
      have f2 := y4.frozen 2
      have f3 := y4.frozen 3
      have E5 := putBook_ext E4 hgX' (.int .i64 B.comp) (.slice ak B.bounds.length ck) (.slice a2 B.orders.length c2) (.slice a3 B.shots.length c3)
      have y5 := putBook_blk y4 (.int .i64 B.comp) (.slice ak B.bounds.length ck) (.slice a2 B.orders.length c2) (.slice a3 B.shots.length c3)
      have far := putBook_far w4 gX (.int .i64 B.comp) (.slice ak B.bounds.length ck) (.slice a2 B.orders.length c2) (.slice a3 B.shots.length c3)
      have hB5 : BookA (putBook w4 gX (.int .i64 B.comp) (.slice ak B.bounds.length ck) (.slice a2 B.orders.length c2) (.slice a3 B.shots.length c3)) (knownB B k m) ak a2 a3 :=
        ⟨span_stored y4 far hBk.bounds, (HB1.out.ext E5).orders, (HB1.out.ext E5).shots, hBk.l1, hBk.l2, hBk.l3⟩
      refine pl_one rfl (by rfl) (fun K hK => ?_)
      go_simp
      skip
      refine hK.out _ _ (HS.out _ E5) ?_
      clear hK K
      (try refine pl_tames ?_)
      (try simp only [Act.put, List.setIfInBounds_toArray, List.set_cons_zero, List.set_cons_succ])
      try ((repeat (first   | (refine pl_run (v := ?_) rfl ?_ (fun W hW => ?_) ?_; rotate_left; rfl; ((try dsimp only at hW); go_simp; try with_reducible rfl); (try simp only [Act.put, List.setIfInBounds_toArray, List.set_cons_zero, List.set_cons_succ]))   | (refine pl_skip rfl ?_ ?_; rfl; (try simp only [Act.put, List.setIfInBounds_toArray, List.set_cons_zero, List.set_cons_succ])))); refine pl_end ?_)
      refine pl_done ?_
      (try simp only [Act.put])
      have hfold : (((w4.setCell ⟨gX, 0, none⟩ (.int .i64 B.comp)).setCell ⟨gX, 1, none⟩ (.slice ak B.bounds.length ck)).setCell ⟨gX, 2, none⟩ (.slice a2 B.orders.length c2)).setCell ⟨gX, 3, none⟩ (.slice a3 B.shots.length c3) = putBook w4 gX (.int .i64 B.comp) (.slice ak B.bounds.length ck) (.slice a2 B.orders.length c2) (.slice a3 B.shots.length c3) := rfl
      rw [hfold]
      clear hfold far u0 u1 u2 u3 f0 f1 f2 f3
      generalize putBook w4 gX (.int .i64 B.comp) (.slice ak B.bounds.length ck) (.slice a2 B.orders.length c2) (.slice a3 B.shots.length c3) = W5 at E5 y5 hB5 ⊢
      clear HS hBk y4 E4 E24
      have ho : (knownB B k m).bounds.length = B.bounds.length := by simp [knownB]
      go_upto_region 8 with (fail)
      go_loopw [7] (fun i wr => ∃ j : Nat, j ≤ B.shots.length ∧ i = .int .i64 j ∧ Ext W5 wr) (fun i _ => B.shots.length - (intOf i).toNat)
      case atStart => exact ⟨0, Nat.zero_le _, rfl, Ext.refl _⟩
      case round =>
        obtain ⟨j, hj, rfl, hE⟩ := hrel
        have XR := Ext.trans E5 hE
        obtain ⟨x0, x1, x2, x3⟩ := (b1.ext XR).c4
        obtain ⟨s0, s1, s2, s3⟩ := (y5.ext hE).c4
        by_cases hlt : j < B.shots.length
        · have hhx := hangs_of (X := knownB B k m) (B := B) rfl rfl ho rfl ak a2 a3 ck c2 c3 j wr (hB5.ext hE) (HG1.out.ext XR) ht.valid hlt
          have hhb := fun W (hW : Ext wr W) => hangs_yes B (some ⟨b, o, none⟩) a2 a3 c1 c2 c3 j W ((HB1.out.ext XR).ext hW) ((HG1.out.ext XR).ext hW) hv hlt
          obtain ⟨hsub, hpl⟩ := Hhg.out j
          have hli := hangsI_in (knownB B k m) (sAt B.shots j) B.bounds.length
          have hll := hangsI_len (knownB B k m) (sAt B.shots j) B.bounds.length
          have hmi := hangsI_in B (sAt B.shots j) B.bounds.length
          have hml := hangsI_len B (sAt B.shots j) B.bounds.length
          have hmr := hangsI_rises B (sAt B.shots j) B.bounds.length
          have hxs : (knownB B k m).shots = B.shots := rfl
          rw [hxs] at hhx
          obtain ⟨L, hL⟩ : ∃ L, hangsI (knownB B k m) (sAt B.shots j) B.bounds.length = L := ⟨_, rfl⟩
          obtain ⟨M, hM⟩ : ∃ M, hangsI B (sAt B.shots j) B.bounds.length = M := ⟨_, rfl⟩
          rw [hL] at hhx hsub hpl hli hll
          simp only [hM] at hhb hsub hmi hml hmr
          have hl4 : ∀ x ∈ L, 0 ≤ x ∧ x < 4 := fun x hx => by have := hli x hx; omega
          have hm4 : ∀ x ∈ M, 0 ≤ x ∧ x < 4 := fun x hx => by have := hmi x hx; omega
          have hor : bits BinOp.or IntKind.i64 (setN L : Int) (setN M : Int) = setN M := by rw [or_two (setN_16 hl4) (setN_16 hm4), setN_sub hsub]
          have hpa := fun a cp W (hI : IntA W a L) => place_any a L cp (k : Int) W hI (by omega)
          have hra := fun a cp W (hI : IntA W a M) => rises_any a M cp B.bounds.length W hI (by omega) (by omega)
          have hs16 := setN_16 hl4
          have ht16 := setN_16 hm4
          obtain ⟨sl, hsle⟩ : ∃ sl, setN L = sl := ⟨_, rfl⟩
          obtain ⟨sm, hsme⟩ : ∃ sm, setN M = sm := ⟨_, rfl⟩
          obtain ⟨pl, hple⟩ : ∃ pl, placeL L (k : Int) = pl := ⟨_, rfl⟩
          rw [hsle] at hor hs16
          rw [hsme] at hor ht16
          simp only [hple] at hpa
          rw [hple] at hpl
          simp only [hmr] at hra
          have Hhx := Lib.hid hhx
          have Hhb := Lib.hid hhb
          have Hl4 := Lib.hid hl4
          have Hm4 := Lib.hid hm4
          have Hpa := Lib.hid hpa
          have Hra := Lib.hid hra
          clear hhx hhb hpa hra hL hM hple hl4 hm4 hmr hsub hli hmi hxs
          go_upto_region 11 with (go_at_call 28; refine Hhx.out.mono ?_; rintro e w6 ⟨⟨aL, cL, rfl, hIL⟩, hE6⟩)
          clear x0 x1 x2 x3 s0 s1 s2 s3
          obtain ⟨x0, x1, x2, x3⟩ := (b1.ext (Ext.trans XR hE6)).c4
          go_upto_region 12 with (go_at_call 28; refine (Hhb.out _ hE6).mono ?_; rintro e w7 ⟨⟨aM, cM, rfl, hIM⟩, hE7⟩)
          have EJ := hE.trans (hE6.trans hE7)
          have HIL := Lib.hid (hIL.ext hE7)
          have HIM := Lib.hid hIM
          clear x0 x1 x2 x3 hIL hIM
          obtain ⟨x0, x1, x2, x3⟩ := (b1.ext (Ext.trans E5 EJ)).c4
          go_wp2_with (first | (go_at_call 41; refine (Hpa.out _ _ _ HIL.out).mono ?_; rintro e w8 ⟨rfl, rfl⟩) | (go_at_call 46; refine (set_any _ _ _ _ (by first | exact HIL.out | exact HIM.out) (by omega) (by first | exact Hl4.out | exact Hm4.out)).mono ?_; rintro e w8 ⟨rfl, rfl⟩) | (go_at_call 40; refine (Hra.out _ _ _ HIM.out).mono ?_; rintro e w8 ⟨rfl, rfl⟩))
          go_roundw
          case rel => exact ⟨j + 1, by omega, by go_num, EJ⟩
          case measure => simp [intOf]; omega
        · obtain rfl : j = B.shots.length := by omega
          go_wp2_with (fail)
          go_meet
          case rel => exact ⟨rfl, knownB B k m, ak, ck, ht, rfl, hB5.ext hE, XR, y5.ext hE⟩
  case rest =>
    obtain ⟨rfl, X, aX, cX, hT, hXs, hBX, EX, yX⟩ := hcut
    clear y2 E2
    obtain ⟨x0, x1, x2, x3⟩ := b1.ext EX |>.c4
    go_upto_if 100 with (fail)
    clear x0 x1 x2 x3
    have HXs := Lib.hid hXs
    clear hXs
    go_cut [5] (fun p wx => p = .pointer (some ⟨gX, 0, none⟩) ∧ ∃ (Y : Bk) (aY : Option Addr) (cY : Nat), Tight Y B ∧ BookA wx Y aX a2 aY ∧ Ext w1 wx ∧ Blk wx gX 26 #[.int .i64 B.comp, .slice aX B.bounds.length cX, .slice a2 B.orders.length c2, .slice aY B.shots.length cY])
    case first =>
      obtain ⟨x0, x1, x2, x3⟩ := b1.ext EX |>.c4
      rcases Nat.eq_zero_or_pos B.shots.length with hb | hb
      · have hle : B.shots.length ≤ 0 := by omega
        clear hb
        go_wp2_with (fail)
        go_meet
        case rel => exact ⟨rfl, X, a3, c3, hT, hBX, EX, yX⟩
      · obtain ⟨t0, t1, t2, t3⟩ := m1.ext EX |>.c4
        go_upto_region 16 with (go_at_call 37; refine (wheel_any _ _ _ k2 (by omega)).mono ?_; rintro e w3 ⟨rfl, rfl⟩)
        obtain ⟨k, hke⟩ : ∃ k : Nat, wheelZ n2 B.shots.length = k := ⟨(wheelZ n2 B.shots.length).toNat, by have := wheelZ_in n2 B.shots.length (by omega); omega⟩
        have hkl : k < B.shots.length := by have := wheelZ_in n2 B.shots.length (by omega); omega
        rw [hke]
        clear hke x0 x1 x2 x3 t0 t1 t2 t3 k2
        obtain ⟨r1, r2, r3, r4, v1, v2, v3, v4⟩ := valid_shot hv hkl
        obtain ⟨l1, l2⟩ := someZ_in n3 v2
        have hsa := fun W => some_any (sAt B.shots k).lo (sAt B.shots k).hi n3 W v1 v2 v3 k3
        obtain ⟨m, hm⟩ : ∃ m, someZ (sAt B.shots k).lo (sAt B.shots k).hi n3 = m := ⟨_, rfl⟩
        rw [hm] at l1 l2
        simp only [hm] at hsa
        have Hsa := Lib.hid hsa
        clear hsa hm
        have hT2 : Tight (onlyB X k m) B := by
          refine (only_tight hT.valid (k := k) (m := m) (by rw [HXs.out]; exact hkl) (by rw [HXs.out]; exact l1) (by rw [HXs.out]; exact l2)).trans hT
        have HT2 := Lib.hid hT2
        clear l1 l2 hT2 r1 r2 r3 r4
        obtain ⟨b, o, rfl, hbl, hc⟩ := HB1.out.shots (by omega)
        obtain ⟨-, -, q0, q1⟩ := hc k hkl
        have HS := Lib.hid (fun W (hW : Ext w1 W) => (⟨(b1.ext hW).c4, (m1.ext hW).c4, hW.keep q0, hW.keep q1⟩ : ((W.cell? ⟨gB, 0, none⟩ = some (.int .i64 B.comp) ∧ W.cell? ⟨gB, 1, none⟩ = some (.slice a1 B.bounds.length c1) ∧ W.cell? ⟨gB, 2, none⟩ = some (.slice a2 B.orders.length c2) ∧ W.cell? ⟨gB, 3, none⟩ = some (.slice (some ⟨b, o, none⟩) B.shots.length c3)) ∧ (W.cell? ⟨gN, 0, none⟩ = some (.int .i64 n0) ∧ W.cell? ⟨gN, 1, none⟩ = some (.int .i64 n1) ∧ W.cell? ⟨gN, 2, none⟩ = some (.int .i64 n2) ∧ W.cell? ⟨gN, 3, none⟩ = some (.int .i64 n3)) ∧ (W.cell? ⟨b, o + k * 4 + 2, none⟩ = some (.int .i64 (sAt B.shots k).lo) ∧ W.cell? ⟨b, o + k * 4 + 2 + 1, none⟩ = some (.int .i64 (sAt B.shots k).hi)))))
        clear q0 q1 hc
        refine wp_plan (fun W => ((W.cell? ⟨gB, 0, none⟩ = some (.int .i64 B.comp) ∧ W.cell? ⟨gB, 1, none⟩ = some (.slice a1 B.bounds.length c1) ∧ W.cell? ⟨gB, 2, none⟩ = some (.slice a2 B.orders.length c2) ∧ W.cell? ⟨gB, 3, none⟩ = some (.slice (some ⟨b, o, none⟩) B.shots.length c3)) ∧ (W.cell? ⟨gN, 0, none⟩ = some (.int .i64 n0) ∧ W.cell? ⟨gN, 1, none⟩ = some (.int .i64 n1) ∧ W.cell? ⟨gN, 2, none⟩ = some (.int .i64 n2) ∧ W.cell? ⟨gN, 3, none⟩ = some (.int .i64 n3)) ∧ (W.cell? ⟨b, o + k * 4 + 2, none⟩ = some (.int .i64 (sAt B.shots k).lo) ∧ W.cell? ⟨b, o + k * 4 + 2 + 1, none⟩ = some (.int .i64 (sAt B.shots k).hi)))) (.tames [1, 2, 3, 4, 5, 6, 7, 8, 9] (.two 0 10 (.one 10 (.one 11 (.one 12 (.done)))) (.one 0 (.one 11 (.one 12 (.done)))))) (by kernel_rfl) (by kernel_rfl) (by kernel_rfl) (fun c a d v w h => by cases d <;> exact h) ?_ ?_
        · exact HS.out _ (Below.drew EX)
        refine pl_tames ?_
        (try simp only [Act.put, List.setIfInBounds_toArray, List.set_cons_zero, List.set_cons_succ])
        repeat (first
          | (refine pl_run (v := ?_) rfl ?_ (fun W hW => ?_) ?_; rotate_left; rfl; ((try dsimp only at hW); go_simp; try with_reducible rfl); (try simp only [Act.put, List.setIfInBounds_toArray, List.set_cons_zero, List.set_cons_succ]))
          | (refine pl_skip rfl ?_ ?_; rfl; (try simp only [Act.put, List.setIfInBounds_toArray, List.set_cons_zero, List.set_cons_succ])))
        refine pl_end ?_
        · refine pl_two ?_ ?_
          · obtain ⟨s0, s1, s2, s3⟩ := yX.c4
            refine pl_one rfl (by rfl) (fun K hK => ?_)
            go_simp
            refine hK.out _ _ (HS.out _ (Below.drew EX)) ?_
            clear hK K s0 s1 s2 s3
            (try simp only [Act.put, List.setIfInBounds_toArray, List.set_cons_zero, List.set_cons_succ])
            refine pl_one rfl (by rfl) (fun K hK => ?_)
            go_simp
            (go_at_call 42; refine (Hsa.out _).mono ?_; rintro e w3 ⟨rfl, hE3⟩)
            refine hK.out _ _ (HS.out _ (EX.trans ((Ext.drew _).trans hE3))) ?_
            clear hK K
            (try refine pl_tames ?_)
            (try simp only [Act.put, List.setIfInBounds_toArray, List.set_cons_zero, List.set_cons_succ])
            try ((repeat (first   | (refine pl_run (v := ?_) rfl ?_ (fun W hW => ?_) ?_; rotate_left; rfl; ((try dsimp only at hW); go_simp; try with_reducible rfl); (try simp only [Act.put, List.setIfInBounds_toArray, List.set_cons_zero, List.set_cons_succ]))   | (refine pl_skip rfl ?_ ?_; rfl; (try simp only [Act.put, List.setIfInBounds_toArray, List.set_cons_zero, List.set_cons_succ])))); refine pl_end ?_)
            have E3 := (Ext.drew wc).trans hE3
            refine pl_one rfl (by rfl) (fun K hK => ?_)
            go_simp
            (go_at_call 47; refine (only_of hT aX a2 _ cX c2 c3 k m _ (hBX.ext E3) hkl (by omega)).mono ?_; rintro e w4 ⟨⟨ao, co, rfl, hBo⟩, hE4⟩)
            refine hK.out _ _ (HS.out _ (EX.trans (E3.trans hE4))) ?_
            clear hK K
            (try refine pl_tames ?_)
            (try simp only [Act.put, List.setIfInBounds_toArray, List.set_cons_zero, List.set_cons_succ])
            try ((repeat (first   | (refine pl_run (v := ?_) rfl ?_ (fun W hW => ?_) ?_; rotate_left; rfl; ((try dsimp only at hW); go_simp; try with_reducible rfl); (try simp only [Act.put, List.setIfInBounds_toArray, List.set_cons_zero, List.set_cons_succ]))   | (refine pl_skip rfl ?_ ?_; rfl; (try simp only [Act.put, List.setIfInBounds_toArray, List.set_cons_zero, List.set_cons_succ])))); refine pl_end ?_)
            have E24 := E3.trans hE4
            have E4 := EX.trans E24
            have y4 := yX.ext E24
            obtain ⟨u0, u1, u2, u3⟩ := y4.c4
            have f0 := y4.frozen 0
            have f1 := y4.frozen 1
            have f2 := y4.frozen 2
            have f3 := y4.frozen 3
            have E5 : Ext w1 (putBook w4 gX (.int .i64 B.comp) (.slice aX B.bounds.length cX) (.slice a2 B.orders.length c2) (.slice ao B.shots.length co)) := putBook_ext E4 hgX' (.int .i64 B.comp) (.slice aX B.bounds.length cX) (.slice a2 B.orders.length c2) (.slice ao B.shots.length co)
            have y5 := putBook_blk y4 (.int .i64 B.comp) (.slice aX B.bounds.length cX) (.slice a2 B.orders.length c2) (.slice ao B.shots.length co)
            have far := putBook_far w4 gX (.int .i64 B.comp) (.slice aX B.bounds.length cX) (.slice a2 B.orders.length c2) (.slice ao B.shots.length co)
            have hB5 : BookA (putBook w4 gX (.int .i64 B.comp) (.slice aX B.bounds.length cX) (.slice a2 B.orders.length c2) (.slice ao B.shots.length co)) (onlyB X k m) aX a2 ao :=
              ⟨span_stored y4 far hBo.bounds, by show RowsA _ a2 X.orders; rw [hT.orders]; exact (HB1.out.ext E5).orders, shot_stored y4 far hBo.shots, hBo.l1, hBo.l2, hBo.l3⟩
            refine pl_one rfl (by rfl) (fun K hK => ?_)
            go_simp
            skip
            refine hK.out _ _ (HS.out _ E5) ?_
            clear hK K
            (try refine pl_tames ?_)
            (try simp only [Act.put, List.setIfInBounds_toArray, List.set_cons_zero, List.set_cons_succ])
            try ((repeat (first   | (refine pl_run (v := ?_) rfl ?_ (fun W hW => ?_) ?_; rotate_left; rfl; ((try dsimp only at hW); go_simp; try with_reducible rfl); (try simp only [Act.put, List.setIfInBounds_toArray, List.set_cons_zero, List.set_cons_succ]))   | (refine pl_skip rfl ?_ ?_; rfl; (try simp only [Act.put, List.setIfInBounds_toArray, List.set_cons_zero, List.set_cons_succ])))); refine pl_end ?_)
            refine pl_done ?_
            (try simp only [Act.put])
            have hfold : (((w4.setCell ⟨gX, 0, none⟩ (.int .i64 B.comp)).setCell ⟨gX, 1, none⟩ (.slice aX B.bounds.length cX)).setCell ⟨gX, 2, none⟩ (.slice a2 B.orders.length c2)).setCell ⟨gX, 3, none⟩ (.slice ao B.shots.length co) = putBook w4 gX (.int .i64 B.comp) (.slice aX B.bounds.length cX) (.slice a2 B.orders.length c2) (.slice ao B.shots.length co) := rfl
            rw [hfold]
            clear hfold far u0 u1 u2 u3 f0 f1 f2 f3
            generalize putBook w4 gX (.int .i64 B.comp) (.slice aX B.bounds.length cX) (.slice a2 B.orders.length c2) (.slice ao B.shots.length co) = W5 at E5 y5 hB5 ⊢
            clear HS hBo y4 E4 E24
            go_wp2_with (fail)
            go_meet
            case rel => exact ⟨rfl, onlyB X k m, ao, co, HT2.out, hB5, E5, y5⟩
          · refine pl_one rfl (by rfl) (fun K hK => ?_)
            go_simp
            (go_at_call 42; refine (Hsa.out _).mono ?_; rintro e w3 ⟨rfl, hE3⟩)
            refine hK.out _ _ (HS.out _ (EX.trans ((Ext.drew _).trans hE3))) ?_
            clear hK K
            (try refine pl_tames ?_)
            (try simp only [Act.put, List.setIfInBounds_toArray, List.set_cons_zero, List.set_cons_succ])
            try ((repeat (first   | (refine pl_run (v := ?_) rfl ?_ (fun W hW => ?_) ?_; rotate_left; rfl; ((try dsimp only at hW); go_simp; try with_reducible rfl); (try simp only [Act.put, List.setIfInBounds_toArray, List.set_cons_zero, List.set_cons_succ]))   | (refine pl_skip rfl ?_ ?_; rfl; (try simp only [Act.put, List.setIfInBounds_toArray, List.set_cons_zero, List.set_cons_succ])))); refine pl_end ?_)
            have E3 := (Ext.drew wc).trans hE3
            obtain ⟨s0, s1, s2, s3⟩ := (yX.ext E3).c4
            refine pl_one rfl (by rfl) (fun K hK => ?_)
            go_simp
            refine hK.out _ _ (HS.out _ (EX.trans E3)) ?_
            clear hK K s0 s1 s2 s3
            (try simp only [Act.put, List.setIfInBounds_toArray, List.set_cons_zero, List.set_cons_succ])
            refine pl_one rfl (by rfl) (fun K hK => ?_)
            go_simp
            (go_at_call 47; refine (only_of hT aX a2 _ cX c2 c3 k m _ (hBX.ext E3) hkl (by omega)).mono ?_; rintro e w4 ⟨⟨ao, co, rfl, hBo⟩, hE4⟩)
            refine hK.out _ _ (HS.out _ (EX.trans (E3.trans hE4))) ?_
            clear hK K
            (try refine pl_tames ?_)
            (try simp only [Act.put, List.setIfInBounds_toArray, List.set_cons_zero, List.set_cons_succ])
            try ((repeat (first   | (refine pl_run (v := ?_) rfl ?_ (fun W hW => ?_) ?_; rotate_left; rfl; ((try dsimp only at hW); go_simp; try with_reducible rfl); (try simp only [Act.put, List.setIfInBounds_toArray, List.set_cons_zero, List.set_cons_succ]))   | (refine pl_skip rfl ?_ ?_; rfl; (try simp only [Act.put, List.setIfInBounds_toArray, List.set_cons_zero, List.set_cons_succ])))); refine pl_end ?_)
            have E24 := E3.trans hE4
            have E4 := EX.trans E24
            have y4 := yX.ext E24
            obtain ⟨u0, u1, u2, u3⟩ := y4.c4
            have f0 := y4.frozen 0
            have f1 := y4.frozen 1
            have f2 := y4.frozen 2
            have f3 := y4.frozen 3
            have E5 : Ext w1 (putBook w4 gX (.int .i64 B.comp) (.slice aX B.bounds.length cX) (.slice a2 B.orders.length c2) (.slice ao B.shots.length co)) := putBook_ext E4 hgX' (.int .i64 B.comp) (.slice aX B.bounds.length cX) (.slice a2 B.orders.length c2) (.slice ao B.shots.length co)
            have y5 := putBook_blk y4 (.int .i64 B.comp) (.slice aX B.bounds.length cX) (.slice a2 B.orders.length c2) (.slice ao B.shots.length co)
            have far := putBook_far w4 gX (.int .i64 B.comp) (.slice aX B.bounds.length cX) (.slice a2 B.orders.length c2) (.slice ao B.shots.length co)
            have hB5 : BookA (putBook w4 gX (.int .i64 B.comp) (.slice aX B.bounds.length cX) (.slice a2 B.orders.length c2) (.slice ao B.shots.length co)) (onlyB X k m) aX a2 ao :=
              ⟨span_stored y4 far hBo.bounds, by show RowsA _ a2 X.orders; rw [hT.orders]; exact (HB1.out.ext E5).orders, shot_stored y4 far hBo.shots, hBo.l1, hBo.l2, hBo.l3⟩
            refine pl_one rfl (by rfl) (fun K hK => ?_)
            go_simp
            skip
            refine hK.out _ _ (HS.out _ E5) ?_
            clear hK K
            (try refine pl_tames ?_)
            (try simp only [Act.put, List.setIfInBounds_toArray, List.set_cons_zero, List.set_cons_succ])
            try ((repeat (first   | (refine pl_run (v := ?_) rfl ?_ (fun W hW => ?_) ?_; rotate_left; rfl; ((try dsimp only at hW); go_simp; try with_reducible rfl); (try simp only [Act.put, List.setIfInBounds_toArray, List.set_cons_zero, List.set_cons_succ]))   | (refine pl_skip rfl ?_ ?_; rfl; (try simp only [Act.put, List.setIfInBounds_toArray, List.set_cons_zero, List.set_cons_succ])))); refine pl_end ?_)
            refine pl_done ?_
            (try simp only [Act.put])
            have hfold : (((w4.setCell ⟨gX, 0, none⟩ (.int .i64 B.comp)).setCell ⟨gX, 1, none⟩ (.slice aX B.bounds.length cX)).setCell ⟨gX, 2, none⟩ (.slice a2 B.orders.length c2)).setCell ⟨gX, 3, none⟩ (.slice ao B.shots.length co) = putBook w4 gX (.int .i64 B.comp) (.slice aX B.bounds.length cX) (.slice a2 B.orders.length c2) (.slice ao B.shots.length co) := rfl
            rw [hfold]
            clear hfold far u0 u1 u2 u3 f0 f1 f2 f3
            generalize putBook w4 gX (.int .i64 B.comp) (.slice aX B.bounds.length cX) (.slice a2 B.orders.length c2) (.slice ao B.shots.length co) = W5 at E5 y5 hB5 ⊢
            clear HS hBo y4 E4 E24
            go_wp2_with (fail)
            go_meet
            case rel => exact ⟨rfl, onlyB X k m, ao, co, HT2.out, hB5, E5, y5⟩
    case rest =>
      obtain ⟨rfl, Y, aY, cY, hT2, hBY, EY, yY⟩ := hcut
      clear hBX EX yX HXs hT
      have hTf := fun i (hi : i < B.shots.length) => hT2.fair hv hi
      have hTw := hT2.wrong hv
      have HTf := Lib.hid hTf
      clear hTf
      obtain ⟨x0, x1, x2, x3⟩ := b1.ext EY |>.c4
      go_upto_region 18 with (fail)
      clear x0 x1 x2 x3
      go_loopw [13] (fun i wr => ∃ j : Nat, j ≤ B.shots.length ∧ i = .int .i64 j ∧ Ext wc wr) (fun i _ => B.shots.length - (intOf i).toNat)
      case atStart => exact ⟨0, Nat.zero_le _, rfl, Ext.refl _⟩
      case round =>
        obtain ⟨j, hj, rfl, hE⟩ := hrel
        have XR := EY.trans hE
        obtain ⟨x0, x1, x2, x3⟩ := (b1.ext XR).c4
        by_cases hlt : j < B.shots.length
        · have hfb := fair_yes B a1 a2 a3 c1 c2 c3 j wr (HB1.out.ext XR) (HG1.out.ext XR) hv hlt
          have hfx := fun W (hW : Ext wr W) => fair_of hT2 aX a2 aY cX c2 cY j W ((hBY.ext hE).ext hW) ((HG1.out.ext XR).ext hW) hlt
          have hff := HTf.out j hlt
          obtain ⟨kd, hkd⟩ : ∃ kd, fairN B (sAt B.shots j) = kd := ⟨_, rfl⟩
          obtain ⟨kx, hkx⟩ : ∃ kx, fairN Y (sAt Y.shots j) = kx := ⟨_, rfl⟩
          rw [hkd] at hfb hff
          rw [hkx] at hff
          simp only [hkx] at hfx
          have Hfb := Lib.hid hfb
          have Hfx := Lib.hid hfx
          clear hfb hfx hkd hkx
          go_upto_region 21 with (go_at_call 26; refine Hfb.out.mono ?_; rintro e w6 ⟨rfl, hE6⟩)
          clear x0 x1 x2 x3
          obtain ⟨x0, x1, x2, x3⟩ := (yY.ext (hE.trans hE6)).c4
          by_cases hk1 : kd = 1
          · subst hk1
            clear hff
            go_wp2_with (go_at_call 26; refine (Hfx.out _ hE6).mono ?_; rintro e w7 ⟨rfl, hE7⟩)
            go_roundw
            case rel => exact ⟨j + 1, by omega, by go_num, hE.trans (hE6.trans hE7)⟩
            case measure => simp [intOf]; omega
          · obtain rfl := hff hk1
            have hk2 : (kx == 1) = false := by simpa using hk1
            clear hff
            go_wp2_with (go_at_call 26; refine (Hfx.out _ hE6).mono ?_; rintro e w7 ⟨rfl, hE7⟩)
            go_roundw
            case rel => exact ⟨j + 1, by omega, by go_num, hE.trans (hE6.trans hE7)⟩
            case measure => simp [intOf]; omega
        · obtain rfl : j = B.shots.length := by omega
          have hwb := wrong_yes B a1 a2 a3 c1 c2 c3 wr (HB1.out.ext XR) (HG1.out.ext XR) hv
          have hwx := fun W (hW : Ext wr W) => wrong_of hT2 aX a2 aY cX c2 cY W ((hBY.ext hE).ext hW) ((HG1.out.ext XR).ext hW)
          obtain ⟨L, hL⟩ : ∃ L, wrongL B = L := ⟨_, rfl⟩
          obtain ⟨M, hM⟩ : ∃ M, wrongL Y = M := ⟨_, rfl⟩
          rw [hL] at hwb hTw
          rw [hM] at hTw
          simp only [hM] at hwx
          have Hwb := Lib.hid hwb
          have Hwx := Lib.hid hwx
          clear hwb hwx hL hM
          go_upto_region 25 with (go_at_call 32; refine Hwb.out.mono ?_; rintro e w6 ⟨⟨aL, cL, rfl, hIL⟩, hE6⟩)
          clear x0 x1 x2 x3 hIL
          obtain ⟨x0, x1, x2, x3⟩ := (yY.ext (hE.trans hE6)).c4
          go_wp2_with (first | (go_at_call 32; refine (Hwx.out _ hE6).mono ?_; rintro e w7 ⟨⟨aM, cM, rfl, hIM⟩, hE7⟩) | (go_at_call 25; refine (shot_any _ (HG1.out.ext (XR.trans (hE6.trans hE7)))).mono ?_; rintro e w8 ⟨rfl, hE8⟩))
          go_ret
          exact ⟨rfl, EW1.trans (XR.trans ((hE6.trans hE7).trans hE8))⟩
theorem turnKnows_walk (B : Bk) (a1 a2 a3 : Option Addr) (c1 c2 c3 : Nat) (n0 n1 n2 n3 : Int) (w : World) (h : BookA w B a1 a2 a3) (hG : Glob w)
    (k0 : -9223372036854775808 ≤ n0 ∧ n0 ≤ 9223372036854775807) (k1 : -9223372036854775808 ≤ n1 ∧ n1 ≤ 9223372036854775807) (k2 : -9223372036854775808 ≤ n2 ∧ n2 ≤ 9223372036854775807) (k3 : -9223372036854775808 ≤ n3 ∧ n3 ≤ 9223372036854775807) :
    Calls Tryd.prog 10 #[.agg #[.int .i64 B.comp, .slice a1 B.bounds.length c1, .slice a2 B.orders.length c2, .slice a3 B.shots.length c3], .agg #[.int .i64 n0, .int .i64 n1, .int .i64 n2, .int .i64 n3]] w
      fun e w' => e = .returned (.bool true) ∧ Ext w w' := by
  cases hv : validB B with
  | false => exact turnKnows_no B a1 a2 a3 c1 c2 c3 n0 n1 n2 n3 w h hG hv
  | true => exact turnKnows_yes B a1 a2 a3 c1 c2 c3 n0 n1 n2 n3 w h hG hv k0 k1 k2 k3
end Go.Proofs.YtnhdcdhpfgdphaaDoor
