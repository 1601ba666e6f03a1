/-
  The chapter's examples, as plain data: what the nine functions answer.
-/
import Derived.Test.YtnhdcdhpfgdphaaDoorMOw17
import Derived.Test.YtnhdcdhpfgdphaaDoorMOw16
import Derived.Test.YtnhdcdhpfgdphaaDoorMOw14
import Derived.Test.YtnhdcdhpfgdphaaDoorMOw19
import Derived.Test.YtnhdcdhpfgdphaaDoorMOw18
import Derived.Test.YtnhdcdhpfgdphaaDoorMOw9
set_option linter.unusedSimpArgs false
set_option linter.unusedVariables false
namespace Go.Proofs.YtnhdcdhpfgdphaaDoor
open Go Go.RowKit

theorem own_valid : validB (bookB 541 543) = true := by kernel_rfl
theorem late_valid : validB (bookB 542 542) = true := by kernel_rfl
theorem torn_valid : validB tornB = true := by kernel_rfl
theorem ex_turn : tLo (bookB 541 543) 362 = 0 ∧ tHi (bookB 541 543) 362 = 1 := ⟨by kernel_rfl, by kernel_rfl⟩
theorem ex_owners : ownersL (bookB 541 543) 1 541 = [0, 2] := by kernel_rfl
theorem ex_fair0 : fairN (bookB 541 543) (sAt (bookB 541 543).shots 0) = 1 := by kernel_rfl
theorem ex_fair1 : fairN (bookB 541 543) (sAt (bookB 541 543).shots 1) = 2 := by kernel_rfl
theorem ex_hangs : hangsI (bookB 541 543) (sAt (bookB 541 543).shots 3) 2 = [1] := by kernel_rfl
theorem ex_first : firstN (sAt (bookB 541 543).shots 2) (sAt (bookB 541 543).shots 0) = 2 := by kernel_rfl
theorem ex_learn : learnV (bookB 542 542) = 1 ∧ learnE (bookB 542 542) = 0 := ⟨by kernel_rfl, by kernel_rfl⟩
theorem ex_wrong : wrongL tornB = [4] := by kernel_rfl

/-- Runs, from a minute on. -/
def runsFrom (B : Bk) (s : Nat) (c : Int) (k n : Nat) (R : List (Int × Int) × Bool) : List (Int × Int) × Bool := (List.range n).foldl (fun R i => runStep B s c R (k + i)) R
theorem runsK_add (B : Bk) (s : Nat) (c : Int) (k n : Nat) : runsK B s c (k + n) = runsFrom B s c k n (runsK B s c k) := by
  induction n with
  | zero => simp [runsFrom]
  | succ n ih =>
    rw [← Nat.add_assoc, runsK_succ, ih]
    simp [runsFrom, List.range_succ]
theorem ex_sure : runsL (bookB 541 543) 0 1 = [(364, 539)] := by kernel_rfl
end Go.Proofs.YtnhdcdhpfgdphaaDoor

/-
  The chapter's examples hold: shot returns true.
-/
set_option linter.unusedSimpArgs false
set_option linter.unusedVariables false
namespace Go.Proofs.YtnhdcdhpfgdphaaDoor
open Go Go.RowKit

theorem intA_new (w : World) (xs : List Int) (t : TypeId) : IntA (w.alloc (.cells (ints xs).toArray t)) (some ⟨w.heap.size, 0, none⟩) xs := intA_blk xs (Blk.new w t _)
theorem spanA_new (w : World) (L : List (Int × Int)) (t : TypeId) : SpanA (w.alloc (.cells (flatS L).toArray t)) (some ⟨w.heap.size, 0, none⟩) L := spanA_blk L (Blk.new w t _)
theorem eq_span (a b x y : Int) (w : World) : (Op.equalIn 10000 29 (.agg #[.int .i64 a, .int .i64 b]) (.agg #[.int .i64 x, .int .i64 y])).run Tryd.prog w = .ok (a == x && b == y) w := by
  have hS : Tryd.prog.underlying 29 = some (.struct (Tryd.prog.fieldsOf 29)) := by kernel_rfl
  have hp : Tryd.prog.stoodInHeld 29 = false := by kernel_rfl
  have u3 := Tryd.underlying3
  have a3 := Tryd.isAgg3
  have z3 := Tryd.sizeOf3
  rw [show (10000 : Nat) = 9999 + 1 from rfl, run_equalIn_struct w 9999 _ _ _ hS hp]
  simp only [Program.fieldsOf, Tryd.underlying29]
  go_simp
  by_cases h1 : a = x <;> by_cases h2 : b = y <;> simp [h1, h2]

theorem pair_eq_at {xs ys : List (Int × Int)} (hl : xs.length = ys.length) (h : ∀ i, i < xs.length → bLo xs i = bLo ys i ∧ bHi xs i = bHi ys i) : xs = ys := by
  apply List.ext_getElem hl
  intro i h1 h2
  have := h i h1
  simp only [bLo, bHi, List.getD_eq_getElem?_getD, List.getElem?_eq_getElem h1, List.getElem?_eq_getElem h2, Option.getD_some] at this
  exact Prod.ext this.1 this.2
set_option maxRecDepth 100000 in
set_option maxHeartbeats 1000000 in
theorem samespans_any (a b : Option Addr) (xs ys : List (Int × Int)) (cp cq : Nat) (w : World) (h : SpanA w a xs) (h2 : SpanA w b ys) (hm : xs.length ≤ 9223372036854775807) (hm2 : ys.length ≤ 9223372036854775807) :
    Calls Tryd.prog 24 #[.slice a xs.length cp, .slice b ys.length cq] w fun e w' => e = .returned (.bool (decide (xs = ys))) ∧ Ext w w' := by
  have heq := eq_span
  go_enter Tryd.func24, Tryd.ntmps24
  go_wp2_with (fail)
  go_loopw [5, 6] (fun s i wr => ∃ (k : Nat) (p : Bool), k ≤ xs.length ∧ i = .int .i64 k ∧ s = .bool p ∧ (p = true → xs.length = ys.length ∧ ∀ i, i < k → bLo xs i = bLo ys i ∧ bHi xs i = bHi ys i) ∧ (p = false → xs ≠ ys) ∧ Ext w wr) (fun _ i _ => xs.length - (intOf i).toNat)
  case atStart => exact ⟨0, _, Nat.zero_le _, rfl, rfl, fun hp => ⟨Int.ofNat.inj (by simpa using hp), fun i hi => by omega⟩, fun hp e => by subst e; simp at hp, Ext.refl _⟩
  case round =>
    obtain ⟨k, p, hk, rfl, rfl, ht, hf, hE⟩ := hrel
    cases p with
    | false =>
      have Hr : Hid (decide (xs = ys) = false) := Lib.hid (by simp [hf rfl])
      clear ht hf
      go_wp2
      go_ret
      exact ⟨by rw [Hr.out]; rfl, hE⟩
    | true =>
      obtain ⟨hl, ht⟩ := ht rfl
      have Ht := Lib.hid ht
      clear ht hf
      by_cases hlt : k < xs.length
      · have h1' := h.ext hE
        have h2' := h2.ext hE
        obtain ⟨b1, o1, rfl, hb1, hc1⟩ := h1' (by omega)
        obtain ⟨b2, o2, rfl, hb2, hc2⟩ := h2' (by omega)
        obtain ⟨q1, q2⟩ := hc1 k hlt
        obtain ⟨q3, q4⟩ := hc2 k (by omega)
        have hlt2 : k < ys.length := by omega
        have Hl := Lib.hid hl
        clear hc1 hc2 h1' h2' hl
        go_upto_region 5 with (fail)
        go_quiet (fail)
        go_wp2
        go_roundw
        case rel => exact ⟨k + 1, _, by omega, by go_num, rfl, fun hp => ⟨Hl.out, fun i hi => (by
          rcases (by omega : i < k ∨ i = k) with h | rfl
          · exact Ht.out i h
          · simpa using hp)⟩, fun hp e => (by subst e; simp at hp), Ext.trans hE (Ext.drewN _ _)⟩
        case measure => simp [intOf]; omega
      · obtain rfl : k = xs.length := by omega
        have Hr : Hid (decide (xs = ys) = true) := Lib.hid (by simp [pair_eq_at hl Ht.out])
        clear hl
        go_wp2
        go_ret
        exact ⟨by rw [Hr.out]; rfl, hE⟩

theorem same_self (a b : Option Addr) (xs : List Int) (cp cq : Nat) (w : World) (h : IntA w a xs) (h2 : IntA w b xs) (hm : xs.length ≤ 9223372036854775807) :
    Calls Tryd.prog 21 #[.slice a xs.length cp, .slice b xs.length cq] w fun e w' => e = .returned (.bool true) ∧ Ext w w' := by
  have := same_any a b xs xs cp cq w h h2 hm hm
  simpa using this
theorem samespans_self (a b : Option Addr) (xs : List (Int × Int)) (cp cq : Nat) (w : World) (h : SpanA w a xs) (h2 : SpanA w b xs) (hm : xs.length ≤ 9223372036854775807) :
    Calls Tryd.prog 24 #[.slice a xs.length cp, .slice b xs.length cq] w fun e w' => e = .returned (.bool true) ∧ Ext w w' := by
  have := samespans_any a b xs xs cp cq w h h2 hm hm
  simpa using this
section
variable {w : World} {a1 a2 a3 : Option Addr} {c1 c2 c3 : Nat}
theorem sh_turn (h : BookA w (bookB 541 543) a1 a2 a3) (hG : Glob w) : Calls Tryd.prog 15 #[.agg #[.int .i64 3, .slice a1 2 c1, .slice a2 2 c2, .slice a3 4 c3], .int .i64 362] w
    fun e w' => e = .returned (.tuple #[.agg #[.int .i64 0, .int .i64 1], .int .i64 0]) ∧ Ext w w' := by
  have := turn_yes (bookB 541 543) a1 a2 a3 c1 c2 c3 362 w h hG own_valid (by kernel_rfl)
  rw [ex_turn.1, ex_turn.2] at this
  exact this
theorem sh_owners (h : BookA w (bookB 541 543) a1 a2 a3) (hG : Glob w) : Calls Tryd.prog 19 #[.agg #[.int .i64 3, .slice a1 2 c1, .slice a2 2 c2, .slice a3 4 c3], .int .i64 1, .int .i64 541] w
    fun e w' => (∃ a cp, e = .returned (.tuple #[.slice a 2 cp, .int .i64 0]) ∧ IntA w' a [0, 2]) ∧ Ext w w' := by
  have := owners_yes (bookB 541 543) a1 a2 a3 c1 c2 c3 1 541 w h hG own_valid (by decide) (by kernel_rfl)
  rw [ex_owners] at this
  exact this
theorem sh_fair0 (h : BookA w (bookB 541 543) a1 a2 a3) (hG : Glob w) : Calls Tryd.prog 26 #[.agg #[.int .i64 3, .slice a1 2 c1, .slice a2 2 c2, .slice a3 4 c3], .int .i64 0] w
    fun e w' => e = .returned (.tuple #[.int .i64 1, .int .i64 0]) ∧ Ext w w' := by
  have := fair_yes (bookB 541 543) a1 a2 a3 c1 c2 c3 0 w h hG own_valid (by simp [bookB])
  rw [ex_fair0] at this
  exact this
theorem sh_fair1 (h : BookA w (bookB 541 543) a1 a2 a3) (hG : Glob w) : Calls Tryd.prog 26 #[.agg #[.int .i64 3, .slice a1 2 c1, .slice a2 2 c2, .slice a3 4 c3], .int .i64 1] w
    fun e w' => e = .returned (.tuple #[.int .i64 2, .int .i64 0]) ∧ Ext w w' := by
  have := fair_yes (bookB 541 543) a1 a2 a3 c1 c2 c3 1 w h hG own_valid (by simp [bookB])
  rw [ex_fair1] at this
  exact this
theorem sh_hangs (h : BookA w (bookB 541 543) a1 a2 a3) (hG : Glob w) : Calls Tryd.prog 28 #[.agg #[.int .i64 3, .slice a1 2 c1, .slice a2 2 c2, .slice a3 4 c3], .int .i64 3] w
    fun e w' => (∃ a cp, e = .returned (.tuple #[.slice a 1 cp, .int .i64 0]) ∧ IntA w' a [1]) ∧ Ext w w' := by
  have := hangs_yes (bookB 541 543) a1 a2 a3 c1 c2 c3 3 w h hG own_valid (by simp [bookB])
  rw [show (bookB 541 543).bounds.length = 2 from rfl, ex_hangs] at this
  exact this
theorem sh_first (h : BookA w (bookB 541 543) a1 a2 a3) (hG : Glob w) : Calls Tryd.prog 30 #[.agg #[.int .i64 3, .slice a1 2 c1, .slice a2 2 c2, .slice a3 4 c3], .int .i64 2, .int .i64 0] w
    fun e w' => e = .returned (.tuple #[.int .i64 2, .int .i64 0]) ∧ Ext w w' := by
  have := first_yes (bookB 541 543) a1 a2 a3 c1 c2 c3 2 0 w h hG own_valid (by simp [bookB]) (by simp [bookB]) (by decide)
  rw [ex_first] at this
  exact this
theorem sh_sure (h : BookA w (bookB 541 543) a1 a2 a3) (hG : Glob w) : Calls Tryd.prog 22 #[.agg #[.int .i64 3, .slice a1 2 c1, .slice a2 2 c2, .slice a3 4 c3], .int .i64 0, .int .i64 1] w
    fun e w' => (∃ a cp, e = .returned (.tuple #[.slice a 1 cp, .int .i64 0]) ∧ SpanA w' a [(364, 539)]) ∧ Ext w w' := by
  have := sure_yes (bookB 541 543) a1 a2 a3 c1 c2 c3 0 1 w h hG own_valid (by simp [bookB]) (by decide) (by decide)
  rw [ex_sure] at this
  exact this
theorem sh_wrong (h : BookA w tornB a1 a2 a3) (hG : Glob w) : Calls Tryd.prog 32 #[.agg #[.int .i64 3, .slice a1 2 c1, .slice a2 2 c2, .slice a3 5 c3]] w
    fun e w' => (∃ a cp, e = .returned (.tuple #[.slice a 1 cp, .int .i64 0]) ∧ IntA w' a [4]) ∧ Ext w w' := by
  have := wrong_yes tornB a1 a2 a3 c1 c2 c3 w h hG torn_valid
  rw [ex_wrong] at this
  exact this
theorem sh_learn (h : BookA w (bookB 542 542) a1 a2 a3) (hG : Glob w) : Calls Tryd.prog 34 #[.agg #[.int .i64 3, .slice a1 2 c1, .slice a2 2 c2, .slice a3 4 c3]] w
    fun e w' => e = .returned (.tuple #[.int .i64 1, .int .i64 0]) ∧ Ext w w' := by
  have := learn_yes (bookB 542 542) a1 a2 a3 c1 c2 c3 w h hG late_valid
  rw [ex_learn.1, ex_learn.2] at this
  exact this
end

set_option maxRecDepth 100000 in
set_option maxHeartbeats 8000000 in
theorem shot_any (w : World) (hG : Glob w) : Calls Tryd.prog 25 #[] w fun e w' => e = .returned (.bool true) ∧ Ext w w' := by
  have HG := Lib.hid hG
  clear hG
  have heq := eq_span
  go_enter Tryd.func25, Tryd.ntmps25
  go_upto_region 2 with (first | (go_at_call 54; refine (own_any _).mono ?_; rintro e u1 ⟨⟨g1, g2, r1, r2, g3, rfl, hB1⟩, hE1⟩) | (go_at_call 15; refine (sh_turn hB1.book (HG.out.ext (hE1))).mono ?_; rintro e w1 ⟨rfl, hF1⟩))
  obtain ⟨W1, hW1⟩ : ∃ W1, W1 = w1.alloc (.cells #[.int .i64 0, .int .i64 1] 29) := ⟨_, rfl⟩
  have X1 : Ext w W1 := by rw [hW1]; exact hE1.trans (hF1.trans (Ext.alloc _ _))
  have t1 : Blk W1 w1.heap.size 29 #[.int .i64 0, .int .i64 1] := by rw [hW1]; exact Blk.new _ _ _
  rw [← hW1]
  clear hW1
  obtain ⟨gs, hgs⟩ : ∃ gs, gs = w1.heap.size := ⟨_, rfl⟩
  rw [← hgs] at t1 ⊢
  clear hgs
  go_upto_region 3 with (first | (go_at_call 54; refine (own_any _).mono ?_; rintro e u2 ⟨⟨g1, g2, r1, r2, g3, rfl, hB2⟩, hE2⟩) | (go_at_call 19; refine (sh_owners hB2.book (HG.out.ext (X1.trans hE2))).mono ?_; rintro e w2 ⟨⟨al, cl, rfl, hI2⟩, hF2⟩))
  have X2 := X1.trans (hE2.trans hF2)
  go_upto_region 4 with (first | (go_at_call 54; refine (own_any _).mono ?_; rintro e u3 ⟨⟨g1, g2, r1, r2, g3, rfl, hB3⟩, hE3⟩) | (go_at_call 26; refine (sh_fair0 hB3.book (HG.out.ext (X2.trans hE3))).mono ?_; rintro e w3 ⟨rfl, hF3⟩))
  have X3 := X2.trans (hE3.trans hF3)
  go_upto_region 5 with (first | (go_at_call 54; refine (own_any _).mono ?_; rintro e u4 ⟨⟨g1, g2, r1, r2, g3, rfl, hB4⟩, hE4⟩) | (go_at_call 28; refine (sh_hangs hB4.book (HG.out.ext (X3.trans hE4))).mono ?_; rintro e w4 ⟨⟨am, cm, rfl, hI4⟩, hF4⟩))
  have X4 := X3.trans (hE4.trans hF4)
  go_upto_region 6 with (first | (go_at_call 54; refine (own_any _).mono ?_; rintro e u5 ⟨⟨g1, g2, r1, r2, g3, rfl, hB5⟩, hE5⟩) | (go_at_call 30; refine (sh_first hB5.book (HG.out.ext (X4.trans hE5))).mono ?_; rintro e w5 ⟨rfl, hF5⟩))
  have X5 := X4.trans (hE5.trans hF5)
  have hI2' := hI2.ext ((hE3.trans hF3).trans ((hE4.trans hF4).trans (hE5.trans hF5)))
  have hI4' := hI4.ext (hE5.trans hF5)
  have t5 := t1.ext ((hE2.trans hF2).trans ((hE3.trans hF3).trans ((hE4.trans hF4).trans (hE5.trans hF5))))
  have HS := Lib.hid (fun W (hW : Ext w5 W) => (t5.ext hW).c2)
  clear t1 hI2 hI4 hB1 hB2 hB3 hB4 hB5
  refine wp_plan (fun W => (W.cell? ⟨gs, 0, none⟩ = some (.int .i64 0) ∧ W.cell? ⟨gs, 1, none⟩ = some (.int .i64 1))) (.tames [0, 1, 2, 3, 4, 5, 6, 7, 8, 9, 10, 11, 12, 13, 14, 15, 16, 17, 18, 19] (.one 20 (.tames [21, 22, 23, 24] (.one 25 (.one 26 (.tames [27, 28, 29, 30, 31, 32, 33, 34] (.one 35 (.one 36 (.tames [37, 38, 39, 40, 41, 42] (.done)))))))))) (by kernel_rfl) (by kernel_rfl) (by kernel_rfl) (fun c a d v w h => by cases d <;> exact h) ?_ ?_
  · exact HS.out _ (Ext.drew _)
  refine pl_tames ?_
  (try simp only [Act.put, List.setIfInBounds_toArray, List.set_cons_zero, List.set_cons_succ])
  repeat (first
    | (refine pl_run (v := ?_) rfl ?_ (fun W hW => ?_) ?_; rotate_left; rfl; ((try dsimp only at hW); go_simp; try with_reducible rfl); (try simp only [Act.put, List.setIfInBounds_toArray, List.set_cons_zero, List.set_cons_succ]))
    | (refine pl_skip rfl ?_ ?_; rfl; (try simp only [Act.put, List.setIfInBounds_toArray, List.set_cons_zero, List.set_cons_succ])))
  refine pl_end ?_
  refine pl_one rfl (by rfl) (fun K hK => ?_)
  go_simp
  (go_at_call 45; refine (to_any _ _ _).mono ?_; rintro e v1 ⟨rfl, hV1⟩)
  refine hK.out _ _ (HS.out _ ((Ext.drew _).trans hV1)) ?_
  clear hK K
  (try refine pl_tames ?_)
  (try simp only [Act.put, List.setIfInBounds_toArray, List.set_cons_zero, List.set_cons_succ])
  try ((repeat (first   | (refine pl_run (v := ?_) rfl ?_ (fun W hW => ?_) ?_; rotate_left; rfl; ((try dsimp only at hW); go_simp; try with_reducible rfl); (try simp only [Act.put, List.setIfInBounds_toArray, List.set_cons_zero, List.set_cons_succ]))   | (refine pl_skip rfl ?_ ?_; rfl; (try simp only [Act.put, List.setIfInBounds_toArray, List.set_cons_zero, List.set_cons_succ])))); refine pl_end ?_)
  have A1 := Ext.alloc v1 (.cells #[.int .i64 0, .int .i64 2] 3)
  have Y1 := (Ext.drew w5).trans hV1
  refine pl_one rfl (by rfl) (fun K hK => ?_)
  go_simp
  skip
  refine hK.out _ _ (HS.out _ (Y1.trans A1)) ?_
  clear hK K
  (try refine pl_tames ?_)
  (try simp only [Act.put, List.setIfInBounds_toArray, List.set_cons_zero, List.set_cons_succ])
  try ((repeat (first   | (refine pl_run (v := ?_) rfl ?_ (fun W hW => ?_) ?_; rotate_left; rfl; ((try dsimp only at hW); go_simp; try with_reducible rfl); (try simp only [Act.put, List.setIfInBounds_toArray, List.set_cons_zero, List.set_cons_succ]))   | (refine pl_skip rfl ?_ ?_; rfl; (try simp only [Act.put, List.setIfInBounds_toArray, List.set_cons_zero, List.set_cons_succ])))); refine pl_end ?_)
  refine pl_one rfl (by rfl) (fun K hK => ?_)
  go_simp
  (go_at_call 21; refine (same_self al (some ⟨v1.heap.size, 0, none⟩) [0, 2] cl 2 _ (hI2'.ext (Y1.trans A1)) (intA_new v1 [0, 2] 3) (by decide)).mono ?_; rintro e v2 ⟨rfl, hV2⟩)
  refine hK.out _ _ (HS.out _ ((Y1.trans A1).trans hV2)) ?_
  clear hK K
  (try refine pl_tames ?_)
  (try simp only [Act.put, List.setIfInBounds_toArray, List.set_cons_zero, List.set_cons_succ])
  try ((repeat (first   | (refine pl_run (v := ?_) rfl ?_ (fun W hW => ?_) ?_; rotate_left; rfl; ((try dsimp only at hW); go_simp; try with_reducible rfl); (try simp only [Act.put, List.setIfInBounds_toArray, List.set_cons_zero, List.set_cons_succ]))   | (refine pl_skip rfl ?_ ?_; rfl; (try simp only [Act.put, List.setIfInBounds_toArray, List.set_cons_zero, List.set_cons_succ])))); refine pl_end ?_)
  have Y2 := (Y1.trans A1).trans hV2
  have A2 := Ext.alloc v2 (.cells #[.int .i64 1] 3)
  refine pl_one rfl (by rfl) (fun K hK => ?_)
  go_simp
  skip
  refine hK.out _ _ (HS.out _ (Y2.trans A2)) ?_
  clear hK K
  (try refine pl_tames ?_)
  (try simp only [Act.put, List.setIfInBounds_toArray, List.set_cons_zero, List.set_cons_succ])
  try ((repeat (first   | (refine pl_run (v := ?_) rfl ?_ (fun W hW => ?_) ?_; rotate_left; rfl; ((try dsimp only at hW); go_simp; try with_reducible rfl); (try simp only [Act.put, List.setIfInBounds_toArray, List.set_cons_zero, List.set_cons_succ]))   | (refine pl_skip rfl ?_ ?_; rfl; (try simp only [Act.put, List.setIfInBounds_toArray, List.set_cons_zero, List.set_cons_succ])))); refine pl_end ?_)
  refine pl_one rfl (by rfl) (fun K hK => ?_)
  go_simp
  (go_at_call 21; refine (same_self am (some ⟨v2.heap.size, 0, none⟩) [1] cm 1 _ (hI4'.ext (Y2.trans A2)) (intA_new v2 [1] 3) (by decide)).mono ?_; rintro e v3 ⟨rfl, hV3⟩)
  refine hK.out _ _ (HS.out _ ((Y2.trans A2).trans hV3)) ?_
  clear hK K
  (try refine pl_tames ?_)
  (try simp only [Act.put, List.setIfInBounds_toArray, List.set_cons_zero, List.set_cons_succ])
  try ((repeat (first   | (refine pl_run (v := ?_) rfl ?_ (fun W hW => ?_) ?_; rotate_left; rfl; ((try dsimp only at hW); go_simp; try with_reducible rfl); (try simp only [Act.put, List.setIfInBounds_toArray, List.set_cons_zero, List.set_cons_succ]))   | (refine pl_skip rfl ?_ ?_; rfl; (try simp only [Act.put, List.setIfInBounds_toArray, List.set_cons_zero, List.set_cons_succ])))); refine pl_end ?_)
  have Y3 := X5.trans ((Y2.trans A2).trans hV3)
  refine pl_done ?_
  (try simp only [Act.put])
  clear HS hI2' hI4' t5
  go_upto_region 9 with (first | (go_at_call 54; refine (own_any _).mono ?_; rintro e u6 ⟨⟨g1, g2, r1, r2, g3, rfl, hB6⟩, hE6⟩) | (go_at_call 22; refine (sh_sure hB6.book (HG.out.ext (Y3.trans hE6))).mono ?_; rintro e w6 ⟨⟨ap, cp, rfl, hI6⟩, hF6⟩))
  have X6 := Y3.trans (hE6.trans hF6)
  go_upto_region 10 with (first | (go_at_call 57; refine (torn_any _).mono ?_; rintro e u7 ⟨⟨b1, b2, b3, d3, rfl, hB7⟩, hE7⟩) | (go_at_call 32; refine (sh_wrong hB7 (HG.out.ext (X6.trans hE7))).mono ?_; rintro e w7 ⟨⟨aw, cw, rfl, hI7⟩, hF7⟩))
  have X7 := X6.trans (hE7.trans hF7)
  go_upto_region 11 with (first | (go_at_call 73; refine (late_any _).mono ?_; rintro e u8 ⟨⟨g1, g2, r1, r2, g3, rfl, hB8⟩, hE8⟩) | (go_at_call 34; refine (sh_learn hB8.book (HG.out.ext (X7.trans hE8))).mono ?_; rintro e w8 ⟨rfl, hF8⟩))
  have X8 := X7.trans (hE8.trans hF8)
  go_upto_region 12 with (first | (go_at_call 54; refine (own_any _).mono ?_; rintro e u9 ⟨⟨g1, g2, r1, r2, g3, rfl, hB9⟩, hE9⟩) | (go_at_call 26; refine (sh_fair1 hB9.book (HG.out.ext (X8.trans hE9))).mono ?_; rintro e w9 ⟨rfl, hF9⟩))
  have X9 := X8.trans (hE9.trans hF9)
  have hI6' := hI6.ext ((hE7.trans hF7).trans ((hE8.trans hF8).trans (hE9.trans hF9)))
  have hI7' := hI7.ext ((hE8.trans hF8).trans (hE9.trans hF9))
  clear hI6 hI7 hB6 hB7 hB8 hB9
  go_wp2_with (first | (go_at_call 45; refine (to_any _ _ _).mono ?_; rintro e v4 ⟨rfl, hV4⟩) | (go_at_call 24; refine (samespans_self ap (some ⟨v4.heap.size, 0, none⟩) [(364, 539)] cp 1 _ (hI6'.ext (hV4.trans (Ext.alloc _ _))) (spanA_new v4 [(364, 539)] 29) (by decide)).mono ?_; rintro e v5 ⟨rfl, hV5⟩) | (go_at_call 21; refine (same_self aw (some ⟨v5.heap.size, 0, none⟩) [4] cw 1 _ (hI7'.ext (hV4.trans ((Ext.alloc _ _).trans (hV5.trans (Ext.alloc _ _))))) (intA_new v5 [4] 3) (by decide)).mono ?_; rintro e v6 ⟨rfl, hV6⟩))
  go_ret
  exact ⟨rfl, X9.trans (hV4.trans ((Ext.alloc _ _).trans (hV5.trans ((Ext.alloc _ _).trans hV6))))⟩
end Go.Proofs.YtnhdcdhpfgdphaaDoor

/-
  TurnOwners: the walk.
-/
set_option linter.unusedSimpArgs false
set_option linter.unusedVariables false
namespace Go.Proofs.YtnhdcdhpfgdphaaDoor
open Go Go.RowKit

theorem ownersX_len (B : Bk) (s m : Int) : (ownersX B s m).length ≤ 9223372036854775807 := by
  unfold ownersX
  by_cases hz : askE B (askOwn B s m) = 0
  · rw [if_pos hz]
    obtain ⟨hv, -, -⟩ := ask_own hz
    have := ownersL_len hv s.toNat m
    omega
  · rw [if_neg hz]; simp
theorem sureX_len (B : Bk) (s c : Int) : (sureX B s c).length ≤ 9223372036854775807 := by
  unfold sureX
  by_cases hz : askE B (askSure B s c) = 0
  · rw [if_pos hz]
    have := (runsK_inv B s.toNat c 1440).1
    unfold runsL
    omega
  · rw [if_neg hz]; simp
set_option maxRecDepth 100000 in
set_option maxHeartbeats 4000000 in
theorem turnOwners_walk (B : Bk) (a1 a2 a3 : Option Addr) (c1 c2 c3 : Nat) (n0 n1 n2 : Int) (w : World) (h : BookA w B a1 a2 a3) (hG : Glob w)
    (k0 : -9223372036854775808 ≤ n0 ∧ n0 ≤ 9223372036854775807) (k1 : -9223372036854775808 ≤ n1 ∧ n1 ≤ 9223372036854775807) (k2 : -9223372036854775808 ≤ n2 ∧ n2 ≤ 9223372036854775807) :
    Calls Tryd.prog 3 #[.agg #[.int .i64 B.comp, .slice a1 B.bounds.length c1, .slice a2 B.orders.length c2, .slice a3 B.shots.length c3], .agg #[.int .i64 n0, .int .i64 n1, .int .i64 n2]] w
      fun e w' => e = .returned (.bool true) ∧ Ext w w' := by
  have HB := Lib.hid h
  have HG := Lib.hid hG
  have hl1 := ownersX_len B n0 n2
  have hl2 := sureX_len B n0 n1
  have f1 := fun W (hW : Ext w W) => turn_all B a1 a2 a3 c1 c2 c3 n2 W (HB.out.ext hW) (HG.out.ext hW)
  have f2 := fun W (hW : Ext w W) => rTurn_all B a1 a2 a3 c1 c2 c3 n2 W (HB.out.ext hW)
  have g1 := fun W (hW : Ext w W) => check_any B a1 a2 a3 c1 c2 c3 W (HB.out.ext hW)
  have g2 := fun W (hW : Ext w W) => rCheck_any B a1 a2 a3 c1 c2 c3 W (HB.out.ext hW)
  have o1 := fun W (hW : Ext w W) => owners_all B a1 a2 a3 c1 c2 c3 n0 n2 W (HB.out.ext hW) (HG.out.ext hW)
  have o2 := fun W (hW : Ext w W) => rOwners_all B a1 a2 a3 c1 c2 c3 n0 n2 W (HB.out.ext hW)
  have s1 := fun W (hW : Ext w W) => sure_all B a1 a2 a3 c1 c2 c3 n0 n1 W (HB.out.ext hW) (HG.out.ext hW)
  have s2 := fun W (hW : Ext w W) => rSure_all B a1 a2 a3 c1 c2 c3 n0 n1 W (HB.out.ext hW)
  obtain ⟨tl, htl⟩ : ∃ x, turnLX B n2 = x := ⟨_, rfl⟩
  obtain ⟨th, hth⟩ : ∃ x, turnHX B n2 = x := ⟨_, rfl⟩
  obtain ⟨ta, hta⟩ : ∃ x, askE B (isMinB n2) = x := ⟨_, rfl⟩
  obtain ⟨ck, hck⟩ : ∃ x, checkRes B = x := ⟨_, rfl⟩
  obtain ⟨ox, hox⟩ : ∃ x, ownersX B n0 n2 = x := ⟨_, rfl⟩
  obtain ⟨oa, hoa⟩ : ∃ x, askE B (askOwn B n0 n2) = x := ⟨_, rfl⟩
  obtain ⟨sx, hsx⟩ : ∃ x, sureX B n0 n1 = x := ⟨_, rfl⟩
  obtain ⟨sa, hsa⟩ : ∃ x, askE B (askSure B n0 n1) = x := ⟨_, rfl⟩
  simp only [htl, hth, hta] at f1 f2
  simp only [hck] at g1 g2
  simp only [hox, hoa] at o1 o2 hl1
  simp only [hsx, hsa] at s1 s2 hl2
  have F1 := Lib.hid f1
  have F2 := Lib.hid f2
  have G1 := Lib.hid g1
  have G2 := Lib.hid g2
  have O1 := Lib.hid o1
  have O2 := Lib.hid o2
  have S1 := Lib.hid s1
  have S2 := Lib.hid s2
  clear h hG f1 f2 g1 g2 o1 o2 s1 s2 htl hth hta hck hox hoa hsx hsa k0 k1 k2
  go_enter Tryd.func3, Tryd.ntmps3
  go_upto_region 1 with (fail)
  obtain ⟨W0, hW0⟩ : ∃ W0, W0 = (w.alloc (.cells #[.int .i64 B.comp, .slice a1 B.bounds.length c1, .slice a2 B.orders.length c2, .slice a3 B.shots.length c3] 26)).alloc (.cells #[.int .i64 n0, .int .i64 n1, .int .i64 n2] 27) := ⟨_, rfl⟩
  have b0 : Blk W0 w.heap.size 26 #[.int .i64 B.comp, .slice a1 B.bounds.length c1, .slice a2 B.orders.length c2, .slice a3 B.shots.length c3] := by rw [hW0]; exact (Blk.new _ _ _).alloc _
  have m0 : Blk W0 (w.heap.size + 1) 27 #[.int .i64 n0, .int .i64 n1, .int .i64 n2] := by rw [hW0]; have := Blk.new (w.alloc (.cells #[.int .i64 B.comp, .slice a1 B.bounds.length c1, .slice a2 B.orders.length c2, .slice a3 B.shots.length c3] 26)) 27 #[.int .i64 n0, .int .i64 n1, .int .i64 n2]; simpa using this
  have E0 : Ext w W0 := by rw [hW0]; exact (Ext.alloc _ _).trans (Ext.alloc _ _)
  rw [← hW0]
  clear hW0
  obtain ⟨gN, hgN⟩ : ∃ g, g = w.heap.size + 1 := ⟨_, rfl⟩
  rw [← hgN] at m0 ⊢
  clear hgN
  obtain ⟨gB, hgB⟩ : ∃ g, g = w.heap.size := ⟨_, rfl⟩
  rw [← hgB] at b0 ⊢
  clear hgB
  have HS := Lib.hid (fun W (hW : Ext W0 W) => (⟨(b0.ext hW).c4, (m0.ext hW).cell rfl, (m0.ext hW).cell rfl, (m0.ext hW).cell rfl⟩ : ((W.cell? ⟨gB, 0, none⟩ = some (.int .i64 B.comp) ∧ W.cell? ⟨gB, 1, none⟩ = some (.slice a1 B.bounds.length c1) ∧ W.cell? ⟨gB, 2, none⟩ = some (.slice a2 B.orders.length c2) ∧ W.cell? ⟨gB, 3, none⟩ = some (.slice a3 B.shots.length c3)) ∧ W.cell? ⟨gN, 0, none⟩ = some (.int .i64 n0) ∧ W.cell? ⟨gN, 1, none⟩ = some (.int .i64 n1) ∧ W.cell? ⟨gN, 2, none⟩ = some (.int .i64 n2))))
  obtain ⟨⟨x0, x1, x2, x3⟩, y0, y1, y2⟩ := HS.out _ (Ext.refl _)
  go_upto_region 2 with (go_at_call 15; refine (F1.out _ E0).mono ?_; rintro e w1 ⟨rfl, hE1⟩)
  clear x0 x1 x2 x3 y0 y1 y2
  obtain ⟨W1, hW1⟩ : ∃ W1, W1 = w1.alloc (.cells #[.int .i64 tl, .int .i64 th] 29) := ⟨_, rfl⟩
  have t1 : Blk W1 w1.heap.size 29 #[.int .i64 tl, .int .i64 th] := by rw [hW1]; exact Blk.new _ _ _
  have D1 : Ext W0 W1 := by rw [hW1]; exact hE1.trans (Ext.alloc _ _)
  rw [← hW1]
  obtain ⟨g1, hg1⟩ : ∃ g, g = w1.heap.size := ⟨_, rfl⟩
  rw [← hg1] at t1 ⊢
  clear hW1 hg1 hE1
  obtain ⟨⟨x0, x1, x2, x3⟩, y0, y1, y2⟩ := HS.out _ D1
  go_upto_region 3 with (go_at_call 16; refine (F2.out _ (E0.trans D1)).mono ?_; rintro e w2 ⟨rfl, hE2⟩)
  clear x0 x1 x2 x3 y0 y1 y2
  obtain ⟨W2, hW2⟩ : ∃ W2, W2 = w2.alloc (.cells #[.int .i64 tl, .int .i64 th] 29) := ⟨_, rfl⟩
  have t2 : Blk W2 w2.heap.size 29 #[.int .i64 tl, .int .i64 th] := by rw [hW2]; exact Blk.new _ _ _
  have t1' : Blk W2 g1 29 #[.int .i64 tl, .int .i64 th] := by rw [hW2]; exact (t1.ext hE2).alloc _
  have D2 : Ext W0 W2 := by rw [hW2]; exact D1.trans (hE2.trans (Ext.alloc _ _))
  rw [← hW2]
  obtain ⟨g2, hg2⟩ : ∃ g, g = w2.heap.size := ⟨_, rfl⟩
  rw [← hg2] at t2 ⊢
  clear hW2 hg2 hE2 t1 D1
  have HT := Lib.hid (fun W (hW : Ext W2 W) => (⟨(b0.ext (D2.trans hW)).c4, (t1'.ext hW).c2, (t2.ext hW).c2⟩ : ((W.cell? ⟨gB, 0, none⟩ = some (.int .i64 B.comp) ∧ W.cell? ⟨gB, 1, none⟩ = some (.slice a1 B.bounds.length c1) ∧ W.cell? ⟨gB, 2, none⟩ = some (.slice a2 B.orders.length c2) ∧ W.cell? ⟨gB, 3, none⟩ = some (.slice a3 B.shots.length c3)) ∧ (W.cell? ⟨g1, 0, none⟩ = some (.int .i64 tl) ∧ W.cell? ⟨g1, 1, none⟩ = some (.int .i64 th)) ∧ W.cell? ⟨g2, 0, none⟩ = some (.int .i64 tl) ∧ W.cell? ⟨g2, 1, none⟩ = some (.int .i64 th))))
  refine wp_plan (fun W => ((W.cell? ⟨gB, 0, none⟩ = some (.int .i64 B.comp) ∧ W.cell? ⟨gB, 1, none⟩ = some (.slice a1 B.bounds.length c1) ∧ W.cell? ⟨gB, 2, none⟩ = some (.slice a2 B.orders.length c2) ∧ W.cell? ⟨gB, 3, none⟩ = some (.slice a3 B.shots.length c3)) ∧ (W.cell? ⟨g1, 0, none⟩ = some (.int .i64 tl) ∧ W.cell? ⟨g1, 1, none⟩ = some (.int .i64 th)) ∧ W.cell? ⟨g2, 0, none⟩ = some (.int .i64 tl) ∧ W.cell? ⟨g2, 1, none⟩ = some (.int .i64 th))) (.tames [0, 1, 2, 3, 4, 5, 6, 7, 8, 9, 11] (.one 10 (.one 12 (.tames [13, 14] (.done))))) (by kernel_rfl) (by kernel_rfl) (by kernel_rfl) (fun c a d v w h => by cases d <;> exact h) ?_ ?_
  · exact HT.out _ (Ext.drew _)
  refine pl_tames ?_
  (try simp only [Act.put, List.setIfInBounds_toArray, List.set_cons_zero, List.set_cons_succ])
  repeat (first
    | (refine pl_run (v := ?_) rfl ?_ (fun W hW => ?_) ?_; rotate_left; rfl; ((try dsimp only at hW); go_simp; try with_reducible rfl); (try simp only [Act.put, List.setIfInBounds_toArray, List.set_cons_zero, List.set_cons_succ]))
    | (refine pl_skip rfl ?_ ?_; rfl; (try simp only [Act.put, List.setIfInBounds_toArray, List.set_cons_zero, List.set_cons_succ])))
  refine pl_end ?_
  refine pl_one rfl (by rfl) (fun K hK => ?_)
  go_simp
  (go_at_call 17; refine (G1.out _ (E0.trans (Below.drew D2))).mono ?_; rintro e w3 ⟨rfl, hE3⟩)
  refine hK.out _ _ (HT.out _ ((Ext.drew _).trans hE3)) ?_
  clear hK K
  (try refine pl_tames ?_)
  (try simp only [Act.put, List.setIfInBounds_toArray, List.set_cons_zero, List.set_cons_succ])
  try ((repeat (first   | (refine pl_run (v := ?_) rfl ?_ (fun W hW => ?_) ?_; rotate_left; rfl; ((try dsimp only at hW); go_simp; try with_reducible rfl); (try simp only [Act.put, List.setIfInBounds_toArray, List.set_cons_zero, List.set_cons_succ]))   | (refine pl_skip rfl ?_ ?_; rfl; (try simp only [Act.put, List.setIfInBounds_toArray, List.set_cons_zero, List.set_cons_succ])))); refine pl_end ?_)
  refine pl_one rfl (by rfl) (fun K hK => ?_)
  go_simp
  (go_at_call 18; refine (G2.out _ ((E0.trans (Below.drew D2)).trans hE3)).mono ?_; rintro e w4 ⟨rfl, hE4⟩)
  refine hK.out _ _ (HT.out _ (((Ext.drew _).trans hE3).trans hE4)) ?_
  clear hK K
  (try refine pl_tames ?_)
  (try simp only [Act.put, List.setIfInBounds_toArray, List.set_cons_zero, List.set_cons_succ])
  try ((repeat (first   | (refine pl_run (v := ?_) rfl ?_ (fun W hW => ?_) ?_; rotate_left; rfl; ((try dsimp only at hW); go_simp; try with_reducible rfl); (try simp only [Act.put, List.setIfInBounds_toArray, List.set_cons_zero, List.set_cons_succ]))   | (refine pl_skip rfl ?_ ?_; rfl; (try simp only [Act.put, List.setIfInBounds_toArray, List.set_cons_zero, List.set_cons_succ])))); refine pl_end ?_)
  refine pl_done ?_
  (try simp only [Act.put])
  have D4 : Ext W0 w4 := D2.trans (((Ext.drew _).trans hE3).trans hE4)
  have E4 := E0.trans D4
  clear hE3 hE4 HT t1' t2 D2
  obtain ⟨⟨x0, x1, x2, x3⟩, y0, y1, y2⟩ := HS.out _ D4
  go_upto_region 6 with (go_at_call 19; refine (O1.out _ E4).mono ?_; rintro e w5 ⟨⟨p, cp, rfl, hI5⟩, hE5⟩)
  clear x0 x1 x2 x3 y0 y1 y2
  have E5 := E4.trans hE5
  have D5 := D4.trans hE5
  have HI5 := Lib.hid hI5
  obtain ⟨⟨x0, x1, x2, x3⟩, y0, y1, y2⟩ := HS.out _ D5
  clear hI5
  go_upto_region 7 with (go_at_call 20; refine (O2.out _ E5).mono ?_; rintro e w6 ⟨⟨q, cq, rfl, hI6⟩, hE6⟩)
  clear x0 x1 x2 x3 y0 y1 y2
  have E6 := E5.trans hE6
  have D6 := D5.trans hE6
  have Hsame := Lib.hid (same_any p q ox ox cp cq w6 (HI5.out.ext hE6) hI6 hl1 hl1)
  have hdec : decide (ox = ox) = true := decide_eq_true rfl
  clear hI6
  go_upto_region 9 with (go_at_call 21; refine Hsame.out.mono ?_; rintro e w7 ⟨rfl, hE7⟩)
  have E7 := E6.trans hE7
  have D7 := D6.trans hE7
  obtain ⟨⟨x0, x1, x2, x3⟩, y0, y1, y2⟩ := HS.out _ D7
  go_upto_region 10 with (go_at_call 22; refine (S1.out _ E7).mono ?_; rintro e w8 ⟨⟨p2, cp2, rfl, hI8⟩, hE8⟩)
  clear x0 x1 x2 x3 y0 y1 y2
  have E8 := E7.trans hE8
  have D8 := D7.trans hE8
  have HI8 := Lib.hid hI8
  obtain ⟨⟨x0, x1, x2, x3⟩, y0, y1, y2⟩ := HS.out _ D8
  clear hI8
  go_upto_region 11 with (go_at_call 23; refine (S2.out _ E8).mono ?_; rintro e w9 ⟨⟨q2, cq2, rfl, hI9⟩, hE9⟩)
  clear x0 x1 x2 x3 y0 y1 y2
  have E9 := E8.trans hE9
  have Hspan := Lib.hid (samespans_any p2 q2 sx sx cp2 cq2 w9 (HI8.out.ext hE9) hI9 hl2 hl2)
  have hdec2 : decide (sx = sx) = true := decide_eq_true rfl
  clear hI9
  go_wp2_with (first | (go_at_call 24; refine Hspan.out.mono ?_; rintro e wa ⟨rfl, hEa⟩) | (go_at_call 25; refine (shot_any _ (HG.out.ext (E9.trans hEa))).mono ?_; rintro e wb ⟨rfl, hEb⟩))
  go_ret
  exact ⟨rfl, (E9.trans hEa).trans hEb⟩
end Go.Proofs.YtnhdcdhpfgdphaaDoor
