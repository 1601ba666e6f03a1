/-
  undecided: how many shots are undecided at the worst, once the minute of a bound is known.
-/
import Derived.Test.YtnhdcdhpfgdphaaDoorLK
import Derived.Test.YtnhdcdhpfgdphaaDoorA1
set_option linter.unusedSimpArgs false
set_option linter.unusedVariables false
namespace Go.Proofs.YtnhdcdhpfgdphaaDoor
open Go Go.RowKit

theorem learn_best (B : Bk) (k : Nat) : 0 < k → ∃ b : Nat, (learnK B k).1 = b ∧ b < k ∧ (learnK B k).2 = worstB B b ∧ ∀ j, j < k → worstB B b < worstB B j ∨ worstB B b = worstB B j ∧ b ≤ j := by
  induction k with
  | zero => intro h; omega
  | succ k ih =>
    intro _
    simp only [learnK]
    rcases Nat.eq_zero_or_pos k with rfl | h0
    · refine ⟨0, ?_, by omega, ?_, fun j hj => ?_⟩
      · simp [learnStep, learnK]
      · simp [learnStep, learnK]
      · right; obtain rfl : j = 0 := by omega
        exact ⟨rfl, Nat.le_refl _⟩
    · obtain ⟨b, h1, h2, h3, h4⟩ := ih h0
      unfold learnStep
      rw [h1, h3]
      by_cases hc : (b : Int) < 0 ∨ worstB B k < worstB B b
      · rw [if_pos hc]
        have hlt : worstB B k < worstB B b := by rcases hc with h | h; omega; exact h
        refine ⟨k, rfl, by omega, rfl, fun j hj => ?_⟩
        rcases (by omega : j < k ∨ j = k) with h | rfl
        · rcases h4 j h with h5 | h5 <;> (left; omega)
        · right; exact ⟨rfl, Nat.le_refl _⟩
      · rw [if_neg hc]
        simp only [not_or] at hc
        refine ⟨b, h1, by omega, h3, fun j hj => ?_⟩
        rcases (by omega : j < k ∨ j = k) with h | rfl
        · exact h4 j h
        · rcases (by omega : worstB B b < worstB B j ∨ worstB B b = worstB B j) with h | h
          · left; exact h
          · right; exact ⟨h, by omega⟩

set_option maxRecDepth 100000 in
set_option maxHeartbeats 2000000 in
theorem undecided_any (B : Bk) (a1 a2 a3 : Option Addr) (c1 c2 c3 : Nat) (k : Nat) (w : World) (h : BookA w B a1 a2 a3) (hG : Glob w) (hv : validB B = true) (hk : k < B.bounds.length) :
    Calls Tryd.prog 53 #[.agg #[.int .i64 B.comp, .slice a1 B.bounds.length c1, .slice a2 B.orders.length c2, .slice a3 B.shots.length c3], .int .i64 k] w
      fun e w' => e = .returned (.int .i64 (worstB B k)) ∧ Ext w w' := by
  have hnb := (valid_sizes hv).2.2.2.2.1
  have hns := (valid_sizes hv).2.2.2.2.2
  obtain ⟨h1, h2, h3, h4⟩ := valid_bound hv hk
  have HB := Lib.hid h
  have HG := Lib.hid hG
  clear h hG
  have Hwb : Hid (worstB B k = worstN B k (bHi B.bounds k - bLo B.bounds k + 1).toNat) := Lib.hid rfl
  go_enter Tryd.func53, Tryd.ntmps53
  go_upto_region 1 with (fail)
  obtain ⟨W0, hW0⟩ : ∃ W0, W0 = w.alloc (.cells #[.int .i64 B.comp, .slice a1 B.bounds.length c1, .slice a2 B.orders.length c2, .slice a3 B.shots.length c3] 26) := ⟨_, rfl⟩
  have b0 : Blk W0 w.heap.size 26 #[.int .i64 B.comp, .slice a1 B.bounds.length c1, .slice a2 B.orders.length c2, .slice a3 B.shots.length c3] := by rw [hW0]; exact Blk.new _ _ _
  have E0 : Ext w W0 := by rw [hW0]; exact Ext.alloc _ _
  rw [← hW0]
  clear hW0
  obtain ⟨gB, hgB⟩ : ∃ g, g = w.heap.size := ⟨_, rfl⟩
  rw [← hgB] at b0 ⊢
  clear hgB
  obtain ⟨b, o, e1, hbl, hc⟩ := HB.out.bounds (by omega)
  obtain ⟨q0, q1⟩ := hc k hk
  subst e1
  have Hkv := Lib.hid (fun (m : Int) (hm1 : bLo B.bounds k ≤ m) (hm2 : m ≤ bHi B.bounds k) => known_valid hv hk hm1 hm2)
  have HQ := Lib.hid (fun W (hW : Ext w W) => (⟨hW.keep q0, hW.keep q1⟩ : W.cell? ⟨b, o + k * 2, none⟩ = some (.int .i64 (bLo B.bounds k)) ∧ W.cell? ⟨b, o + k * 2 + 1, none⟩ = some (.int .i64 (bHi B.bounds k))))
  obtain ⟨lo, hlo⟩ : ∃ lo, bLo B.bounds k = lo := ⟨_, rfl⟩
  obtain ⟨hi, hhi⟩ : ∃ hi, bHi B.bounds k = hi := ⟨_, rfl⟩
  rw [hlo, hhi] at HQ Hkv Hwb h2 h4
  rw [hlo] at h1
  rw [hhi] at h3
  have Hws := Lib.hid (fun n => (show worstN B k (n + 1) = max (worstN B k n) (openN (knownB B k (lo + n))) by rw [← hlo]; rfl))
  clear hc q0 q1 hlo hhi
  obtain ⟨x0, x1, x2, x3⟩ := b0.c4
  obtain ⟨q0, q1⟩ := HQ.out _ E0
  go_upto_region 3 with (fail)
  clear x0 x1 x2 x3 q0 q1
  go_loopw [5, 6] (fun u i wr => ∃ n : Nat, (n : Int) ≤ hi - lo + 1 ∧ i = .int .i64 (lo + n) ∧ u = .int .i64 (worstN B k n) ∧ Ext W0 wr) (fun _ i _ => (hi + 1 - intOf i).toNat)
  case atStart => exact ⟨0, by omega, by simp, rfl, Ext.refl _⟩
  case round =>
    obtain ⟨n, hn, rfl, rfl, hE⟩ := hrel
    have hwn := worstN_in B k n
    obtain ⟨x0, x1, x2, x3⟩ := (b0.ext hE).c4
    obtain ⟨q0, q1⟩ := HQ.out _ (E0.trans hE)
    by_cases hlt : (n : Int) < hi - lo + 1
    · have hkv := Hkv.out (lo + n) (by omega) (by omega)
      go_upto_region 8 with (go_at_call 48; refine (known_any B _ a2 a3 c1 c2 c3 k (lo + n) _ ((HB.out.ext E0).ext hE) hk (by omega)).mono ?_; rintro e w2 ⟨⟨ak, ck, rfl, hBk⟩, hE2⟩)
      obtain ⟨W3, hW3⟩ : ∃ W3, W3 = w2.alloc (.cells #[.int .i64 B.comp, .slice ak B.bounds.length ck, .slice a2 B.orders.length c2, .slice a3 B.shots.length c3] 26) := ⟨_, rfl⟩
      have X3 : Ext w2 W3 := by rw [hW3]; exact Ext.alloc _ _
      have y3 : Blk W3 w2.heap.size 26 #[.int .i64 B.comp, .slice ak B.bounds.length ck, .slice a2 B.orders.length c2, .slice a3 B.shots.length c3] := by rw [hW3]; exact Blk.new _ _ _
      rw [← hW3]
      clear hW3 x0 x1 x2 x3 q0 q1
      obtain ⟨gY, hgY⟩ : ∃ g, g = w2.heap.size := ⟨_, rfl⟩
      rw [← hgY] at y3 ⊢
      clear hgY
      have E3 := hE.trans (hE2.trans X3)
      have hle : (knownB B k (lo + n)).bounds.length = B.bounds.length := by simp [knownB]
      have hfy := fun W (hW : Ext W3 W) i (hi : i < B.shots.length) => fair_yes (knownB B k (lo + n)) ak a2 a3 ck c2 c3 i W ((hBk.ext X3).ext hW) (((HG.out.ext E0).ext E3).ext hW) hkv hi
      rw [hle] at hfy
      rw [show (knownB B k (lo + n)).comp = B.comp from rfl, show (knownB B k (lo + n)).orders = B.orders from rfl, show (knownB B k (lo + n)).shots = B.shots from rfl] at hfy
      have hos := fun i => openK_succ (knownB B k (lo + n)) i
      have hol := fun i => openK_le (knownB B k (lo + n)) i
      have hop : openN (knownB B k (lo + n)) = openK (knownB B k (lo + n)) B.shots.length := rfl
      have hws := Hws.out n
      rw [hop] at hws
      rw [show (knownB B k (lo + n)).shots = B.shots from rfl] at hos
      obtain ⟨K, hK⟩ : ∃ K, K = knownB B k (lo + n) := ⟨_, rfl⟩
      rw [← hK] at hfy hos hol hws
      have Hfy := Lib.hid hfy
      have Hos := Lib.hid hos
      have Hol := Lib.hid hol
      have Hws2 := Lib.hid hws
      clear hfy hos hol hws hop hK hle hkv hBk
      go_loopw [8, 9] (fun u i wx => ∃ j : Nat, j ≤ B.shots.length ∧ i = .int .i64 j ∧ u = .int .i64 (openK K j) ∧ Ext W3 wx) (fun _ i _ => B.shots.length - (intOf i).toNat)
      case atStart => exact ⟨0, Nat.zero_le _, rfl, rfl, Ext.refl _⟩
      case round =>
        obtain ⟨j, hj, rfl, rfl, hE4⟩ := hrel
        obtain ⟨x0, x1, x2, x3⟩ := (b0.ext (E3.trans hE4)).c4
        obtain ⟨y0, y1, y2, y3'⟩ := (y3.ext hE4).c4
        have hjl := Hol.out j
        by_cases hlt2 : j < B.shots.length
        · have hs := Hos.out j
          obtain ⟨f, hf⟩ : ∃ f, f = fairN K (sAt B.shots j) := ⟨_, rfl⟩
          have hcall := Hfy.out _ hE4 j hlt2
          rw [← hf] at hs hcall
          have Hcall := Lib.hid hcall
          clear hf hcall
          cases hq : (f == 1) with
          | true =>
            have hs2 : Hid (openK K (j + 1) = openK K j + 1) := Lib.hid (by rw [hs, hq]; rfl)
            clear hs
            go_wp2_with (go_at_call 26; refine Hcall.out.mono ?_; rintro e w5 ⟨rfl, hE5⟩)
            go_roundw
            case rel => exact ⟨j + 1, by omega, by go_num, by rw [hs2.out], hE4.trans hE5⟩
            case measure => simp [intOf]; omega
          | false =>
            have hs2 : Hid (openK K (j + 1) = openK K j) := Lib.hid (by rw [hs, hq]; simp [wh])
            clear hs
            go_wp2_with (go_at_call 26; refine Hcall.out.mono ?_; rintro e w5 ⟨rfl, hE5⟩)
            go_roundw
            case rel => exact ⟨j + 1, by omega, by go_num, by rw [hs2.out], hE4.trans hE5⟩
            case measure => simp [intOf]; omega
        · obtain rfl : j = B.shots.length := by omega
          go_wp2_with (fail)
          refine ⟨⟨n + 1, by omega, by congr 1; omega, by rw [Hws2.out]; congr 1; split <;> omega, E3.trans hE4⟩, by simp [intOf]; omega⟩
    · have hfin : Hid (worstN B k n = worstB B k) := Lib.hid (by rw [Hwb.out]; congr 1; omega)
      go_wp2
      go_ret
      exact ⟨by rw [← hfin.out]; rfl, E0.trans hE⟩
end Go.Proofs.YtnhdcdhpfgdphaaDoor
