/-
  The reference's Learn, and both sides of it in one shape.
-/
import Derived.Test.YtnhdcdhpfgdphaaDoorMWg18
import Derived.Test.YtnhdcdhpfgdphaaDoorMWg15
import Derived.Test.YtnhdcdhpfgdphaaDoorMWg16
set_option linter.unusedSimpArgs false
set_option linter.unusedVariables false
namespace Go.Proofs.YtnhdcdhpfgdphaaDoor
open Go Go.RowKit

/-- What Learn returns. -/
def learnXV (B : Bk) : Int := if validB B then learnV B else 0
def learnXE (B : Bk) : Int := if validB B then learnE B else 20
theorem learn_all (B : Bk) (a1 a2 a3 : Option Addr) (c1 c2 c3 : Nat) (w : World) (h : BookA w B a1 a2 a3) (hG : Glob w) :
    Calls Tryd.prog 34 #[.agg #[.int .i64 B.comp, .slice a1 B.bounds.length c1, .slice a2 B.orders.length c2, .slice a3 B.shots.length c3]] w
      fun e w' => e = .returned (.tuple #[.int .i64 (learnXV B), .int .i64 (learnXE B)]) ∧ Ext w w' := by
  unfold learnXV learnXE
  cases hv : validB B with
  | true => exact learn_yes B a1 a2 a3 c1 c2 c3 w h hG hv
  | false => exact learn_no B a1 a2 a3 c1 c2 c3 w h hG hv

set_option maxRecDepth 100000 in
set_option maxHeartbeats 4000000 in
theorem rLearn_no (B : Bk) (hv : validB B = false) (a1 a2 a3 : Option Addr) (c1 c2 c3 : Nat) (w : World) (h : BookA w B a1 a2 a3) :
    Calls Tryd.prog 35 #[.agg #[.int .i64 B.comp, .slice a1 B.bounds.length c1, .slice a2 B.orders.length c2, .slice a3 B.shots.length c3]] w
      fun e w' => e = .returned (.tuple #[.int .i64 0, .int .i64 20]) ∧ Ext w w' := by
  have hck := fun W (hW : Ext w W) => rCheck_any B a1 a2 a3 c1 c2 c3 W (h.ext hW)
  simp only [checkRes, hv] at hck
  have Hck := Lib.hid hck
  clear hck h
  go_enter Tryd.func35, Tryd.ntmps35
  go_upto_region 1 with (fail)
  obtain ⟨W0, hW0⟩ : ∃ W0, W0 = w.alloc (.cells #[.int .i64 B.comp, .slice a1 B.bounds.length c1, .slice a2 B.orders.length c2, .slice a3 B.shots.length c3] 26) := ⟨_, rfl⟩
  have b0 : Blk W0 w.heap.size 26 #[.int .i64 B.comp, .slice a1 B.bounds.length c1, .slice a2 B.orders.length c2, .slice a3 B.shots.length c3] := by rw [hW0]; exact Blk.new _ _ _
  have E0 : Ext w W0 := by rw [hW0]; exact Ext.alloc _ _
  rw [← hW0]
  clear hW0
  obtain ⟨gB, hgB⟩ : ∃ g, g = w.heap.size := ⟨_, rfl⟩
  rw [← hgB] at b0 ⊢
  clear hgB
  obtain ⟨x0, x1, x2, x3⟩ := b0.c4
  go_wp2_with (go_at_call 18; refine (Hck.out _ E0).mono ?_; rintro e w1 ⟨rfl, hE1⟩)
  refine bodyPost_ret (v := .tuple #[.int .i64 0, .int .i64 20]) ?_ rfl ⟨rfl, E0.trans hE1⟩
  simp [results, Tryd.results35, go_sem]
theorem wh_one (f : Int) : wh (f == 1) = if f = 1 then 1 else 0 := by
  by_cases h : f = 1
  · subst h; rfl
  · simp [wh, h]
set_option maxRecDepth 100000 in
set_option maxHeartbeats 8000000 in
theorem rLearn_yes (B : Bk) (hv : validB B = true) (a1 a2 a3 : Option Addr) (c1 c2 c3 : Nat) (w : World) (h : BookA w B a1 a2 a3) :
    Calls Tryd.prog 35 #[.agg #[.int .i64 B.comp, .slice a1 B.bounds.length c1, .slice a2 B.orders.length c2, .slice a3 B.shots.length c3]] w
      fun e w' => e = .returned (.tuple #[.int .i64 (learnV B), .int .i64 (learnE B)]) ∧ Ext w w' := by
  have h4 := (valid_sizes hv).2.2.2.2.1
  have h5 := (valid_sizes hv).2.2.2.2.2
  have hck := fun W (hW : Ext w W) => rCheck_any B a1 a2 a3 c1 c2 c3 W (h.ext hW)
  simp only [checkRes, hv] at hck
  have Hck := Lib.hid hck
  have HB := Lib.hid h
  clear hck h
  rcases Nat.eq_zero_or_pos B.bounds.length with hz | hp
  · have Hl : Hid (learnV B = 0 ∧ learnE B = 4) := Lib.hid (by simp [learnV, learnE, hz])
    have hzz : ((B.bounds.length : Int) == 0) = true := by rw [beq_iff_eq]; omega
    clear hz
    go_enter Tryd.func35, Tryd.ntmps35
    go_upto_region 1 with (fail)
    obtain ⟨W0, hW0⟩ : ∃ W0, W0 = w.alloc (.cells #[.int .i64 B.comp, .slice a1 B.bounds.length c1, .slice a2 B.orders.length c2, .slice a3 B.shots.length c3] 26) := ⟨_, rfl⟩
    have b0 : Blk W0 w.heap.size 26 #[.int .i64 B.comp, .slice a1 B.bounds.length c1, .slice a2 B.orders.length c2, .slice a3 B.shots.length c3] := by rw [hW0]; exact Blk.new _ _ _
    have E0 : Ext w W0 := by rw [hW0]; exact Ext.alloc _ _
    rw [← hW0]
    clear hW0
    obtain ⟨gB, hgB⟩ : ∃ g, g = w.heap.size := ⟨_, rfl⟩
    rw [← hgB] at b0 ⊢
    clear hgB
    obtain ⟨x0, x1, x2, x3⟩ := b0.c4
    go_wp2_with (go_at_call 18; refine (Hck.out _ E0).mono ?_; rintro e w1 ⟨rfl, hE1⟩; clear x0 x1 x2 x3; obtain ⟨x0, x1, x2, x3⟩ := (b0.ext hE1).c4)
    refine bodyPost_ret (v := .tuple #[.int .i64 0, .int .i64 4]) ?_ rfl ⟨by rw [Hl.out.1, Hl.out.2], E0.trans hE1⟩
    simp [results, Tryd.results35, go_sem]
  · have Hl : Hid (learnV B = (learnK B B.bounds.length).1 ∧ learnE B = 0) := Lib.hid (by simp [learnV, learnE, show ¬ B.bounds.length = 0 by omega])
    have hzz : ((B.bounds.length : Int) == 0) = false := by rw [beq_eq_false_iff_ne]; omega
    go_enter Tryd.func35, Tryd.ntmps35
    go_upto_region 1 with (fail)
    obtain ⟨W0, hW0⟩ : ∃ W0, W0 = w.alloc (.cells #[.int .i64 B.comp, .slice a1 B.bounds.length c1, .slice a2 B.orders.length c2, .slice a3 B.shots.length c3] 26) := ⟨_, rfl⟩
    have b0 : Blk W0 w.heap.size 26 #[.int .i64 B.comp, .slice a1 B.bounds.length c1, .slice a2 B.orders.length c2, .slice a3 B.shots.length c3] := by rw [hW0]; exact Blk.new _ _ _
    have E0 : Ext w W0 := by rw [hW0]; exact Ext.alloc _ _
    rw [← hW0]
    clear hW0
    obtain ⟨gB, hgB⟩ : ∃ g, g = w.heap.size := ⟨_, rfl⟩
    rw [← hgB] at b0 ⊢
    clear hgB
    obtain ⟨x0, x1, x2, x3⟩ := b0.c4
    go_upto_region 4 with (go_at_call 18; refine (Hck.out _ E0).mono ?_; rintro e w1 ⟨rfl, hE1⟩; clear x0 x1 x2 x3; obtain ⟨x0, x1, x2, x3⟩ := (b0.ext hE1).c4)
    have EW := E0.trans hE1
    have b1 := b0.ext hE1
    have HB1 := Lib.hid (HB.out.ext EW)
    clear b0 HB hE1
    obtain ⟨bb, bo, rfl, hbbl, hbc⟩ := HB1.out.bounds hp
    have Hbc := Lib.hid hbc
    clear hbc
    go_upto_region 8 with (fail)
    clear x0 x1 x2 x3
    go_loopw [5, 6, 7] (fun b l i wr => ∃ k : Nat, k ≤ B.bounds.length ∧ i = .int .i64 k ∧ b = .int .i64 (learnK B k).1 ∧ l = .int .i64 (learnK B k).2 ∧ Ext w1 wr) (fun _ _ i _ => B.bounds.length - (intOf i).toNat)
    case atStart => exact ⟨0, Nat.zero_le _, rfl, rfl, rfl, Ext.refl _⟩
    case round =>
      obtain ⟨k, hk, rfl, rfl, rfl, hE⟩ := hrel
      have hsucc : learnK B (k + 1) = learnStep (learnK B k) k (worstN B k (wid B.bounds k)) := rfl
      have hfin : k = B.bounds.length → learnV B = (learnK B k).1 := fun e => by rw [e]; exact Hl.out.1
      obtain ⟨R, hR⟩ : ∃ R, R = learnK B k := ⟨_, rfl⟩
      rw [← hR] at hsucc hfin ⊢
      obtain ⟨best, least⟩ := R
      dsimp only at hsucc hfin ⊢
      have Hsucc := Lib.hid hsucc
      have Hfin := Lib.hid hfin
      clear hR hsucc hfin
      obtain ⟨x0, x1, x2, x3⟩ := (b1.ext hE).c4
      by_cases hlt : k < B.bounds.length
      · obtain ⟨h1, h2, h3, h6⟩ := valid_bound hv hlt
        obtain ⟨q0, q1⟩ := Hbc.out k hlt
        have hwid : wid B.bounds k = (bHi B.bounds k - bLo B.bounds k + 1).toNat := rfl
        have hkv := fun (m : Int) (hm1 : bLo B.bounds k ≤ m) (hm2 : m ≤ bHi B.bounds k) => known_valid hv hlt hm1 hm2
        have hws := fun n => (show worstN B k (n + 1) = max (worstN B k n) (openN (knownB B k (bLo B.bounds k + n))) from rfl)
        obtain ⟨lo, hlo⟩ : ∃ lo, lo = bLo B.bounds k := ⟨_, rfl⟩
        obtain ⟨hi, hhi⟩ : ∃ hi, hi = bHi B.bounds k := ⟨_, rfl⟩
        obtain ⟨wd, hwd⟩ : ∃ wd, wd = wid B.bounds k := ⟨_, rfl⟩
        rw [← hwd] at hwid Hsucc
        simp only [← hlo, ← hhi] at hwid hkv hws h1 h2 h3 h6 q0 q1
        have Hkv := Lib.hid hkv
        have Hws := Lib.hid hws
        have q0' := hE.keep q0
        clear hlo hhi hwd hkv hws
        go_upto_region 12 with (fail)
        clear x0 x1 x2 x3 q0'
        go_loopw [8, 9] (fun x v wx => ∃ n : Nat, n ≤ wd ∧ v = .int .i64 (lo + n) ∧ x = .int .i64 (worstN B k n) ∧ Ext w1 wx) (fun _ v _ => (hi + 1 - intOf v).toNat)
        case atStart => exact ⟨0, Nat.zero_le _, by simp, rfl, hE⟩
        case round =>
          obtain ⟨n, hn, rfl, rfl, hE2⟩ := hrel
          obtain ⟨x0, x1, x2, x3⟩ := (b1.ext hE2).c4
          have q1' := hE2.keep q1
          have hwn := worstN_in B k n
          by_cases hlt2 : n < wd
          · have hin : lo + (n : Int) ≤ hi := by omega
            have hkv := Hkv.out (lo + n) (by omega) hin
            have hwsn := Hws.out n
            obtain ⟨m, hm⟩ : ∃ m, lo + (n : Int) = m := ⟨_, rfl⟩
            rw [hm] at hkv hwsn hin ⊢
            have Hwsn := Lib.hid hwsn
            have Hm := Lib.hid hm
            clear hwsn hm
            go_upto_region 16 with (fail)
            clear x0 x1 x2 x3 q1'
            go_loopw [10, 11] (fun x v wy => ∃ i : Nat, i ≤ B.shots.length ∧ v = .int .i64 i ∧ x = .int .i64 (openK (knownB B k m) i) ∧ Ext w1 wy) (fun _ v _ => B.shots.length - (intOf v).toNat)
            case atStart => exact ⟨0, Nat.zero_le _, rfl, rfl, hE2⟩
            case round =>
              obtain ⟨i, hil, rfl, rfl, hE3⟩ := hrel
              have hop := openK_le (knownB B k m) i
              have hos : openK (knownB B k m) (i + 1) = openK (knownB B k m) i + wh (fairN (knownB B k m) (sAt B.shots i) == 1) := openK_succ _ _
              rw [wh_one] at hos
              have hon : i = B.shots.length → openN (knownB B k m) = openK (knownB B k m) i := fun e => by rw [e]; rfl
              obtain ⟨x, hx⟩ : ∃ x, openK (knownB B k m) i = x := ⟨_, rfl⟩
              rw [hx] at hop hos hon ⊢
              clear hx
              by_cases hlt3 : i < B.shots.length
              · obtain ⟨g1, g2, g3, g4, g5, g6, g7, g8⟩ := valid_shot hv hlt3
                obtain ⟨sb, so, rfl, hsb, hcs⟩ := HB1.out.shots (by omega)
                obtain ⟨r0, r1, r2, r3⟩ := hcs i hlt3
                obtain ⟨x0, x1, x2, x3⟩ := (b1.ext hE3).c4
                have HS := Lib.hid (fun W (hW : Ext w1 W) => (⟨(b1.ext hW).c4, hW.keep r0, hW.keep r1, hW.keep r2, hW.keep r3⟩ : ((W.cell? ⟨gB, 0, none⟩ = some (.int .i64 B.comp) ∧ W.cell? ⟨gB, 1, none⟩ = some (.slice (some ⟨bb, bo, none⟩) B.bounds.length c1) ∧ W.cell? ⟨gB, 2, none⟩ = some (.slice a2 B.orders.length c2) ∧ W.cell? ⟨gB, 3, none⟩ = some (.slice (some ⟨sb, so, none⟩) B.shots.length c3)) ∧ W.cell? ⟨sb, so + i * 4, none⟩ = some (.int .i64 (sAt B.shots i).st) ∧ W.cell? ⟨sb, so + i * 4 + 1, none⟩ = some (.int .i64 (sAt B.shots i).co) ∧ W.cell? ⟨sb, so + i * 4 + 2, none⟩ = some (.int .i64 (sAt B.shots i).lo) ∧ W.cell? ⟨sb, so + i * 4 + 3, none⟩ = some (.int .i64 (sAt B.shots i).hi))))
                have hkn := fun W (hW : Ext w1 W) => rKnown_any B (some ⟨bb, bo, none⟩) a2 (some ⟨sb, so, none⟩) c1 c2 c3 k m W (HB1.out.ext hW) hlt (by omega)
                have hfr := fun a cp W (hA : BookA W (knownB B k m) a a2 (some ⟨sb, so, none⟩)) => fair_ref (knownB B k m) hkv a a2 (some ⟨sb, so, none⟩) cp c2 c3 (sAt B.shots i) ⟨g1, g2, g5, g6, g7⟩ W hA
                have hkl : (knownB B k m).bounds.length = B.bounds.length := by simp [knownB]
                obtain ⟨f, hf⟩ : ∃ f, fairN (knownB B k m) (sAt B.shots i) = f := ⟨_, rfl⟩
                simp only [hkl, hf] at hfr
                rw [hf] at hos
                have Hkn := Lib.hid hkn
                have Hfr := Lib.hid (show ∀ a cp W, BookA W (knownB B k m) a a2 (some ⟨sb, so, none⟩) → Calls Tryd.prog 77 #[.agg #[.int .i64 B.comp, .slice a B.bounds.length cp, .slice a2 B.orders.length c2, .slice (some ⟨sb, so, none⟩) B.shots.length c3], .agg #[.int .i64 (sAt B.shots i).st, .int .i64 (sAt B.shots i).co, .int .i64 (sAt B.shots i).lo, .int .i64 (sAt B.shots i).hi]] W fun e w' => e = .returned (.int .i64 f) ∧ Ext W w' from hfr)
                have Hos := Lib.hid hos
                clear hkn hfr hkl hf hos hcs r0 r1 r2 r3 hon
                go_upto_region 18 with (fail)
                clear x0 x1 x2 x3
                refine wp_plan (fun W => ((W.cell? ⟨gB, 0, none⟩ = some (.int .i64 B.comp) ∧ W.cell? ⟨gB, 1, none⟩ = some (.slice (some ⟨bb, bo, none⟩) B.bounds.length c1) ∧ W.cell? ⟨gB, 2, none⟩ = some (.slice a2 B.orders.length c2) ∧ W.cell? ⟨gB, 3, none⟩ = some (.slice (some ⟨sb, so, none⟩) B.shots.length c3)) ∧ W.cell? ⟨sb, so + i * 4, none⟩ = some (.int .i64 (sAt B.shots i).st) ∧ W.cell? ⟨sb, so + i * 4 + 1, none⟩ = some (.int .i64 (sAt B.shots i).co) ∧ W.cell? ⟨sb, so + i * 4 + 2, none⟩ = some (.int .i64 (sAt B.shots i).lo) ∧ W.cell? ⟨sb, so + i * 4 + 3, none⟩ = some (.int .i64 (sAt B.shots i).hi))) (.tames [0, 1, 2, 4, 5, 6, 7, 8] (.one 3 (.one 9 (.tames [10] (.done))))) (by kernel_rfl) (by kernel_rfl) (by kernel_rfl) (fun c a d v w h => by cases d <;> exact h) ?_ ?_
                · exact HS.out _ (Below.drew hE3)
                refine pl_tames ?_
                (try simp only [Act.put, List.setIfInBounds_toArray, List.set_cons_zero, List.set_cons_succ])
                repeat (first
                  | (refine pl_run (v := ?_) rfl ?_ (fun W hW => ?_) ?_; rotate_left; rfl; ((try dsimp only at hW); go_simp; try with_reducible rfl); (try simp only [Act.put, List.setIfInBounds_toArray, List.set_cons_zero, List.set_cons_succ]))
                  | (refine pl_skip rfl ?_ ?_; rfl; (try simp only [Act.put, List.setIfInBounds_toArray, List.set_cons_zero, List.set_cons_succ])))
                refine pl_end ?_
                refine pl_one rfl (by rfl) (fun K hK => ?_)
                go_simp
                (go_at_call 88; refine (Hkn.out _ (Below.drew hE3)).mono ?_; rintro e w4 ⟨⟨ka, kc, rfl, hKA⟩, hE4⟩)
                refine hK.out _ _ (HS.out _ (hE3.trans ((Ext.drew _).trans hE4))) ?_
                clear hK K
                (try refine pl_tames ?_)
                (try simp only [Act.put, List.setIfInBounds_toArray, List.set_cons_zero, List.set_cons_succ])
                try ((repeat (first   | (refine pl_run (v := ?_) rfl ?_ (fun W hW => ?_) ?_; rotate_left; rfl; ((try dsimp only at hW); go_simp; try with_reducible rfl); (try simp only [Act.put, List.setIfInBounds_toArray, List.set_cons_zero, List.set_cons_succ]))   | (refine pl_skip rfl ?_ ?_; rfl; (try simp only [Act.put, List.setIfInBounds_toArray, List.set_cons_zero, List.set_cons_succ])))); refine pl_end ?_)
                refine pl_one rfl (by rfl) (fun K hK => ?_)
                go_simp
                (go_at_call 77; refine (Hfr.out _ _ _ hKA).mono ?_; rintro e w5 ⟨rfl, hE5⟩)
                refine hK.out _ _ (HS.out _ (hE3.trans (((Ext.drew _).trans hE4).trans hE5))) ?_
                clear hK K
                (try refine pl_tames ?_)
                (try simp only [Act.put, List.setIfInBounds_toArray, List.set_cons_zero, List.set_cons_succ])
                try ((repeat (first   | (refine pl_run (v := ?_) rfl ?_ (fun W hW => ?_) ?_; rotate_left; rfl; ((try dsimp only at hW); go_simp; try with_reducible rfl); (try simp only [Act.put, List.setIfInBounds_toArray, List.set_cons_zero, List.set_cons_succ]))   | (refine pl_skip rfl ?_ ?_; rfl; (try simp only [Act.put, List.setIfInBounds_toArray, List.set_cons_zero, List.set_cons_succ])))); refine pl_end ?_)
                refine pl_done ?_
                (try simp only [Act.put])
                have EV := hE3.trans (((Ext.drew _).trans hE4).trans hE5)
                clear HS hKA
                by_cases hf1 : f = 1
                · have Hx := Hos.out
                  rw [if_pos hf1] at Hx
                  have Hx := Lib.hid Hx
                  have hfb : (f == 1) = true := by rw [beq_iff_eq]; exact hf1
                  clear hf1
                  go_wp2
                  go_roundw
                  case rel => exact ⟨i + 1, by omega, by go_num, by rw [Hx.out], EV⟩
                  case measure => simp [intOf]; omega
                · have Hx := Hos.out
                  rw [if_neg hf1, Int.add_zero] at Hx
                  have Hx := Lib.hid Hx
                  have hfb : (f == 1) = false := by rw [beq_eq_false_iff_ne]; exact hf1
                  clear hf1
                  go_wp2
                  go_roundw
                  case rel => exact ⟨i + 1, by omega, by go_num, by rw [Hx.out], EV⟩
                  case measure => simp [intOf]; omega
              · obtain rfl : i = B.shots.length := by omega
                have Hon := Lib.hid (hon rfl)
                obtain ⟨x0, x1, x2, x3⟩ := (b1.ext hE3).c4
                have hmn : m = lo + (n : Int) := Hm.out.symm
                clear hos hon
                go_wp2
                go_roundw
                case rel => exact ⟨n + 1, by omega, by go_num, by rw [Hwsn.out, Hon.out]; congr 1; omega, hE3⟩
                case measure => simp [intOf]; omega
          · obtain rfl : n = wd := by omega
            have hnot : ¬ (lo + (n : Int) ≤ hi) := by omega
            have hls : Hid (learnK B (k + 1) = if best < 0 ∨ worstN B k n < least then ((k : Int), worstN B k n) else (best, least)) := Lib.hid (by rw [Hsucc.out]; rfl)
            obtain ⟨x, hx⟩ : ∃ x, worstN B k n = x := ⟨_, rfl⟩
            rw [hx] at hls hwn ⊢
            clear hx
            by_cases hb : best < 0
            · go_wp2
              go_roundw
              case rel => exact ⟨k + 1, by omega, by go_num, by rw [hls.out, if_pos (.inl hb)], by rw [hls.out, if_pos (.inl hb)], hE2⟩
              case measure => simp [intOf]; omega
            · by_cases hb2 : x < least
              · go_wp2
                go_roundw
                case rel => exact ⟨k + 1, by omega, by go_num, by rw [hls.out, if_pos (.inr hb2)], by rw [hls.out, if_pos (.inr hb2)], hE2⟩
                case measure => simp [intOf]; omega
              · have hor : ¬ (best < 0 ∨ x < least) := by omega
                go_wp2
                go_roundw
                case rel => exact ⟨k + 1, by omega, by go_num, by rw [hls.out, if_neg hor], by rw [hls.out, if_neg hor], hE2⟩
                case measure => simp [intOf]; omega
      · obtain rfl : k = B.bounds.length := by omega
        have Hv := Lib.hid (Hfin.out rfl)
        go_wp2
        refine bodyPost_ret (v := .tuple #[.int .i64 best, .int .i64 0]) ?_ rfl ⟨by rw [Hv.out, Hl.out.2], EW.trans hE⟩
        simp [results, Tryd.results35, go_sem]
theorem rLearn_all (B : Bk) (a1 a2 a3 : Option Addr) (c1 c2 c3 : Nat) (w : World) (h : BookA w B a1 a2 a3) :
    Calls Tryd.prog 35 #[.agg #[.int .i64 B.comp, .slice a1 B.bounds.length c1, .slice a2 B.orders.length c2, .slice a3 B.shots.length c3]] w
      fun e w' => e = .returned (.tuple #[.int .i64 (learnXV B), .int .i64 (learnXE B)]) ∧ Ext w w' := by
  unfold learnXV learnXE
  cases hv : validB B with
  | true => exact rLearn_yes B hv a1 a2 a3 c1 c2 c3 w h
  | false => exact rLearn_no B hv a1 a2 a3 c1 c2 c3 w h
end Go.Proofs.YtnhdcdhpfgdphaaDoor

/-
  The chapter's examples, as plain data: what the nine functions answer.
-/
set_option linter.unusedSimpArgs false
set_option linter.unusedVariables false
namespace Go.Proofs.YtnhdcdhpfgdphaaDoor
open Go Go.RowKit

theorem own_valid : validB (bookB 541 543) = true := by kernel_rfl
theorem late_valid : validB (bookB 542 542) = true := by kernel_rfl
theorem torn_valid : validB tornB = true := by kernel_rfl
theorem ex_turn : tLo (bookB 541 543) 362 = 0 ∧ tHi (bookB 541 543) 362 = 1 := ⟨by kernel_rfl, by kernel_rfl⟩
theorem ex_owners : ownersL (bookB 541 543) 1 541 = [0, 2] := by kernel_rfl
theorem ex_fair0 : fairN (bookB 541 543) (sAt (bookB 541 543).shots 0) = 1 := by kernel_rfl
theorem ex_fair1 : fairN (bookB 541 543) (sAt (bookB 541 543).shots 1) = 2 := by kernel_rfl
theorem ex_hangs : hangsI (bookB 541 543) (sAt (bookB 541 543).shots 3) 2 = [1] := by kernel_rfl
theorem ex_first : firstN (sAt (bookB 541 543).shots 2) (sAt (bookB 541 543).shots 0) = 2 := by kernel_rfl
theorem ex_learn : learnV (bookB 542 542) = 1 ∧ learnE (bookB 542 542) = 0 := ⟨by kernel_rfl, by kernel_rfl⟩
theorem ex_wrong : wrongL tornB = [4] := by kernel_rfl

/-- Runs, from a minute on. -/
def runsFrom (B : Bk) (s : Nat) (c : Int) (k n : Nat) (R : List (Int × Int) × Bool) : List (Int × Int) × Bool := (List.range n).foldl (fun R i => runStep B s c R (k + i)) R
theorem runsK_add (B : Bk) (s : Nat) (c : Int) (k n : Nat) : runsK B s c (k + n) = runsFrom B s c k n (runsK B s c k) := by
  induction n with
  | zero => simp [runsFrom]
  | succ n ih =>
    rw [← Nat.add_assoc, runsK_succ, ih]
    simp [runsFrom, List.range_succ]
theorem ex_sure : runsL (bookB 541 543) 0 1 = [(364, 539)] := by kernel_rfl
end Go.Proofs.YtnhdcdhpfgdphaaDoor
