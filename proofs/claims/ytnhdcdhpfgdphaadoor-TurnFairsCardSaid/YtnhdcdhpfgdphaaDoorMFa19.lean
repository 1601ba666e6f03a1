/-
  The reference's hangs.
-/
import Derived.Test.YtnhdcdhpfgdphaaDoorMFa13
import Derived.Test.YtnhdcdhpfgdphaaDoorMFa18
import Derived.Test.YtnhdcdhpfgdphaaDoorMFa9
set_option linter.unusedSimpArgs false
set_option linter.unusedVariables false
namespace Go.Proofs.YtnhdcdhpfgdphaaDoor
open Go Go.RowKit

/-- Does the truth i part from itself with another minute of bound k, at a minute of a shot? -/
def dif (B : Bk) (x : Sh) (k i j n : Nat) : Bool := fitX B (setQ (tAt B i) k (bLo B.bounds k + j)) x (x.lo + n) != fitX B (tAt B i) x (x.lo + n)
theorem hang_ref {B : Bk} (hv : validB B = true) (x : Sh) {k : Nat} (hk : k < B.bounds.length) : hangB B x k = true ↔ ∃ i, i < (truthsL B).length ∧ ∃ j, j < wid B.bounds k ∧ ∃ n, n < widX x ∧ dif B x k i j n = true := by
  have h4 := (valid_sizes hv).2.2.2.2.1
  rw [hang_iff]
  constructor
  · rintro ⟨t, ht, e, n, hn, j, hj, hf⟩
    obtain ⟨i, hi, rfl⟩ := mem_tAt ht
    exact ⟨i, hi, j, hj, n, hn, by unfold dif; rw [bne_iff_ne]; exact hf⟩
  · rintro ⟨i, hi, j, hj, n, hn, hd⟩
    unfold dif at hd
    rw [bne_iff_ne] at hd
    have hb := valid_bound hv hk
    have ht := tAt_mem hi
    obtain ⟨t, hte⟩ : ∃ t, tAt B i = t := ⟨_, rfl⟩
    rw [hte] at hd ht
    have hin := truth_in hv ht k hk
    have ht0 : setQ t k (bLo B.bounds k) ∈ truthsL B := truth_set hv ht hk (Int.le_refl _) hb.2.1
    have hn0 : nAt (q4L (setQ t k (bLo B.bounds k))) k = bLo B.bounds k := by rw [nAt_setQ t (by omega), if_pos rfl]
    by_cases h1 : fitX B (setQ t k (bLo B.bounds k + j)) x (x.lo + n) = fitX B (setQ t k (bLo B.bounds k)) x (x.lo + n)
    · refine ⟨_, ht0, hn0, n, hn, (nAt (q4L t) k - bLo B.bounds k).toNat, by unfold wid; omega, ?_⟩
      rw [show bLo B.bounds k + ((nAt (q4L t) k - bLo B.bounds k).toNat : Int) = nAt (q4L t) k by omega, setQ_setQ]
      have : setQ t k (nAt (q4L t) k) = t := q4_ext fun q hq => by
        rw [nAt_setQ t (by omega)]
        by_cases hqk : q = k
        · subst hqk; rw [if_pos rfl]
        · rw [if_neg hqk]
      rw [this, ← h1]
      exact fun e => hd e.symm
    · exact ⟨_, ht0, hn0, n, hn, j, hj, by rw [setQ_setQ]; exact h1⟩
theorem nAt_set (L : List Int) {k : Nat} (hk : k < L.length) (v : Int) (i : Nat) : nAt (L.set k v) i = if i = k then v else nAt L i := by
  by_cases h : i = k
  · subst h; simp [nAt, List.getD, hk]
  · rw [if_neg h]
    simp only [nAt, List.getD]
    rw [List.getElem?_set_ne (by omega)]
theorem rowQ_set {B : Bk} (hv : validB B = true) (t : Q4) {k : Nat} (hk : k < B.bounds.length) (v : Int) : (rowQ B t).set k v = rowQ B (setQ t k v) := by
  have h4 := (valid_sizes hv).2.2.2.2.1
  have hl := rowQ_len hv t
  refine list_eq_at (by rw [List.length_set, hl, rowQ_len hv]) fun i hi => ?_
  rw [List.length_set, hl] at hi
  rw [nAt_set _ (by rw [hl]; exact hk), rowQ_at _ hi, rowQ_at _ hi, nAt_setQ t (by omega)]
/-- One number of a row of the call's own gets another value. -/
theorem own_int_set {w : World} {base n g cap : Nat} {L : List Int} (h : w.ownsRow base 3 1 (.slice (some ⟨g, 0, none⟩) n cap) n (ints L)) {k : Nat} (hk : k < L.length) (v : Int) :
    base ≤ g ∧ (w.cell? ⟨g, k, none⟩).isSome = true ∧ w.frozen? ⟨g, k, none⟩ = false ∧ IntA (w.setCell ⟨g, k, none⟩ (.int .i64 v)) (some ⟨g, 0, none⟩) (L.set k v) := by
  have hl : n = L.length := by have := h.1; simp [ints] at this; omega
  subst hl
  rcases h.2 with ⟨e, _⟩ | ⟨g', cap', cur, e, hg, hh, h1, h2, h3, h4⟩
  · cases e
  · simp only [Value.slice.injEq, Option.some.injEq, Addr.mk.injEq] at e
    obtain ⟨⟨rfl, -, -⟩, -, rfl⟩ := e
    have hb : Blk w g 3 cur := hh
    have hcell : ∀ i, i < L.length → cur[i]? = some (.int .i64 (nAt L i)) := fun i hi => by
      have f : (ints L)[i]? = some (.int .i64 (nAt L i)) := by simp [ints, nAt, List.getD, hi]
      rw [← h4, List.getElem?_take, if_pos (by omega)] at f
      simpa using f
    refine ⟨hg, by rw [hb.cell (hcell k hk)]; rfl, hb.frozen _, fun _ => ⟨g, 0, rfl, (hb.put _ _).lt, fun i hi => ?_⟩⟩
    rw [List.length_set] at hi
    rw [nAt_set _ hk, Nat.zero_add]
    refine (hb.put k (.int .i64 v)).cell ?_
    by_cases e : i = k
    · subst e
      rw [if_pos rfl, Array.getElem?_setIfInBounds_self_of_lt (Array.getElem?_eq_some_iff.1 (hcell i hi)).1]
    · rw [if_neg e, Array.getElem?_setIfInBounds_ne (by omega)]
      exact hcell i hi

set_option maxRecDepth 100000 in
set_option maxHeartbeats 4000000 in
theorem hangs_ref (B : Bk) (hv : validB B = true) (a1 a2 a3 : Option Addr) (c1 c2 c3 : Nat) (x : Sh) (hx : okSh B x) (k : Nat) (hk : k < B.bounds.length) (w : World) (h : BookA w B a1 a2 a3) :
    Calls Tryd.prog 79 #[.agg #[.int .i64 B.comp, .slice a1 B.bounds.length c1, .slice a2 B.orders.length c2, .slice a3 B.shots.length c3], .agg #[.int .i64 x.st, .int .i64 x.co, .int .i64 x.lo, .int .i64 x.hi], .int .i64 k] w fun e w' => e = .returned (.bool (hangB B x k)) ∧ Ext w w' := by
  obtain ⟨hx1, hx2, hx3, hx4, hx5⟩ := hx
  obtain ⟨i0, hi, hz0, hz1, hz2⟩ := info_parts int_info
  have h4 := (valid_sizes hv).2.2.2.2.1
  have hkb := valid_bound hv hk
  have Href := Lib.hid (hang_ref hv x hk)
  have HB := Lib.hid h
  have hmost := truths_most hv
  clear h
  go_enter Tryd.func79, Tryd.ntmps79
  go_upto_region 1 with (fail)
  obtain ⟨W0, hW0⟩ : ∃ W0, W0 = (w.alloc (.cells #[.int .i64 B.comp, .slice a1 B.bounds.length c1, .slice a2 B.orders.length c2, .slice a3 B.shots.length c3] 26)).alloc (.cells #[.int .i64 x.st, .int .i64 x.co, .int .i64 x.lo, .int .i64 x.hi] 59) := ⟨_, rfl⟩
  have b0 : Blk W0 w.heap.size 26 #[.int .i64 B.comp, .slice a1 B.bounds.length c1, .slice a2 B.orders.length c2, .slice a3 B.shots.length c3] := by rw [hW0]; exact (Blk.new _ _ _).alloc _
  have s0 : Blk W0 (w.heap.size + 1) 59 #[.int .i64 x.st, .int .i64 x.co, .int .i64 x.lo, .int .i64 x.hi] := by rw [hW0]; have := Blk.new (w.alloc (.cells #[.int .i64 B.comp, .slice a1 B.bounds.length c1, .slice a2 B.orders.length c2, .slice a3 B.shots.length c3] 26)) 59 #[.int .i64 x.st, .int .i64 x.co, .int .i64 x.lo, .int .i64 x.hi]; simpa using this
  have E0 : Ext w W0 := by rw [hW0]; exact (Ext.alloc _ _).trans (Ext.alloc _ _)
  rw [← hW0]
  clear hW0
  obtain ⟨gS, hgs⟩ : ∃ g, g = w.heap.size + 1 := ⟨_, rfl⟩
  rw [← hgs] at s0 ⊢
  clear hgs
  obtain ⟨gB, hgB⟩ : ∃ g, g = w.heap.size := ⟨_, rfl⟩
  rw [← hgB] at b0 ⊢
  clear hgB
  obtain ⟨x0, x1, x2, x3⟩ := b0.c4
  have Htr := Lib.hid (fun ad cp W (hW : Ext w W) => truths_all B hv a1 a2 a3 c1 c2 c3 ad cp W (HB.out.ext hW))
  go_upto_region 3 with (go_at_call 62; refine (Htr.out _ _ _ (E0.trans (Ext.alloc _ _))).mono ?_; rintro e w1 ⟨⟨b, o, ct, rfl, hT⟩, hE1⟩)
  have E1 : Ext W0 w1 := (Ext.alloc W0 _).trans hE1
  have HT := Lib.hid hT
  clear x0 x1 x2 x3 hT hE1
  obtain ⟨N, hN⟩ : ∃ N, (truthsL B).length = N := ⟨_, rfl⟩
  have Htat := Lib.hid (show ∀ i, i < N → ∃ ra rc, w1.cell? ⟨b, o + i, none⟩ = some (.slice ra B.bounds.length rc) ∧ IntA w1 ra (rowQ B (tAt B i)) from fun i hi => HT.out i (by omega))
  rw [hN] at Href hmost ⊢
  clear hN HT
  have EW := E0.trans E1
  have HB1 := Lib.hid (HB.out.ext EW)
  obtain ⟨bb, bo, rfl, hbbl, hbc⟩ := HB1.out.bounds (by omega)
  obtain ⟨q0, q1⟩ := hbc k hk
  have hwd : wid B.bounds k = (bHi B.bounds k - bLo B.bounds k + 1).toNat := rfl
  obtain ⟨kl, hkl⟩ : ∃ kl, bLo B.bounds k = kl := ⟨_, rfl⟩
  obtain ⟨kh, hkh⟩ : ∃ kh, bHi B.bounds k = kh := ⟨_, rfl⟩
  rw [hkl] at q0
  rw [hkh] at q1
  rw [hkl, hkh] at hkb hwd
  have Hkl := Lib.hid hkl
  obtain ⟨wd, hwde⟩ : ∃ wd, wid B.bounds k = wd := ⟨_, rfl⟩
  rw [hwde] at hwd Href
  obtain ⟨xw, hxwe⟩ : ∃ xw, widX x = xw := ⟨_, rfl⟩
  have hxw : xw = (x.hi - x.lo + 1).toNat := by rw [← hxwe]; rfl
  rw [hxwe] at Href
  clear hbc hkl hkh hwde hxwe
  go_loopw [8] (fun i wr => ∃ i' : Nat, i' ≤ N ∧ i = .int .i64 i' ∧ Hid (∀ i, i < i' → ∀ j, j < wd → ∀ n, n < xw → dif B x k i j n = false) ∧ Ext w1 wr) (fun i _ => N - (intOf i).toNat)
  case atStart => exact ⟨0, Nat.zero_le _, rfl, Lib.hid fun i hi => by omega, Ext.refl _⟩
  case round =>
    obtain ⟨i, hil, rfl, hI1, hE⟩ := hrel
    by_cases hlt : i < N
    · obtain ⟨ra, rc, qr, hI⟩ := Htat.out i hlt
      have hrl := rowQ_len hv (tAt B i)
      obtain ⟨rb, ro, rfl, hrb, hrc⟩ := hI (by omega)
      have HI := Lib.hid hI
      obtain ⟨x0, x1, x2, x3⟩ := (b0.ext (E1.trans hE)).c4
      have q0' := hE.keep q0
      have HS := Lib.hid (fun W (hW : Ext w1 W) => (⟨(b0.ext (E1.trans hW)).c4, (s0.ext (E1.trans hW)).c4, hW.keep qr⟩ : ((W.cell? ⟨gB, 0, none⟩ = some (.int .i64 B.comp) ∧ W.cell? ⟨gB, 1, none⟩ = some (.slice (some ⟨bb, bo, none⟩) B.bounds.length c1) ∧ W.cell? ⟨gB, 2, none⟩ = some (.slice a2 B.orders.length c2) ∧ W.cell? ⟨gB, 3, none⟩ = some (.slice a3 B.shots.length c3)) ∧ (W.cell? ⟨gS, 0, none⟩ = some (.int .i64 x.st) ∧ W.cell? ⟨gS, 1, none⟩ = some (.int .i64 x.co) ∧ W.cell? ⟨gS, 2, none⟩ = some (.int .i64 x.lo) ∧ W.cell? ⟨gS, 3, none⟩ = some (.int .i64 x.hi)) ∧ W.cell? ⟨b, o + i, none⟩ = some (.slice (some ⟨rb, ro, none⟩) B.bounds.length rc))))
      have Hrc := Lib.hid hrc
      clear hI hrc
      go_upto_region 6 with (fail)
      clear x0 x1 x2 x3 q0'
      go_loopw [9] (fun v wx => ∃ j : Nat, j ≤ wd ∧ v = .int .i64 (kl + j) ∧ Hid (∀ j', j' < j → ∀ n, n < xw → dif B x k i j' n = false) ∧ Ext w1 wx) (fun v _ => (kh + 1 - intOf v).toNat)
      case atStart => exact ⟨0, Nat.zero_le _, by simp, Lib.hid fun j hj => by omega, hE⟩
      case round =>
        obtain ⟨j, hj, rfl, hI2, hE2⟩ := hrel
        obtain ⟨x0, x1, x2, x3⟩ := (b0.ext (E1.trans hE2)).c4
        have q1' := hE2.keep q1
        have qr' := hE2.keep qr
        by_cases hlt2 : j < wd
        · have hin : kl + (j : Int) ≤ kh := by omega
          have hnews : ∀ j u, (ints (rowQ B (tAt B i)))[j]? = some u → (wr.alloc (.cells #[] 3)).cell? ((⟨rb, ro, none⟩ : Addr).add j) = some u := by
            intro j u hj
            obtain ⟨hl, rfl⟩ := ints_at _ hj
            rw [add_at]
            exact (hE2.trans (Ext.alloc wr _)).keep (Hrc.out j hl)
          have hone : ∀ u ∈ ints (rowQ B (tAt B i)), u.oneCell' = true := by
            intro u hu
            simp only [ints, List.mem_map] at hu
            obtain ⟨x, _, rfl⟩ := hu
            rfl
          have hown : (wr.alloc (.cells #[] 3)).ownsRow wr.heap.size 3 1 (.slice (some ⟨wr.heap.size, 0, none⟩) 0 0) 0 [] :=
            ⟨rfl, .inr ⟨wr.heap.size, 0, #[], rfl, Nat.le_refl _, heap_new wr _, Nat.le_refl _, Nat.zero_le _, rfl, rfl⟩⟩
          have qr2 := (Ext.alloc wr (.cells #[] 3)).keep qr'
          go_upto_region 9 with (at_builtin; refine wpList_append_own _ rfl _ _ 34 rfl wr.heap.size 3 i0 (.int .i64 0) 1 8 Tryd.underlying34 hi hz0 hz1 hz2 rfl (by decide) _ _ _ rfl hown ⟨rb, ro, none⟩ B.bounds.length rc (ints (rowQ B (tAt B i))) rfl (by simp [ints, hrl]) hnews hone (by unfold maxLen; omega) (by omega) (by simp) ?_; intro v7 w7 hown7 hgrow hiff; clear hiff)
          have hE7 : Ext wr w7 := Below.grown (Ext.alloc wr _) hgrow (by simp) (fun k e => by cases e; exact Nat.le_refl _)
          have hwb : w.heap.size ≤ wr.heap.size := ((E0.trans E1).trans hE2).size
          rw [Nat.zero_add, List.nil_append] at hown7
          obtain ⟨g, cg, rfl, -⟩ := own_tint hown7 (by omega)
          rw [hrl] at hown7 ⊢
          obtain ⟨hgw, hcs, hfr, hIA⟩ := own_int_set hown7 (by rw [hrl]; exact hk) (kl + (j : Int))
          rw [rowQ_set hv (tAt B i) hk] at hIA
          obtain ⟨u0, k0⟩ := Option.isSome_iff_exists.1 hcs
          have hIH := Lib.hid hIA
          have hE9 : Ext wr (w7.setCell ⟨g, k, none⟩ (.int .i64 (kl + (j : Int)))) := Below.setCell hE7 hgw _
          clear x0 x1 x2 x3 q1' qr' qr2 hnews hone hown hown7 hgrow hIA hcs
          have hkl2 : k < B.bounds.length := hk
          go_upto_region 10 with (fail)
          clear k0 hfr hE7 hgw
          generalize w7.setCell ⟨g, k, none⟩ (.int .i64 (kl + (j : Int))) = W9 at hIH hE9 ⊢
          have hE2' : Ext w1 W9 := hE2.trans hE9
          obtain ⟨⟨x0, x1, x2, x3⟩, ⟨y0, y1, y2, y3⟩, z0⟩ := HS.out _ hE2'
          go_upto_region 11 with (fail)
          clear x0 x1 x2 x3 y0 y1 y2 y3 z0
          go_loopw [11] (fun v wx => ∃ n : Nat, n ≤ xw ∧ v = .int .i64 (x.lo + n) ∧ Hid (∀ n', n' < n → dif B x k i j n' = false) ∧ Ext W9 wx) (fun v _ => (x.hi + 1 - intOf v).toNat)
          case atStart => exact ⟨0, Nat.zero_le _, by simp, Lib.hid fun n hn => by omega, Ext.refl _⟩
          case round =>
            obtain ⟨n, hn, rfl, hI3, hE3⟩ := hrel
            obtain ⟨⟨x0, x1, x2, x3⟩, ⟨y0, y1, y2, y3⟩, z0⟩ := HS.out _ (hE2'.trans hE3)
            by_cases hlt3 : n < xw
            · have hin3 : x.lo + (n : Int) ≤ x.hi := by omega
              have hr1 := fun W (hW : Ext w1 W) => right_ref B hv (some ⟨bb, bo, none⟩) a2 a3 c1 c2 c3 x ⟨hx1, hx2⟩ (tAt B i) (some ⟨rb, ro, none⟩) rc (x.lo + n) W (HB1.out.ext hW) (HI.out.ext hW)
              have hr2 := fun W (hW : Ext W9 W) => right_ref B hv (some ⟨bb, bo, none⟩) a2 a3 c1 c2 c3 x ⟨hx1, hx2⟩ (setQ (tAt B i) k (kl + j)) (some ⟨g, 0, none⟩) cg (x.lo + n) W (HB1.out.ext (hE2'.trans hW)) (hIH.out.ext hW)
              have hd : dif B x k i j n = (fitX B (setQ (tAt B i) k (kl + j)) x (x.lo + n) != fitX B (tAt B i) x (x.lo + n)) := by rw [← Hkl.out]; rfl
              have Hyes := Lib.hid (fun (hh : dif B x k i j n = true) => Href.out.2 ⟨i, hlt, j, hlt2, n, hlt3, hh⟩)
              obtain ⟨r1, hre1⟩ : ∃ r, fitX B (tAt B i) x (x.lo + n) = r := ⟨_, rfl⟩
              obtain ⟨r2, hre2⟩ : ∃ r, fitX B (setQ (tAt B i) k (kl + j)) x (x.lo + n) = r := ⟨_, rfl⟩
              simp only [hre1] at hr1 hd
              simp only [hre2] at hr2 hd
              have Hr1 := Lib.hid hr1
              have Hr2 := Lib.hid hr2
              have Hd := Lib.hid hd
              clear hr1 hr2 hd hre1 hre2
              go_upto_region 13 with (fail)
              clear x0 x1 x2 x3 y0 y1 y2 y3 z0
              refine wp_plan (fun W => ((W.cell? ⟨gB, 0, none⟩ = some (.int .i64 B.comp) ∧ W.cell? ⟨gB, 1, none⟩ = some (.slice (some ⟨bb, bo, none⟩) B.bounds.length c1) ∧ W.cell? ⟨gB, 2, none⟩ = some (.slice a2 B.orders.length c2) ∧ W.cell? ⟨gB, 3, none⟩ = some (.slice a3 B.shots.length c3)) ∧ (W.cell? ⟨gS, 0, none⟩ = some (.int .i64 x.st) ∧ W.cell? ⟨gS, 1, none⟩ = some (.int .i64 x.co) ∧ W.cell? ⟨gS, 2, none⟩ = some (.int .i64 x.lo) ∧ W.cell? ⟨gS, 3, none⟩ = some (.int .i64 x.hi)) ∧ W.cell? ⟨b, o + i, none⟩ = some (.slice (some ⟨rb, ro, none⟩) B.bounds.length rc))) (.tames [0, 1, 2, 3, 4, 5, 6, 8, 9, 10, 11] (.one 7 (.one 12 (.tames [13] (.done))))) (by kernel_rfl) (by kernel_rfl) (by kernel_rfl) (fun c a d v w h => by cases d <;> exact h) ?_ ?_
              · exact HS.out _ (hE2'.trans (Below.drew hE3))
              refine pl_tames ?_
              (try simp only [Act.put, List.setIfInBounds_toArray, List.set_cons_zero, List.set_cons_succ])
              repeat (first
                | (refine pl_run (v := ?_) rfl ?_ (fun W hW => ?_) ?_; rotate_left; rfl; ((try dsimp only at hW); go_simp; try with_reducible rfl); (try simp only [Act.put, List.setIfInBounds_toArray, List.set_cons_zero, List.set_cons_succ]))
                | (refine pl_skip rfl ?_ ?_; rfl; (try simp only [Act.put, List.setIfInBounds_toArray, List.set_cons_zero, List.set_cons_succ])))
              refine pl_end ?_
              refine pl_one rfl (by rfl) (fun K hK => ?_)
              go_simp
              (go_at_call 96; refine (Hr1.out _ (hE2'.trans (Below.drew hE3))).mono ?_; rintro e w4 ⟨rfl, hE4⟩)
              refine hK.out _ _ (HS.out _ ((hE2'.trans hE3).trans ((Ext.drew _).trans hE4))) ?_
              clear hK K
              (try refine pl_tames ?_)
              (try simp only [Act.put, List.setIfInBounds_toArray, List.set_cons_zero, List.set_cons_succ])
              try ((repeat (first   | (refine pl_run (v := ?_) rfl ?_ (fun W hW => ?_) ?_; rotate_left; rfl; ((try dsimp only at hW); go_simp; try with_reducible rfl); (try simp only [Act.put, List.setIfInBounds_toArray, List.set_cons_zero, List.set_cons_succ]))   | (refine pl_skip rfl ?_ ?_; rfl; (try simp only [Act.put, List.setIfInBounds_toArray, List.set_cons_zero, List.set_cons_succ])))); refine pl_end ?_)
              refine pl_one rfl (by rfl) (fun K hK => ?_)
              go_simp
              (go_at_call 96; refine (Hr2.out _ (hE3.trans ((Ext.drew _).trans hE4))).mono ?_; rintro e w5 ⟨rfl, hE5⟩)
              refine hK.out _ _ (HS.out _ ((hE2'.trans hE3).trans (((Ext.drew _).trans hE4).trans hE5))) ?_
              clear hK K
              (try refine pl_tames ?_)
              (try simp only [Act.put, List.setIfInBounds_toArray, List.set_cons_zero, List.set_cons_succ])
              try ((repeat (first   | (refine pl_run (v := ?_) rfl ?_ (fun W hW => ?_) ?_; rotate_left; rfl; ((try dsimp only at hW); go_simp; try with_reducible rfl); (try simp only [Act.put, List.setIfInBounds_toArray, List.set_cons_zero, List.set_cons_succ]))   | (refine pl_skip rfl ?_ ?_; rfl; (try simp only [Act.put, List.setIfInBounds_toArray, List.set_cons_zero, List.set_cons_succ])))); refine pl_end ?_)
              refine pl_done ?_
              (try simp only [Act.put])
              have EV := (Ext.trans (Ext.drew _) hE4).trans hE5
              cases r1 with
              | false =>
                cases r2 with
                | false =>
                  go_wp2
                  go_roundw
                  case rel => exact ⟨n + 1, by omega, by go_num, Lib.hid fun n' hn' => by rcases (by omega : n' < n ∨ n' = n) with h | rfl; exact hI3.out n' h; rw [Hd.out]; rfl, hE3.trans EV⟩
                  case measure => simp [intOf]; omega
                | true =>
                  go_wp2
                  go_ret
                  exact ⟨by rw [Hyes.out (by rw [Hd.out]; rfl)]; rfl, EW.trans ((hE2'.trans hE3).trans EV)⟩
              | true =>
                cases r2 with
                | false =>
                  go_wp2
                  go_ret
                  exact ⟨by rw [Hyes.out (by rw [Hd.out]; rfl)]; rfl, EW.trans ((hE2'.trans hE3).trans EV)⟩
                | true =>
                  go_wp2
                  go_roundw
                  case rel => exact ⟨n + 1, by omega, by go_num, Lib.hid fun n' hn' => by rcases (by omega : n' < n ∨ n' = n) with h | rfl; exact hI3.out n' h; rw [Hd.out]; rfl, hE3.trans EV⟩
                  case measure => simp [intOf]; omega
            · obtain rfl : n = xw := by omega
              have hnot3 : ¬ (x.lo + (n : Int) ≤ x.hi) := by omega
              go_wp2
              go_roundw
              case rel => exact ⟨j + 1, by omega, by go_num, Lib.hid fun j' hj' => by rcases (by omega : j' < j ∨ j' = j) with h | rfl; exact hI2.out j' h; exact hI3.out, hE2'.trans hE3⟩
              case measure => simp [intOf]; omega
        · obtain rfl : j = wd := by omega
          have hnot : ¬ (kl + (j : Int) ≤ kh) := by omega
          go_wp2
          go_roundw
          case rel => exact ⟨i + 1, by omega, by go_num, Lib.hid fun i' hi' => by rcases (by omega : i' < i ∨ i' = i) with h | rfl; exact hI1.out i' h; exact hI2.out, hE2⟩
          case measure => simp [intOf]; omega
    · obtain rfl : i = N := by omega
      have hno : Hid (hangB B x k = false) := Lib.hid (by
        cases hh : hangB B x k with
        | false => rfl
        | true =>
          obtain ⟨i', h1, j, h2, n, h3, h5⟩ := Href.out.1 hh
          rw [hI1.out i' h1 j h2 n h3] at h5
          cases h5)
      go_wp2
      go_ret
      exact ⟨by rw [hno.out]; rfl, EW.trans hE⟩
end Go.Proofs.YtnhdcdhpfgdphaaDoor

/-
  The reference's Fair and Hangs, and both sides of them in one shape.
-/
set_option linter.unusedSimpArgs false
set_option linter.unusedVariables false
namespace Go.Proofs.YtnhdcdhpfgdphaaDoor
open Go Go.RowKit

/-- What Fair returns, and Hangs. -/
def fairX (B : Bk) (m : Int) : Int := if askE B (isShB B m) = 0 then fairN B (sAt B.shots m.toNat) else 0
def hangsX (B : Bk) (m : Int) : List Int := if askE B (isShB B m) = 0 then hangsI B (sAt B.shots m.toNat) B.bounds.length else []
theorem ask_sh {B : Bk} {m : Int} (h : askE B (isShB B m) = 0) : validB B = true ∧ ∃ k : Nat, m = k ∧ k < B.shots.length := by
  obtain ⟨hv, hs⟩ := askE_zero.1 h
  simp only [isShB, Bool.and_eq_true, decide_eq_true_eq] at hs
  exact ⟨hv, m.toNat, by omega, by omega⟩
theorem fair_all (B : Bk) (a1 a2 a3 : Option Addr) (c1 c2 c3 : Nat) (m : Int) (w : World) (h : BookA w B a1 a2 a3) (hG : Glob w) :
    Calls Tryd.prog 26 #[.agg #[.int .i64 B.comp, .slice a1 B.bounds.length c1, .slice a2 B.orders.length c2, .slice a3 B.shots.length c3], .int .i64 m] w
      fun e w' => e = .returned (.tuple #[.int .i64 (fairX B m), .int .i64 (askE B (isShB B m))]) ∧ Ext w w' := by
  unfold fairX
  by_cases hz : askE B (isShB B m) = 0
  · obtain ⟨hv, k, rfl, hk⟩ := ask_sh hz
    rw [if_pos hz, hz]
    exact fair_yes B a1 a2 a3 c1 c2 c3 k w h hG hv hk
  · rw [if_neg hz]
    exact fair_no B a1 a2 a3 c1 c2 c3 m w h hG hz
theorem hangs_all (B : Bk) (a1 a2 a3 : Option Addr) (c1 c2 c3 : Nat) (m : Int) (w : World) (h : BookA w B a1 a2 a3) (hG : Glob w) :
    Calls Tryd.prog 28 #[.agg #[.int .i64 B.comp, .slice a1 B.bounds.length c1, .slice a2 B.orders.length c2, .slice a3 B.shots.length c3], .int .i64 m] w
      fun e w' => (∃ a cp, e = .returned (.tuple #[.slice a (hangsX B m).length cp, .int .i64 (askE B (isShB B m))]) ∧ IntA w' a (hangsX B m)) ∧ Ext w w' := by
  unfold hangsX
  by_cases hz : askE B (isShB B m) = 0
  · obtain ⟨hv, k, rfl, hk⟩ := ask_sh hz
    rw [if_pos hz, hz]
    exact hangs_yes B a1 a2 a3 c1 c2 c3 k w h hG hv hk
  · rw [if_neg hz]
    refine (hangs_no B a1 a2 a3 c1 c2 c3 m w h hG hz).mono ?_
    rintro e w' ⟨rfl, hE⟩
    exact ⟨⟨none, 0, rfl, fun hp => absurd hp (by simp)⟩, hE⟩

set_option maxRecDepth 100000 in
set_option maxHeartbeats 4000000 in
theorem rFair_all (B : Bk) (a1 a2 a3 : Option Addr) (c1 c2 c3 : Nat) (m : Int) (w : World) (h : BookA w B a1 a2 a3) :
    Calls Tryd.prog 27 #[.agg #[.int .i64 B.comp, .slice a1 B.bounds.length c1, .slice a2 B.orders.length c2, .slice a3 B.shots.length c3], .int .i64 m] w
      fun e w' => e = .returned (.tuple #[.int .i64 (fairX B m), .int .i64 (askE B (isShB B m))]) ∧ Ext w w' := by
  have HB := Lib.hid h
  have l2 := h.l2
  have l3 := h.l3
  clear h
  obtain ⟨c, hc⟩ : ∃ c, askE B (isShB B m) = c := ⟨_, rfl⟩
  have hask := fun W (hW : Ext w W) => rAsked_any B (isShB B m) a1 a2 a3 c1 c2 c3 W (HB.out.ext hW)
  simp only [hc] at hask ⊢
  have Hask := Lib.hid hask
  have Hc := Lib.hid hc
  clear hask hc
  go_enter Tryd.func27, Tryd.ntmps27
  go_upto_region 1 with (fail)
  obtain ⟨W0, hW0⟩ : ∃ W0, W0 = w.alloc (.cells #[.int .i64 B.comp, .slice a1 B.bounds.length c1, .slice a2 B.orders.length c2, .slice a3 B.shots.length c3] 26) := ⟨_, rfl⟩
  have b0 : Blk W0 w.heap.size 26 #[.int .i64 B.comp, .slice a1 B.bounds.length c1, .slice a2 B.orders.length c2, .slice a3 B.shots.length c3] := by rw [hW0]; exact Blk.new _ _ _
  have E0 : Ext w W0 := by rw [hW0]; exact Ext.alloc _ _
  rw [← hW0]
  clear hW0
  have HH : Hid (∀ W, Ext W0 W → (W.cell? ⟨w.heap.size, 0, none⟩ = some (.int .i64 B.comp) ∧ W.cell? ⟨w.heap.size, 1, none⟩ = some (.slice a1 B.bounds.length c1) ∧ W.cell? ⟨w.heap.size, 2, none⟩ = some (.slice a2 B.orders.length c2) ∧ W.cell? ⟨w.heap.size, 3, none⟩ = some (.slice a3 B.shots.length c3))) := Lib.hid fun W e => (b0.ext e).c4
  go_cut [6] (fun e wx => e = .int .i64 c ∧ Ext W0 wx)
  case first =>
    refine wp_plan (fun W => W.cell? ⟨w.heap.size, 0, none⟩ = some (.int .i64 B.comp) ∧ W.cell? ⟨w.heap.size, 1, none⟩ = some (.slice a1 B.bounds.length c1) ∧ W.cell? ⟨w.heap.size, 2, none⟩ = some (.slice a2 B.orders.length c2) ∧ W.cell? ⟨w.heap.size, 3, none⟩ = some (.slice a3 B.shots.length c3)) (.tames [0, 1, 2] (.one 3 (.one 4 (.tames [5] (.done))))) (by kernel_rfl) (by kernel_rfl) (by kernel_rfl) (fun c a d v w h => by cases d <;> exact h) ?_ ?_
    · exact HH.out _ (Ext.drew _)
    refine pl_tames ?_
    (try simp only [Act.put, List.setIfInBounds_toArray, List.set_cons_zero, List.set_cons_succ])
    repeat (first
      | (refine pl_run (v := ?_) rfl ?_ (fun W hW => ?_) ?_; rotate_left; rfl; ((try dsimp only at hW); go_simp; try with_reducible rfl); (try simp only [Act.put, List.setIfInBounds_toArray, List.set_cons_zero, List.set_cons_succ]))
      | (refine pl_skip rfl ?_ ?_; rfl; (try simp only [Act.put, List.setIfInBounds_toArray, List.set_cons_zero, List.set_cons_succ])))
    refine pl_end ?_
    refine pl_one rfl (by rfl) (fun K hK => ?_)
    go_simp
    go_at_call 76
    refine (rShot_any B a1 a2 a3 c1 c2 c3 m _ l3).mono ?_
    rintro e w1 ⟨rfl, hE1⟩
    have X1 : Ext W0 w1 := Ext.trans (Ext.drew W0) hE1
    have hz1 := hE1.size
    refine hK.out _ _ (HH.out _ (X1)) ?_
    clear hK K
    (try simp only [Act.put, List.setIfInBounds_toArray, List.set_cons_zero, List.set_cons_succ])
    refine pl_one rfl (by rfl) (fun K hK => ?_)
    go_simp
    go_at_call 61
    refine (Hask.out _ (E0.trans (X1))).mono ?_
    rintro e w2 ⟨rfl, hE2⟩
    have X2 : Ext W0 w2 := Ext.trans (X1) hE2
    have hz2 := hE2.size
    refine hK.out _ _ (HH.out _ (X2)) ?_
    clear hK K
    (try simp only [Act.put, List.setIfInBounds_toArray, List.set_cons_zero, List.set_cons_succ])
    refine pl_tames ?_
    (try simp only [Act.put, List.setIfInBounds_toArray, List.set_cons_zero, List.set_cons_succ])
    repeat (first
      | (refine pl_run (v := ?_) rfl ?_ (fun W hW => ?_) ?_; rotate_left; rfl; ((try dsimp only at hW); go_simp; try with_reducible rfl); (try simp only [Act.put, List.setIfInBounds_toArray, List.set_cons_zero, List.set_cons_succ]))
      | (refine pl_skip rfl ?_ ?_; rfl; (try simp only [Act.put, List.setIfInBounds_toArray, List.set_cons_zero, List.set_cons_succ])))
    refine pl_end ?_
    refine pl_done ?_
    (try simp only [Act.put])
    go_wp2
    go_meet
    case rel => exact ⟨rfl, X2⟩
  case rest =>
    obtain ⟨rfl, hX⟩ := hcut
    by_cases hz : c = 0
    · obtain ⟨hv, k, rfl, hk⟩ := ask_sh (Hc.out.trans hz)
      subst hz
      have Hf := Lib.hid (show fairX B k = fairN B (sAt B.shots k) by unfold fairX; rw [if_pos Hc.out]; rfl)
      obtain ⟨h1, h2, h3, h4, h5, h6, h7, h8⟩ := valid_shot hv hk
      have HB2 := Lib.hid ((HB.out.ext E0).ext hX)
      obtain ⟨b, o, rfl, hbl, hcs⟩ := HB2.out.shots (by omega)
      obtain ⟨q0, q1, q2, q3⟩ := hcs k hk
      obtain ⟨y0, y1, y2, y3⟩ := (b0.ext hX).c4
      clear hcs HH
      have Href := Lib.hid (fun W (hW : Ext wc W) => fair_ref B hv a1 a2 (some ⟨b, o, none⟩) c1 c2 c3 (sAt B.shots k) ⟨h1, h2, h5, h6, h7⟩ W (HB2.out.ext hW))
      go_upto_region 4 with (fail)
      have HS : ∀ W, Ext wc W → ((W.cell? ⟨w.heap.size, 0, none⟩ = some (.int .i64 B.comp) ∧ W.cell? ⟨w.heap.size, 1, none⟩ = some (.slice a1 B.bounds.length c1) ∧ W.cell? ⟨w.heap.size, 2, none⟩ = some (.slice a2 B.orders.length c2) ∧ W.cell? ⟨w.heap.size, 3, none⟩ = some (.slice (some ⟨b, o, none⟩) B.shots.length c3)) ∧ (W.cell? ⟨b, o + k * 4, none⟩ = some (.int .i64 (sAt B.shots k).st) ∧ W.cell? ⟨b, o + k * 4 + 1, none⟩ = some (.int .i64 (sAt B.shots k).co) ∧ W.cell? ⟨b, o + k * 4 + 2, none⟩ = some (.int .i64 (sAt B.shots k).lo) ∧ W.cell? ⟨b, o + k * 4 + 3, none⟩ = some (.int .i64 (sAt B.shots k).hi))) := fun W e => ⟨⟨e.keep y0, e.keep y1, e.keep y2, e.keep y3⟩, e.keep q0, e.keep q1, e.keep q2, e.keep q3⟩
      have HS := Lib.hid HS
      clear y0 y1 y2 y3 q0 q1 q2 q3
      refine wp_plan (fun W => ((W.cell? ⟨w.heap.size, 0, none⟩ = some (.int .i64 B.comp) ∧ W.cell? ⟨w.heap.size, 1, none⟩ = some (.slice a1 B.bounds.length c1) ∧ W.cell? ⟨w.heap.size, 2, none⟩ = some (.slice a2 B.orders.length c2) ∧ W.cell? ⟨w.heap.size, 3, none⟩ = some (.slice (some ⟨b, o, none⟩) B.shots.length c3)) ∧ (W.cell? ⟨b, o + k * 4, none⟩ = some (.int .i64 (sAt B.shots k).st) ∧ W.cell? ⟨b, o + k * 4 + 1, none⟩ = some (.int .i64 (sAt B.shots k).co) ∧ W.cell? ⟨b, o + k * 4 + 2, none⟩ = some (.int .i64 (sAt B.shots k).lo) ∧ W.cell? ⟨b, o + k * 4 + 3, none⟩ = some (.int .i64 (sAt B.shots k).hi)))) (.tames [0, 1, 2, 3, 4, 5] (.one 6 (.tames [7, 8] (.done)))) (by kernel_rfl) (by kernel_rfl) (by kernel_rfl) (fun c a d v w h => by cases d <;> exact h) ?_ ?_
      · exact HS.out _ (Ext.drew _)
      refine pl_tames ?_
      (try simp only [Act.put, List.setIfInBounds_toArray, List.set_cons_zero, List.set_cons_succ])
      repeat (first
        | (refine pl_run (v := ?_) rfl ?_ (fun W hW => ?_) ?_; rotate_left; rfl; ((try dsimp only at hW); go_simp; try with_reducible rfl); (try simp only [Act.put, List.setIfInBounds_toArray, List.set_cons_zero, List.set_cons_succ]))
        | (refine pl_skip rfl ?_ ?_; rfl; (try simp only [Act.put, List.setIfInBounds_toArray, List.set_cons_zero, List.set_cons_succ])))
      refine pl_end ?_
      refine pl_one rfl (by rfl) (fun K hK => ?_)
      go_simp
      (go_at_call 77; refine (Href.out _ (Ext.drew _)).mono ?_; rintro e w5 ⟨rfl, hE5⟩)
      refine hK.out _ _ (HS.out _ (Ext.trans (Ext.drew _) hE5)) ?_
      clear hK K
      (try refine pl_tames ?_)
      (try simp only [Act.put, List.setIfInBounds_toArray, List.set_cons_zero, List.set_cons_succ])
      try ((repeat (first   | (refine pl_run (v := ?_) rfl ?_ (fun W hW => ?_) ?_; rotate_left; rfl; ((try dsimp only at hW); go_simp; try with_reducible rfl); (try simp only [Act.put, List.setIfInBounds_toArray, List.set_cons_zero, List.set_cons_succ]))   | (refine pl_skip rfl ?_ ?_; rfl; (try simp only [Act.put, List.setIfInBounds_toArray, List.set_cons_zero, List.set_cons_succ])))); refine pl_end ?_)
      refine pl_done ?_
      (try simp only [Act.put])
      go_wp2
      refine bodyPost_ret (v := .tuple #[.int .i64 (fairN B (sAt B.shots k)), .int .i64 0]) ?_ rfl ⟨by rw [Hf.out], E0.trans (hX.trans (Ext.trans (Ext.drew _) hE5))⟩
      simp [results, Tryd.results27, go_sem]
    · have Hf := Lib.hid (show fairX B m = 0 by unfold fairX; rw [if_neg (by rw [Hc.out]; exact hz)])
      have hcn : (c != 0) = true := by simp [hz]
      go_wp2
      refine bodyPost_ret (v := .tuple #[.int .i64 0, .int .i64 c]) ?_ rfl ⟨by rw [Hf.out], E0.trans hX⟩
      simp [results, Tryd.results27, go_sem]
end Go.Proofs.YtnhdcdhpfgdphaaDoor

/-
  The reference's Hangs.
-/
set_option linter.unusedSimpArgs false
set_option linter.unusedVariables false
namespace Go.Proofs.YtnhdcdhpfgdphaaDoor
open Go Go.RowKit

set_option maxRecDepth 100000 in
set_option maxHeartbeats 4000000 in
theorem rHangs_all (B : Bk) (a1 a2 a3 : Option Addr) (c1 c2 c3 : Nat) (m : Int) (w : World) (h : BookA w B a1 a2 a3) :
    Calls Tryd.prog 29 #[.agg #[.int .i64 B.comp, .slice a1 B.bounds.length c1, .slice a2 B.orders.length c2, .slice a3 B.shots.length c3], .int .i64 m] w
      fun e w' => (∃ a cp, e = .returned (.tuple #[.slice a (hangsX B m).length cp, .int .i64 (askE B (isShB B m))]) ∧ IntA w' a (hangsX B m)) ∧ Ext w w' := by
  obtain ⟨i0, hi, hz0, hz1, hz2⟩ := info_parts int_info
  have HB := Lib.hid h
  have l2 := h.l2
  have l3 := h.l3
  clear h
  obtain ⟨c, hc⟩ : ∃ c, askE B (isShB B m) = c := ⟨_, rfl⟩
  have hask := fun W (hW : Ext w W) => rAsked_any B (isShB B m) a1 a2 a3 c1 c2 c3 W (HB.out.ext hW)
  simp only [hc] at hask ⊢
  have Hask := Lib.hid hask
  have Hc := Lib.hid hc
  clear hask hc
  go_enter Tryd.func29, Tryd.ntmps29
  go_upto_region 1 with (fail)
  obtain ⟨W0, hW0⟩ : ∃ W0, W0 = w.alloc (.cells #[.int .i64 B.comp, .slice a1 B.bounds.length c1, .slice a2 B.orders.length c2, .slice a3 B.shots.length c3] 26) := ⟨_, rfl⟩
  have b0 : Blk W0 w.heap.size 26 #[.int .i64 B.comp, .slice a1 B.bounds.length c1, .slice a2 B.orders.length c2, .slice a3 B.shots.length c3] := by rw [hW0]; exact Blk.new _ _ _
  have E0 : Ext w W0 := by rw [hW0]; exact Ext.alloc _ _
  rw [← hW0]
  clear hW0
  have HH : Hid (∀ W, Ext W0 W → (W.cell? ⟨w.heap.size, 0, none⟩ = some (.int .i64 B.comp) ∧ W.cell? ⟨w.heap.size, 1, none⟩ = some (.slice a1 B.bounds.length c1) ∧ W.cell? ⟨w.heap.size, 2, none⟩ = some (.slice a2 B.orders.length c2) ∧ W.cell? ⟨w.heap.size, 3, none⟩ = some (.slice a3 B.shots.length c3))) := Lib.hid fun W e => (b0.ext e).c4
  go_cut [6] (fun e wx => e = .int .i64 c ∧ Ext W0 wx)
  case first =>
    refine wp_plan (fun W => W.cell? ⟨w.heap.size, 0, none⟩ = some (.int .i64 B.comp) ∧ W.cell? ⟨w.heap.size, 1, none⟩ = some (.slice a1 B.bounds.length c1) ∧ W.cell? ⟨w.heap.size, 2, none⟩ = some (.slice a2 B.orders.length c2) ∧ W.cell? ⟨w.heap.size, 3, none⟩ = some (.slice a3 B.shots.length c3)) (.tames [0, 1, 2] (.one 3 (.one 4 (.tames [5] (.done))))) (by kernel_rfl) (by kernel_rfl) (by kernel_rfl) (fun c a d v w h => by cases d <;> exact h) ?_ ?_
    · exact HH.out _ (Ext.drew _)
    refine pl_tames ?_
    (try simp only [Act.put, List.setIfInBounds_toArray, List.set_cons_zero, List.set_cons_succ])
    repeat (first
      | (refine pl_run (v := ?_) rfl ?_ (fun W hW => ?_) ?_; rotate_left; rfl; ((try dsimp only at hW); go_simp; try with_reducible rfl); (try simp only [Act.put, List.setIfInBounds_toArray, List.set_cons_zero, List.set_cons_succ]))
      | (refine pl_skip rfl ?_ ?_; rfl; (try simp only [Act.put, List.setIfInBounds_toArray, List.set_cons_zero, List.set_cons_succ])))
    refine pl_end ?_
    refine pl_one rfl (by rfl) (fun K hK => ?_)
    go_simp
    go_at_call 76
    refine (rShot_any B a1 a2 a3 c1 c2 c3 m _ l3).mono ?_
    rintro e w1 ⟨rfl, hE1⟩
    have X1 : Ext W0 w1 := Ext.trans (Ext.drew W0) hE1
    have hz1 := hE1.size
    refine hK.out _ _ (HH.out _ (X1)) ?_
    clear hK K
    (try simp only [Act.put, List.setIfInBounds_toArray, List.set_cons_zero, List.set_cons_succ])
    refine pl_one rfl (by rfl) (fun K hK => ?_)
    go_simp
    go_at_call 61
    refine (Hask.out _ (E0.trans (X1))).mono ?_
    rintro e w2 ⟨rfl, hE2⟩
    have X2 : Ext W0 w2 := Ext.trans (X1) hE2
    have hz2 := hE2.size
    refine hK.out _ _ (HH.out _ (X2)) ?_
    clear hK K
    (try simp only [Act.put, List.setIfInBounds_toArray, List.set_cons_zero, List.set_cons_succ])
    refine pl_tames ?_
    (try simp only [Act.put, List.setIfInBounds_toArray, List.set_cons_zero, List.set_cons_succ])
    repeat (first
      | (refine pl_run (v := ?_) rfl ?_ (fun W hW => ?_) ?_; rotate_left; rfl; ((try dsimp only at hW); go_simp; try with_reducible rfl); (try simp only [Act.put, List.setIfInBounds_toArray, List.set_cons_zero, List.set_cons_succ]))
      | (refine pl_skip rfl ?_ ?_; rfl; (try simp only [Act.put, List.setIfInBounds_toArray, List.set_cons_zero, List.set_cons_succ])))
    refine pl_end ?_
    refine pl_done ?_
    (try simp only [Act.put])
    go_wp2
    go_meet
    case rel => exact ⟨rfl, X2⟩
  case rest =>
    obtain ⟨rfl, hX⟩ := hcut
    by_cases hz : c = 0
    · obtain ⟨hv, k, rfl, hk⟩ := ask_sh (Hc.out.trans hz)
      subst hz
      have Hf := Lib.hid (show hangsX B k = hangsI B (sAt B.shots k) B.bounds.length by unfold hangsX; rw [if_pos Hc.out]; rfl)
      obtain ⟨h1, h2, h3, h4, h5, h6, h7, h8⟩ := valid_shot hv hk
      have hnb := (valid_sizes hv).2.2.2.2.1
      have HB2 := Lib.hid ((HB.out.ext E0).ext hX)
      obtain ⟨b, o, rfl, hbl, hcs⟩ := HB2.out.shots (by omega)
      obtain ⟨q0, q1, q2, q3⟩ := hcs k hk
      obtain ⟨y0, y1, y2, y3⟩ := (b0.ext hX).c4
      clear hcs HH
      have HS : ∀ W, Ext wc W → ((W.cell? ⟨w.heap.size, 0, none⟩ = some (.int .i64 B.comp) ∧ W.cell? ⟨w.heap.size, 1, none⟩ = some (.slice a1 B.bounds.length c1) ∧ W.cell? ⟨w.heap.size, 2, none⟩ = some (.slice a2 B.orders.length c2) ∧ W.cell? ⟨w.heap.size, 3, none⟩ = some (.slice (some ⟨b, o, none⟩) B.shots.length c3)) ∧ (W.cell? ⟨b, o + k * 4, none⟩ = some (.int .i64 (sAt B.shots k).st) ∧ W.cell? ⟨b, o + k * 4 + 1, none⟩ = some (.int .i64 (sAt B.shots k).co) ∧ W.cell? ⟨b, o + k * 4 + 2, none⟩ = some (.int .i64 (sAt B.shots k).lo) ∧ W.cell? ⟨b, o + k * 4 + 3, none⟩ = some (.int .i64 (sAt B.shots k).hi))) := fun W e => ⟨⟨e.keep y0, e.keep y1, e.keep y2, e.keep y3⟩, e.keep q0, e.keep q1, e.keep q2, e.keep q3⟩
      have HS := Lib.hid HS
      go_upto_region 6 with (fail)
      clear y0 y1 y2 y3 q0 q1 q2 q3
      have hown : (wc.alloc (.cells #[] 3)).ownsRow wc.heap.size 3 1 (.slice (some ⟨wc.heap.size, 0, none⟩) 0 0) 0 [] :=
        ⟨rfl, .inr ⟨wc.heap.size, 0, #[], rfl, Nat.le_refl _, heap_new wc _, Nat.le_refl _, Nat.zero_le _, rfl, rfl⟩⟩
      go_loopw [7, 8] (fun v i wr => ∃ j : Nat, j ≤ B.bounds.length ∧ i = .int .i64 j ∧ wr.ownsRow wc.heap.size 3 1 v (hangsI B (sAt B.shots k) j).length (ints (hangsI B (sAt B.shots k) j)) ∧ Ext wc wr) (fun _ i _ => B.bounds.length - (intOf i).toNat)
      case atStart => exact ⟨0, Nat.zero_le _, rfl, hown, Ext.alloc _ _⟩
      case round =>
        obtain ⟨j, hj, rfl, ho, hE⟩ := hrel
        clear hown
        have hlen := hangsI_len B (sAt B.shots k) j
        obtain ⟨⟨y0, y1, y2, y3⟩, q0, q1, q2, q3⟩ := HS.out _ hE
        obtain ⟨hnn, av, cpv, rfl, hI⟩ := own_int ho
        clear hnn
        by_cases hlt : j < B.bounds.length
        · have hhr := fun W (hW : Ext wc W) => hangs_ref B hv a1 a2 (some ⟨b, o, none⟩) c1 c2 c3 (sAt B.shots k) ⟨h1, h2, h5, h6, h7⟩ j hlt W (HB2.out.ext hW)
          have hs := hangsI_succ B (sAt B.shots k) j
          obtain ⟨p, hp⟩ : ∃ p, hangB B (sAt B.shots k) j = p := ⟨_, rfl⟩
          simp only [hp] at hhr hs
          have Hhr := Lib.hid hhr
          have Hs := Lib.hid hs
          clear hhr hs hp hI
          go_upto_region 8 with (fail)
          clear y0 y1 y2 y3 q0 q1 q2 q3
          refine wp_plan (fun W => ((W.cell? ⟨w.heap.size, 0, none⟩ = some (.int .i64 B.comp) ∧ W.cell? ⟨w.heap.size, 1, none⟩ = some (.slice a1 B.bounds.length c1) ∧ W.cell? ⟨w.heap.size, 2, none⟩ = some (.slice a2 B.orders.length c2) ∧ W.cell? ⟨w.heap.size, 3, none⟩ = some (.slice (some ⟨b, o, none⟩) B.shots.length c3)) ∧ (W.cell? ⟨b, o + k * 4, none⟩ = some (.int .i64 (sAt B.shots k).st) ∧ W.cell? ⟨b, o + k * 4 + 1, none⟩ = some (.int .i64 (sAt B.shots k).co) ∧ W.cell? ⟨b, o + k * 4 + 2, none⟩ = some (.int .i64 (sAt B.shots k).lo) ∧ W.cell? ⟨b, o + k * 4 + 3, none⟩ = some (.int .i64 (sAt B.shots k).hi)))) (.tames [0, 1, 2, 3, 4, 5, 6] (.one 7 (.done))) (by kernel_rfl) (by kernel_rfl) (by kernel_rfl) (fun c a d v w h => by cases d <;> exact h) ?_ ?_
          · exact HS.out _ (Below.drew hE)
          refine pl_tames ?_
          (try simp only [Act.put, List.setIfInBounds_toArray, List.set_cons_zero, List.set_cons_succ])
          repeat (first
            | (refine pl_run (v := ?_) rfl ?_ (fun W hW => ?_) ?_; rotate_left; rfl; ((try dsimp only at hW); go_simp; try with_reducible rfl); (try simp only [Act.put, List.setIfInBounds_toArray, List.set_cons_zero, List.set_cons_succ]))
            | (refine pl_skip rfl ?_ ?_; rfl; (try simp only [Act.put, List.setIfInBounds_toArray, List.set_cons_zero, List.set_cons_succ])))
          refine pl_end ?_
          refine pl_one rfl (by rfl) (fun K hK => ?_)
          go_simp
          (go_at_call 79; refine (Hhr.out _ (Below.drew hE)).mono ?_; rintro e w5 ⟨rfl, hE5⟩)
          refine hK.out _ _ (HS.out _ (hE.trans (Ext.trans (Ext.drew _) hE5))) ?_
          clear hK K
          (try refine pl_tames ?_)
          (try simp only [Act.put, List.setIfInBounds_toArray, List.set_cons_zero, List.set_cons_succ])
          try ((repeat (first   | (refine pl_run (v := ?_) rfl ?_ (fun W hW => ?_) ?_; rotate_left; rfl; ((try dsimp only at hW); go_simp; try with_reducible rfl); (try simp only [Act.put, List.setIfInBounds_toArray, List.set_cons_zero, List.set_cons_succ]))   | (refine pl_skip rfl ?_ ?_; rfl; (try simp only [Act.put, List.setIfInBounds_toArray, List.set_cons_zero, List.set_cons_succ])))); refine pl_end ?_)
          refine pl_done ?_
          (try simp only [Act.put])
          have X5 : Ext wr w5 := Ext.trans (Ext.drew _) hE5
          have X6 := Ext.trans hE X5
          have ho5 := ownsRow_ext ho X5
          cases p with
          | true =>
            go_wp2_with (at_builtin; refine wpList_append_own _ rfl _ _ 34 rfl wc.heap.size 3 i0 (.int .i64 0) 1 8 Tryd.underlying34 hi hz0 hz1 hz2 rfl (by decide) _ _ _ rfl (ho5.alloc _) ⟨w5.heap.size, 0, none⟩ 1 1 [.int .i64 j] rfl rfl (cell_one_new _ _ _) (by simp [Value.oneCell']) (by unfold maxLen; omega) (by omega) (by have := X6.size; simp; omega) ?_)
            intro v' w7 hown' hgrow _
            have hE7 : Ext wc w7 := Below.grown (Ext.trans X6 (Ext.alloc w5 _)) hgrow (by have := X6.size; simp; omega) (own_base ho5)
            go_wp2
            go_roundw
            case rel => exact ⟨j + 1, by omega, by go_num, by rw [Hs.out]; simpa [ints] using hown', hE7⟩
            case measure => simp [intOf]; omega
          | false =>
            go_wp2
            go_roundw
            case rel => exact ⟨j + 1, by omega, by go_num, by rw [Hs.out]; exact ho5, X6⟩
            case measure => simp [intOf]; omega
        · obtain rfl : j = B.bounds.length := by omega
          go_wp2
          refine bodyPost_ret (v := .tuple #[.slice av (hangsI B (sAt B.shots k) B.bounds.length).length cpv, .int .i64 0]) ?_ rfl ⟨by rw [Hf.out]; exact ⟨_, _, rfl, hI⟩, E0.trans (hX.trans hE)⟩
          simp [results, Tryd.results29, go_sem]
    · have Hf := Lib.hid (show hangsX B m = [] by unfold hangsX; rw [if_neg (by rw [Hc.out]; exact hz)])
      have hcn : (c != 0) = true := by simp [hz]
      go_wp2
      refine bodyPost_ret (v := .tuple #[.slice none 0 0, .int .i64 c]) ?_ rfl ⟨by rw [Hf.out]; exact ⟨none, 0, rfl, fun hp => absurd hp (by simp)⟩, E0.trans hX⟩
      simp [results, Tryd.results29, go_sem]
end Go.Proofs.YtnhdcdhpfgdphaaDoor
