/-
  The reference's truths: all true minutes of the bounds, as rows of whole numbers.
-/
import Derived.Test.YtnhdcdhpfgdphaaDoorMOw12
import Derived.Test.YtnhdcdhpfgdphaaDoorMOw8
set_option linter.unusedSimpArgs false
set_option linter.unusedVariables false
namespace Go.Proofs.YtnhdcdhpfgdphaaDoor
open Go Go.RowKit

def genR (bs : List (Int × Int)) : Nat → List Int → List (List Int)
  | 0, xs => [xs]
  | d + 1, xs => (List.range (wid bs xs.length)).flatMap fun (n : Nat) => genR bs d (xs ++ [bLo bs xs.length + n])
def genRJ (bs : List (Int × Int)) (d : Nat) (xs : List Int) (j : Nat) : List (List Int) := (List.range j).flatMap fun (n : Nat) => genR bs d (xs ++ [bLo bs xs.length + n])
theorem genRJ_succ (bs : List (Int × Int)) (d : Nat) (xs : List Int) (j : Nat) : genRJ bs d xs (j + 1) = genRJ bs d xs j ++ genR bs d (xs ++ [bLo bs xs.length + j]) := by
  simp [genRJ, List.range_succ]
theorem genR_len (bs : List (Int × Int)) (hw : ∀ k, wid bs k ≤ 11) : ∀ d xs, (genR bs d xs).length ≤ 11 ^ d := by
  intro d
  induction d with
  | zero => intro xs; simp [genR]
  | succ d ih =>
    intro xs
    have hj : ∀ j, (genRJ bs d xs j).length ≤ j * 11 ^ d := by
      intro j
      induction j with
      | zero => simp [genRJ]
      | succ j ihj =>
        rw [genRJ_succ, List.length_append, Nat.succ_mul]
        have := ih (xs ++ [bLo bs xs.length + j])
        omega
    have h1 := hj (wid bs xs.length)
    have h2 : wid bs xs.length * 11 ^ d ≤ 11 * 11 ^ d := Nat.mul_le_mul_right _ (hw _)
    show (genRJ bs d xs (wid bs xs.length)).length ≤ _
    rw [Nat.pow_succ, Nat.mul_comm]
    omega
theorem genRJ_len (bs : List (Int × Int)) (hw : ∀ k, wid bs k ≤ 11) (d : Nat) (xs : List Int) (j : Nat) : (genRJ bs d xs j).length ≤ j * 11 ^ d := by
  induction j with
  | zero => simp [genRJ]
  | succ j ihj =>
    rw [genRJ_succ, List.length_append, Nat.succ_mul]
    have := genR_len bs hw d (xs ++ [bLo bs xs.length + j])
    omega

/-! ### Rows of rows -/
def RowT (w : World) (v : Value) (l : List Int) : Prop := ∃ ra rc, v = .slice ra l.length rc ∧ l.length ≤ 1000 ∧ TIntA w ra l
def RowsV (w : World) (vs : List Value) (L : List (List Int)) : Prop := vs.length = L.length ∧ ∀ i, i < L.length → ∃ v, vs[i]? = some v ∧ RowT w v (oAt L i)
theorem RowT.ext {w w' : World} {v : Value} {l : List Int} (h : RowT w v l) (hE : Ext w w') : RowT w' v l := by
  obtain ⟨ra, rc, e, hl, ht⟩ := h
  exact ⟨ra, rc, e, hl, ht.ext hE⟩
theorem RowsV.ext {w w' : World} {vs : List Value} {L : List (List Int)} (h : RowsV w vs L) (hE : Ext w w') : RowsV w' vs L :=
  ⟨h.1, fun i hi => by obtain ⟨v, e, ht⟩ := h.2 i hi; exact ⟨v, e, ht.ext hE⟩⟩
theorem RowsV.grown {w w' : World} {base s n : Nat} {u : Value} {ys : List Value} {vs : List Value} {L : List (List Int)} (h : RowsV w vs L) (ho : w.ownsRow base 34 s u n ys) (hg : w.grownBy w' u.ownBlock) : RowsV w' vs L :=
  ⟨h.1, fun i hi => by
    obtain ⟨v, e, ra, rc, e2, hl, ht⟩ := h.2 i hi
    exact ⟨v, e, ra, rc, e2, hl, ht.grown ho (by decide) hg⟩⟩
theorem RowsV.append {w : World} {vs us : List Value} {L M : List (List Int)} (h : RowsV w vs L) (k : RowsV w us M) : RowsV w (vs ++ us) (L ++ M) := by
  refine ⟨by simp [h.1, k.1], fun i hi => ?_⟩
  by_cases hl : i < L.length
  · obtain ⟨v, e, ht⟩ := h.2 i hl
    refine ⟨v, by rw [List.getElem?_append_left (by rw [h.1]; exact hl)]; exact e, ?_⟩
    have : oAt (L ++ M) i = oAt L i := by simp [oAt, List.getD, List.getElem?_append_left hl]
    rw [this]; exact ht
  · rw [List.length_append] at hi
    obtain ⟨v, e, ht⟩ := k.2 (i - L.length) (by omega)
    refine ⟨v, by rw [List.getElem?_append_right (by rw [h.1]; omega), h.1]; exact e, ?_⟩
    have : oAt (L ++ M) i = oAt M (i - L.length) := by simp [oAt, List.getD, List.getElem?_append_right (show L.length ≤ i by omega)]
    rw [this]; exact ht
theorem RowsV.one {w : World} {v : Value} {l : List Int} (h : RowT w v l) : RowsV w [v] [l] := by
  refine ⟨rfl, fun i hi => ?_⟩
  have : i = 0 := by simpa using hi
  subst this
  exact ⟨v, rfl, h⟩
theorem RowsV.cell1 {w : World} {vs : List Value} {L : List (List Int)} (h : RowsV w vs L) : ∀ u ∈ vs, u.oneCell' = true := by
  intro u hu
  obtain ⟨i, hi, rfl⟩ := List.getElem_of_mem hu
  obtain ⟨v, e, ra, rc, e2, _⟩ := h.2 i (by rw [← h.1]; exact hi)
  rw [List.getElem?_eq_getElem hi] at e
  simp only [Option.some.injEq] at e
  rw [e, e2]
  rfl
/-- What a slice of rows holds. -/
def RowsT (w : World) (ad : Addr) (L : List (List Int)) : Prop := ∃ vs, (∀ j u, vs[j]? = some u → w.cell? (ad.add j) = some u) ∧ RowsV w vs L
theorem RowsT.ext {w w' : World} {ad : Addr} {L : List (List Int)} (h : RowsT w ad L) (hE : Ext w w') : RowsT w' ad L := by
  obtain ⟨vs, hc, hr⟩ := h
  exact ⟨vs, fun j u hj => hE.keep (hc j u hj), hr.ext hE⟩
theorem ints_info : (Tryd.prog.info? 34).map (fun i => (i.zero, i.size, i.bytes)) = some (some (.slice none 0 0), 1, 24) := by kernel_rfl
theorem own_rows {w : World} {base n : Nat} {v : Value} {vs : List Value} {L : List (List Int)} (h : w.ownsRow base 34 1 v n vs) (hr : RowsV w vs L) (hn : 0 < n) : n = L.length ∧ ∃ g cp, v = .slice (some ⟨g, 0, none⟩) L.length cp ∧ RowsT w ⟨g, 0, none⟩ L := by
  have hl : n = L.length := by have := h.1; have := hr.1; omega
  subst hl
  refine ⟨rfl, ?_⟩
  rcases h.2 with ⟨_, h1⟩ | ⟨g, cap, cur, rfl, hg, hh, h1, h2, h3, h4⟩
  · omega
  · refine ⟨g, cap, rfl, vs, fun j u hj => ?_, hr⟩
    have hb : Blk w g 34 cur := hh
    have hjl := (List.getElem?_eq_some_iff.1 hj).1
    rw [hr.1] at hjl
    rw [← h4, List.getElem?_take, if_pos (by omega)] at hj
    rw [add_at]
    exact hb.cell (by simpa using hj)

theorem wid_le {B : Bk} (hv : validB B = true) (k : Nat) : wid B.bounds k ≤ 11 := by
  unfold wid
  by_cases hk : k < B.bounds.length
  · have := valid_bound hv hk
    omega
  · have h : B.bounds.getD k (0, 0) = (0, 0) := by simp [List.getD, List.getElem?_eq_none (show B.bounds.length ≤ k by omega)]
    unfold bLo bHi
    rw [h]
    decide

theorem genR_pos {B : Bk} (hv : validB B = true) : ∀ d xs, xs.length + d = B.bounds.length → 0 < (genR B.bounds d xs).length := by
  intro d
  induction d with
  | zero => intro xs _; simp [genR]
  | succ d ih =>
    intro xs h
    have hb := valid_bound hv (i := xs.length) (by omega)
    obtain ⟨n, hn⟩ : ∃ n, wid B.bounds xs.length = n + 1 := ⟨wid B.bounds xs.length - 1, by unfold wid; omega⟩
    have h2 := ih (xs ++ [bLo B.bounds xs.length + n]) (by simp; omega)
    show 0 < (genRJ B.bounds d xs (wid B.bounds xs.length)).length
    rw [hn, genRJ_succ, List.length_append]
    omega
theorem own_val {w : World} {base e s n : Nat} {v : Value} {xs : List Value} (h : w.ownsRow base e s v n xs) : (∃ a cp, v = .slice a n cp) ∧ ∀ k, v.ownBlock = some k → base ≤ k := by
  rcases h.2 with ⟨rfl, rfl⟩ | ⟨g, cap, cur, rfl, hb, _⟩
  · exact ⟨⟨none, 0, rfl⟩, fun k hk => by simp [Value.ownBlock] at hk⟩
  · exact ⟨⟨_, _, rfl⟩, fun k hk => by have : g = k := by simpa [Value.ownBlock] using hk
                                       omega⟩
set_option maxRecDepth 100000 in
set_option maxHeartbeats 2000000 in
theorem truths_ref (B : Bk) (hv : validB B = true) (a1 a2 a3 : Option Addr) (c1 c2 c3 : Nat) : ∀ (d : Nat) (xs : List Int) (ad : Addr) (cp : Nat) (w : World), xs.length + d = B.bounds.length → BookA w B a1 a2 a3 → TIntA w (some ad) xs →
    Calls Tryd.prog 62 #[.agg #[.int .i64 B.comp, .slice a1 B.bounds.length c1, .slice a2 B.orders.length c2, .slice a3 B.shots.length c3], .slice (some ad) xs.length cp] w
      fun e w' => (∃ b o cp, e = .returned (.slice (some ⟨b, o, none⟩) (genR B.bounds d xs).length cp) ∧ RowsT w' ⟨b, o, none⟩ (genR B.bounds d xs)) ∧ Ext w w' := by
  have hn4 := (valid_sizes hv).2.2.2.2.1
  intro d
  induction d with
  | zero =>
    intro xs ad cp w hd h hT
    have heq : ((xs.length : Int) == (B.bounds.length : Int)) = true := by rw [beq_iff_eq]; omega
    have HT := Lib.hid hT
    have hxl : xs.length ≤ 1000 := by omega
    clear h hT hd
    go_enter Tryd.func62, Tryd.ntmps62
    go_wp2
    go_ret
    have E0 : Ext w (w.alloc (.cells #[.int .i64 B.comp, .slice a1 B.bounds.length c1, .slice a2 B.orders.length c2, .slice a3 B.shots.length c3] 26)) := Ext.alloc _ _
    refine ⟨⟨_, _, _, rfl, [.slice (some ad) xs.length cp], ?_, RowsV.one ⟨_, _, rfl, hxl, HT.out.ext (E0.trans (Ext.alloc _ _))⟩⟩, E0.trans (Ext.alloc _ _)⟩
    first | exact cell_one_new _ _ _ | (have := cell_one_new (w.alloc (.cells #[.int .i64 B.comp, .slice a1 B.bounds.length c1, .slice a2 B.orders.length c2, .slice a3 B.shots.length c3] 26)) (.slice (some ad) xs.length cp) 34; simpa using this)
  | succ d ih =>
    intro xs ad cp w hd h hT
    obtain ⟨i0, hi, hz0, hz1, hz2⟩ := info_parts ints_info
    have heq : ((xs.length : Int) == (B.bounds.length : Int)) = false := by rw [beq_eq_false_iff_ne]; omega
    have hxl : xs.length < B.bounds.length := by omega
    have hxl2 : (xs.length : Int) < B.bounds.length := by omega
    have HT := Lib.hid hT
    have HB := Lib.hid h
    have IH := Lib.hid ih
    have Hd := Lib.hid hd
    clear h hT hd ih
    go_enter Tryd.func62, Tryd.ntmps62
    go_upto_region 1 with (fail)
    obtain ⟨W0, hW0⟩ : ∃ W0, W0 = w.alloc (.cells #[.int .i64 B.comp, .slice a1 B.bounds.length c1, .slice a2 B.orders.length c2, .slice a3 B.shots.length c3] 26) := ⟨_, rfl⟩
    have b0 : Blk W0 w.heap.size 26 #[.int .i64 B.comp, .slice a1 B.bounds.length c1, .slice a2 B.orders.length c2, .slice a3 B.shots.length c3] := by rw [hW0]; exact Blk.new _ _ _
    have E0 : Ext w W0 := by rw [hW0]; exact Ext.alloc _ _
    rw [← hW0]
    clear hW0
    obtain ⟨gB, hgB⟩ : ∃ g, g = w.heap.size := ⟨_, rfl⟩
    rw [← hgB] at b0 ⊢
    clear hgB
    obtain ⟨x0, x1, x2, x3⟩ := b0.c4
    go_upto_region 4 with (fail)
    obtain ⟨W1, hW1⟩ : ∃ W1, W1 = W0.alloc (.cells #[] 34) := ⟨_, rfl⟩
    have E1 : Ext W0 W1 := by rw [hW1]; exact Ext.alloc _ _
    have own1 : W1.ownsRow W0.heap.size 34 1 (.slice (some ⟨W0.heap.size, 0, none⟩) 0 0) 0 [] := by
      rw [hW1]
      exact ⟨rfl, .inr ⟨W0.heap.size, 0, #[], rfl, Nat.le_refl _, heap_new W0 _, Nat.le_refl _, Nat.zero_le _, rfl, rfl⟩⟩
    rw [← hW1]
    have hs1 : W0.heap.size ≤ W1.heap.size := E1.size
    clear hW1 x0 x1 x2 x3
    obtain ⟨gn, hgn⟩ : ∃ g, g = W0.heap.size := ⟨_, rfl⟩
    rw [← hgn] at own1 hs1 ⊢
    have hwn : W0.heap.size ≤ gn := by omega
    clear hgn
    obtain ⟨x0, x1, x2, x3⟩ := (b0.ext E1).c4
    obtain ⟨b, o, rfl, hbl, hc⟩ := HB.out.bounds (by omega)
    obtain ⟨q0, q1⟩ := hc xs.length hxl
    have q0' := (E0.trans E1).keep q0
    have q1' := (E0.trans E1).keep q1
    have hbd := valid_bound hv hxl
    clear q0 q1 hc
    go_upto_region 6 with (fail)
    obtain ⟨lo, hlo⟩ : ∃ l, bLo B.bounds xs.length = l := ⟨_, rfl⟩
    obtain ⟨hh, hhh⟩ : ∃ l, bHi B.bounds xs.length = l := ⟨_, rfl⟩
    rw [hlo, hhh] at hbd ⊢
    rw [hhh] at q1'
    rw [hlo] at q0'
    have Hlo := Lib.hid hlo
    have Hhi := Lib.hid hhh
    clear hlo hhh
    obtain ⟨W2, hW2⟩ : ∃ W2, W2 = W1.alloc (.cells #[.int .i64 lo, .int .i64 hh] 29) := ⟨_, rfl⟩
    have E2 : Ext W1 W2 := by rw [hW2]; exact Ext.alloc _ _
    have s2 : Blk W2 W1.heap.size 29 #[.int .i64 lo, .int .i64 hh] := by rw [hW2]; exact Blk.new _ _ _
    have own2 := own1.alloc (.cells #[.int .i64 lo, .int .i64 hh] 29)
    rw [← hW2] at own2 ⊢
    clear hW2 own1 q0' q1' x0 x1 x2 x3
    obtain ⟨gs, hgs⟩ : ∃ g, g = W1.heap.size := ⟨_, rfl⟩
    rw [← hgs] at s2 ⊢
    clear hgs
    have X2 := E1.trans E2
    have hs2 : gn ≤ W2.heap.size := Nat.le_trans hs1 E2.size
    have b2 := (b0.ext E1).ext E2
    have hww : Ext w W2 := E0.trans X2
    have hwg : w.heap.size ≤ gn := Nat.le_trans E0.size hwn
    have hp : (11 : Nat) ^ (d + 1) ≤ 11 ^ 4 := Nat.pow_le_pow_right (by decide) (by have := Hd.out; omega)
    have hgl := fun j => genRJ_len B.bounds (wid_le hv) d xs j
    have hgr := fun ys => genR_len B.bounds (wid_le hv) d ys
    have hpd : (11 : Nat) ^ (d + 1) = 11 ^ d * 11 := Nat.pow_succ 11 d
    have Hbound : Hid (∀ j, j < wid B.bounds xs.length → (genRJ B.bounds d xs j).length + (genR B.bounds d (xs ++ [lo + j])).length ≤ 14641) := Lib.hid fun j hj => by
      have h1 := hgl (j + 1)
      rw [genRJ_succ, List.length_append, Hlo.out] at h1
      have h2 := wid_le hv xs.length
      have h3 : (j + 1) * 11 ^ d ≤ 11 * 11 ^ d := Nat.mul_le_mul_right _ (by omega)
      omega
    have hwd : wid B.bounds xs.length = (hh - lo + 1).toNat := by unfold wid; rw [Hlo.out, Hhi.out]
    obtain ⟨wd, hwde⟩ : ∃ wd, wid B.bounds xs.length = wd := ⟨_, rfl⟩
    rw [hwde] at hwd Hbound
    have hres : genR B.bounds (d + 1) xs = genRJ B.bounds d xs wd := by rw [← hwde]; rfl
    have Hres := Lib.hid hres
    have Hsuc := Lib.hid (fun j => genRJ_succ B.bounds d xs j)
    rw [Hlo.out] at Hsuc
    have Hwde := Lib.hid hwde
    clear hgl hgr hpd hp hwde hres
    go_loopw [5, 7] (fun v i wr => ∃ (j : Nat) (vs : List Value), j ≤ wd ∧ i = .int .i64 (lo + j) ∧ wr.ownsRow gn 34 1 v (genRJ B.bounds d xs j).length vs ∧ RowsV wr vs (genRJ B.bounds d xs j) ∧ Blk wr gs 29 #[.int .i64 lo, .int .i64 hh] ∧ Blk wr gB 26 #[.int .i64 B.comp, .slice (some ⟨b, o, none⟩) B.bounds.length c1, .slice a2 B.orders.length c2, .slice a3 B.shots.length c3] ∧ Ext w wr ∧ gn ≤ wr.heap.size) (fun _ i _ => (hh + 1 - intOf i).toNat)
    case atStart => exact ⟨0, [], Nat.zero_le _, by simp, own2, ⟨rfl, fun i hi => by simp [genRJ] at hi⟩, s2, b2, hww, hs2⟩
    case round =>
      clear own2 s2 b2 hww hs2
      obtain ⟨j, vs, hj, rfl, ho, hV, ss, bb, hE, hgw⟩ := hrel
      obtain ⟨⟨av, cv, rfl⟩, hob⟩ := own_val ho
      obtain ⟨y0, y1⟩ := ss.c2
      by_cases hlt : j < wd
      · have hbn := Hbound.out j hlt
        have hsuc := Hsuc.out j
        obtain ⟨n, hn⟩ : ∃ n, n = (genRJ B.bounds d xs j).length := ⟨_, rfl⟩
        have Ho := Lib.hid ho
        have HV := Lib.hid hV
        have Hs := Lib.hid hsuc
        rw [← hn] at Ho hbn hob ⊢
        have Hn := Lib.hid hn
        clear ho hV hsuc hn
        have ihj := fun (ad : Addr) (cp : Nat) (w : World) hB hT => IH.out (xs ++ [lo + j]) ad cp w (by have := Hd.out; simp; omega) hB hT
        simp only [List.length_append, List.length_singleton] at ihj
        have Ihj := Lib.hid ihj
        clear ihj
        go_upto_region 8 with (fail)
        clear y0 y1
        refine wp_plan (fun W => (W.cell? ⟨gB, 0, none⟩ = some (.int .i64 B.comp) ∧ W.cell? ⟨gB, 1, none⟩ = some (.slice (some ⟨b, o, none⟩) B.bounds.length c1) ∧ W.cell? ⟨gB, 2, none⟩ = some (.slice a2 B.orders.length c2) ∧ W.cell? ⟨gB, 3, none⟩ = some (.slice a3 B.shots.length c3))) (.tames [0, 1, 2, 3] (.one 4 (.one 5 (.one 6 (.tames [7] (.done)))))) (by kernel_rfl) (by kernel_rfl) (by kernel_rfl) (fun c a d v w h => by cases d <;> exact h) ?_ ?_
        · exact bb.drew.c4
        refine pl_tames ?_
        (try simp only [Act.put, List.setIfInBounds_toArray, List.set_cons_zero, List.set_cons_succ])
        repeat (first
          | (refine pl_run (v := ?_) rfl ?_ (fun W hW => ?_) ?_; rotate_left; rfl; ((try dsimp only at hW); go_simp; try with_reducible rfl); (try simp only [Act.put, List.setIfInBounds_toArray, List.set_cons_zero, List.set_cons_succ]))
          | (refine pl_skip rfl ?_ ?_; rfl; (try simp only [Act.put, List.setIfInBounds_toArray, List.set_cons_zero, List.set_cons_succ])))
        refine pl_end ?_
        refine pl_one rfl (by rfl) (fun K hK => ?_)
        go_simp
        (go_at_call 92; refine (and_any ad xs cp (lo + j) _ ((HT.out.plain.ext hE).ext (Ext.drew _)) (by omega)).mono ?_; rintro e w2 ⟨⟨g2, cp2, rfl, hT2⟩, hE2⟩)
        refine hK.out _ _ (((bb.ext (Ext.drew _)).ext hE2).c4) ?_
        clear hK K
        (try refine pl_tames ?_)
        (try simp only [Act.put, List.setIfInBounds_toArray, List.set_cons_zero, List.set_cons_succ])
        try ((repeat (first   | (refine pl_run (v := ?_) rfl ?_ (fun W hW => ?_) ?_; rotate_left; rfl; ((try dsimp only at hW); go_simp; try with_reducible rfl); (try simp only [Act.put, List.setIfInBounds_toArray, List.set_cons_zero, List.set_cons_succ]))   | (refine pl_skip rfl ?_ ?_; rfl; (try simp only [Act.put, List.setIfInBounds_toArray, List.set_cons_zero, List.set_cons_succ])))); refine pl_end ?_)
        refine pl_one rfl (by rfl) (fun K hK => ?_)
        go_simp
        (go_at_call 62; refine (Ihj.out ⟨g2, 0, none⟩ cp2 _ (HB.out.ext (hE.trans ((Ext.drew _).trans hE2))) hT2).mono ?_; rintro e w3 ⟨⟨b3, o3, cp3, rfl, us, hcs, hU⟩, hE3⟩)
        refine hK.out _ _ (((bb.ext (Ext.drew _)).ext (hE2.trans hE3)).c4) ?_
        clear hK K
        (try refine pl_tames ?_)
        (try simp only [Act.put, List.setIfInBounds_toArray, List.set_cons_zero, List.set_cons_succ])
        try ((repeat (first   | (refine pl_run (v := ?_) rfl ?_ (fun W hW => ?_) ?_; rotate_left; rfl; ((try dsimp only at hW); go_simp; try with_reducible rfl); (try simp only [Act.put, List.setIfInBounds_toArray, List.set_cons_zero, List.set_cons_succ]))   | (refine pl_skip rfl ?_ ?_; rfl; (try simp only [Act.put, List.setIfInBounds_toArray, List.set_cons_zero, List.set_cons_succ])))); refine pl_end ?_)
        have X3 : Ext wr w3 := (Ext.drew wr).trans (hE2.trans hE3)
        have z3 := X3.size
        refine pl_one rfl (by rfl) (fun K hK => ?_)
        refine wp_append_own (Operand.tmp 31) (Operand.tmp 36) 23 rfl gn 34 i0 (.slice none 0 0) 1 24 Tryd.underlying23 hi hz0 hz1 hz2 rfl (by decide) _ _ _ rfl (ownsRow_ext Ho.out X3) ⟨b3, o3, none⟩ (genR B.bounds d (xs ++ [lo + j])).length cp3 us rfl (by rw [hU.1, Nat.mul_one]) hcs hU.cell1 (by unfold maxLen; omega) (by omega) (by omega) ?_
        intro v7 w7 hown7 hgrow
        have ho3 := ownsRow_ext Ho.out X3
        have hE7 : Ext w w7 := Below.grown (hE.trans X3) hgrow (by have := hE.size; omega) (fun k hk => by have := hob k hk; omega)
        have hG7 : Below gn wr w7 := Below.grown (X3.mono hgw) hgrow (by omega) hob
        have ss7 := (ss.ext X3).grown hgrow (own_ne ho3 (ss.ext X3) (by decide))
        have bb7 := (bb.ext X3).grown hgrow (own_ne ho3 (bb.ext X3) (by decide))
        have hV7 := ((HV.out.ext X3).append hU).grown ho3 hgrow
        refine hK.out _ _ bb7.c4 ?_
        clear hK K
        (try simp only [Act.put, List.setIfInBounds_toArray, List.set_cons_zero, List.set_cons_succ])
        refine pl_tames ?_
        (try simp only [Act.put, List.setIfInBounds_toArray, List.set_cons_zero, List.set_cons_succ])
        repeat (first
          | (refine pl_run (v := ?_) rfl ?_ (fun W hW => ?_) ?_; rotate_left; rfl; ((try dsimp only at hW); go_simp; try with_reducible rfl); (try simp only [Act.put, List.setIfInBounds_toArray, List.set_cons_zero, List.set_cons_succ]))
          | (refine pl_skip rfl ?_ ?_; rfl; (try simp only [Act.put, List.setIfInBounds_toArray, List.set_cons_zero, List.set_cons_succ])))
        refine pl_end ?_
        refine pl_done ?_
        (try simp only [Act.put])
        have hlen : (genRJ B.bounds d xs (j + 1)).length = n + (genR B.bounds d (xs ++ [lo + j])).length := by rw [Hs.out, List.length_append, ← Hn.out]
        have Hlen := Lib.hid hlen
        clear hlen hcs
        go_wp2
        go_roundw
        case rel => exact ⟨j + 1, vs ++ us, by omega, by go_num, by rw [Hlen.out]; exact hown7, by rw [Hs.out]; exact hV7, ss7, bb7, hE7, Nat.le_trans hgw hG7.size⟩
        case measure => simp [intOf]; omega
      · obtain rfl : j = wd := by omega
        have hpos : 0 < (genRJ B.bounds d xs j).length := by
          have := genR_pos hv (d + 1) xs Hd.out
          rw [Hres.out] at this
          exact this
        obtain ⟨-, g, cg, e, hRT⟩ := own_rows ho hV hpos
        simp only [Value.slice.injEq] at e
        obtain ⟨rfl, -, rfl⟩ := e
        go_wp2
        go_ret
        exact ⟨⟨g, 0, cv, by rw [Hres.out]; rfl, by rw [Hres.out]; exact hRT⟩, hE⟩
end Go.Proofs.YtnhdcdhpfgdphaaDoor

/-
  The reference's truths are the truths.
-/
set_option linter.unusedSimpArgs false
set_option linter.unusedVariables false
namespace Go.Proofs.YtnhdcdhpfgdphaaDoor
open Go Go.RowKit

theorem take_set (t : Q4) {k : Nat} (hk : k < 4) (v : Int) : (q4L t).take k ++ [v] = (q4L (setQ t k v)).take (k + 1) := by
  rcases (by omega : k = 0 ∨ k = 1 ∨ k = 2 ∨ k = 3) with rfl | rfl | rfl | rfl <;> rfl
theorem genR_gen (bs : List (Int × Int)) : ∀ (d k : Nat) (t : Q4), k + d ≤ 4 → genR bs d ((q4L t).take k) = (gen bs d k t).map fun t => (q4L t).take (k + d) := by
  intro d
  induction d with
  | zero => intro k t _; rfl
  | succ d ih =>
    intro k t h
    have hl : ((q4L t).take k).length = k := by
      have : (q4L t).length = 4 := rfl
      rw [List.length_take]; omega
    have e : ∀ n : Nat, genR bs d ((q4L t).take k ++ [bLo bs k + n]) = (gen bs d (k + 1) (setQ t k (bLo bs k + n))).map fun t => (q4L t).take (k + (d + 1)) := fun n => by
      rw [take_set t (by omega), ih (k + 1) _ (by omega), show k + 1 + d = k + (d + 1) by omega]
    simp only [genR, gen, hl, List.map_flatMap, wid]
    congr 1
    funext n
    exact e n
def tAt (B : Bk) (i : Nat) : Q4 := (truthsL B).getD i (0, 0, 0, 0)
theorem tAt_mem {B : Bk} {i : Nat} (hi : i < (truthsL B).length) : tAt B i ∈ truthsL B := by
  simp only [tAt, List.getD_eq_getElem?_getD, List.getElem?_eq_getElem hi, Option.getD_some]
  exact List.getElem_mem hi
theorem mem_tAt {B : Bk} {t : Q4} (h : t ∈ truthsL B) : ∃ i, i < (truthsL B).length ∧ tAt B i = t := by
  obtain ⟨i, hi, rfl⟩ := List.getElem_of_mem h
  exact ⟨i, hi, by simp [tAt, List.getD, hi]⟩
/-- The row of a truth. -/
def rowQ (B : Bk) (t : Q4) : List Int := (q4L t).take B.bounds.length
theorem rowQ_len {B : Bk} (hv : validB B = true) (t : Q4) : (rowQ B t).length = B.bounds.length := by
  have := (valid_sizes hv).2.2.2.2.1
  have h4 : (q4L t).length = 4 := rfl
  unfold rowQ
  rw [List.length_take]; omega
theorem rowQ_at {B : Bk} (t : Q4) {i : Nat} (hi : i < B.bounds.length) : nAt (rowQ B t) i = nAt (q4L t) i := by
  unfold rowQ nAt
  simp [List.getD, List.getElem?_take, hi]
theorem rowQ_turn {B : Bk} (t : Q4) (m : Int) : cT (rowQ B t) m B.bounds.length = cT (q4L t) m B.bounds.length := cT_congr m fun i hi => rowQ_at t hi
theorem all_rows {B : Bk} (hv : validB B = true) : genR B.bounds B.bounds.length [] = (truthsL B).map (rowQ B) := by
  have := genR_gen B.bounds B.bounds.length 0 (0, 0, 0, 0) (by have := (valid_sizes hv).2.2.2.2.1; omega)
  simp only [Nat.zero_add, List.take_zero] at this
  exact this
theorem rows_len {B : Bk} (hv : validB B = true) : (genR B.bounds B.bounds.length []).length = (truthsL B).length := by rw [all_rows hv, List.length_map]
theorem rows_at {B : Bk} (hv : validB B = true) {i : Nat} (hi : i < (truthsL B).length) : oAt (genR B.bounds B.bounds.length []) i = rowQ B (tAt B i) := by
  rw [all_rows hv]
  simp [oAt, tAt, List.getD, hi]
/-- Memory of all truths. -/
def TR (w : World) (B : Bk) (b o : Nat) : Prop := ∀ i, i < (truthsL B).length → ∃ ra rc, w.cell? ⟨b, o + i, none⟩ = some (.slice ra B.bounds.length rc) ∧ IntA w ra (rowQ B (tAt B i))
theorem TR.ext {w w' : World} {B : Bk} {b o : Nat} (h : TR w B b o) (hE : Ext w w') : TR w' B b o := fun i hi => by
  obtain ⟨ra, rc, h1, h2⟩ := h i hi
  exact ⟨ra, rc, hE.keep h1, h2.ext hE⟩
theorem truths_most {B : Bk} (hv : validB B = true) : (truthsL B).length ≤ 14641 := by
  rw [← rows_len hv]
  have h1 := genR_len B.bounds (wid_le hv) B.bounds.length []
  have h2 : (11 : Nat) ^ B.bounds.length ≤ 11 ^ 4 := Nat.pow_le_pow_right (by decide) (valid_sizes hv).2.2.2.2.1
  omega
theorem truths_all (B : Bk) (hv : validB B = true) (a1 a2 a3 : Option Addr) (c1 c2 c3 : Nat) (ad : Addr) (cp : Nat) (w : World) (h : BookA w B a1 a2 a3) :
    Calls Tryd.prog 62 #[.agg #[.int .i64 B.comp, .slice a1 B.bounds.length c1, .slice a2 B.orders.length c2, .slice a3 B.shots.length c3], .slice (some ad) 0 cp] w
      fun e w' => (∃ b o cp, e = .returned (.slice (some ⟨b, o, none⟩) (truthsL B).length cp) ∧ TR w' B b o) ∧ Ext w w' := by
  have := truths_ref B hv a1 a2 a3 c1 c2 c3 B.bounds.length [] ad cp w (by simp) h (fun hp => by simp at hp)
  refine this.mono ?_
  rintro e w' ⟨⟨b, o, cp', rfl, vs, hc, hr⟩, hE⟩
  rw [rows_len hv]
  refine ⟨⟨b, o, cp', rfl, fun i hi => ?_⟩, hE⟩
  obtain ⟨v, e1, ra, rc, e2, e3, ht⟩ := hr.2 i (by rw [rows_len hv]; exact hi)
  have hcell := hc i v e1
  rw [add_at] at hcell
  rw [rows_at hv hi] at e2 ht
  rw [rowQ_len hv] at e2
  exact ⟨ra, rc, by rw [hcell, e2], ht.plain⟩
theorem turn_row (B : Bk) (hv : validB B = true) (t : Q4) (ra : Option Addr) (rc : Nat) (m : Int) (w : World) (h : IntA w ra (rowQ B t)) :
    Calls Tryd.prog 63 #[.slice ra B.bounds.length rc, .int .i64 m] w fun e w' => e = .returned (.int .i64 (cT (q4L t) m B.bounds.length)) ∧ w = w' := by
  have hl := rowQ_len hv t
  have h4 := (valid_sizes hv).2.2.2.2.1
  have := rTurn_any ra (rowQ B t) rc m w h (by omega)
  rwa [hl, rowQ_turn] at this
set_option maxRecDepth 100000 in
set_option maxHeartbeats 1000000 in
theorem right_ref (B : Bk) (hv : validB B = true) (a1 a2 a3 : Option Addr) (c1 c2 c3 : Nat) (x : Sh) (hx : 0 ≤ x.st ∧ x.st < B.orders.length) (t : Q4) (ra : Option Addr) (rc : Nat) (m : Int) (w : World) (h : BookA w B a1 a2 a3) (hr : IntA w ra (rowQ B t)) :
    Calls Tryd.prog 96 #[.agg #[.int .i64 B.comp, .slice a1 B.bounds.length c1, .slice a2 B.orders.length c2, .slice a3 B.shots.length c3], .agg #[.int .i64 x.st, .int .i64 x.co, .int .i64 x.lo, .int .i64 x.hi], .slice ra B.bounds.length rc, .int .i64 m] w
      fun e w' => e = .returned (.bool (fitX B t x m)) ∧ Ext w w' := by
  obtain ⟨xst, xco, xlo, xhi⟩ := x
  obtain ⟨st, hst⟩ : ∃ st : Nat, xst = st := ⟨xst.toNat, by have := hx.1; dsimp only at this; omega⟩
  subst hst
  have hsl : st < B.orders.length := by have := hx.2; dsimp only at this; omega
  have hfit : fitX B t ⟨st, xco, xlo, xhi⟩ m = decide (nAt (oAt B.orders st) (cT (q4L t) m B.bounds.length) = xco) := by
    rw [Bool.eq_iff_iff, fit_iff, decide_eq_true_iff]
    simp
  have Hfit := Lib.hid hfit
  have hrow := (valid_row hv hsl).1
  have hct := cT_le (q4L t) m B.bounds.length
  have Htu := Lib.hid (fun W (hW : Ext w W) => turn_row B hv t ra rc m W (hr.ext hW))
  have HB := Lib.hid h
  obtain ⟨c, hc⟩ : ∃ c, cT (q4L t) m B.bounds.length = c := ⟨_, rfl⟩
  rw [hc] at hct Hfit Htu
  have h4 := (valid_sizes hv).2.2.2.2.1
  clear h hr hfit hc hx
  go_enter Tryd.func96, Tryd.ntmps96
  go_upto_region 1 with (fail)
  obtain ⟨W0, hW0⟩ : ∃ W0, W0 = (w.alloc (.cells #[.int .i64 B.comp, .slice a1 B.bounds.length c1, .slice a2 B.orders.length c2, .slice a3 B.shots.length c3] 26)).alloc (.cells #[.int .i64 st, .int .i64 xco, .int .i64 xlo, .int .i64 xhi] 59) := ⟨_, rfl⟩
  have b0 : Blk W0 w.heap.size 26 #[.int .i64 B.comp, .slice a1 B.bounds.length c1, .slice a2 B.orders.length c2, .slice a3 B.shots.length c3] := by rw [hW0]; exact (Blk.new _ _ _).alloc _
  have s0 : Blk W0 (w.heap.size + 1) 59 #[.int .i64 st, .int .i64 xco, .int .i64 xlo, .int .i64 xhi] := by rw [hW0]; have := Blk.new (w.alloc (.cells #[.int .i64 B.comp, .slice a1 B.bounds.length c1, .slice a2 B.orders.length c2, .slice a3 B.shots.length c3] 26)) 59 #[.int .i64 st, .int .i64 xco, .int .i64 xlo, .int .i64 xhi]; simpa using this
  have E0 : Ext w W0 := by rw [hW0]; exact (Ext.alloc _ _).trans (Ext.alloc _ _)
  rw [← hW0]
  clear hW0
  obtain ⟨gs, hgs⟩ : ∃ g, g = w.heap.size + 1 := ⟨_, rfl⟩
  rw [← hgs] at s0 ⊢
  clear hgs
  obtain ⟨gB, hgB⟩ : ∃ g, g = w.heap.size := ⟨_, rfl⟩
  rw [← hgB] at b0 ⊢
  clear hgB
  obtain ⟨x0, x1, x2, x3⟩ := b0.c4
  obtain ⟨y0, y1, y2, y3⟩ := s0.c4
  obtain ⟨b, o, rfl, hbl, hcc⟩ := HB.out.orders (by omega)
  obtain ⟨ra2, rc2, q1, ql, qi⟩ := hcc st hsl
  obtain ⟨b2, o2, rfl, hbl2, hc2⟩ := qi (by omega)
  have q1' := E0.keep q1
  have q2 := E0.keep (hc2 c (by omega))
  rw [hrow] at q1'
  clear hcc hc2 q1 qi ql
  go_quiet ((go_at_call 63; exact (Htu.out _ (E0.trans (Ext.drewN _ _))).mono fun e w' q => ⟨q.1, _, q.2.symm⟩))
  go_wp2
  go_ret
  refine ⟨?_, E0.trans (Ext.drewN _ _)⟩
  rw [Hfit.out]
  first | rfl | (congr 2; rw [Bool.eq_iff_iff]; simp)
end Go.Proofs.YtnhdcdhpfgdphaaDoor

/-
  The reference's Turn, and both sides of it in one shape.
-/
set_option linter.unusedSimpArgs false
set_option linter.unusedVariables false
namespace Go.Proofs.YtnhdcdhpfgdphaaDoor
open Go Go.RowKit

/-- What Turn returns. -/
def turnLX (B : Bk) (m : Int) : Int := if askE B (isMinB m) = 0 then tLo B m else 0
def turnHX (B : Bk) (m : Int) : Int := if askE B (isMinB m) = 0 then tHi B m else 0
theorem turn_all (B : Bk) (a1 a2 a3 : Option Addr) (c1 c2 c3 : Nat) (m : Int) (w : World) (h : BookA w B a1 a2 a3) (hG : Glob w) :
    Calls Tryd.prog 15 #[.agg #[.int .i64 B.comp, .slice a1 B.bounds.length c1, .slice a2 B.orders.length c2, .slice a3 B.shots.length c3], .int .i64 m] w
      fun e w' => e = .returned (.tuple #[.agg #[.int .i64 (turnLX B m), .int .i64 (turnHX B m)], .int .i64 (askE B (isMinB m))]) ∧ Ext w w' := by
  unfold turnLX turnHX
  by_cases hz : askE B (isMinB m) = 0
  · obtain ⟨hv, hm⟩ := askE_zero.1 hz
    rw [if_pos hz, if_pos hz, hz]
    exact turn_yes B a1 a2 a3 c1 c2 c3 m w h hG hv hm
  · rw [if_neg hz, if_neg hz]
    exact turn_no B a1 a2 a3 c1 c2 c3 m w h hG hz

/-- The turn in truth i. -/
def cI (B : Bk) (m : Int) (i : Nat) : Nat := cT (q4L (tAt B i)) m B.bounds.length
theorem cI_in {B : Bk} (hv : validB B = true) (m : Int) {i : Nat} (hi : i < (truthsL B).length) : tLo B m ≤ cI B m i ∧ cI B m i ≤ tHi B m :=
  cT_in hv (truth_in hv (tAt_mem hi)) m
theorem cI_least {B : Bk} (hv : validB B = true) (m : Int) : ∃ i, i < (truthsL B).length ∧ cI B m i = tLo B m := by
  obtain ⟨t, ht, hf⟩ := truth_of hv (bHi B.bounds) (fun i hi => ⟨(valid_bound hv hi).2.1, Int.le_refl _⟩)
  obtain ⟨i, hi, rfl⟩ := mem_tAt ht
  refine ⟨i, hi, ?_⟩
  have h1 := cI_in hv m hi
  rcases Nat.lt_or_ge (tLo B m) (cI B m i) with h | h
  · have hl : cI B m i ≤ B.bounds.length := cT_le _ _ _
    have hj : tLo B m < B.bounds.length := by omega
    have h2 := (lt_cT hv (truth_in hv (tAt_mem hi)) m hj).1 h
    rw [hf _ hj] at h2
    have := (lt_tLo hv m hj).2 h2
    omega
  · omega
theorem cI_most {B : Bk} (hv : validB B = true) (m : Int) : ∃ i, i < (truthsL B).length ∧ cI B m i = tHi B m := by
  obtain ⟨t, ht, hf⟩ := truth_of hv (bLo B.bounds) (fun i hi => ⟨Int.le_refl _, (valid_bound hv hi).2.1⟩)
  obtain ⟨i, hi, rfl⟩ := mem_tAt ht
  refine ⟨i, hi, ?_⟩
  have h1 := cI_in hv m hi
  have hl := tHi_le hv m
  rcases Nat.lt_or_ge (cI B m i) (tHi B m) with h | h
  · have hj : cI B m i < B.bounds.length := by omega
    have h2 := (lt_tHi hv m hj).1 h
    have h3 := (lt_cT hv (truth_in hv (tAt_mem hi)) m hj).2 (by rw [hf _ hj]; exact h2)
    exact absurd h3 (Nat.lt_irrefl _)
  · omega

set_option maxRecDepth 100000 in
set_option maxHeartbeats 4000000 in
theorem rTurn_all (B : Bk) (a1 a2 a3 : Option Addr) (c1 c2 c3 : Nat) (m : Int) (w : World) (h : BookA w B a1 a2 a3) :
    Calls Tryd.prog 16 #[.agg #[.int .i64 B.comp, .slice a1 B.bounds.length c1, .slice a2 B.orders.length c2, .slice a3 B.shots.length c3], .int .i64 m] w
      fun e w' => e = .returned (.tuple #[.agg #[.int .i64 (turnLX B m), .int .i64 (turnHX B m)], .int .i64 (askE B (isMinB m))]) ∧ Ext w w' := by
  have HB := Lib.hid h
  clear h
  obtain ⟨c, hc⟩ : ∃ c, askE B (isMinB m) = c := ⟨_, rfl⟩
  have hask := fun W (hW : Ext w W) => rAsked_any B (isMinB m) a1 a2 a3 c1 c2 c3 W (HB.out.ext hW)
  simp only [hc] at hask ⊢
  have Hask := Lib.hid hask
  have Hc := Lib.hid hc
  clear hask hc
  go_enter Tryd.func16, Tryd.ntmps16
  go_upto_region 1 with (fail)
  obtain ⟨W0, hW0⟩ : ∃ W0, W0 = (w.alloc (.cells #[.int .i64 B.comp, .slice a1 B.bounds.length c1, .slice a2 B.orders.length c2, .slice a3 B.shots.length c3] 26)).alloc (.cells #[.int .i64 0, .int .i64 0] 29) := ⟨_, rfl⟩
  have b0 : Blk W0 w.heap.size 26 #[.int .i64 B.comp, .slice a1 B.bounds.length c1, .slice a2 B.orders.length c2, .slice a3 B.shots.length c3] := by rw [hW0]; exact (Blk.new _ _ _).alloc _
  have r0 : Blk W0 (w.heap.size + 1) 29 #[.int .i64 0, .int .i64 0] := by rw [hW0]; have := Blk.new (w.alloc (.cells #[.int .i64 B.comp, .slice a1 B.bounds.length c1, .slice a2 B.orders.length c2, .slice a3 B.shots.length c3] 26)) 29 #[.int .i64 0, .int .i64 0]; simpa using this
  have E0 : Ext w W0 := by rw [hW0]; exact (Ext.alloc _ _).trans (Ext.alloc _ _)
  rw [← hW0]
  clear hW0
  have HH : Hid (∀ W, Ext W0 W → (W.cell? ⟨w.heap.size, 0, none⟩ = some (.int .i64 B.comp) ∧ W.cell? ⟨w.heap.size, 1, none⟩ = some (.slice a1 B.bounds.length c1) ∧ W.cell? ⟨w.heap.size, 2, none⟩ = some (.slice a2 B.orders.length c2) ∧ W.cell? ⟨w.heap.size, 3, none⟩ = some (.slice a3 B.shots.length c3))) := Lib.hid fun W e => (b0.ext e).c4
  go_cut [6] (fun e wx => e = .int .i64 c ∧ Ext W0 wx)
  case first =>
    refine wp_plan (fun W => W.cell? ⟨w.heap.size, 0, none⟩ = some (.int .i64 B.comp) ∧ W.cell? ⟨w.heap.size, 1, none⟩ = some (.slice a1 B.bounds.length c1) ∧ W.cell? ⟨w.heap.size, 2, none⟩ = some (.slice a2 B.orders.length c2) ∧ W.cell? ⟨w.heap.size, 3, none⟩ = some (.slice a3 B.shots.length c3)) (.tames [0, 1] (.one 2 (.one 3 (.tames [4] (.done))))) (by kernel_rfl) (by kernel_rfl) (by kernel_rfl) (fun c a d v w h => by cases d <;> exact h) ?_ ?_
    · exact HH.out _ (Ext.drew _)
    refine pl_tames ?_
    (try simp only [Act.put, List.setIfInBounds_toArray, List.set_cons_zero, List.set_cons_succ])
    repeat (first
      | (refine pl_run (v := ?_) rfl ?_ (fun W hW => ?_) ?_; rotate_left; rfl; ((try dsimp only at hW); go_simp; try with_reducible rfl); (try simp only [Act.put, List.setIfInBounds_toArray, List.set_cons_zero, List.set_cons_succ]))
      | (refine pl_skip rfl ?_ ?_; rfl; (try simp only [Act.put, List.setIfInBounds_toArray, List.set_cons_zero, List.set_cons_succ])))
    refine pl_end ?_
    refine pl_one rfl (by rfl) (fun K hK => ?_)
    go_simp
    go_at_call 44
    refine (between_any _ _ _ _).mono ?_
    rintro e w1 ⟨rfl, rfl⟩
    refine hK.out _ _ (HH.out _ (Ext.drew W0)) ?_
    clear hK K
    (try simp only [Act.put, List.setIfInBounds_toArray, List.set_cons_zero, List.set_cons_succ])
    refine pl_one rfl (by rfl) (fun K hK => ?_)
    go_simp
    go_at_call 61
    refine (Hask.out _ (E0.trans (Ext.drew W0))).mono ?_
    rintro e w2 ⟨rfl, hE2⟩
    have X2 : Ext W0 w2 := Ext.trans (Ext.drew W0) hE2
    have hz2 := hE2.size
    refine hK.out _ _ (HH.out _ (X2)) ?_
    clear hK K
    (try simp only [Act.put, List.setIfInBounds_toArray, List.set_cons_zero, List.set_cons_succ])
    refine pl_tames ?_
    (try simp only [Act.put, List.setIfInBounds_toArray, List.set_cons_zero, List.set_cons_succ])
    repeat (first
      | (refine pl_run (v := ?_) rfl ?_ (fun W hW => ?_) ?_; rotate_left; rfl; ((try dsimp only at hW); go_simp; try with_reducible rfl); (try simp only [Act.put, List.setIfInBounds_toArray, List.set_cons_zero, List.set_cons_succ]))
      | (refine pl_skip rfl ?_ ?_; rfl; (try simp only [Act.put, List.setIfInBounds_toArray, List.set_cons_zero, List.set_cons_succ])))
    refine pl_end ?_
    refine pl_done ?_
    (try simp only [Act.put])
    go_wp2
    go_meet
    case rel => exact ⟨rfl, X2⟩
  case rest =>
    obtain ⟨rfl, hX⟩ := hcut
    obtain ⟨gR, hgR⟩ : ∃ g, g = w.heap.size + 1 := ⟨_, rfl⟩
    have hgw : w.heap.size ≤ gR := by omega
    rw [← hgR] at r0 ⊢
    clear hgR
    by_cases hz : c = 0
    · subst hz
      obtain ⟨hv, hm⟩ := askE_zero.1 Hc.out
      have Hf := Lib.hid (show turnLX B m = (tLo B m : Int) ∧ turnHX B m = (tHi B m : Int) by unfold turnLX turnHX; rw [if_pos Hc.out, if_pos Hc.out]; exact ⟨rfl, rfl⟩)
      have hleast := cI_least hv m
      have hmost := cI_most hv m
      have hin := fun i hi => cI_in hv m (i := i) hi
      have hts := truths_most hv
      have HB2 := Lib.hid ((HB.out.ext E0).ext hX)
      obtain ⟨x0, x1, x2, x3⟩ := HH.out _ hX
      have Htr := Lib.hid (fun ad cp W (hW : Ext wc W) => truths_all B hv a1 a2 a3 c1 c2 c3 ad cp W (HB2.out.ext hW))
      go_upto_region 5 with (go_at_call 62; refine (Htr.out _ _ _ (Ext.alloc _ _)).mono ?_; rintro e w1 ⟨⟨b, o, ct, rfl, hT⟩, hE1⟩)
      have E1 : Ext wc w1 := (Ext.alloc wc _).trans hE1
      have HT := Lib.hid hT
      clear x0 x1 x2 x3 hT hE1 Htr HH
      obtain ⟨N, hN⟩ : ∃ N, (truthsL B).length = N := ⟨_, rfl⟩
      have Htat := Lib.hid (show ∀ i, i < N → ∃ ra rc, w1.cell? ⟨b, o + i, none⟩ = some (.slice ra B.bounds.length rc) ∧ IntA w1 ra (rowQ B (tAt B i)) from fun i hi => HT.out i (by omega))
      rw [hN] at hleast hmost hts ⊢
      have Hin := Lib.hid (show ∀ i, i < N → tLo B m ≤ cI B m i ∧ cI B m i ≤ tHi B m from fun i hi => hin i (by omega))
      have Hleast := Lib.hid hleast
      have Hmost := Lib.hid hmost
      have hN0 : 0 < N := by obtain ⟨i, hi, -⟩ := hleast; omega
      clear hN HT hleast hmost hin
      obtain ⟨tl, htl⟩ : ∃ tl : Int, tl = (tLo B m : Int) := ⟨_, rfl⟩
      obtain ⟨th, hth⟩ : ∃ th : Int, th = (tHi B m : Int) := ⟨_, rfl⟩
      have Htl := Lib.hid htl
      have Hth := Lib.hid hth
      clear htl hth
      have Htn := Lib.hid (show ∀ i, i < N → ∀ ra rc W, IntA W ra (rowQ B (tAt B i)) → Calls Tryd.prog 63 #[.slice ra B.bounds.length rc, .int .i64 m] W fun e w' => e = .returned (.int .i64 (cI B m i)) ∧ W = w' from fun i hi ra rc W hA => turn_row B hv (tAt B i) ra rc m W hA)
      obtain ⟨ra0, rc0, q0, hI0⟩ := Htat.out 0 hN0
      have h0in := Hin.out 0 hN0
      have Ht0 := Lib.hid (Htn.out 0 hN0 ra0 rc0 w1 hI0)
      have Hc0 := Hin.out 0 hN0
      obtain ⟨z, hze⟩ : ∃ z, cI B m 0 = z := ⟨_, rfl⟩
      rw [hze] at h0in Ht0 Hc0
      have Hze := Lib.hid hze
      rw [Nat.add_zero] at q0
      clear hI0 hze
      go_upto_region 7 with (first | (go_at_call 63; refine Ht0.out.mono ?_; rintro e w2 ⟨rfl, rfl⟩) | (go_at_call 56; refine (just_any _ _).mono ?_; rintro e w3 ⟨rfl, hE3⟩))
      obtain ⟨W4, hW4⟩ : ∃ W4, W4 = w3.alloc (.cells #[.int .i64 z, .int .i64 z] 29) := ⟨_, rfl⟩
      have bO : Blk W4 w3.heap.size 29 #[.int .i64 z, .int .i64 z] := by rw [hW4]; exact Blk.new _ _ _
      have E4 : Ext w1 W4 := by rw [hW4]; exact hE3.trans (Ext.alloc _ _)
      have hgO : w1.heap.size ≤ w3.heap.size := hE3.size
      rw [← hW4]
      obtain ⟨gO, hgo⟩ : ∃ g, g = w3.heap.size := ⟨_, rfl⟩
      rw [← hgo] at bO hgO ⊢
      have hgRO : gR < gO := by have := (r0.ext (hX.trans E1)).lt; omega
      clear hW4 hgo q0 Ht0
      have htz : tl ≤ (z : Int) ∧ (z : Int) ≤ th := by rw [Htl.out, Hth.out]; omega
      go_loopw [9] (fun v wr => ∃ (i : Nat) (lo hi : Int), i ≤ N ∧ v = .int .i64 i ∧ Blk wr gO 29 #[.int .i64 lo, .int .i64 hi] ∧ Hid (tl ≤ lo ∧ hi ≤ th ∧ lo ≤ hi ∧ ∀ j, j < i → lo ≤ (cI B m j : Int) ∧ (cI B m j : Int) ≤ hi) ∧ Ext w1 wr) (fun v _ => N - (intOf v).toNat)
      case atStart => exact ⟨0, z, z, Nat.zero_le _, rfl, bO, Lib.hid ⟨htz.1, htz.2, Int.le_refl _, fun j hj => by omega⟩, E4⟩
      case round =>
        obtain ⟨i, lo, hi, hil, rfl, bOw, hH, hE⟩ := hrel
        obtain ⟨k1, k2, k3, hj⟩ := hH.out
        have Hj := Lib.hid hj
        clear bO hj htz h0in Hc0
        obtain ⟨v0, v1⟩ := bOw.c2
        by_cases hlt : i < N
        · obtain ⟨ra, rc, q, hI⟩ := Htat.out i hlt
          have htn := Htn.out i hlt ra rc wr (hI.ext hE)
          have hci := Hin.out i hlt
          have hci2 : tl ≤ (cI B m i : Int) ∧ (cI B m i : Int) ≤ th := by rw [Htl.out, Hth.out]; omega
          obtain ⟨ci, hcie⟩ : ∃ ci, cI B m i = ci := ⟨_, rfl⟩
          rw [hcie] at htn hci2
          have Htn1 := Lib.hid htn
          have Hci := Lib.hid hcie
          have q' := hE.keep q
          clear hci hcie htn hI hH
          go_upto_region 10 with (go_at_call 63; refine Htn1.out.mono ?_; rintro e w5 ⟨rfl, rfl⟩)
          clear q'
          by_cases g1 : (ci : Int) < lo
          · have Hup := Lib.hid (show tl ≤ (ci : Int) ∧ hi ≤ th ∧ (ci : Int) ≤ hi ∧ ∀ j, j < i + 1 → (ci : Int) ≤ (cI B m j : Int) ∧ (cI B m j : Int) ≤ hi from ⟨by omega, by omega, by omega, fun j hj => by
              rcases (by omega : j < i ∨ j = i) with h | rfl
              · have := Hj.out j h; omega
              · rw [Hci.out]; omega⟩)
            go_wp2_with (go_at_call 45; refine (to_any _ _ _).mono ?_; rintro e w6 ⟨rfl, hE6⟩; obtain ⟨u0, u1⟩ := (bOw.ext hE6).c2; have f0 := (bOw.ext hE6).frozen 0; have f1 := (bOw.ext hE6).frozen 1)
            go_roundw
            case rel => exact ⟨i + 1, (ci : Int), hi, by omega, by go_num, puts2 (bOw.ext hE6) _ _, Hup, below2 (hE.trans hE6) hgO _ _⟩
            case measure => simp [intOf]; omega
          · by_cases g2 : hi < (ci : Int)
            · have Hup := Lib.hid (show tl ≤ lo ∧ (ci : Int) ≤ th ∧ lo ≤ (ci : Int) ∧ ∀ j, j < i + 1 → lo ≤ (cI B m j : Int) ∧ (cI B m j : Int) ≤ (ci : Int) from ⟨by omega, by omega, by omega, fun j hj => by
                rcases (by omega : j < i ∨ j = i) with h | rfl
                · have := Hj.out j h; omega
                · rw [Hci.out]; omega⟩)
              go_wp2_with (go_at_call 45; refine (to_any _ _ _).mono ?_; rintro e w6 ⟨rfl, hE6⟩; obtain ⟨u0, u1⟩ := (bOw.ext hE6).c2; have f0 := (bOw.ext hE6).frozen 0; have f1 := (bOw.ext hE6).frozen 1)
              go_roundw
              case rel => exact ⟨i + 1, lo, (ci : Int), by omega, by go_num, puts2 (bOw.ext hE6) _ _, Hup, below2 (hE.trans hE6) hgO _ _⟩
              case measure => simp [intOf]; omega
            · have Hup := Lib.hid (show tl ≤ lo ∧ hi ≤ th ∧ lo ≤ hi ∧ ∀ j, j < i + 1 → lo ≤ (cI B m j : Int) ∧ (cI B m j : Int) ≤ hi from ⟨by omega, by omega, by omega, fun j hj => by
                rcases (by omega : j < i ∨ j = i) with h | rfl
                · have := Hj.out j h; omega
                · rw [Hci.out]; omega⟩)
              go_wp2_with (go_at_call 45; refine (to_any _ _ _).mono ?_; rintro e w6 ⟨rfl, hE6⟩; obtain ⟨u0, u1⟩ := (bOw.ext hE6).c2; have f0 := (bOw.ext hE6).frozen 0; have f1 := (bOw.ext hE6).frozen 1)
              go_roundw
              case rel => exact ⟨i + 1, lo, hi, by omega, by go_num, puts2 (bOw.ext hE6) _ _, Hup, below2 (hE.trans hE6) hgO _ _⟩
              case measure => simp [intOf]; omega
        · obtain rfl : i = N := by omega
          have hlo : lo = (tLo B m : Int) := by
            obtain ⟨j, hj, e⟩ := Hleast.out
            have := (Hj.out j hj).1
            have := Htl.out
            omega
          have hhi : hi = (tHi B m : Int) := by
            obtain ⟨j, hj, e⟩ := Hmost.out
            have := (Hj.out j hj).2
            have := Hth.out
            omega
          have Hlo := Lib.hid hlo
          have Hhi := Lib.hid hhi
          have rx := r0.ext (hX.trans (E1.trans hE))
          obtain ⟨r1, r2⟩ := rx.c2
          have f1 := rx.frozen 0
          have f2 := rx.frozen 1
          clear hlo hhi hH k1 k2
          go_wp2
          have rb := puts2 rx (.int .i64 lo) (.int .i64 hi)
          have eB := below2 (n := w.heap.size) (g := gR) (E0.trans (hX.trans (E1.trans hE))) hgw (.int .i64 lo) (.int .i64 hi)
          obtain ⟨y0, y1⟩ := rb.c2
          refine bodyPost_ret (v := .tuple #[.agg #[.int .i64 lo, .int .i64 hi], .int .i64 0]) ?_ rfl ⟨by rw [Hf.out.1, Hf.out.2, Hlo.out, Hhi.out], eB⟩
          simp [results, Tryd.results16, go_sem, y0, y1]
    · have Hf := Lib.hid (show turnLX B m = 0 ∧ turnHX B m = 0 by unfold turnLX turnHX; rw [if_neg (by rw [Hc.out]; exact hz), if_neg (by rw [Hc.out]; exact hz)]; exact ⟨rfl, rfl⟩)
      have hcn : (c != 0) = true := by simp [hz]
      obtain ⟨r1, r2⟩ := (r0.ext hX).c2
      have f1 := (r0.ext hX).frozen 0
      have f2 := (r0.ext hX).frozen 1
      go_wp2
      have rb : Blk ((wc.setCell ⟨gR, 0, none⟩ (.int .i64 0)).setCell ⟨gR, 1, none⟩ (.int .i64 0)) gR 29 #[.int .i64 0, .int .i64 0] := puts2 (r0.ext hX) _ _
      have eB : Below w.heap.size w ((wc.setCell ⟨gR, 0, none⟩ (.int .i64 0)).setCell ⟨gR, 1, none⟩ (.int .i64 0)) := below2 (E0.trans hX) (by omega) _ _
      obtain ⟨k0, k1⟩ := rb.c2
      refine bodyPost_ret (v := .tuple #[.agg #[.int .i64 0, .int .i64 0], .int .i64 c]) ?_ rfl ⟨by rw [Hf.out.1, Hf.out.2], eB⟩
      simp [results, Tryd.results16, go_sem, k0, k1]
end Go.Proofs.YtnhdcdhpfgdphaaDoor
