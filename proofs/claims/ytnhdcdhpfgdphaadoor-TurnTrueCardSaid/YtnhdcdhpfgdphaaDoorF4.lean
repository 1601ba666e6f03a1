/-
  TurnTrue: the walk.
-/
import Derived.Test.YtnhdcdhpfgdphaaDoorLT
import Derived.Test.YtnhdcdhpfgdphaaDoorL7
import Derived.Test.YtnhdcdhpfgdphaaDoorL8
import Derived.Test.YtnhdcdhpfgdphaaDoorA1
import Derived.Test.YtnhdcdhpfgdphaaDoorA2
set_option linter.unusedSimpArgs false
set_option linter.unusedVariables false
namespace Go.Proofs.YtnhdcdhpfgdphaaDoor
open Go Go.RowKit

theorem placeL_mem {xs : List Int} {n : Int} (h : n ∈ xs) : 0 ≤ placeL xs n := by
  unfold placeL
  cases hq : xs.findIdx? (· == n) with
  | some k => simp
  | none =>
    rw [List.findIdx?_eq_none_iff] at hq
    have := hq n h
    simp at this
theorem owners_rises {B : Bk} (hv : validB B = true) {s : Nat} (hs : s < B.orders.length) (m : Int) : risesF B.comp 0 (ownersL B s m) = true :=
  rises_yes _ _ (ownersL_sorted hv s m) (fun c hc => by
    obtain ⟨t, h1, h2, rfl⟩ := (mem_ownersL hv s m c).1 hc
    have h3 := tHi_le hv m
    obtain ⟨h4, h5⟩ := valid_row hv hs
    exact h5 t (by omega))

set_option maxRecDepth 100000 in
set_option maxHeartbeats 4000000 in
theorem turnTrue_no (B : Bk) (a1 a2 a3 ab : Option Addr) (c1 c2 c3 cb : Nat) (n0 n1 : Int) (bits : List Int) (w : World) (h : BookA w B a1 a2 a3) (hG : Glob w) (hv : validB B = false) :
    Calls Tryd.prog 6 #[.agg #[.int .i64 B.comp, .slice a1 B.bounds.length c1, .slice a2 B.orders.length c2, .slice a3 B.shots.length c3], .agg #[.int .i64 n0, .int .i64 n1], .slice ab bits.length cb] w
      fun e w' => e = .returned (.bool true) ∧ Ext w w' := by
  have HB := Lib.hid h
  have HG := Lib.hid hG
  clear h hG
  go_enter Tryd.func6, Tryd.ntmps6
  go_upto_region 1 with (fail)
  obtain ⟨W0, hW0⟩ : ∃ W0, W0 = (w.alloc (.cells #[.int .i64 B.comp, .slice a1 B.bounds.length c1, .slice a2 B.orders.length c2, .slice a3 B.shots.length c3] 26)).alloc (.cells #[.int .i64 n0, .int .i64 n1] 51) := ⟨_, rfl⟩
  have b0 : Blk W0 w.heap.size 26 #[.int .i64 B.comp, .slice a1 B.bounds.length c1, .slice a2 B.orders.length c2, .slice a3 B.shots.length c3] := by rw [hW0]; exact (Blk.new _ _ _).alloc _
  have m0 : Blk W0 (w.heap.size + 1) 51 #[.int .i64 n0, .int .i64 n1] := by rw [hW0]; have := Blk.new (w.alloc (.cells #[.int .i64 B.comp, .slice a1 B.bounds.length c1, .slice a2 B.orders.length c2, .slice a3 B.shots.length c3] 26)) 51 #[.int .i64 n0, .int .i64 n1]; simpa using this
  have E0 : Ext w W0 := by rw [hW0]; exact (Ext.alloc _ _).trans (Ext.alloc _ _)
  rw [← hW0]
  clear hW0
  obtain ⟨x0, x1, x2, x3⟩ := b0.c4
  go_wp2_with (first | (go_at_call 36; refine (sound_no B a1 a2 a3 c1 c2 c3 _ (HB.out.ext E0) hv).mono ?_; rintro e w1 ⟨rfl, hE1⟩) | (go_at_call 25; refine (shot_any _ (HG.out.ext (E0.trans hE1))).mono ?_; rintro e w2 ⟨rfl, hE2⟩))
  go_ret
  exact ⟨rfl, E0.trans (hE1.trans hE2)⟩

set_option maxRecDepth 100000 in
set_option maxHeartbeats 1000000 in
theorem turnTrue_yes (B : Bk) (a1 a2 a3 ab : Option Addr) (c1 c2 c3 cb : Nat) (n0 n1 : Int) (bits : List Int) (w : World) (h : BookA w B a1 a2 a3) (hG : Glob w) (hv : validB B = true) (k0 : -9223372036854775808 ≤ n0 ∧ n0 ≤ 9223372036854775807) (k1 : -9223372036854775808 ≤ n1 ∧ n1 ≤ 9223372036854775807)
    (hI0 : IntA w ab bits) (hbl : bits.length ≤ 9223372036854775807) (hbi : ∀ x ∈ bits, -9223372036854775808 ≤ x ∧ x ≤ 9223372036854775807) :
    Calls Tryd.prog 6 #[.agg #[.int .i64 B.comp, .slice a1 B.bounds.length c1, .slice a2 B.orders.length c2, .slice a3 B.shots.length c3], .agg #[.int .i64 n0, .int .i64 n1], .slice ab bits.length cb] w
      fun e w' => e = .returned (.bool true) ∧ Ext w w' := by
  obtain ⟨z1, z2, z3, z4, z5, z6⟩ := valid_sizes hv
  have hi := wheelZ_in n0 B.orders.length (by omega)
  obtain ⟨s, hse⟩ : ∃ s : Nat, wheelZ n0 B.orders.length = s := ⟨(wheelZ n0 B.orders.length).toNat, by omega⟩
  have ht := wheelZ_in n1 1440 (by omega)
  obtain ⟨m, hme⟩ : ∃ m, wheelZ n1 1440 = m := ⟨_, rfl⟩
  rw [hse] at hi
  rw [hme] at ht
  have hsl : s < B.orders.length := by omega
  have hmm : isMinB m = true := by simp [isMinB]; omega
  have Hse := Lib.hid hse
  have Hme := Lib.hid hme
  have HI := Lib.hid hI0
  clear hse hme hI0
  have HB := Lib.hid h
  have HG := Lib.hid hG
  clear h hG
  go_enter Tryd.func6, Tryd.ntmps6
  go_upto_region 1 with (fail)
  obtain ⟨W0, hW0⟩ : ∃ W0, W0 = (w.alloc (.cells #[.int .i64 B.comp, .slice a1 B.bounds.length c1, .slice a2 B.orders.length c2, .slice a3 B.shots.length c3] 26)).alloc (.cells #[.int .i64 n0, .int .i64 n1] 51) := ⟨_, rfl⟩
  have b0 : Blk W0 w.heap.size 26 #[.int .i64 B.comp, .slice a1 B.bounds.length c1, .slice a2 B.orders.length c2, .slice a3 B.shots.length c3] := by rw [hW0]; exact (Blk.new _ _ _).alloc _
  have m0 : Blk W0 (w.heap.size + 1) 51 #[.int .i64 n0, .int .i64 n1] := by rw [hW0]; have := Blk.new (w.alloc (.cells #[.int .i64 B.comp, .slice a1 B.bounds.length c1, .slice a2 B.orders.length c2, .slice a3 B.shots.length c3] 26)) 51 #[.int .i64 n0, .int .i64 n1]; simpa using this
  have E0 : Ext w W0 := by rw [hW0]; exact (Ext.alloc _ _).trans (Ext.alloc _ _)
  rw [← hW0]
  clear hW0
  obtain ⟨x0, x1, x2, x3⟩ := b0.c4
  go_upto_region 3 with (go_at_call 36; refine (sound_yes B a1 a2 a3 c1 c2 c3 _ (HB.out.ext E0) hv).mono ?_; rintro e w1 ⟨rfl, hE1⟩)
  clear x0 x1 x2 x3
  obtain ⟨x0, x1, x2, x3⟩ := (b0.ext hE1).c4
  obtain ⟨y0, y1⟩ := (m0.ext hE1).c2
  go_quiet ((go_at_call 37; exact (wheel_any _ _ _ (by omega) (by omega)).mono fun e w' q => ⟨q.1, _, q.2.symm⟩))
  rw [Hse.out, Hme.out]
  clear x0 x1 x2 x3 y0 y1 Hse Hme k0 k1 m0
  obtain ⟨W1, hW1⟩ : ∃ W1, W1 = w1.drewN nq := ⟨_, rfl⟩
  have X1 : Ext W0 W1 := by rw [hW1]; exact hE1.trans (Ext.drewN _ _)
  rw [← hW1]
  clear hW1 hE1
  obtain ⟨x0, x1, x2, x3⟩ := (b0.ext X1).c4
  go_upto_region 5 with (go_at_call 15; refine (turn_yes B a1 a2 a3 c1 c2 c3 m _ ((HB.out.ext E0).ext X1) ((HG.out.ext E0).ext X1) hv hmm).mono ?_; rintro e w2 ⟨rfl, hE2⟩)
  obtain ⟨W3, hW3⟩ : ∃ W3, W3 = w2.alloc (.cells #[.int .i64 (tLo B m), .int .i64 (tHi B m)] 29) := ⟨_, rfl⟩
  have X3 : Ext W0 W3 := by rw [hW3]; exact X1.trans (hE2.trans (Ext.alloc _ _))
  have t3 : Blk W3 w2.heap.size 29 #[.int .i64 (tLo B m), .int .i64 (tHi B m)] := by rw [hW3]; exact Blk.new _ _ _
  rw [← hW3]
  clear hW3 x0 x1 x2 x3
  obtain ⟨gs, hgs⟩ : ∃ gs, gs = w2.heap.size := ⟨_, rfl⟩
  rw [← hgs] at t3 ⊢
  clear hgs
  obtain ⟨x0, x1, x2, x3⟩ := (b0.ext X3).c4
  go_upto_region 6 with (go_at_call 19; refine (owners_yes B a1 a2 a3 c1 c2 c3 s m _ ((HB.out.ext E0).ext X3) ((HG.out.ext E0).ext X3) hv hsl hmm).mono ?_; rintro e w4 ⟨⟨al, cl, rfl, hI⟩, hE4⟩)
  have X4 := X3.trans hE4
  clear x0 x1 x2 x3
  obtain ⟨x0, x1, x2, x3⟩ := (b0.ext X4).c4
  go_upto_region 7 with (go_at_call 38; refine (truly_any B a1 a2 a3 ab c1 c2 c3 cb bits s m _ ((HB.out.ext E0).ext X4) hv hsl ((HI.out.ext E0).ext X4) hbl hbi).mono ?_; rintro e w5 ⟨rfl, hE5⟩)
  have X5 := X4.trans hE5
  clear x0 x1 x2 x3
  have hti := true_in hv bits m
  have hK : inB (trueN B bits m) (tLo B m) (tHi B m) = true := by simp [inB]; omega
  have hri := owners_rises hv hsl m
  have hpl := placeL_mem (true_owner hv bits s m)
  have hol := ownersL_len hv s m
  obtain ⟨y0, y1⟩ := (t3.ext (hE4.trans hE5)).c2
  obtain ⟨x0, x1, x2, x3⟩ := (b0.ext X5).c4
  go_upto_region 9 with (first | (go_at_call 39; refine (holds_any _ _ _ _).mono ?_; rintro e w6 ⟨rfl, hE6⟩; obtain ⟨u0, u1, u2, u3⟩ := (b0.ext (X5.trans hE6)).c4) | (go_at_call 40; refine (rises_any al (ownersL B s m) cl B.comp _ (hI.ext (hE5.trans hE6)) (by omega) (by omega)).mono ?_; rintro e w7 ⟨rfl, rfl⟩) | (go_at_call 41; refine (place_any al (ownersL B s m) cl _ _ (hI.ext (hE5.trans hE6)) (by omega)).mono ?_; rintro e w8 ⟨rfl, rfl⟩))
  have X6 := X5.trans hE6
  clear x0 x1 x2 x3 y0 y1 u0 u1 u2 u3 hK hri hpl hol hti t3 hI
  obtain ⟨x0, x1, x2, x3⟩ := (b0.ext X6).c4
  go_upto_region 12 with (go_at_call 32; refine (wrong_yes B a1 a2 a3 c1 c2 c3 _ ((HB.out.ext E0).ext X6) ((HG.out.ext E0).ext X6) hv).mono ?_; rintro e w9 ⟨⟨aw, cw, rfl, hIw⟩, hE9⟩)
  have X9 := X6.trans hE9
  clear x0 x1 x2 x3 hIw
  go_loopw [17, 18] (fun u i wr => ∃ k : Nat, k ≤ B.shots.length ∧ i = .int .i64 k ∧ u = .int .i64 (unfairN B bits k) ∧ Ext w9 wr) (fun _ i _ => B.shots.length - (intOf i).toNat)
  case atStart => exact ⟨0, Nat.zero_le _, rfl, rfl, Ext.refl _⟩
  case round =>
    obtain ⟨k, hk, rfl, rfl, hE⟩ := hrel
    have XR := X9.trans hE
    obtain ⟨x0, x1, x2, x3⟩ := (b0.ext XR).c4
    by_cases hlt : k < B.shots.length
    · obtain ⟨v1, v2, v3, v4, v5, v6, v7, v8⟩ := valid_shot hv hlt
      have hfr := fair_range B (sAt B.shots k)
      have hu2 := unfair_two hv bits hlt
      have hu0 := unfair_zero hv bits hlt
      have hus := unfairN_succ B bits k
      have hul : unfairN B bits k ≤ k := by
        have := List.length_filter_le (unfairB B bits) (List.range k)
        simpa [unfairN] using this
      have hwi := when_in hv bits hlt
      have hpk := pick_in hbi ((k : Int) + 3)
      have hub : unfairB B bits k = true ↔ nAt (oAt B.orders (sAt B.shots k).st.toNat) (trueN B bits (someZ (sAt B.shots k).lo (sAt B.shots k).hi (pickL bits ((k : Int) + 3)))) ≠ (sAt B.shots k).co := decide_eq_true_iff
      have hfy := fun W (hW : Ext wr W) => fair_yes B a1 a2 a3 c1 c2 c3 k W (((HB.out.ext E0).ext XR).ext hW) (((HG.out.ext E0).ext XR).ext hW) hv hlt
      obtain ⟨b, o, rfl, hbb, hc⟩ := ((HB.out.ext E0).ext XR).shots (by omega)
      obtain ⟨q0, q1, q2, q3⟩ := hc k hlt
      obtain ⟨st, hst⟩ : ∃ st : Nat, (sAt B.shots k).st = st := ⟨(sAt B.shots k).st.toNat, by omega⟩
      obtain ⟨co, hco⟩ : ∃ co, (sAt B.shots k).co = co := ⟨_, rfl⟩
      obtain ⟨lo, hlo⟩ : ∃ lo, (sAt B.shots k).lo = lo := ⟨_, rfl⟩
      obtain ⟨hh, hhh⟩ : ∃ hh, (sAt B.shots k).hi = hh := ⟨_, rfl⟩
      obtain ⟨kd, hkd⟩ : ∃ kd, fairN B (sAt B.shots k) = kd := ⟨_, rfl⟩
      rw [hkd] at hfr hu2 hu0 hfy
      rw [hst] at q0 v1 v2 hub
      rw [hco] at q1 hub
      rw [hlo, hhh] at hub
      rw [hlo] at q2 v5 v6
      rw [hhh] at q3 v6 v7
      simp only [Int.toNat_natCast] at hub
      obtain ⟨p, hp⟩ : ∃ p, unfairB B bits k = p := ⟨_, rfl⟩
      rw [hp] at hu2 hu0 hus hub
      have Hfy := Lib.hid hfy
      have Hus := Lib.hid hus
      have Hub := Lib.hid hub
      have Hu2 := Lib.hid hu2
      have Hu0 := Lib.hid hu0
      clear hc hst hco hlo hhh hkd hp hfy hus hub hu2 hu0 hwi
      go_upto_region 15 with (fail)
      obtain ⟨W10, hW10⟩ : ∃ W10, W10 = wr.alloc (.cells #[.int .i64 (st : Int), .int .i64 co, .int .i64 lo, .int .i64 hh] 59) := ⟨_, rfl⟩
      have Z10 : Ext wr W10 := by rw [hW10]; exact Ext.alloc _ _
      have s10 : Blk W10 wr.heap.size 59 #[.int .i64 (st : Int), .int .i64 co, .int .i64 lo, .int .i64 hh] := by rw [hW10]; exact Blk.new _ _ _
      rw [← hW10]
      clear hW10 x0 x1 x2 x3 q0 q1 q2 q3
      obtain ⟨gx, hgx⟩ : ∃ g, g = wr.heap.size := ⟨_, rfl⟩
      rw [← hgx] at s10 ⊢
      clear hgx
      obtain ⟨x0, x1, x2, x3⟩ := (b0.ext (XR.trans Z10)).c4
      go_upto_region 16 with (go_at_call 26; refine (Hfy.out _ Z10).mono ?_; rintro e w11 ⟨rfl, hE11⟩)
      have Z11 := Z10.trans hE11
      have HS := Lib.hid (fun W (hW : Ext w11 W) => (⟨(b0.ext ((XR.trans Z11).trans hW)).c4, (s10.ext (hE11.trans hW)).c4⟩ : ((W.cell? ⟨w.heap.size, 0, none⟩ = some (.int .i64 B.comp) ∧ W.cell? ⟨w.heap.size, 1, none⟩ = some (.slice a1 B.bounds.length c1) ∧ W.cell? ⟨w.heap.size, 2, none⟩ = some (.slice a2 B.orders.length c2) ∧ W.cell? ⟨w.heap.size, 3, none⟩ = some (.slice (some ⟨b, o, none⟩) B.shots.length c3)) ∧ (W.cell? ⟨gx, 0, none⟩ = some (.int .i64 (st : Int)) ∧ W.cell? ⟨gx, 1, none⟩ = some (.int .i64 co) ∧ W.cell? ⟨gx, 2, none⟩ = some (.int .i64 lo) ∧ W.cell? ⟨gx, 3, none⟩ = some (.int .i64 hh)))))
      clear x0 x1 x2 x3
      refine wp_plan (fun W => ((W.cell? ⟨w.heap.size, 0, none⟩ = some (.int .i64 B.comp) ∧ W.cell? ⟨w.heap.size, 1, none⟩ = some (.slice a1 B.bounds.length c1) ∧ W.cell? ⟨w.heap.size, 2, none⟩ = some (.slice a2 B.orders.length c2) ∧ W.cell? ⟨w.heap.size, 3, none⟩ = some (.slice (some ⟨b, o, none⟩) B.shots.length c3)) ∧ (W.cell? ⟨gx, 0, none⟩ = some (.int .i64 (st : Int)) ∧ W.cell? ⟨gx, 1, none⟩ = some (.int .i64 co) ∧ W.cell? ⟨gx, 2, none⟩ = some (.int .i64 lo) ∧ W.cell? ⟨gx, 3, none⟩ = some (.int .i64 hh)))) (.tames [0, 1, 2, 3, 4, 5, 6, 7, 10] (.one 8 (.one 9 (.one 11 (.tames [12, 13, 14, 15, 16] (.done)))))) (by kernel_rfl) (by kernel_rfl) (by kernel_rfl) (fun c a d v w h => by cases d <;> exact h) ?_ ?_
      · exact HS.out _ (Ext.drew _)
      refine pl_tames ?_
      (try simp only [Act.put, List.setIfInBounds_toArray, List.set_cons_zero, List.set_cons_succ])
      repeat (first
        | (refine pl_run (v := ?_) rfl ?_ (fun W hW => ?_) ?_; rotate_left; rfl; ((try dsimp only at hW); go_simp; try with_reducible rfl); (try simp only [Act.put, List.setIfInBounds_toArray, List.set_cons_zero, List.set_cons_succ]))
        | (refine pl_skip rfl ?_ ?_; rfl; (try simp only [Act.put, List.setIfInBounds_toArray, List.set_cons_zero, List.set_cons_succ])))
      refine pl_end ?_
      have hIr := ((HI.out.ext E0).ext (XR.trans Z11)).ext (Ext.drew _)
      rw [wr64 ((k : Int) + 3) (by omega)]
      refine pl_one rfl (by rfl) (fun K hK => ?_)
      go_simp
      (go_at_call 43; refine (pick_any ab bits cb ((k : Int) + 3) _ hIr hbl (by omega)).mono ?_; rintro e v1 ⟨rfl, rfl⟩)
      refine hK.out _ _ (HS.out _ (Ext.drew _)) ?_
      clear hK K
      (try refine pl_tames ?_)
      (try simp only [Act.put, List.setIfInBounds_toArray, List.set_cons_zero, List.set_cons_succ])
      try ((repeat (first   | (refine pl_run (v := ?_) rfl ?_ (fun W hW => ?_) ?_; rotate_left; rfl; ((try dsimp only at hW); go_simp; try with_reducible rfl); (try simp only [Act.put, List.setIfInBounds_toArray, List.set_cons_zero, List.set_cons_succ]))   | (refine pl_skip rfl ?_ ?_; rfl; (try simp only [Act.put, List.setIfInBounds_toArray, List.set_cons_zero, List.set_cons_succ])))); refine pl_end ?_)
      refine pl_one rfl (by rfl) (fun K hK => ?_)
      go_simp
      (go_at_call 42; refine (some_any lo hh (pickL bits ((k : Int) + 3)) _ v5 v6 v7 hpk).mono ?_; rintro e w12 ⟨rfl, hV2⟩)
      refine hK.out _ _ (HS.out _ ((Ext.drew _).trans hV2)) ?_
      clear hK K
      (try refine pl_tames ?_)
      (try simp only [Act.put, List.setIfInBounds_toArray, List.set_cons_zero, List.set_cons_succ])
      try ((repeat (first   | (refine pl_run (v := ?_) rfl ?_ (fun W hW => ?_) ?_; rotate_left; rfl; ((try dsimp only at hW); go_simp; try with_reducible rfl); (try simp only [Act.put, List.setIfInBounds_toArray, List.set_cons_zero, List.set_cons_succ]))   | (refine pl_skip rfl ?_ ?_; rfl; (try simp only [Act.put, List.setIfInBounds_toArray, List.set_cons_zero, List.set_cons_succ])))); refine pl_end ?_)
      refine pl_one rfl (by rfl) (fun K hK => ?_)
      go_simp
      (go_at_call 38; refine (truly_any B a1 a2 _ ab c1 c2 c3 cb bits st _ _ (((HB.out.ext E0).ext (XR.trans Z11)).ext ((Ext.drew _).trans hV2)) hv (by omega) (hIr.ext hV2) hbl hbi).mono ?_; rintro e w13 ⟨rfl, hV3⟩)
      refine hK.out _ _ (HS.out _ (((Ext.drew _).trans hV2).trans hV3)) ?_
      clear hK K
      (try refine pl_tames ?_)
      (try simp only [Act.put, List.setIfInBounds_toArray, List.set_cons_zero, List.set_cons_succ])
      try ((repeat (first   | (refine pl_run (v := ?_) rfl ?_ (fun W hW => ?_) ?_; rotate_left; rfl; ((try dsimp only at hW); go_simp; try with_reducible rfl); (try simp only [Act.put, List.setIfInBounds_toArray, List.set_cons_zero, List.set_cons_succ]))   | (refine pl_skip rfl ?_ ?_; rfl; (try simp only [Act.put, List.setIfInBounds_toArray, List.set_cons_zero, List.set_cons_succ])))); refine pl_end ?_)
      refine pl_done ?_
      (try simp only [Act.put])
      have EV := Z11.trans (((Ext.drew w11).trans hV2).trans hV3)
      obtain ⟨⟨x0, x1, x2, x3⟩, y0, y1, y2, y3⟩ := HS.out _ (((Ext.drew _).trans hV2).trans hV3)
      clear HS
      obtain ⟨it, hit⟩ : ∃ it, it = nAt (oAt B.orders st) (trueN B bits (someZ lo hh (pickL bits ((k : Int) + 3)))) := ⟨_, rfl⟩
      have hub := Hub.out
      rw [← hit] at hub ⊢
      clear hit
      have i1 : inB 0 0 2 = true := by decide
      have i2 : inB 1 0 2 = true := by decide
      have i3 : inB 2 0 2 = true := by decide
      cases p with
      | false =>
        have e0 : it = co := Classical.byContradiction fun h => by have := hub.2 h; cases this
        have e1 : (it == co) = true := by simp [e0]
        have e2 : (it != co) = false := by simp [e0]
        have hs : Hid (unfairN B bits (k + 1) = unfairN B bits k) := Lib.hid (by rw [Hus.out]; simp)
        have hn0 : kd ≠ 0 := fun e => by have := Hu0.out e; cases this
        clear hub e0
        rcases (by omega : kd = 1 ∨ kd = 2) with rfl | rfl
        · go_upto_region 17 with (fail)
          go_wp2_with (go_at_call 44; refine (between_any _ _ _ _).mono ?_; rintro e w10 ⟨rfl, rfl⟩)
          go_roundw
          case rel => exact ⟨k + 1, by omega, by go_num, by rw [hs.out], hE.trans EV⟩
          case measure => simp [intOf]; omega
        · go_upto_region 17 with (fail)
          go_wp2_with (go_at_call 44; refine (between_any _ _ _ _).mono ?_; rintro e w10 ⟨rfl, rfl⟩)
          go_roundw
          case rel => exact ⟨k + 1, by omega, by go_num, by rw [hs.out], hE.trans EV⟩
          case measure => simp [intOf]; omega
      | true =>
        have e0 : it ≠ co := hub.1 rfl
        have e1 : (it == co) = false := by simp [e0]
        have e2 : (it != co) = true := by simp [e0]
        have hs : Hid (unfairN B bits (k + 1) = unfairN B bits k + 1) := Lib.hid (by rw [Hus.out]; simp)
        have hn2 : kd ≠ 2 := fun e => by have := Hu2.out e; cases this
        clear hub e0
        rcases (by omega : kd = 0 ∨ kd = 1) with rfl | rfl
        · go_upto_region 17 with (fail)
          go_wp2_with (go_at_call 44; refine (between_any _ _ _ _).mono ?_; rintro e w10 ⟨rfl, rfl⟩)
          go_roundw
          case rel => exact ⟨k + 1, by omega, by go_num, by rw [hs.out]; rfl, hE.trans EV⟩
          case measure => simp [intOf]; omega
        · go_upto_region 17 with (fail)
          go_wp2_with (go_at_call 44; refine (between_any _ _ _ _).mono ?_; rintro e w10 ⟨rfl, rfl⟩)
          go_roundw
          case rel => exact ⟨k + 1, by omega, by go_num, by rw [hs.out]; rfl, hE.trans EV⟩
          case measure => simp [intOf]; omega
    · obtain rfl : k = B.shots.length := by omega
      have hle := wrong_le hv bits
      go_wp2_with (go_at_call 25; refine (shot_any _ ((HG.out.ext E0).ext XR)).mono ?_; rintro e w10 ⟨rfl, hE10⟩)
      go_ret
      exact ⟨rfl, E0.trans (XR.trans hE10)⟩
theorem turnTrue_walk (B : Bk) (a1 a2 a3 : Option Addr) (c1 c2 c3 : Nat) (n0 n1 : Int) (bits : List Int) (ab : Option Addr) (cb : Nat) (w : World) (h : BookA w B a1 a2 a3) (hG : Glob w) (k0 : -9223372036854775808 ≤ n0 ∧ n0 ≤ 9223372036854775807) (k1 : -9223372036854775808 ≤ n1 ∧ n1 ≤ 9223372036854775807)
    (hI0 : IntA w ab bits) (hbl : bits.length ≤ 9223372036854775807) (hbi : ∀ x ∈ bits, -9223372036854775808 ≤ x ∧ x ≤ 9223372036854775807) :
    Calls Tryd.prog 6 #[.agg #[.int .i64 B.comp, .slice a1 B.bounds.length c1, .slice a2 B.orders.length c2, .slice a3 B.shots.length c3], .agg #[.int .i64 n0, .int .i64 n1], .slice ab bits.length cb] w
      fun e w' => e = .returned (.bool true) ∧ Ext w w' := by
  cases hv : validB B with
  | false => exact turnTrue_no B a1 a2 a3 ab c1 c2 c3 cb n0 n1 bits w h hG hv
  | true => exact turnTrue_yes B a1 a2 a3 ab c1 c2 c3 cb n0 n1 bits w h hG hv k0 k1 hI0 hbl hbi
end Go.Proofs.YtnhdcdhpfgdphaaDoor
