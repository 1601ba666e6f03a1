/-
  together: can some shots all be fair in one truth?
-/
import Derived.Test.YtnhdcdhpfgdphaaDoorU
set_option linter.unusedSimpArgs false
set_option linter.unusedVariables false
namespace Go.Proofs.YtnhdcdhpfgdphaaDoor
open Go Go.RowKit Go.Shelf

attribute [local go_sem] Oper.semAt_some

/-- Is a shot at a minute fair in a truth? -/
def fitX (B : Bk) (t : Q4) (x : Sh) (m : Int) : Bool := fitB B (q4L t) x.st.toNat x.co m
theorem fits_any (B : Bk) (a1 a2 a3 : Option Addr) (c1 c2 c3 mp : Nat) (t0 t1 t2 t3 : Int) (x : Sh) (m : Int) (w : World) (hG : Glob w) (hM : MapA w mp (ownL B.orders B.orders.length)) (hv : validB B = true) (hs : 0 ≤ x.st ∧ x.st < B.orders.length) (hm : 0 ≤ m) :
    Calls Tryd.prog 97 #[.agg #[.int .i64 B.comp, .slice a1 B.bounds.length c1, .slice a2 B.orders.length c2, .slice a3 B.shots.length c3, .map (some mp)], .agg #[.int .i64 t0, .int .i64 t1, .int .i64 t2, .int .i64 t3], .agg #[.int .i64 x.st, .int .i64 x.co, .int .i64 x.lo, .int .i64 x.hi], .int .i64 m] w
      fun e w' => e = .returned (.bool (fitX B (t0, t1, t2, t3) x m)) ∧ Ext w w' := by
  obtain ⟨st, co, lo, hi⟩ := x
  obtain ⟨s, rfl⟩ : ∃ s : Nat, st = s := ⟨st.toNat, by simp at hs; omega⟩
  exact fits_st B a1 a2 a3 c1 c2 c3 mp t0 t1 t2 t3 s co lo hi m w hG hM hv (by simpa using hs.2) hm

/-- Can a shot be fair in a truth, at one of its first k minutes? -/
def canK (B : Bk) (t : Q4) (x : Sh) (k : Nat) : Bool := (List.range k).any fun i => fitX B t x (x.lo + i)
theorem canK_succ (B : Bk) (t : Q4) (x : Sh) (k : Nat) : canK B t x (k + 1) = (canK B t x k || fitX B t x (x.lo + k)) := by simp [canK, List.range_succ]
def canX (B : Bk) (t : Q4) (x : Sh) : Bool := canK B t x (x.hi - x.lo + 1).toNat
def allK (B : Bk) (t : Q4) (L : List Sh) (k : Nat) : Bool := (List.range k).all fun i => canX B t (sAt L i)
theorem allK_succ (B : Bk) (t : Q4) (L : List Sh) (k : Nat) : allK B t L (k + 1) = (allK B t L k && canX B t (sAt L k)) := by simp [allK, List.range_succ]
def allX (B : Bk) (t : Q4) (L : List Sh) : Bool := allK B t L L.length
theorem allX_not {B : Bk} {t : Q4} {L : List Sh} {k : Nat} (hk : k < L.length) (h : canX B t (sAt L k) = false) : allX B t L = false := by
  simp only [allX, allK, List.all_eq_false, List.mem_range]
  exact ⟨k, hk, by simp [h]⟩
def togB (B : Bk) (L : List Sh) : Bool := (truthsL B).any fun t => allX B t L

/-- What is asked of each shot. -/
def okSh (B : Bk) (x : Sh) : Prop := 0 ≤ x.st ∧ x.st < B.orders.length ∧ 0 ≤ x.lo ∧ x.lo ≤ x.hi ∧ x.hi < 1440

set_option maxRecDepth 100000 in
set_option maxHeartbeats 4000000 in
theorem together_any (B : Bk) (a1 a2 a3 al : Option Addr) (c1 c2 c3 mp cl : Nat) (L : List Sh) (w : World) (h : BookA w B a1 a2 a3) (hG : Glob w) (hM : MapA w mp (ownL B.orders B.orders.length)) (hv : validB B = true) (hL : ShotA w al L) (hl5 : L.length ≤ 5) (hok : ∀ i, i < L.length → okSh B (sAt L i)) :
    Calls Tryd.prog 82 #[.agg #[.int .i64 B.comp, .slice a1 B.bounds.length c1, .slice a2 B.orders.length c2, .slice a3 B.shots.length c3, .map (some mp)], .slice al L.length cl] w
      fun e w' => e = .returned (.bool (togB B L)) ∧ Ext w w' := by
  refine (callsIn_wide (n := 3)).1 ?_
  refine callsIn_of_wp_marks Tryd.func82 rfl trivial ?_
  simp only [Tryd.ntmps82, List.size_toArray, List.length_cons, List.length_nil, Nat.reduceAdd, Nat.reduceSub, Array.replicate_succ, Array.replicate_zero, List.push_toArray, List.append_toArray, List.nil_append, List.cons_append]
  gi_wp2_with (fail)
  refine wpIn_scope ?_
  refine wpIn_seq ?_
  refine wpIn_label ?_
  simp only [Exit.then]
  obtain ⟨W0, hW0⟩ : ∃ W0, W0 = ((w.alloc (.cells #[.int .i64 B.comp, .slice a1 B.bounds.length c1, .slice a2 B.orders.length c2, .slice a3 B.shots.length c3, .map (some mp)] 81)).alloc (.cells #[.slice al L.length cl] 24)).alloc (.cells #[.bool false] 4) := ⟨_, rfl⟩
  have E0 : Ext w W0 := by rw [hW0]; exact ((Ext.alloc _ _).trans (Ext.alloc _ _)).trans (Ext.alloc _ _)
  have b0 : Blk W0 w.heap.size 81 #[.int .i64 B.comp, .slice a1 B.bounds.length c1, .slice a2 B.orders.length c2, .slice a3 B.shots.length c3, .map (some mp)] := by rw [hW0]; exact ((Blk.new _ _ _).alloc _).alloc _
  have s0 : Blk W0 (w.heap.size + 1) 24 #[.slice al L.length cl] := by rw [hW0]; have := Blk.new (w.alloc (.cells #[.int .i64 B.comp, .slice a1 B.bounds.length c1, .slice a2 B.orders.length c2, .slice a3 B.shots.length c3, .map (some mp)] 81)) 24 #[.slice al L.length cl]; simpa using this.alloc _
  have r0 : Blk W0 (w.heap.size + 1 + 1) 4 #[.bool false] := by rw [hW0]; have := Blk.new ((w.alloc (.cells #[.int .i64 B.comp, .slice a1 B.bounds.length c1, .slice a2 B.orders.length c2, .slice a3 B.shots.length c3, .map (some mp)] 81)).alloc (.cells #[.slice al L.length cl] 24)) 4 #[.bool false]; simpa using this
  rw [← hW0]
  clear hW0
  obtain ⟨x0, x1, x2, x3, x4⟩ := b0.c5
  gi_wp2_with (refine ⟨trivial, ?_⟩; gi_at_call 98; refine (callsIn_wide.2 (truths_any _ _ _ _ _ _ _ _ _ _ _ _)).mono ?_; rintro e w' ⟨rfl, hw1⟩)
  obtain ⟨W1, hW1⟩ : ∃ W1, W1 = W0.alloc (.cells #[.int .i64 B.comp, .slice a1 B.bounds.length c1, .slice a2 B.orders.length c2, .slice a3 B.shots.length c3, .map (some mp)] 81) := ⟨_, rfl⟩
  have E1 : Ext W0 W1 := by rw [hW1]; exact Ext.alloc _ _
  have b1 : Blk W1 W0.heap.size 81 #[.int .i64 B.comp, .slice a1 B.bounds.length c1, .slice a2 B.orders.length c2, .slice a3 B.shots.length c3, .map (some mp)] := by rw [hW1]; exact Blk.new _ _ _
  rw [← hW1]
  clear hW1 hw1 x0 x1 x2 x3 x4 w'
  have EW : Ext w W1 := E0.trans E1
  have hz1 : w.heap.size + 1 + 1 < W1.heap.size := Nat.lt_of_lt_of_le r0.lt E1.size
  refine wpIn_rangeFunc_far rfl (by omega) (gf := 105) (lb := #[.pointer (some ⟨W0.heap.size, 0, none⟩)]) rfl trivial (enters_of Tryd.func105 (by kernel_rfl) rfl)
    (truths1_far B a1 a2 a3 c1 c2 c3 mp hv (3 - 1) W0.heap.size W1 b1 (h.bounds.ext EW)) (fun _ => rfl)
    (fun pre W => (∀ t ∈ pre, allX B t L = false) ∧ Ext W1 W)
    (fun c pre W => c = .ret ∧ (∃ t ∈ pre, allX B t L = true) ∧ Below w.heap.size w W ∧ Blk W (w.heap.size + 1 + 1) 4 #[.bool true])
    (fun s X Y hs hb => ⟨hs.1, Below.trans hs.2 hb⟩)
    (fun c s X Y hs hb => ⟨hs.1, hs.2.1, Below.trans hs.2.2.1 (hb.mono (by omega)), hs.2.2.2.below hb hz1⟩)
    ⟨by simp, Ext.refl _⟩
    (fun x a' W => ∃ Bx, Blk W Bx 117 (q4C x) ∧ a' = { tmps := #[.agg #[.int .i64 B.comp, .slice a1 B.bounds.length c1, .slice a2 B.orders.length c2, .slice a3 B.shots.length c3, .map (some mp)], .slice al L.length cl, .pointer (some ⟨w.heap.size, 0, none⟩), .pointer (some ⟨w.heap.size + 1, 0, none⟩), .pointer (some ⟨w.heap.size + 1 + 1, 0, none⟩), .pointer (some ⟨Bx, 0, none⟩), undef, undef, undef, undef, .agg #[.int .i64 B.comp, .slice a1 B.bounds.length c1, .slice a2 B.orders.length c2, .slice a3 B.shots.length c3, .map (some mp)], .func (.func 105) #[] #[.pointer (some ⟨W0.heap.size, 0, none⟩)], .agg (q4C x), undef, undef, undef, undef, undef, undef, undef, undef, undef, undef, undef, undef, undef, undef, undef, undef, undef, undef, undef, undef, undef, undef, undef, undef, undef, undef, undef, undef, undef, undef, undef, undef, undef], defers := [] })
    (fun x a' X Y hs hk => by obtain ⟨Bx, h1, h2⟩ := hs; exact ⟨Bx, hk.blk h1, h2⟩)
    ?assign ?body ?done ?stop
  case assign =>
    rintro l pre ⟨t0, t1, t2, t3⟩ W K ⟨hi, hE⟩ hsz hK
    dsimp only [q4C] at hK ⊢
    gi_wp2
    exact hK _ _ (Ext.alloc _ _) ⟨W.heap.size, Blk.new _ _ _, rfl⟩
  case body =>
    rintro l pre ⟨t0, t1, t2, t3⟩ a' W ⟨hi, hE⟩ hsz ⟨Bx, hX, rfl⟩ hlt
    have EW2 := EW.trans hE
    have ET := E1.trans hE
    have y0 := (s0.ext ET).c1
    dsimp only [q4C]
    gi_wp2_with (fail)
    clear y0
    gi_loopw [15] (fun i wr => ∃ k : Nat, i = .int .i64 k ∧ k ≤ L.length ∧ Ext W wr ∧ allK B (t0, t1, t2, t3) L k = true) (fun i _ => L.length - (intOf i).toNat)
    case atStart => exact ⟨0, rfl, Nat.zero_le _, Ext.refl _, rfl⟩
    case round =>
      obtain ⟨k, rfl, hk, hE2, hall⟩ := hrel
      have hS := hL.ext (EW2.trans hE2)
      by_cases hlt2 : k < L.length
      · obtain ⟨b, o, rfl, hbl, hc⟩ := hS (by omega)
        obtain ⟨q0, q1, q2, q3⟩ := hc k hlt2
        obtain ⟨hs1, hs2, h0, h1, h2⟩ := hok k hlt2
        have Hall := Lib.hid hall
        have Hi := Lib.hid hi
        clear hc hall hi
        gi_upto_region 6 with (fail)
        obtain ⟨W5, hW5⟩ : ∃ W5, W5 = wr.alloc (.cells #[.int .i64 (sAt L k).st, .int .i64 (sAt L k).co, .int .i64 (sAt L k).lo, .int .i64 (sAt L k).hi] 59) := ⟨_, rfl⟩
        have E5 : Ext W W5 := by rw [hW5]; exact hE2.trans (Ext.alloc _ _)
        have s5 : Blk W5 wr.heap.size 59 #[.int .i64 (sAt L k).st, .int .i64 (sAt L k).co, .int .i64 (sAt L k).lo, .int .i64 (sAt L k).hi] := by rw [hW5]; exact Blk.new _ _ _
        rw [← hW5]
        clear hW5
        obtain ⟨v0, v1, v2, v3⟩ := s5.c4
        gi_wp2_with (fail)
        clear v0 v1 v2 v3 q0 q1 q2 q3
        gi_loopw [8, 27] (fun c n wy => ∃ j : Nat, n = .int .i64 j ∧ j ≤ ((sAt L k).hi - (sAt L k).lo + 1).toNat ∧ c = .bool (canK B (t0, t1, t2, t3) (sAt L k) j) ∧ Ext W5 wy) (fun _ n _ => ((sAt L k).hi - (sAt L k).lo + 1).toNat - (intOf n).toNat)
        case atStart => exact ⟨0, rfl, Nat.zero_le _, rfl, Ext.refl _⟩
        case round =>
          obtain ⟨j, rfl, hj, rfl, hE6⟩ := hrel
          have E6 := E5.trans hE6
          have hcs := canK_succ B (t0, t1, t2, t3) (sAt L k) j
          obtain ⟨c, hc⟩ : ∃ c, c = canK B (t0, t1, t2, t3) (sAt L k) j := ⟨_, rfl⟩
          by_cases hjl : j < ((sAt L k).hi - (sAt L k).lo + 1).toNat
          · rw [← hc] at hcs ⊢
            have Hcs := Lib.hid hcs
            clear hc hcs
            cases c with
            | true =>
              gi_wp2_with (fail)
              refine ⟨trivial, ?_⟩
              gi_wp2_with (fail)
              go_roundw
              case rel => exact ⟨j + 1, by go_num, by omega, by rw [Hcs.out]; rfl, hE6⟩
              case measure => simp [intOf]; omega
            | false =>
              obtain ⟨x0, x1, x2, x3, x4⟩ := (b0.ext (ET.trans E6)).c5
              obtain ⟨v0, v1, v2, v3⟩ := (s5.ext hE6).c4
              obtain ⟨z0, z1, z2, z3⟩ := (hX.ext E6).c4
              have hcall := fits_any B a1 a2 a3 c1 c2 c3 mp t0 t1 t2 t3 (sAt L k) ((sAt L k).lo + j) wr (hG.ext (EW2.trans E6)) (hM.ext (EW2.trans E6)) hv ⟨hs1, hs2⟩ (by omega)
              gi_wp2_with (refine ⟨trivial, ?_⟩; gi_at_call 97; refine (CallsIn.inRound l (callsIn_wide.2 hcall)).mono ?_; clear hcall; rintro e w' ⟨rfl, hE7⟩)
              go_roundw
              case rel => exact ⟨j + 1, by go_num, by omega, by rw [Hcs.out]; rfl, hE6.trans hE7⟩
              case measure => simp [intOf]; omega
          · obtain rfl : j = ((sAt L k).hi - (sAt L k).lo + 1).toNat := by omega
            have hcx : c = canX B (t0, t1, t2, t3) (sAt L k) := hc
            rw [← hc]
            have Hcx := Lib.hid hcx
            clear hc hcs hcx
            cases c with
            | true =>
              gi_wp2_with (fail)
              go_roundw
              case rel => exact ⟨k + 1, by go_num, by omega, E6, by rw [allK_succ, Hall.out, ← Hcx.out]; rfl⟩
              case measure => simp [intOf]; omega
            | false =>
              gi_wp2_with (fail)
              refine ⟨E6, ?_, hE.trans E6⟩
              intro t ht
              rcases List.mem_append.1 ht with ht | ht
              · exact Hi.out t ht
              · obtain rfl := List.mem_singleton.1 ht
                exact allX_not hlt2 Hcx.out.symm
      · obtain rfl : k = L.length := by omega
        have r1 := r0.ext (ET.trans hE2)
        have hrc := r1.c1
        have hrf := r1.frozen 0
        gi_wp2_with (fail)
        refine ⟨(keepsFrom_ext hE2 _).trans ((KeepsOthers.setCell _ _ _).from _), rfl, ⟨(t0, t1, t2, t3), by simp, hall⟩, ?_, by simpa using r1.put 0 (.bool true)⟩
        exact Below.setCell (EW2.trans hE2) (by simp; omega) _
  case done =>
    rintro D zs W hD rfl ⟨hi, hE⟩ hK
    have r1 := r0.ext (E1.trans hE)
    have hrc := r1.c1
    have hrf := r1.frozen 0
    have hres : togB B L = false := by
      rw [togB, List.any_eq_false]
      intro t ht
      simp [hi t ht]
    gi_wp2_with (fail)
    refine ⟨by simp, .inl ⟨_, _, rfl, run_takeDeferred ((KeepsOthers.setCell _ _ _).same D _ hK rfl), ?_⟩⟩
    have rb : Blk (W.setCell ⟨w.heap.size + 1 + 1, 0, none⟩ (.bool false)) (w.heap.size + 1 + 1) 4 #[.bool false] := by simpa using r1.put 0 (.bool false)
    have hK2 := (KeepsOthers.setCell W ⟨w.heap.size + 1 + 1, 0, none⟩ (.bool false)).same D _ hK rfl
    have eB : Below w.heap.size w (W.setCell ⟨w.heap.size + 1 + 1, 0, none⟩ (.bool false)) := Below.setCell (EW.trans hE) (by simp; omega) _
    generalize W.setCell ⟨w.heap.size + 1 + 1, 0, none⟩ (.bool false) = W9 at rb hK2 eB ⊢
    have kc := ((KeepC.put (.deferred none) hK2 rfl).blk rb).c1
    refine ⟨.bool false, ?_, by rw [hres], eB.trans (below_put _ hK2 (by omega))⟩
    simp [results, Tryd.results82, go_sem, kc]
  case stop =>
    rintro D c pre W hD hpre ⟨rfl, ⟨t, ht, hall⟩, hbw, hr⟩ hK
    have hres : togB B L = true := by
      rw [togB, List.any_eq_true]
      exact ⟨t, hpre.subset ht, hall⟩
    gi_wp2_with (fail)
    refine ⟨by simp, .inl ⟨_, _, rfl, run_takeDeferred hK, ?_⟩⟩
    have kc := ((KeepC.put (.deferred none) hK rfl).blk hr).c1
    refine ⟨.bool true, ?_, by rw [hres], hbw.trans (below_put _ hK (by omega))⟩
    simp [results, Tryd.results82, go_sem, kc]
end Go.Proofs.YtnhdcdhpfgdphaaDoor
