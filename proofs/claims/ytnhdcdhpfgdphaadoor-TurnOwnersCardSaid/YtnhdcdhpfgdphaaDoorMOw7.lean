/-
  hangs: does a shot hang on a bound?
-/
import Derived.Test.YtnhdcdhpfgdphaaDoorMOw6
import Derived.Test.YtnhdcdhpfgdphaaDoorMOw4
set_option linter.unusedSimpArgs false
set_option linter.unusedVariables false
namespace Go.Proofs.YtnhdcdhpfgdphaaDoor
open Go Go.RowKit Go.Shelf

attribute [local go_sem] Oper.semAt_some

def wid (bs : List (Int × Int)) (k : Nat) : Nat := (bHi bs k - bLo bs k + 1).toNat
def widX (x : Sh) : Nat := (x.hi - x.lo + 1).toNat
/-- Does another one of the first j minutes of a bound turn whether a shot fits? -/
def hangM (B : Bk) (t : Q4) (x : Sh) (k : Nat) (m : Int) (j : Nat) : Bool := (List.range j).any fun i => fitX B (setQ t k (bLo B.bounds k + i)) x m != fitX B t x m
theorem hangM_succ (B : Bk) (t : Q4) (x : Sh) (k : Nat) (m : Int) (j : Nat) : hangM B t x k m (j + 1) = (hangM B t x k m j || fitX B (setQ t k (bLo B.bounds k + j)) x m != fitX B t x m) := by simp [hangM, List.range_succ]
def hangN (B : Bk) (t : Q4) (x : Sh) (k : Nat) (n : Nat) : Bool := (List.range n).any fun i => hangM B t x k (x.lo + i) (wid B.bounds k)
theorem hangN_succ (B : Bk) (t : Q4) (x : Sh) (k : Nat) (n : Nat) : hangN B t x k (n + 1) = (hangN B t x k n || hangM B t x k (x.lo + n) (wid B.bounds k)) := by simp [hangN, List.range_succ]
def hangT (B : Bk) (x : Sh) (k : Nat) (t : Q4) : Bool := decide (nAt (q4L t) k = bLo B.bounds k) && hangN B t x k (widX x)
def hangB (B : Bk) (x : Sh) (k : Nat) : Bool := (truthsL B).any (hangT B x k)
theorem hangT_yes {B : Bk} {x : Sh} {k : Nat} {t : Q4} (ht : nAt (q4L t) k = bLo B.bounds k) {n : Nat} (hn : n < widX x) {j : Nat} (hj : j < wid B.bounds k)
    (h : (fitX B (setQ t k (bLo B.bounds k + j)) x (x.lo + n) != fitX B t x (x.lo + n)) = true) : hangT B x k t = true := by
  simp only [hangT, ht, decide_true, Bool.true_and, hangN, List.any_eq_true, List.mem_range]
  exact ⟨n, hn, by simp only [hangM, List.any_eq_true, List.mem_range]; exact ⟨j, hj, h⟩⟩

theorem q4_cell {w : World} {g : Nat} {t : TypeId} {q : Q4} (h : Blk w g t (q4C q)) {k : Nat} (hk : k < 4) : w.cell? ⟨g, k, none⟩ = some (.int .i64 (nAt (q4L q) k)) := h.cell (by
  obtain ⟨r0, r1, r2, r3⟩ := q
  rcases (by omega : k = 0 ∨ k = 1 ∨ k = 2 ∨ k = 3) with rfl | rfl | rfl | rfl <;> rfl)

set_option maxRecDepth 100000 in
set_option maxHeartbeats 8000000 in
theorem hangs_any (B : Bk) (a1 a2 a3 : Option Addr) (c1 c2 c3 mp : Nat) (x : Sh) (k : Nat) (w : World) (h : BookA w B a1 a2 a3) (hG : Glob w) (hM : MapA w mp (ownL B.orders B.orders.length)) (hv : validB B = true) (hx : okSh B x) (hk : k < B.bounds.length) :
    Calls Tryd.prog 78 #[.agg #[.int .i64 B.comp, .slice a1 B.bounds.length c1, .slice a2 B.orders.length c2, .slice a3 B.shots.length c3, .map (some mp)], .agg #[.int .i64 x.st, .int .i64 x.co, .int .i64 x.lo, .int .i64 x.hi], .int .i64 k] w
      fun e w' => e = .returned (.bool (hangB B x k)) ∧ Ext w w' := by
  obtain ⟨hs1, hs2, h0, h1, h2⟩ := hx
  have hb4 := (valid_sizes hv).2.2.2.2.1
  have hbd := valid_bound hv hk
  refine (callsIn_wide (n := 3)).1 ?_
  refine callsIn_of_wp_marks Tryd.func78 rfl trivial ?_
  simp only [Tryd.ntmps78, List.size_toArray, List.length_cons, List.length_nil, Nat.reduceAdd, Nat.reduceSub, Array.replicate_succ, Array.replicate_zero, List.push_toArray, List.append_toArray, List.nil_append, List.cons_append]
  gi_upto_region 1 with (fail)
  obtain ⟨W0, hW0⟩ : ∃ W0, W0 = (((w.alloc (.cells #[.int .i64 B.comp, .slice a1 B.bounds.length c1, .slice a2 B.orders.length c2, .slice a3 B.shots.length c3, .map (some mp)] 81)).alloc (.cells #[.int .i64 x.st, .int .i64 x.co, .int .i64 x.lo, .int .i64 x.hi] 59)).alloc (.cells #[.int .i64 k] 3)).alloc (.cells #[.bool false] 4) := ⟨_, rfl⟩
  have E0 : Ext w W0 := by rw [hW0]; exact (((Ext.alloc _ _).trans (Ext.alloc _ _)).trans (Ext.alloc _ _)).trans (Ext.alloc _ _)
  have b0 : Blk W0 w.heap.size 81 #[.int .i64 B.comp, .slice a1 B.bounds.length c1, .slice a2 B.orders.length c2, .slice a3 B.shots.length c3, .map (some mp)] := by rw [hW0]; exact (((Blk.new _ _ _).alloc _).alloc _).alloc _
  have s0 : Blk W0 (w.heap.size + 1) 59 #[.int .i64 x.st, .int .i64 x.co, .int .i64 x.lo, .int .i64 x.hi] := by rw [hW0]; have := Blk.new (w.alloc (.cells #[.int .i64 B.comp, .slice a1 B.bounds.length c1, .slice a2 B.orders.length c2, .slice a3 B.shots.length c3, .map (some mp)] 81)) 59 #[.int .i64 x.st, .int .i64 x.co, .int .i64 x.lo, .int .i64 x.hi]; simpa using (this.alloc _).alloc _
  have k0 : Blk W0 (w.heap.size + 1 + 1) 3 #[.int .i64 k] := by rw [hW0]; have := Blk.new ((w.alloc (.cells #[.int .i64 B.comp, .slice a1 B.bounds.length c1, .slice a2 B.orders.length c2, .slice a3 B.shots.length c3, .map (some mp)] 81)).alloc (.cells #[.int .i64 x.st, .int .i64 x.co, .int .i64 x.lo, .int .i64 x.hi] 59)) 3 #[.int .i64 k]; simpa using this.alloc _
  have r0 : Blk W0 (w.heap.size + 1 + 1 + 1) 4 #[.bool false] := by rw [hW0]; have := Blk.new (((w.alloc (.cells #[.int .i64 B.comp, .slice a1 B.bounds.length c1, .slice a2 B.orders.length c2, .slice a3 B.shots.length c3, .map (some mp)] 81)).alloc (.cells #[.int .i64 x.st, .int .i64 x.co, .int .i64 x.lo, .int .i64 x.hi] 59)).alloc (.cells #[.int .i64 k] 3)) 4 #[.bool false]; simpa using this
  rw [← hW0]
  clear hW0
  obtain ⟨x0, x1, x2, x3, x4⟩ := b0.c5
  have hst : ∀ (a : Addr) (f : Fn) (r c : Array Value) (W : World), (store a (.func f r c)).run Tryd.prog W = stored Tryd.prog W a (.func f r c) .plain := fun a f r c W => run_store _ _ _ _ _ rfl
  gi_upto_region 2 with (fail)
  obtain ⟨W2, hW2⟩ : ∃ W2, W2 = W0.alloc (.cells #[(.func (.func 97) #[.agg #[.int .i64 B.comp, .slice a1 B.bounds.length c1, .slice a2 B.orders.length c2, .slice a3 B.shots.length c3, .map (some mp)]] #[])] 114) := ⟨_, rfl⟩
  have E2 : Ext W0 W2 := by rw [hW2]; exact Ext.alloc _ _
  have f2 : Blk W2 W0.heap.size 114 #[(.func (.func 97) #[.agg #[.int .i64 B.comp, .slice a1 B.bounds.length c1, .slice a2 B.orders.length c2, .slice a3 B.shots.length c3, .map (some mp)]] #[])] := by rw [hW2]; exact Blk.new _ _ _
  rw [← hW2]
  clear hW2 x0 x1 x2 x3 x4
  obtain ⟨x0, x1, x2, x3, x4⟩ := (b0.ext E2).c5
  gi_wp2_with (refine ⟨trivial, ?_⟩; gi_at_call 98; refine (callsIn_wide.2 (truths_any _ _ _ _ _ _ _ _ _ _ _ _)).mono ?_; rintro e w' ⟨rfl, hw1⟩)
  obtain ⟨W1, hW1⟩ : ∃ W1, W1 = W2.alloc (.cells #[.int .i64 B.comp, .slice a1 B.bounds.length c1, .slice a2 B.orders.length c2, .slice a3 B.shots.length c3, .map (some mp)] 81) := ⟨_, rfl⟩
  have E1 : Ext W2 W1 := by rw [hW1]; exact Ext.alloc _ _
  have b1 : Blk W1 W2.heap.size 81 #[.int .i64 B.comp, .slice a1 B.bounds.length c1, .slice a2 B.orders.length c2, .slice a3 B.shots.length c3, .map (some mp)] := by rw [hW1]; exact Blk.new _ _ _
  rw [← hW1]
  clear hW1 hw1 x0 x1 x2 x3 x4 w'
  have E01 : Ext W0 W1 := E2.trans E1
  have EW : Ext w W1 := E0.trans E01
  have hz1 : w.heap.size + 1 + 1 + 1 < W1.heap.size := Nat.lt_of_lt_of_le r0.lt E01.size
  refine wpIn_rangeFunc_far rfl (by omega) (gf := 105) (lb := #[.pointer (some ⟨W2.heap.size, 0, none⟩)]) rfl trivial (enters_of Tryd.func105 (by kernel_rfl) rfl)
    (truths1_far B a1 a2 a3 c1 c2 c3 mp hv (3 - 1) W2.heap.size W1 b1 (h.bounds.ext EW)) (fun _ => rfl)
    (fun pre W => (∀ t ∈ pre, hangT B x k t = false) ∧ Ext W1 W)
    (fun c pre W => c = .ret ∧ (∃ t ∈ pre, hangT B x k t = true) ∧ Below w.heap.size w W ∧ Blk W (w.heap.size + 1 + 1 + 1) 4 #[.bool true])
    (fun s X Y hs hb => ⟨hs.1, Below.trans hs.2 hb⟩)
    (fun c s X Y hs hb => ⟨hs.1, hs.2.1, Below.trans hs.2.2.1 (hb.mono (by omega)), hs.2.2.2.below hb hz1⟩)
    ⟨by simp, Ext.refl _⟩
    (fun t a' W => ∃ Bx, Blk W Bx 117 (q4C t) ∧ a' = { tmps := #[.agg #[.int .i64 B.comp, .slice a1 B.bounds.length c1, .slice a2 B.orders.length c2, .slice a3 B.shots.length c3, .map (some mp)], .agg #[.int .i64 x.st, .int .i64 x.co, .int .i64 x.lo, .int .i64 x.hi], .int .i64 k, .pointer (some ⟨w.heap.size, 0, none⟩), .pointer (some ⟨w.heap.size + 1, 0, none⟩), .pointer (some ⟨w.heap.size + 1 + 1, 0, none⟩), .pointer (some ⟨w.heap.size + 1 + 1 + 1, 0, none⟩), .pointer (some ⟨W0.heap.size, 0, none⟩), .pointer (some ⟨Bx, 0, none⟩), undef, undef, undef, undef, undef, .agg #[.int .i64 B.comp, .slice a1 B.bounds.length c1, .slice a2 B.orders.length c2, .slice a3 B.shots.length c3, .map (some mp)], (.func (.func 97) #[.agg #[.int .i64 B.comp, .slice a1 B.bounds.length c1, .slice a2 B.orders.length c2, .slice a3 B.shots.length c3, .map (some mp)]] #[]), .agg #[.int .i64 B.comp, .slice a1 B.bounds.length c1, .slice a2 B.orders.length c2, .slice a3 B.shots.length c3, .map (some mp)], .func (.func 105) #[] #[.pointer (some ⟨W2.heap.size, 0, none⟩)], .agg (q4C t), undef, undef, undef, undef, undef, undef, undef, undef, undef, undef, undef, undef, undef, undef, undef, undef, undef, undef, undef, undef, undef, undef, undef, undef, undef, undef, undef, undef, undef, undef, undef, undef, undef, undef, undef, undef, undef, undef, undef, undef, undef, undef, undef, undef, undef, undef, undef, undef, undef, undef, undef, undef, undef, undef, undef, undef, undef, undef, undef, undef, undef, undef, undef, undef, undef, undef, undef], defers := [] })
    (fun t a' X Y hs hk => by obtain ⟨Bx, h1, h2⟩ := hs; exact ⟨Bx, hk.blk h1, h2⟩)
    ?assign ?body ?done ?stop
  case assign =>
    rintro l pre ⟨t0, t1, t2, t3⟩ W K ⟨hi, hE⟩ hsz hK
    dsimp only [q4C] at hK ⊢
    gi_wp2
    exact hK _ _ (Ext.alloc _ _) ⟨W.heap.size, Blk.new _ _ _, rfl⟩
  case body =>
    rintro l pre t a' W ⟨hi, hE⟩ hsz ⟨Bx, hX, rfl⟩ hlt
    have ET := E01.trans hE
    have EW2 := EW.trans hE
    have Hi := Lib.hid hi
    clear hi
    obtain ⟨b, o, rfl, hbl, hc⟩ := h.bounds (by omega)
    obtain ⟨p1, p2⟩ := hc k hk
    have hck := q4_cell hX (by omega : k < 4)
    have n1 := EW2.keep p1
    have n2 := (k0.ext ET).c1
    obtain ⟨x0, x1, x2, x3, x4⟩ := (b0.ext ET).c5
    by_cases ht : nAt (q4L t) k = bLo B.bounds k
    · have htn : (nAt (q4L t) k != bLo B.bounds k) = false := by simp [ht]
      have Ht := Lib.hid ht
      clear ht
      gi_upto_region 4 with (fail)
      refine wpIn_scope ?_
      gi_upto_region 4 with (fail)
      refine wpIn_quiet_round (by kernel_rfl) (by kernel_rfl) (by kernel_rfl) ?_
      repeat (gi_big_quiet_step (fail))
      refine wpQuietIn_nil ?_
      intro _ hw'
      obtain ⟨nq, hw''⟩ := hw'
      subst hw''
      have ED : Ext W (W.drewN nq) := Ext.drewN _ _
      generalize W.drewN nq = WD at ED ⊢
      clear x0 x1 x2 x3 x4 n1 n2 hck p1 p2 hc
      obtain ⟨y0, y1, y2, y3⟩ := (s0.ext (ET.trans ED)).c4
      gi_wp2_with (fail)
      refine wpIn_label ?_
      gi_wp2_with (fail)
      clear y0 y1 y2 y3
      gi_loopw [38] (fun i wr => ∃ n : Nat, i = .int .i64 n ∧ n ≤ widX x ∧ Ext WD wr ∧ hangN B t x k n = false) (fun i _ => widX x - (intOf i).toNat)
      case atStart => exact ⟨0, rfl, Nat.zero_le _, Ext.refl _, rfl⟩
      case round =>
        obtain ⟨n, rfl, hn, hE3, hno⟩ := hrel
        have hwx : widX x = (x.hi - x.lo + 1).toNat := rfl
        have EN := ED.trans hE3
        have Hno := Lib.hid hno
        clear hno
        by_cases hnl : n < widX x
        · obtain ⟨y0, y1, y2, y3⟩ := (s0.ext (ET.trans EN)).c4
          have ff := (f2.ext (E1.trans (hE.trans EN))).c1
          have hXn := hX.ext EN
          have hnl' : n < (x.hi - x.lo + 1).toNat := hnl
          obtain ⟨t0, t1, t2, t3⟩ := t
          obtain ⟨z0, z1, z2, z3⟩ := hXn.c4
          have hcall := fits_any B (some ⟨b, o, none⟩) a2 a3 c1 c2 c3 mp t0 t1 t2 t3 x (x.lo + n) wr (hG.ext (EW2.trans EN)) (hM.ext (EW2.trans EN)) hv ⟨hs1, hs2⟩ (by omega)
          gi_wp2_with (refine ⟨trivial, ?_⟩; gi_at_call 97; refine (CallsIn.inRound l (callsIn_wide.2 hcall)).mono ?_; clear hcall; rintro e w5 ⟨rfl, hE5⟩)
          clear y0 y1 y2 y3 z0 z1 z2 z3 ff hXn
          obtain ⟨p, hp⟩ : ∃ p, p = fitX B (t0, t1, t2, t3) x (x.lo + n) := ⟨_, rfl⟩
          rw [← hp]
          have Hp := Lib.hid hp
          clear hp
          have EV := EN.trans hE5
          have p3 := ((h.bounds.ext EW2).ext EV).at hk
          obtain ⟨n1, n3⟩ := p3
          have n2 := (k0.ext (ET.trans EV)).c1
          obtain ⟨x0, x1, x2, x3, x4⟩ := (b0.ext (ET.trans EV)).c5
          refine wpIn_quiet_round (by kernel_rfl) (by kernel_rfl) (by kernel_rfl) ?_
          repeat (gi_big_quiet_step (fail))
          refine wpQuietIn_nil ?_
          intro _ hw'
          obtain ⟨nr, hw''⟩ := hw'
          subst hw''
          have EF : Ext WD (w5.drewN nr) := (hE3.trans hE5).trans (Ext.drewN _ _)
          generalize w5.drewN nr = WE at EF ⊢
          clear x0 x1 x2 x3 x4 n1 n2 n3 EV
          gi_wp2_with (fail)
          gi_loopw [67] (fun i wr => ∃ m : Nat, i = .int .i64 m ∧ m ≤ wid B.bounds k ∧ Ext WD wr ∧ hangM B (t0, t1, t2, t3) x k (x.lo + n) m = false) (fun i _ => wid B.bounds k - (intOf i).toNat)
          case atStart => exact ⟨0, rfl, Nat.zero_le _, EF, rfl⟩
          case round =>
            obtain ⟨m, rfl, hm, hD6, hmo⟩ := hrel
            have hE6 := ED.trans hD6
            have Hmo := Lib.hid hmo
            have hwk : wid B.bounds k = (bHi B.bounds k - bLo B.bounds k + 1).toNat := rfl
            clear hmo
            by_cases hml : m < wid B.bounds k
            · have hml' : m < (bHi B.bounds k - bLo B.bounds k + 1).toNat := hml
              obtain ⟨z0, z1, z2, z3⟩ := (hX.ext hE6).c4
              have n2 := ((k0.ext (ET.trans hE6)).alloc (.cells #[.int .i64 t0, .int .i64 t1, .int .i64 t2, .int .i64 t3] 117)).c1
              gi_upto_region 14 with (fail)
              obtain ⟨W7, hW7⟩ : ∃ W7, W7 = wr.alloc (.cells #[.int .i64 t0, .int .i64 t1, .int .i64 t2, .int .i64 t3] 117) := ⟨_, rfl⟩
              have E7 : Ext wr W7 := by rw [hW7]; exact Ext.alloc _ _
              have u7 : Blk W7 wr.heap.size 117 (q4C (t0, t1, t2, t3)) := by rw [hW7]; exact Blk.new _ _ _
              rw [← hW7] at n2
              rw [← hW7]
              clear hW7 z0 z1 z2 z3
              have c7 := q4_cell u7 (by omega : k < 4)
              rw [Ht.out] at c7
              have g7 := u7.frozen k
              gi_upto_region 15 with (fail)
              obtain ⟨W8, hW8⟩ : ∃ W8, W8 = W7.setCell ⟨wr.heap.size, k, none⟩ (.int .i64 (bLo B.bounds k + m)) := ⟨_, rfl⟩
              have E8 : Ext wr W8 := by rw [hW8]; exact Below.setCell E7 (by simp) _
              have u8 : Blk W8 wr.heap.size 117 (q4C (setQ (t0, t1, t2, t3) k (bLo B.bounds k + m))) := by rw [hW8]; exact q4_put u7 (by omega) _
              rw [← hW8]
              clear hW8 c7 g7 n2
              have hsc := hangM_succ B (t0, t1, t2, t3) x k (x.lo + n) m
              have hyes := fun (hh : (fitX B (setQ (t0, t1, t2, t3) k (bLo B.bounds k + m)) x (x.lo + n) != fitX B (t0, t1, t2, t3) x (x.lo + n)) = true) => hangT_yes Ht.out hnl hml hh
              rw [Hmo.out, Bool.false_or] at hsc
              obtain ⟨q, hq⟩ : ∃ q, q = setQ (t0, t1, t2, t3) k (bLo B.bounds k + m) := ⟨_, rfl⟩
              rw [← hq] at u8 hsc hyes
              clear hq
              obtain ⟨q0, q1, q2, q3⟩ := q
              obtain ⟨z0, z1, z2, z3⟩ := u8.c4
              have E9 := hE6.trans E8
              obtain ⟨y0, y1, y2, y3⟩ := (s0.ext (ET.trans E9)).c4
              have ff := (f2.ext (E1.trans (hE.trans E9))).c1
              have hcall := fits_any B (some ⟨b, o, none⟩) a2 a3 c1 c2 c3 mp q0 q1 q2 q3 x (x.lo + n) W8 (hG.ext (EW2.trans E9)) (hM.ext (EW2.trans E9)) hv ⟨hs1, hs2⟩ (by omega)
              obtain ⟨r, hr⟩ : ∃ r, r = fitX B (q0, q1, q2, q3) x (x.lo + n) := ⟨_, rfl⟩
              rw [← Hp.out] at hsc hyes
              rw [← hr] at hsc hyes hcall
              have Hsc := Lib.hid hsc
              have Hyes := Lib.hid hyes
              clear hr hsc hyes
              cases p <;> cases r
              · gi_wp2_with (refine ⟨trivial, ?_⟩; gi_at_call 97; refine (CallsIn.inRound l (callsIn_wide.2 hcall)).mono ?_; clear hcall; rintro e w5 ⟨rfl, hE5⟩)
                go_roundw
                case rel => exact ⟨m + 1, by go_num, by omega, (hD6.trans E8).trans hE5, by rw [Hsc.out]; rfl⟩
                case measure => simp [intOf]; omega
              · gi_upto_region 16 with (refine ⟨trivial, ?_⟩; gi_at_call 97; refine (CallsIn.inRound l (callsIn_wide.2 hcall)).mono ?_; clear hcall; rintro e w5 ⟨rfl, hE5⟩)
                have EV := E9.trans hE5
                have r1 := r0.ext (ET.trans EV)
                have hrc := r1.c1
                have hrf := r1.frozen 0
                gi_wp2_with (fail)
                refine ⟨(keepsFrom_ext EV _).trans ((KeepsOthers.setCell _ _ _).from _), rfl, ⟨(t0, t1, t2, t3), by simp, Hyes.out rfl⟩, ?_, by simpa using r1.put 0 (.bool true)⟩
                exact Below.setCell (EW2.trans EV) (by simp; omega) _
              · gi_upto_region 16 with (refine ⟨trivial, ?_⟩; gi_at_call 97; refine (CallsIn.inRound l (callsIn_wide.2 hcall)).mono ?_; clear hcall; rintro e w5 ⟨rfl, hE5⟩)
                have EV := E9.trans hE5
                have r1 := r0.ext (ET.trans EV)
                have hrc := r1.c1
                have hrf := r1.frozen 0
                gi_wp2_with (fail)
                refine ⟨(keepsFrom_ext EV _).trans ((KeepsOthers.setCell _ _ _).from _), rfl, ⟨(t0, t1, t2, t3), by simp, Hyes.out rfl⟩, ?_, by simpa using r1.put 0 (.bool true)⟩
                exact Below.setCell (EW2.trans EV) (by simp; omega) _
              · gi_wp2_with (refine ⟨trivial, ?_⟩; gi_at_call 97; refine (CallsIn.inRound l (callsIn_wide.2 hcall)).mono ?_; clear hcall; rintro e w5 ⟨rfl, hE5⟩)
                go_roundw
                case rel => exact ⟨m + 1, by go_num, by omega, (hD6.trans E8).trans hE5, by rw [Hsc.out]; rfl⟩
                case measure => simp [intOf]; omega
            · obtain rfl : m = wid B.bounds k := by omega
              gi_wp2_with (fail)
              go_roundw
              case rel => exact ⟨n + 1, by go_num, by omega, (by have := hD6; exact hD6), by rw [hangN_succ, Hno.out, Hmo.out]; rfl⟩
              case measure => simp [intOf]; omega
        · obtain rfl : n = widX x := by omega
          gi_wp2_with (fail)
          refine ⟨EN, ?_, hE.trans EN⟩
          intro t' ht'
          rcases List.mem_append.1 ht' with ht' | ht'
          · exact Hi.out t' ht'
          · obtain rfl := List.mem_singleton.1 ht'
            simp [hangT, Ht.out, Hno.out]
    · have htn : (nAt (q4L t) k != bLo B.bounds k) = true := by simp [ht]
      have Ht := Lib.hid ht
      clear ht
      gi_upto_region 4 with (fail)
      refine wpIn_scope ?_
      gi_upto_region 4 with (fail)
      refine wpIn_quiet_round (by kernel_rfl) (by kernel_rfl) (by kernel_rfl) ?_
      repeat (gi_big_quiet_step (fail))
      refine wpQuietIn_nil ?_
      intro _ hw'
      obtain ⟨nq, hw''⟩ := hw'
      subst hw''
      gi_wp2_with (fail)
      refine ⟨Ext.drewN _ _, ?_, hE.trans (Ext.drewN _ _)⟩
      intro t' ht'
      rcases List.mem_append.1 ht' with ht' | ht'
      · exact Hi.out t' ht'
      · obtain rfl := List.mem_singleton.1 ht'
        simp [hangT, Ht.out]
  case done =>
    rintro D zs W hD rfl ⟨hi, hE⟩ hK
    have r1 := r0.ext (E01.trans hE)
    have hrc := r1.c1
    have hrf := r1.frozen 0
    have hres : hangB B x k = false := by
      rw [hangB, List.any_eq_false]
      intro t ht
      simp [hi t ht]
    gi_wp2_with (fail)
    refine ⟨by simp, .inl ⟨_, _, rfl, run_takeDeferred ((KeepsOthers.setCell _ _ _).same D _ hK rfl), ?_⟩⟩
    have rb : Blk (W.setCell ⟨w.heap.size + 1 + 1 + 1, 0, none⟩ (.bool false)) (w.heap.size + 1 + 1 + 1) 4 #[.bool false] := by simpa using r1.put 0 (.bool false)
    have hK2 := (KeepsOthers.setCell W ⟨w.heap.size + 1 + 1 + 1, 0, none⟩ (.bool false)).same D _ hK rfl
    have eB : Below w.heap.size w (W.setCell ⟨w.heap.size + 1 + 1 + 1, 0, none⟩ (.bool false)) := Below.setCell (EW.trans hE) (by simp; omega) _
    generalize W.setCell ⟨w.heap.size + 1 + 1 + 1, 0, none⟩ (.bool false) = W9 at rb hK2 eB ⊢
    have kc := ((KeepC.put (.deferred none) hK2 rfl).blk rb).c1
    refine ⟨.bool false, ?_, by rw [hres], eB.trans (below_put _ hK2 (by omega))⟩
    simp [results, Tryd.results78, go_sem, kc]
  case stop =>
    rintro D c pre W hD hpre ⟨rfl, ⟨t, ht, hall⟩, hbw, hr⟩ hK
    have hres : hangB B x k = true := by
      rw [hangB, List.any_eq_true]
      exact ⟨t, hpre.subset ht, hall⟩
    gi_wp2_with (fail)
    refine ⟨by simp, .inl ⟨_, _, rfl, run_takeDeferred hK, ?_⟩⟩
    have kc := ((KeepC.put (.deferred none) hK rfl).blk hr).c1
    refine ⟨.bool true, ?_, by rw [hres], hbw.trans (below_put _ hK (by omega))⟩
    simp [results, Tryd.results78, go_sem, kc]
end Go.Proofs.YtnhdcdhpfgdphaaDoor

/-
  slices.Compare of whole numbers.
-/
set_option linter.unusedSimpArgs false
set_option linter.unusedVariables false
namespace Go.Proofs.YtnhdcdhpfgdphaaDoor
open Go Go.RowKit

def cmp1 (a b : Int) : Int := if a < b then -1 else if b < a then 1 else 0
def cmpL : List Int → List Int → Int
  | [], [] => 0
  | [], _ :: _ => -1
  | _ :: _, [] => 1
  | a :: r, b :: q => if a < b then -1 else if b < a then 1 else cmpL r q

set_option maxHeartbeats 1000000 in
theorem nan_any (a : Int) (w : World) : Calls Tryd.prog 108 #[.int .i64 a] w fun e w' => e = .returned (.bool false) ∧ w = w' := by
  go_enter Tryd.func108, Tryd.ntmps108
  have h : (a != a) = false := by simp
  go_wp2
  go_ret
  exact ⟨by rw [← h]; rfl, rfl⟩

set_option maxHeartbeats 1000000 in
theorem cmp1_any (a b : Int) (w : World) : Calls Tryd.prog 99 #[.int .i64 a, .int .i64 b] w fun e w' => e = .returned (.int .i64 (cmp1 a b)) ∧ w = w' := by
  go_enter Tryd.func99, Tryd.ntmps99
  rcases (by omega : a < b ∨ b < a ∨ a = b) with h | h | h
  · go_wp2_with (go_at_call 108; refine (nan_any _ _).mono ?_; rintro e w' ⟨rfl, rfl⟩)
    go_ret
    exact ⟨by simp [cmp1, h], rfl⟩
  · go_wp2_with (go_at_call 108; refine (nan_any _ _).mono ?_; rintro e w' ⟨rfl, rfl⟩)
    go_ret
    exact ⟨by simp [cmp1, h, show ¬ a < b by omega], rfl⟩
  · go_wp2_with (go_at_call 108; refine (nan_any _ _).mono ?_; rintro e w' ⟨rfl, rfl⟩)
    go_ret
    exact ⟨by subst h; simp [cmp1], rfl⟩

theorem drop_at {xs : List Int} {k : Nat} (h : k < xs.length) : xs.drop k = nAt xs k :: xs.drop (k + 1) := by
  rw [List.drop_eq_getElem_cons h]
  simp [nAt, h]

set_option maxHeartbeats 1000000 in
theorem compare_any (a b : Option Addr) (xs ys : List Int) (cp cq : Nat) (w : World) (h : IntA w a xs) (h2 : IntA w b ys) (hm : xs.length ≤ 9223372036854775807) (hm2 : ys.length ≤ 9223372036854775807) :
    Calls Tryd.prog 81 #[.slice a xs.length cp, .slice b ys.length cq] w fun e w' => e = .returned (.int .i64 (cmpL xs ys)) ∧ w = w' := by
  go_enter Tryd.func81, Tryd.ntmps81
  go_wp2_with (fail)
  go_loop [11] (fun i => ∃ k : Nat, k ≤ xs.length ∧ k ≤ ys.length ∧ i = .int .i64 k ∧ cmpL xs ys = cmpL (xs.drop k) (ys.drop k)) (fun i => xs.length - (intOf i).toNat)
  case atStart => exact ⟨0, Nat.zero_le _, Nat.zero_le _, rfl, rfl⟩
  case round =>
    obtain ⟨k, hk, hk2, rfl, hn⟩ := hrel
    by_cases hlt : k < xs.length
    · rw [drop_at hlt] at hn
      by_cases hlt2 : k < ys.length
      · rw [drop_at hlt2, cmpL] at hn
        have Hn := Lib.hid hn
        clear hn
        obtain ⟨b1, o1, rfl, hb1, hc1⟩ := h (by omega)
        obtain ⟨b2, o2, rfl, hb2, hc2⟩ := h2 (by omega)
        have q1 := hc1 k hlt
        have q2 := hc2 k hlt2
        clear hc1 hc2
        rcases (by omega : nAt xs k < nAt ys k ∨ nAt ys k < nAt xs k ∨ nAt xs k = nAt ys k) with hc | hc | hc
        · have hv : cmp1 (nAt xs k) (nAt ys k) = -1 := by simp [cmp1, hc]
          have Hr : Hid (cmpL xs ys = -1) := Lib.hid (by rw [Hn.out, if_pos hc])
          have Hcall := Lib.hid (fun w => cmp1_any (nAt xs k) (nAt ys k) w)
          rw [hv] at Hcall
          clear hc hv
          go_wp2_with (go_at_call 99; refine (Hcall.out _).mono ?_; rintro e w' ⟨rfl, rfl⟩)
          go_ret
          exact ⟨by rw [Hr.out]; rfl, rfl⟩
        · have hv : cmp1 (nAt xs k) (nAt ys k) = 1 := by simp [cmp1, hc, show ¬ nAt xs k < nAt ys k by omega]
          have Hr : Hid (cmpL xs ys = 1) := Lib.hid (by rw [Hn.out, if_neg (by omega), if_pos hc])
          have Hcall := Lib.hid (fun w => cmp1_any (nAt xs k) (nAt ys k) w)
          rw [hv] at Hcall
          clear hc hv
          go_wp2_with (go_at_call 99; refine (Hcall.out _).mono ?_; rintro e w' ⟨rfl, rfl⟩)
          go_ret
          exact ⟨by rw [Hr.out]; rfl, rfl⟩
        · have hv : cmp1 (nAt xs k) (nAt ys k) = 0 := by simp [cmp1, hc]
          have Hr : Hid (cmpL xs ys = cmpL (xs.drop (k + 1)) (ys.drop (k + 1))) := Lib.hid (by rw [Hn.out, if_neg (by omega), if_neg (by omega)])
          have Hcall := Lib.hid (fun w => cmp1_any (nAt xs k) (nAt ys k) w)
          rw [hv] at Hcall
          clear hc hv
          go_wp2_with (go_at_call 99; refine (Hcall.out _).mono ?_; rintro e w' ⟨rfl, rfl⟩)
          go_round
          case rel => exact ⟨k + 1, by omega, by omega, by go_num, Hr.out⟩
          case measure => simp [intOf]; omega
      · obtain rfl : k = ys.length := by omega
        rw [List.drop_length] at hn
        have Hr : Hid (cmpL xs ys = 1) := Lib.hid (by rw [hn]; rfl)
        clear hn
        obtain ⟨b1, o1, rfl, hb1, hc1⟩ := h (by omega)
        have q1 := hc1 ys.length hlt
        clear hc1
        go_wp2
        go_ret
        exact ⟨by rw [Hr.out]; rfl, rfl⟩
    · obtain rfl : k = xs.length := by omega
      rw [List.drop_length] at hn
      by_cases hlt2 : xs.length < ys.length
      · rw [drop_at hlt2] at hn
        have Hr : Hid (cmpL xs ys = -1) := Lib.hid (by rw [hn]; rfl)
        clear hn
        go_wp2
        go_ret
        exact ⟨by rw [Hr.out]; rfl, rfl⟩
      · have e : ys.length = xs.length := by omega
        rw [← e, List.drop_length] at hn
        have Hr : Hid (cmpL xs ys = 0) := Lib.hid (by rw [hn]; rfl)
        clear hn
        go_wp2
        go_ret
        exact ⟨by rw [Hr.out]; rfl, rfl⟩
end Go.Proofs.YtnhdcdhpfgdphaaDoor
