/-
  truths: the iterator over all truths.
-/
import Derived.Test.YtnhdcdhpfgdphaaDoorS
import Derived.Sort.CutIn
set_option linter.unusedSimpArgs false
set_option linter.unusedVariables false
namespace Go.Proofs.YtnhdcdhpfgdphaaDoor
open Go Go.RowKit Go.Shelf

attribute [local go_sem] Oper.semAt_some

abbrev Q4 := Int × Int × Int × Int
def q4L (t : Q4) : List Int := [t.1, t.2.1, t.2.2.1, t.2.2.2]
def q4C (t : Q4) : Array Value := #[.int .i64 t.1, .int .i64 t.2.1, .int .i64 t.2.2.1, .int .i64 t.2.2.2]
def setQ (t : Q4) (k : Nat) (v : Int) : Q4 :=
  match k with
  | 0 => (v, t.2.1, t.2.2.1, t.2.2.2)
  | 1 => (t.1, v, t.2.2.1, t.2.2.2)
  | 2 => (t.1, t.2.1, v, t.2.2.2)
  | 3 => (t.1, t.2.1, t.2.2.1, v)
  | _ => t
/-- All truths of d more bounds, from the k-th on. -/
def gen (bs : List (Int × Int)) : Nat → Nat → Q4 → List Q4
  | 0, _, t => [t]
  | d + 1, k, t => (List.range (bHi bs k - bLo bs k + 1).toNat).flatMap fun (n : Nat) => gen bs d (k + 1) (setQ t k (bLo bs k + n))
/-- Those of the first j minutes. -/
def genJ (bs : List (Int × Int)) (d k : Nat) (t : Q4) (j : Nat) : List Q4 := (List.range j).flatMap fun (n : Nat) => gen bs d (k + 1) (setQ t k (bLo bs k + n))
theorem genJ_succ (bs : List (Int × Int)) (d k : Nat) (t : Q4) (j : Nat) : genJ bs d k t (j + 1) = genJ bs d k t j ++ gen bs d (k + 1) (setQ t k (bLo bs k + j)) := by
  simp [genJ, List.range_succ]
theorem genJ_add (bs : List (Int × Int)) (d k : Nat) (t : Q4) (j m : Nat) : genJ bs d k t j <+: genJ bs d k t (j + m) := by
  induction m with
  | zero => exact List.prefix_refl _
  | succ m ih => rw [← Nat.add_assoc, genJ_succ]; exact ih.trans (List.prefix_append _ _)
theorem genJ_le (bs : List (Int × Int)) (d k : Nat) (t : Q4) {i j : Nat} (h : i ≤ j) : genJ bs d k t i <+: genJ bs d k t j := by
  obtain ⟨m, rfl⟩ := Nat.exists_eq_add_of_le h
  exact genJ_add bs d k t i m
def truthsL (B : Bk) : List Q4 := gen B.bounds B.bounds.length 0 (0, 0, 0, 0)
theorem setQ_setQ (t : Q4) (k : Nat) (u v : Int) : setQ (setQ t k u) k v = setQ t k v := by
  unfold setQ
  rcases k with _ | _ | _ | _ | k <;> rfl
theorem q4_put {w : World} {g : Nat} {t : TypeId} {q : Q4} (h : Blk w g t (q4C q)) {k : Nat} (hk : k < 4) (v : Int) : Blk (w.setCell ⟨g, k, none⟩ (.int .i64 v)) g t (q4C (setQ q k v)) := by
  have := h.put k (.int .i64 v)
  rcases (by omega : k = 0 ∨ k = 1 ∨ k = 2 ∨ k = 3) with rfl | rfl | rfl | rfl <;> simpa [q4C, setQ] using this

theorem room_none {F : Fence} (hd : F.depth = none) (k : Nat) : F.room k := fun d h => by rw [hd] at h; cases h
theorem yieldAny {F : Fence} (hd : F.depth = none) {m : Nat} (m' : Nat) {P : Program} {l : Nat} {args : Array Value} {W : World} {R : Ending → World → Prop} (h : YieldAt F m P l args W R) : YieldAt F m' P l args W R := by
  obtain ⟨fn, tmps, assign, body, hy, hR⟩ := h
  exact ⟨fn, tmps, assign, body, hy, hR.1, fun c cs _ => hR.2 c cs (room_none hd _)⟩

theorem SpanA.at {w : World} {bs : List (Int × Int)} {b o : Nat} (h : SpanA w (some ⟨b, o, none⟩) bs) {k : Nat} (hk : k < bs.length) :
    w.cell? ⟨b, o + k * 2, none⟩ = some (.int .i64 (bLo bs k)) ∧ w.cell? ⟨b, o + k * 2 + 1, none⟩ = some (.int .i64 (bHi bs k)) := by
  obtain ⟨b', o', e, hl, hc⟩ := h (by omega)
  simp only [Option.some.injEq, Addr.mk.injEq] at e
  obtain ⟨rfl, rfl, -⟩ := e
  exact hc k hk
theorem KeepC.far {A B C : World} (h : KeepC A B) (k : Below A.heap.size B C) : KeepC A C :=
  ⟨Nat.le_trans h.size k.size, fun i o hi ho => (k.block i (Array.getElem?_eq_some_iff.1 hi).1).trans (h.same i o hi ho)⟩

set_option maxRecDepth 100000 in
set_option maxHeartbeats 4000000 in
theorem from_in (B : Bk) (a1 a2 a3 : Option Addr) (c1 c2 c3 mp : Nat) (hv : validB B = true) (F : Fence) (hd : F.depth = none) (h6 : F.fn 106) (hro : F.round = none) (l n₀ N : Nat) (J Jx : List Q4 → World → Prop)
    (hJ : ∀ s X Y, J s X → Below n₀ X Y → J s Y)
    (hY : ∀ m pre x W, J pre W → pre.length < N → YieldAt F m Tryd.prog l #[.agg (q4C x)] W fun e W' =>
      (e = .returned (.bool true) ∧ J (pre ++ [x]) W' ∧ KeepC W W') ∨ (e = .returned (.bool false) ∧ Jx (pre ++ [x]) W')) (Bb Yb Fb : Nat) (d : Nat) :
    ∀ (k : Nat) (t : Q4) (n : Nat) (pre : List Q4) (W : World), k + d = B.bounds.length →
      Blk W Bb 81 #[.int .i64 B.comp, .slice a1 B.bounds.length c1, .slice a2 B.orders.length c2, .slice a3 B.shots.length c3, .map (some mp)] →
      Blk W Yb 122 #[.func (.yield l) #[] #[]] → Blk W Fb 123 #[.func (.func 106) #[] #[.pointer (some ⟨Bb, 0, none⟩), .pointer (some ⟨Yb, 0, none⟩), .pointer (some ⟨Fb, 0, none⟩)]] →
      SpanA W a1 B.bounds → n₀ ≤ W.heap.size → J pre W → pre.length + (gen B.bounds d k t).length ≤ N →
      CallsIn F n Tryd.prog 106 #[.int .i64 k, .agg (q4C t), .pointer (some ⟨Bb, 0, none⟩), .pointer (some ⟨Yb, 0, none⟩), .pointer (some ⟨Fb, 0, none⟩)] W fun e W' =>
        (e = .returned (.bool true) ∧ J (pre ++ gen B.bounds d k t) W' ∧ KeepC W W') ∨ (e = .returned (.bool false) ∧ ∃ q, q <+: gen B.bounds d k t ∧ Jx (pre ++ q) W') := by
  induction d with
  | zero =>
    intro k t n pre W hk hb hy hf hs hn hj hN
    obtain rfl : k = B.bounds.length := by omega
    obtain ⟨t0, t1, t2, t3⟩ := t
    have hX : Ext W (W.alloc (.cells (q4C (t0, t1, t2, t3)) 117)) := Ext.alloc _ _
    have hj1 : J pre (W.alloc (.cells (q4C (t0, t1, t2, t3)) 117)) := hJ _ _ _ hj (hX.mono hn)
    obtain ⟨fn, tmps, assign, body, hyy, hR⟩ := hY (n - 1) pre (t0, t1, t2, t3) _ hj1 (by simp [gen] at hN; omega)
    dsimp only [q4C] at hyy hR hX
    obtain ⟨x0, x1, x2, x3, x4⟩ := (hb.ext hX).c5
    have hbe : ((B.bounds.length : Int) == B.bounds.length) = true := by simp
    have y0 := (hy.ext hX).c1
    obtain ⟨z0, z1, z2, z3⟩ := (Blk.new W 117 #[.int .i64 t0, .int .i64 t1, .int .i64 t2, .int .i64 t3]).c4
    refine callsIn_of_wp Tryd.func106 rfl h6 ?_ hro
    simp only [q4C, Tryd.ntmps106, List.size_toArray, List.length_cons, List.length_nil, Nat.reduceAdd, Nat.reduceSub, Array.replicate_succ, Array.replicate_zero, List.push_toArray, List.append_toArray, List.nil_append, List.cons_append]
    gi_wp2
    refine hR.mono ?_
    rintro e W3 (⟨rfl, hJ3, hk3⟩ | ⟨rfl, hJx3⟩)
    · gi_wp2
      go_ret
      exact .inl ⟨rfl, hJ3, (KeepC.of_ext hX).trans hk3⟩
    · gi_wp2
      go_ret
      exact .inr ⟨rfl, [(t0, t1, t2, t3)], List.prefix_refl _, hJx3⟩
  | succ d ih =>
    intro k t n pre W hk hb hy hf hs hn hj hN
    have hk4 := (valid_sizes hv).2.2.2.2.1
    have hbd := valid_bound hv (i := k) (by omega)
    have Hv := Lib.hid hv
    clear hv
    obtain ⟨t0, t1, t2, t3⟩ := t
    have hbe : ((k : Int) == B.bounds.length) = false := by rw [beq_eq_false_iff_ne]; omega
    obtain ⟨W0, hW0⟩ : ∃ W0, W0 = W.alloc (.cells (q4C (t0, t1, t2, t3)) 117) := ⟨_, rfl⟩
    have hX : Ext W W0 := by rw [hW0]; exact Ext.alloc _ _
    have hj0 : J pre W0 := hJ _ _ _ hj (hX.mono hn)
    have ht0 : Blk W0 W.heap.size 117 (q4C (t0, t1, t2, t3)) := by rw [hW0]; exact Blk.new _ _ _
    have hb0 := hb.ext hX
    have hy0 := hy.ext hX
    have hf0 := hf.ext hX
    have hs0 := hs.ext hX
    refine callsIn_of_wp Tryd.func106 rfl h6 ?_ hro
    simp only [q4C, Tryd.ntmps106, List.size_toArray, List.length_cons, List.length_nil, Nat.reduceAdd, Nat.reduceSub, Array.replicate_succ, Array.replicate_zero, List.push_toArray, List.append_toArray, List.nil_append, List.cons_append]
    dsimp only [q4C] at hW0
    obtain ⟨x0, x1, x2, x3, x4⟩ := hb0.c5
    obtain ⟨b, o, rfl, hbl, hc⟩ := hs0 (by omega)
    obtain ⟨s1, s2⟩ := hc k (by omega)
    rw [hW0] at x0 x1 x2 x3 x4
    gi_upto_region 3 with (fail)
    rw [← hW0]
    rw [← hW0] at x0 x1 x2 x3 x4
    clear hW0
    refine wpIn_region_quiet_lit hro (by kernel_rfl) (by kernel_rfl) ?_
    repeat (gi_big_quiet_step (fail))
    refine wpQuietIn_nil ?_
    intro _ hw'
    obtain ⟨nq, hw''⟩ := hw'
    subst hw''
    gi_wp2_with (fail)
    gi_loopw [34] (fun i wr => ∃ (j : Nat) (q : Q4), i = .int .i64 j ∧ j ≤ (bHi B.bounds k - bLo B.bounds k + 1).toNat ∧ J (pre ++ genJ B.bounds d k (t0, t1, t2, t3) j) wr ∧ KeepC W wr ∧ Blk wr W.heap.size 117 (q4C q) ∧ (∀ v, setQ q k v = setQ (t0, t1, t2, t3) k v)) (fun i _ => (bHi B.bounds k - bLo B.bounds k + 1).toNat - (intOf i).toNat)
    case atStart => exact ⟨0, (t0, t1, t2, t3), rfl, Nat.zero_le _, by simpa [genJ] using hJ _ _ _ hj0 ((Ext.drewN _ _).mono (by have := hX.size; omega)), KeepC.of_ext (hX.trans (Ext.drewN _ _)), ht0.drewN _, fun _ => rfl⟩
    case round =>
      obtain ⟨j, q, rfl, hjl, hjj, hkc, hq, hset⟩ := hrel
      clear x0 x1 x2 x3 x4 s1 s2 hc
      have hgn := hX.size
      have hg0 := ht0.lt
      by_cases hlt : j < (bHi B.bounds k - bLo B.bounds k + 1).toNat
      · obtain ⟨x0, x1, x2, x3, x4⟩ := (hkc.blk hb).c5
        have s1 := ((hkc.span hs).at (by omega : k < B.bounds.length)).1
        have hck : wr.cell? ⟨W.heap.size, k, none⟩ = some (.int .i64 (nAt (q4L q) k)) := hq.cell (by
          obtain ⟨r0, r1, r2, r3⟩ := q
          rcases (by omega : k = 0 ∨ k = 1 ∨ k = 2 ∨ k = 3) with rfl | rfl | rfl | rfl <;> rfl)
        have hfk := hq.frozen k
        gi_upto_region 7 with (fail)
        obtain ⟨W2, hW2⟩ : ∃ W2, W2 = wr.setCell ⟨W.heap.size, k, none⟩ (.int .i64 (bLo B.bounds k + j)) := ⟨_, rfl⟩
        have hbl : Below W.heap.size wr W2 := by rw [hW2]; exact (Below.refl W.heap.size wr).setCell (p := ⟨W.heap.size, k, none⟩) (Nat.le_refl _) _
        have hq2 : Blk W2 W.heap.size 117 (q4C (setQ (t0, t1, t2, t3) k (bLo B.bounds k + j))) := by rw [hW2, ← hset]; exact q4_put hq (by omega) _
        have hj2 := hJ _ _ _ hjj (hbl.mono hn)
        have hk2 : KeepC W W2 := hkc.far hbl
        rw [← hW2]
        clear hW2 x0 x1 x2 x3 x4 s1 hck hfk hbl hq
        have hsub := genJ_succ B.bounds d k (t0, t1, t2, t3) j
        have hle := (genJ_le B.bounds d k (t0, t1, t2, t3) (show j + 1 ≤ (bHi B.bounds k - bLo B.bounds k + 1).toNat by omega)).length_le
        have hgen : gen B.bounds (d + 1) k (t0, t1, t2, t3) = genJ B.bounds d k (t0, t1, t2, t3) (bHi B.bounds k - bLo B.bounds k + 1).toNat := rfl
        have hset' := fun v => setQ_setQ (t0, t1, t2, t3) k (bLo B.bounds k + j) v
        obtain ⟨q', hq'⟩ : ∃ q', q' = setQ (t0, t1, t2, t3) k (bLo B.bounds k + j) := ⟨_, rfl⟩
        rw [← hq'] at hq2 hsub hset'
        have hpre := List.prefix_append (genJ B.bounds d k (t0, t1, t2, t3) j) (gen B.bounds d (k + 1) q')
        have hcall := ih (k + 1) q' (n - 1) (pre ++ genJ B.bounds d k (t0, t1, t2, t3) j) W2 (by omega) (hk2.blk hb) (hk2.blk hy) (hk2.blk hf) (hk2.span hs) (by have := hk2.size; omega) hj2 (by rw [hsub] at hle; rw [hgen] at hN; simp only [List.length_append] at hle ⊢; omega)
        clear hq' hj2
        obtain ⟨u0, u1, u2, u3⟩ := q'
        obtain ⟨z0, z1, z2, z3⟩ := hq2.c4
        have f0 := (hk2.blk hf).c1
        dsimp only [q4C] at hcall
        have hc1 : ((k + 1 : Nat) : Int) = (k : Int) + 1 := by omega
        rw [hc1] at hcall
        have hdd : ∀ k : Nat, (F.depth.isSome = true → 1 ≤ k) := fun k h => by rw [hd] at h; cases h
        gi_wp2_with ((try refine ⟨hdd _, ?_⟩); gi_at_call 106; refine hcall.mono ?_; clear hcall; rintro e W3 (⟨rfl, hJ3, hk3⟩ | ⟨rfl, q3, hq3, hx3⟩))
        · go_roundw
          case rel => exact ⟨j + 1, (u0, u1, u2, u3), by go_num, by omega, by rw [hsub, ← List.append_assoc]; exact hJ3, hk2.trans hk3, hk3.blk hq2, hset'⟩
          case measure => simp [intOf]; omega
        · go_ret
          refine .inr ⟨rfl, genJ B.bounds d k (t0, t1, t2, t3) j ++ q3, ?_, by rw [← List.append_assoc]; exact hx3⟩
          rw [hgen]
          refine List.IsPrefix.trans ?_ (genJ_le B.bounds d k (t0, t1, t2, t3) (show j + 1 ≤ (bHi B.bounds k - bLo B.bounds k + 1).toNat by omega))
          rw [hsub]
          exact (List.prefix_append_right_inj _).2 hq3
      · obtain rfl : j = (bHi B.bounds k - bLo B.bounds k + 1).toNat := by omega
        gi_wp2_with (fail)
        go_ret
        exact .inl ⟨rfl, hjj, hkc⟩

set_option maxRecDepth 100000 in
set_option maxHeartbeats 4000000 in
theorem truths1_calls (B : Bk) (a1 a2 a3 : Option Addr) (c1 c2 c3 mp : Nat) (hv : validB B = true) (n l : Nat) (J Jx : List Q4 → World → Prop) (W : World)
    (hJ : ∀ s X Y, J s X → Below W.heap.size X Y → J s Y)
    (hY : ∀ m pre x W, J pre W → pre.length < (truthsL B).length → YieldAt Fence.wide m Tryd.prog l #[.agg (q4C x)] W fun e W' =>
      (e = .returned (.bool true) ∧ J (pre ++ [x]) W' ∧ KeepC W W') ∨ (e = .returned (.bool false) ∧ Jx (pre ++ [x]) W')) (Bb : Nat)
    (hb : Blk W Bb 81 #[.int .i64 B.comp, .slice a1 B.bounds.length c1, .slice a2 B.orders.length c2, .slice a3 B.shots.length c3, .map (some mp)]) (hs : SpanA W a1 B.bounds) (h0 : J [] W) :
    Calls Tryd.prog 105 #[.func (.yield l) #[] #[], .pointer (some ⟨Bb, 0, none⟩)] W fun e W' => (∃ v, e = .returned v) ∧ ((∃ xs, xs = truthsL B ∧ J xs W') ∨ (∃ pre, pre <+: truthsL B ∧ Jx pre W')) := by
  go_enter Tryd.func105, Tryd.ntmps105
  go_upto_region 2 with (fail)
  obtain ⟨W1, hW1⟩ : ∃ W1, W1 = (W.alloc (.cells #[.func (.yield l) #[] #[]] 122)).alloc (.cells #[.nilFunc] 123) := ⟨_, rfl⟩
  have E1 : Ext W W1 := by rw [hW1]; exact (Ext.alloc _ _).trans (Ext.alloc _ _)
  have hy1 : Blk W1 W.heap.size 122 #[.func (.yield l) #[] #[]] := by rw [hW1]; exact (Blk.new _ _ _).alloc _
  have hf1 : Blk W1 (W.heap.size + 1) 123 #[.nilFunc] := by rw [hW1]; have := Blk.new (W.alloc (.cells #[.func (.yield l) #[] #[]] 122)) 123 #[.nilFunc]; simpa using this
  rw [← hW1]
  clear hW1
  have f0 := hf1.c1
  have f1 := hf1.frozen 0
  have hst : ∀ (a : Addr) (f : Fn) (r c : Array Value) (W : World), (store a (.func f r c)).run Tryd.prog W = stored Tryd.prog W a (.func f r c) .plain := fun a f r c W => run_store _ _ _ _ _ rfl
  go_upto_region 3 with (fail)
  have hf2 : Blk (W1.setCell ⟨W.heap.size + 1, 0, none⟩ (.func (.func 106) #[] #[.pointer (some ⟨Bb, 0, none⟩), .pointer (some ⟨W.heap.size, 0, none⟩), .pointer (some ⟨W.heap.size + 1, 0, none⟩)])) (W.heap.size + 1) 123 #[.func (.func 106) #[] #[.pointer (some ⟨Bb, 0, none⟩), .pointer (some ⟨W.heap.size, 0, none⟩), .pointer (some ⟨W.heap.size + 1, 0, none⟩)]] := by simpa using hf1.put 0 (.func (.func 106) #[] #[.pointer (some ⟨Bb, 0, none⟩), .pointer (some ⟨W.heap.size, 0, none⟩), .pointer (some ⟨W.heap.size + 1, 0, none⟩)])
  have hy2 := hy1.far (p := ⟨W.heap.size + 1, 0, none⟩) (by simp) (.func (.func 106) #[] #[.pointer (some ⟨Bb, 0, none⟩), .pointer (some ⟨W.heap.size, 0, none⟩), .pointer (some ⟨W.heap.size + 1, 0, none⟩)])
  have E2 : Below W.heap.size W (W1.setCell ⟨W.heap.size + 1, 0, none⟩ (.func (.func 106) #[] #[.pointer (some ⟨Bb, 0, none⟩), .pointer (some ⟨W.heap.size, 0, none⟩), .pointer (some ⟨W.heap.size + 1, 0, none⟩)])) := Below.setCell E1 (by simp) _
  generalize W1.setCell ⟨W.heap.size + 1, 0, none⟩ (.func (.func 106) #[] #[.pointer (some ⟨Bb, 0, none⟩), .pointer (some ⟨W.heap.size, 0, none⟩), .pointer (some ⟨W.heap.size + 1, 0, none⟩)]) = W2 at hf2 hy2 E2 ⊢
  have hcall := fun W3 (hE : Ext W2 W3) => callsIn_wide.1 (from_in B a1 a2 a3 c1 c2 c3 mp hv Fence.wide rfl trivial rfl l W.heap.size (truthsL B).length J Jx hJ hY Bb W.heap.size (W.heap.size + 1) B.bounds.length 0 (0, 0, 0, 0) n [] W3 (by simp)
    ((hb.ext E2).ext hE) (hy2.ext hE) (hf2.ext hE) ((hs.ext E2).ext hE) (by have := E2.size; have := hE.size; omega) (hJ _ _ _ h0 (E2.trans (hE.mono E2.size))) (by simp [truthsL]))
  clear f0 f1 hy1 hf1 E1 hb hs h0 hY hJ hv hy2
  obtain ⟨G, hG⟩ : ∃ G, G = W.heap.size := ⟨_, rfl⟩
  rw [← hG] at hf2 hcall ⊢
  clear hG
  dsimp only [q4C] at hcall
  rw [show ((0 : Nat) : Int) = 0 from rfl] at hcall
  have hl0 := hf2.drew.c1
  have hl1 := fun W3 (hE : Ext W2.drew W3) => (hf2.drew.ext hE).c1
  clear hf2
  refine wp_plan (fun W => True) (.two 0 1 (.one 1 (.one 2 (.done))) (.one 0 (.one 2 (.done)))) (by kernel_rfl) (by kernel_rfl) (by kernel_rfl) (fun c a d v w h => by cases d <;> exact h) ?_ ?_
  · exact trivial
  refine pl_two ?_ ?_
  · refine pl_one rfl (by rfl) (fun K hK => ?_)
    go_simp
    refine hK.out _ _ trivial ?_
    clear hK K
    refine pl_one rfl (by rfl) (fun K hK => ?_)
    go_simp
    go_at_call 107
    refine (unbounded_any _).mono ?_
    rintro e w' ⟨rfl, hE⟩
    refine hK.out _ _ trivial ?_
    clear hK K
    have E5 : Ext W2 w' := (Ext.drew _).trans hE
    refine pl_one rfl (by rfl) (fun K hK => ?_)
    go_simp
    go_at_call 106
    refine (hcall _ E5).mono ?_
    rintro e W4 (⟨rfl, hJ4, hk4⟩ | ⟨rfl, q, hq, hx⟩)
    · refine hK.out _ _ trivial (pl_done ?_)
      clear hK K
      (try simp only [Act.put])
      go_wp2
      go_end0
      exact ⟨⟨_, rfl⟩, .inl ⟨_, rfl, hJ4⟩⟩
    · refine hK.out _ _ trivial (pl_done ?_)
      clear hK K
      (try simp only [Act.put])
      go_wp2
      go_end0
      exact ⟨⟨_, rfl⟩, .inr ⟨q, hq, hx⟩⟩
  · refine pl_one rfl (by rfl) (fun K hK => ?_)
    go_simp
    go_at_call 107
    refine (unbounded_any _).mono ?_
    rintro e w' ⟨rfl, hE⟩
    refine hK.out _ _ trivial ?_
    clear hK K
    have h5 := hl1 _ hE
    refine pl_one rfl (by rfl) (fun K hK => ?_)
    go_simp
    refine hK.out _ _ trivial ?_
    clear hK K
    have E5 : Ext W2 w' := (Ext.drew _).trans hE
    refine pl_one rfl (by rfl) (fun K hK => ?_)
    go_simp
    go_at_call 106
    refine (hcall _ E5).mono ?_
    rintro e W4 (⟨rfl, hJ4, hk4⟩ | ⟨rfl, q, hq, hx⟩)
    · refine hK.out _ _ trivial (pl_done ?_)
      clear hK K
      (try simp only [Act.put])
      go_wp2
      go_end0
      exact ⟨⟨_, rfl⟩, .inl ⟨_, rfl, hJ4⟩⟩
    · refine hK.out _ _ trivial (pl_done ?_)
      clear hK K
      (try simp only [Act.put])
      go_wp2
      go_end0
      exact ⟨⟨_, rfl⟩, .inr ⟨q, hq, hx⟩⟩

theorem truths1_far (B : Bk) (a1 a2 a3 : Option Addr) (c1 c2 c3 mp : Nat) (hv : validB B = true) (n : Nat) (Bb : Nat) (w : World)
    (hb : Blk w Bb 81 #[.int .i64 B.comp, .slice a1 B.bounds.length c1, .slice a2 B.orders.length c2, .slice a3 B.shots.length c3, .map (some mp)]) (hs : SpanA w a1 B.bounds) :
    SeqFar Fence.wide n Tryd.prog 105 #[.pointer (some ⟨Bb, 0, none⟩)] (fun x : Q4 => #[.agg (q4C x)]) (fun ys => ys = truthsL B) (fun pre => pre <+: truthsL B) (truthsL B).length w :=
  fun l J Jx W hW hJ hJx hY h0 => callsIn_wide.2 (truths1_calls B a1 a2 a3 c1 c2 c3 mp hv n l J Jx W hJ (fun m pre x W hj hl => yieldAny rfl m (hY pre x W hj hl)) Bb (hb.ext hW) (hs.ext hW) h0)

set_option maxHeartbeats 1000000 in
theorem truths_any (a1 a2 a3 : Option Addr) (v0 : Int) (n1 n2 n3 c1 c2 c3 mp : Nat) (w : World) :
    Calls Tryd.prog 98 #[.agg #[.int .i64 v0, .slice a1 n1 c1, .slice a2 n2 c2, .slice a3 n3 c3, .map (some mp)]] w
      fun e w' => e = .returned (.func (.func 105) #[] #[.pointer (some ⟨w.heap.size, 0, none⟩)]) ∧ w' = w.alloc (.cells #[.int .i64 v0, .slice a1 n1 c1, .slice a2 n2 c2, .slice a3 n3 c3, .map (some mp)] 81) := by
  go_enter Tryd.func98, Tryd.ntmps98
  go_wp2
  go_ret
  exact ⟨rfl, rfl⟩
end Go.Proofs.YtnhdcdhpfgdphaaDoor
