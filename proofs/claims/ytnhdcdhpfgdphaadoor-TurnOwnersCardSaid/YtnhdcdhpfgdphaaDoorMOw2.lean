/-
  A region whose order is drawn, walked by a plan: what reads only is taken first, in one order; what makes memory comes one by one, each in whatever place the draw gives it.
-/
import Derived.WalkKit
import Derived.OrdersHeld
import Derived.RegionTactic
import Derived.KernelRfl
import Derived.Test.YtnhdcdhpfgdphaaDoorMOw1
import Derived.Deep.RegionHeld3
import Derived.Deep.RegionWith
import Derived.Deep.LoopGhost
import Derived.Deep.DeepCutAuto
namespace Go.Proofs.YtnhdcdhpfgdphaaDoor
open Go Go.RowKit

/-- A plan: operations that are taken first, one behind the other; the one operation that alone can come up; the two that can. -/
inductive Pl where
  | done
  | tames (l : List Nat) (p : Pl)
  | one (i : Nat) (p : Pl)
  | two (i j : Nat) (p q : Pl)

section
variable (P : Program) (ops : Array Oper)

def Pl.okT (p : Array Bool → Bool) : List Nat → Array Bool → Bool
  | [], l => p l
  | i :: is, l => Region.free .any ops l i && (Region.ready .any ops l).contains i && Pl.okT p is (l.setIfInBounds i true)

/-- Does a plan fit a region? (How many operations it goes through is asked too.) -/
def Pl.ok : Pl → Nat → Array Bool → Bool
  | .done, _, l => (Region.ready .any ops l).isEmpty
  | .tames is p, n, l => decide (is.length ≤ n) && Pl.okT ops (Pl.ok p (n - is.length)) is l
  | .one i p, n, l => decide (1 ≤ n) && (Region.ready .any ops l == [i]) && Pl.ok p (n - 1) (l.setIfInBounds i true)
  | .two i j p q, n, l => decide (1 ≤ n) && (Region.ready .any ops l == [i, j]) && Pl.ok p (n - 1) (l.setIfInBounds i true) && Pl.ok q (n - 1) (l.setIfInBounds j true)

/-- One operation that yields its value in whatever world that meets S, or that is passed over. -/
def tameAt (S : World → Prop) (i : Nat) (K : Act → World → Prop) (a : Act) (w : World) : Prop :=
  ∃ o v, ops[i]? = some o ∧ YieldsIf P ops S o v a ∧ K (a.put o.dst v) w

def wpPlT (S : World → Prop) (K : Act → World → Prop) : List Nat → Act → World → Prop
  | [], a, w => K a w
  | i :: is, a, w => tameAt P ops S i (wpPlT S K is) a w

def wpPl (Q : Exit → Act → World → Prop) (S : World → Prop) : Pl → Act → World → Prop
  | .done, a, w => Q .normal a w
  | .tames is p, a, w => wpPlT P ops S (wpPl Q S p) is a w
  | .one i p, a, w => wpOp P ops Q i (fun a' w' => S w' ∧ wpPl Q S p a' w') a w
  | .two i j p q, a, w => wpOp P ops Q i (fun a' w' => S w' ∧ wpPl Q S p a' w') a w ∧ wpOp P ops Q j (fun a' w' => S w' ∧ wpPl Q S q a' w') a w
end

section
variable {P : Program} {ops : Array Oper} {Q : Exit → Act → World → Prop} {S : World → Prop}

theorem wpPlT_sound (hs : Region.noSelect ops = true) (hQ : ∀ c a d v w, Q (.panic c) (Act.put a d v) w → Q (.panic c) a w) (p : Array Bool → Bool) (K : Act → World → Prop) (n : Nat)
    (hK : ∀ l a w, p l = true → S w → K a w → wpAnyH P .any ops Q S n l a w) :
    ∀ (is : List Nat) (l : Array Bool) (a : Act) (w : World), Pl.okT ops p is l = true → S w → wpPlT P ops S K is a w → wpAnyH P .any ops Q S (n + is.length) l a w
  | [], l, a, w, ho, hS, h => hK l a w ho hS h
  | i :: is, l, a, w, ho, hS, h => by
    simp only [Pl.okT, Bool.and_eq_true] at ho
    obtain ⟨o, v, hi, hy, hr⟩ := h
    have ih := wpPlT_sound hs hQ p K n hK is _ _ w ho.2 hS hr
    exact wpAnyH_take (i := i) hi hs ho.1.1 ho.1.2 (fun c a w hh => hQ c a _ _ w hh) hy hS ih

theorem wpPl_sound (hs : Region.noSelect ops = true) (hQ : ∀ c a d v w, Q (.panic c) (Act.put a d v) w → Q (.panic c) a w) :
    ∀ (p : Pl) (n : Nat) (l : Array Bool) (a : Act) (w : World), Pl.ok ops p n l = true → S w → wpPl P ops Q S p a w → wpAnyH P .any ops Q S n l a w
  | .done, n, l, a, w, ho, _, h => wpAnyH_done (by simpa [Pl.ok] using ho) h n
  | .tames is p, n, l, a, w, ho, hS, h => by
    simp only [Pl.ok, Bool.and_eq_true, decide_eq_true_eq] at ho
    have := wpPlT_sound (P := P) (Q := Q) (S := S) hs hQ (Pl.ok ops p (n - is.length)) (wpPl P ops Q S p) (n - is.length) (fun l a w h1 h2 h3 => wpPl_sound hs hQ p _ l a w h1 h2 h3) is l a w ho.2 hS h
    rwa [Nat.sub_add_cancel ho.1] at this
  | .one i p, n, l, a, w, ho, hS, h => by
    simp only [Pl.ok, Bool.and_eq_true, decide_eq_true_eq, beq_iff_eq] at ho
    obtain ⟨m, rfl⟩ : ∃ m, n = m + 1 := ⟨n - 1, by omega⟩
    refine wpAnyH_all ho.1.2 (by simp) fun k hk => ?_
    obtain rfl : k = i := by simpa using hk
    exact wpOp_mono (fun a' w' h' => ⟨h'.1, wpPl_sound hs hQ p m _ a' w' (by simpa using ho.2) h'.1 h'.2⟩) h
  | .two i j p q, n, l, a, w, ho, hS, h => by
    simp only [Pl.ok, Bool.and_eq_true, decide_eq_true_eq, beq_iff_eq] at ho
    obtain ⟨m, rfl⟩ : ∃ m, n = m + 1 := ⟨n - 1, by omega⟩
    refine wpAnyH_all ho.1.1.2 (by simp) fun k hk => ?_
    rcases (by simpa using hk : k = i ∨ k = j) with rfl | rfl
    · exact wpOp_mono (fun a' w' h' => ⟨h'.1, wpPl_sound hs hQ p m _ a' w' (by simpa using ho.1.2) h'.1 h'.2⟩) h.1
    · exact wpOp_mono (fun a' w' h' => ⟨h'.1, wpPl_sound hs hQ q m _ a' w' (by simpa using ho.2) h'.1 h'.2⟩) h.2

/-- The beginning. -/
theorem wp_plan {id : Nat} {l : List Oper} {a : Act} {w : World} (S : World → Prop) (p : Pl) (hm : P.follows .mixedOrders = true) (hs : Region.noSelect l.toArray = true)
    (ho : Pl.ok l.toArray p l.length (Array.replicate l.length false) = true) (hQ : ∀ c a d v w, Q (.panic c) (Act.put a d v) w → Q (.panic c) a w)
    (hS : S w.drew) (h : wpPl P l.toArray Q S p a w.drew) : (Code.region id l.toArray true).wp P Q a w :=
  wp_region_held hm (wpPl_sound hs hQ p _ _ _ _ (by simpa using ho) hS h)

/-- An element of a list, found by going along it. -/
def nth : List Oper → Nat → Option Oper
  | [], _ => none
  | o :: _, 0 => some o
  | _ :: l, i + 1 => nth l i
theorem nth_eq : ∀ (l : List Oper) (i : Nat), nth l i = l[i]?
  | [], i => by simp [nth]
  | o :: l, 0 => rfl
  | o :: l, i + 1 => by simp [nth, nth_eq l i]
theorem nth_at {l : List Oper} {i : Nat} {o : Oper} (h : nth l i = some o) : l.toArray[i]? = some o := by
  rw [nth_eq] at h
  simpa using h

/-! ### The steps -/
section
variable {l : List Oper}
theorem pl_run {i : Nat} {is : List Nat} {K : Act → World → Prop} {a : Act} {w : World} {o : Oper} {v : Value} (hi : nth l i = some o) (hw : Region.wanted o (yielded l.toArray a.tmps) = true)
    (hr : ∀ W, S W → (execOp a.eval o).run P W = .ok (.value v) W) (h : wpPlT P l.toArray S K is (a.put o.dst v) w) : wpPlT P l.toArray S K (i :: is) a w :=
  ⟨o, v, nth_at hi, .inl ⟨hw, hr⟩, h⟩
theorem pl_skip {i : Nat} {is : List Nat} {K : Act → World → Prop} {a : Act} {w : World} {o : Oper} (hi : nth l i = some o) (hw : Region.wanted o (yielded l.toArray a.tmps) = false)
    (h : wpPlT P l.toArray S K is (a.put o.dst undef) w) : wpPlT P l.toArray S K (i :: is) a w :=
  ⟨o, undef, nth_at hi, .inr ⟨hw, rfl⟩, h⟩
theorem pl_end {p : Pl} {a : Act} {w : World} (h : wpPl P l.toArray Q S p a w) : wpPlT P l.toArray S (wpPl P l.toArray Q S p) [] a w := h
theorem pl_tames {is : List Nat} {p : Pl} {a : Act} {w : World} (h : wpPlT P l.toArray S (wpPl P l.toArray Q S p) is a w) : wpPl P l.toArray Q S (.tames is p) a w := h
theorem pl_done {a : Act} {w : World} (h : Q .normal a w) : wpPl P l.toArray Q S .done a w := h
theorem pl_one {i : Nat} {p : Pl} {a : Act} {w : World} {o : Oper} (hi : nth l i = some o) (hw : Region.wanted o (yielded l.toArray a.tmps) = true)
    (h : ∀ K : Act → World → Prop, Hid (∀ a w, S w → wpPl P l.toArray Q S p a w → K a w) → o.wp P a w K Q) : wpPl P l.toArray Q S (.one i p) a w :=
  wpOp_step (nth_at hi) fun K' hK => by rw [if_pos hw]; exact h K' fun a w h1 h2 => hK a w ⟨h1, h2⟩
theorem pl_one_skip {i : Nat} {p : Pl} {a : Act} {w : World} {o : Oper} (hi : nth l i = some o) (hw : Region.wanted o (yielded l.toArray a.tmps) = false) (hS : S w)
    (h : wpPl P l.toArray Q S p (a.put o.dst undef) w) : wpPl P l.toArray Q S (.one i p) a w :=
  wpOp_step (nth_at hi) fun K' hK => by rw [if_neg (by simp [hw])]; exact hK _ _ ⟨hS, h⟩
theorem pl_two {i j : Nat} {p q : Pl} {a : Act} {w : World} (h1 : wpPl P l.toArray Q S (.one i p) a w) (h2 : wpPl P l.toArray Q S (.one j q) a w) : wpPl P l.toArray Q S (.two i j p q) a w := ⟨h1, h2⟩
end
end
end Go.Proofs.YtnhdcdhpfgdphaaDoor

/-
  turn.Check answers as validB says.
-/
set_option linter.unusedSimpArgs false
set_option linter.unusedVariables false
namespace Go.Proofs.YtnhdcdhpfgdphaaDoor
open Go Go.RowKit

theorem ok0_comp {B : Bk} (h : ok0 B = true) : 1 ≤ B.comp ∧ B.comp ≤ 4 ∧ 1 ≤ B.orders.length ∧ B.orders.length ≤ 3 ∧ B.bounds.length ≤ 4 ∧ B.shots.length ≤ 5 := by
  simp [ok0, inB] at h
  omega

set_option maxRecDepth 100000 in
set_option maxHeartbeats 4000000 in
theorem check_any (B : Bk) (a1 a2 a3 : Option Addr) (c1 c2 c3 : Nat) (w : World) (h : BookA w B a1 a2 a3) :
    Calls Tryd.prog 17 #[.agg #[.int .i64 B.comp, .slice a1 B.bounds.length c1, .slice a2 B.orders.length c2, .slice a3 B.shots.length c3]] w
      fun e w' => e = .returned (.int .i64 (checkRes B)) ∧ Ext w w' := by
  have l1 := h.l1
  have l2 := h.l2
  have l3 := h.l3
  go_enter Tryd.func17, Tryd.ntmps17
  go_upto_region 1 with (fail)
  go_cut [3] (fun s wx => s = .bool (ok0 B) ∧ wx = w.alloc (.cells #[.int .i64 B.comp, .slice a1 B.bounds.length c1, .slice a2 B.orders.length c2, .slice a3 B.shots.length c3] 26))
  case first =>
    go_wp2_with (go_at_call 64; refine (on_any _ _ _ _).mono ?_; rintro e w' ⟨rfl, rfl⟩)
    all_goals
      go_wp2
      go_meet
      refine ⟨?_, rfl⟩
      congr 1
      simp_all [ok0, inB]
      try omega
  case rest =>
    obtain ⟨rfl, rfl⟩ := hcut
    obtain ⟨X, hX⟩ : ∃ X, X = w.alloc (.cells #[.int .i64 B.comp, .slice a1 B.bounds.length c1, .slice a2 B.orders.length c2, .slice a3 B.shots.length c3] 26) := ⟨_, rfl⟩
    go_wp2_with (fail)
    go_loopw [3, 36] (fun s i wr => ∃ k : Nat, k ≤ B.bounds.length ∧ i = .int .i64 k ∧ s = .bool (ok0 B && okBounds B.bounds k) ∧ Below (w.heap.size + 1) X wr) (fun _ i _ => B.bounds.length - (intOf i).toNat)
    case atStart => exact ⟨0, Nat.zero_le _, rfl, by simp [okBounds], by rw [hX]; exact Below.refl _ _⟩
    case round =>
      obtain ⟨k, hk, rfl, rfl, hb⟩ := hrel
      have hsz := box_size hX hb
      obtain ⟨x0, x1, x2, x3⟩ := box_cells4 hX hb
      have hB := h.ext (box_ext hX hb)
      obtain ⟨g, hg⟩ : ∃ g, g = (ok0 B && okBounds B.bounds k) := ⟨_, rfl⟩
      rw [← hg]
      have Hg := Lib.hid hg
      have HX := Lib.hid hX
      clear hg hX
      by_cases hlt : k < B.bounds.length
      · obtain ⟨b, o, rfl, hbl, hc⟩ := hB.bounds (by omega)
        have q1 := (hc k hlt).1
        have q2 := (hc k hlt).2
        go_upto_region 5 with (fail)
        have hbx : Below (w.heap.size + 1) X (wr.alloc (.cells #[.int .i64 (bLo B.bounds k), .int .i64 (bHi B.bounds k)] 29)) := hb.alloc (by omega) _
        cases g with
        | false =>
          go_quiet (fail)
          go_wp2
          go_roundw
          case rel => exact ⟨k + 1, by omega, by go_num, by rw [okB_succ, ← Hg.out]; rfl, hbx.trans ((Ext.drewN _ _).mono (by simp; omega))⟩
          case measure => simp [intOf]; omega
        | true =>
          obtain ⟨sp, hsp⟩ : ∃ sp, sp = isSpanB (bLo B.bounds k) (bHi B.bounds k) := ⟨_, rfl⟩
          have Hsp := Lib.hid hsp
          clear hsp
          cases sp with
          | false =>
            refine wp_plan (fun W => W.cell? ⟨wr.heap.size, 0, none⟩ = some (.int .i64 (bLo B.bounds k)) ∧ W.cell? ⟨wr.heap.size, 1, none⟩ = some (.int .i64 (bHi B.bounds k))) (.tames [0, 1, 2] (.one 3 (.tames [4, 5, 6, 7, 8, 9, 10, 11, 12, 13, 14, 15, 16, 17, 18, 19, 20, 21] (.done)))) (by kernel_rfl) (by kernel_rfl) (by kernel_rfl) (fun c a d v w h => by cases d <;> exact h) ?_ ?_
            · simp [go_sem]
            refine pl_tames ?_
            (try simp only [Act.put, List.setIfInBounds_toArray, List.set_cons_zero, List.set_cons_succ])
            repeat (first
              | (refine pl_run (v := ?_) rfl ?_ (fun W hW => ?_) ?_; rotate_left; rfl; ((try dsimp only at hW); go_simp; try with_reducible rfl); (try simp only [Act.put, List.setIfInBounds_toArray, List.set_cons_zero, List.set_cons_succ]))
              | (refine pl_skip rfl ?_ ?_; rfl; (try simp only [Act.put, List.setIfInBounds_toArray, List.set_cons_zero, List.set_cons_succ])))
            refine pl_end ?_
            refine pl_one rfl (by rfl) (fun K hK => ?_)
            go_simp
            go_at_call 65; refine (isSpan_is _ _ _ Hsp.out.symm _).mono ?_; rintro e w' ⟨rfl, rfl⟩
            refine hK.out _ _ (by simp [go_sem]) ?_
            clear hK K
            (try refine pl_tames ?_)
            (try simp only [Act.put, List.setIfInBounds_toArray, List.set_cons_zero, List.set_cons_succ])
            try ((repeat (first   | (refine pl_run (v := ?_) rfl ?_ (fun W hW => ?_) ?_; rotate_left; rfl; ((try dsimp only at hW); go_simp; try with_reducible rfl); (try simp only [Act.put, List.setIfInBounds_toArray, List.set_cons_zero, List.set_cons_succ]))   | (refine pl_skip rfl ?_ ?_; rfl; (try simp only [Act.put, List.setIfInBounds_toArray, List.set_cons_zero, List.set_cons_succ])))); refine pl_end ?_)
            refine pl_done ?_
            go_wp2
            go_roundw
            case rel => exact ⟨k + 1, by omega, by go_num, by rw [okB_succ, ← Hg.out]; simp [okBound, ← Hsp.out], (hbx.drew).alloc (by simp; omega) _⟩
            case measure => simp [intOf]; omega
          | true =>
            by_cases hk0 : k = 0
            · subst hk0
              refine wp_plan (fun W => W.cell? ⟨wr.heap.size, 0, none⟩ = some (.int .i64 (bLo B.bounds 0)) ∧ W.cell? ⟨wr.heap.size, 1, none⟩ = some (.int .i64 (bHi B.bounds 0))) (.tames [0, 1, 2] (.one 3 (.tames [4, 5, 6, 7, 8, 9, 10, 11, 12, 13, 14, 15, 16, 17, 18, 19, 20, 21] (.done)))) (by kernel_rfl) (by kernel_rfl) (by kernel_rfl) (fun c a d v w h => by cases d <;> exact h) ?_ ?_
              · simp [go_sem]
              refine pl_tames ?_
              (try simp only [Act.put, List.setIfInBounds_toArray, List.set_cons_zero, List.set_cons_succ])
              repeat (first
                | (refine pl_run (v := ?_) rfl ?_ (fun W hW => ?_) ?_; rotate_left; rfl; ((try dsimp only at hW); go_simp; try with_reducible rfl); (try simp only [Act.put, List.setIfInBounds_toArray, List.set_cons_zero, List.set_cons_succ]))
                | (refine pl_skip rfl ?_ ?_; rfl; (try simp only [Act.put, List.setIfInBounds_toArray, List.set_cons_zero, List.set_cons_succ])))
              refine pl_end ?_
              refine pl_one rfl (by rfl) (fun K hK => ?_)
              go_simp
              go_at_call 65; refine (isSpan_is _ _ _ Hsp.out.symm _).mono ?_; rintro e w' ⟨rfl, rfl⟩
              refine hK.out _ _ (by simp [go_sem]) ?_
              clear hK K
              (try refine pl_tames ?_)
              (try simp only [Act.put, List.setIfInBounds_toArray, List.set_cons_zero, List.set_cons_succ])
              try ((repeat (first   | (refine pl_run (v := ?_) rfl ?_ (fun W hW => ?_) ?_; rotate_left; rfl; ((try dsimp only at hW); go_simp; try with_reducible rfl); (try simp only [Act.put, List.setIfInBounds_toArray, List.set_cons_zero, List.set_cons_succ]))   | (refine pl_skip rfl ?_ ?_; rfl; (try simp only [Act.put, List.setIfInBounds_toArray, List.set_cons_zero, List.set_cons_succ])))); refine pl_end ?_)
              refine pl_done ?_
              go_wp2
              go_roundw
              case rel => exact ⟨0 + 1, by omega, by go_num, by rw [okB_succ, ← Hg.out]; simp [okBound, ← Hsp.out], (hbx.drew).alloc (by simp; omega) _⟩
              case measure => simp [intOf]; omega
            · have q3 := (hc (k - 1) (by omega)).2
              obtain ⟨m, rfl⟩ : ∃ m, k = m + 1 := ⟨k - 1, by omega⟩
              have q4 : wr.cell? ⟨b, o + m * 2 + 1, none⟩ = some (.int .i64 (bHi B.bounds m)) := by simpa using q3
              clear q3
              have hk1 : ((m : Int) + 1 == 0) = false := by rw [beq_eq_false_iff_ne]; omega
              have hm1 : IntKind.i64.wrap (m : Int) = m := wr64 _ (by omega)
              have hm2 : (0 : Int) ≤ m := by omega
              have hm3 : (m : Int) < B.bounds.length := by omega
              refine wp_plan (fun W => W.cell? ⟨wr.heap.size, 0, none⟩ = some (.int .i64 (bLo B.bounds (m + 1))) ∧ W.cell? ⟨wr.heap.size, 1, none⟩ = some (.int .i64 (bHi B.bounds (m + 1))) ∧ W.cell? ⟨w.heap.size, 1, none⟩ = some (.slice (some ⟨b, o, none⟩) B.bounds.length c1) ∧ W.cell? ⟨b, o + m * 2 + 1, none⟩ = some (.int .i64 (bHi B.bounds m))) (.tames [0, 1, 2] (.one 3 (.tames [4, 5, 6, 7, 8, 9, 10, 11, 12, 13, 14, 15, 16, 17, 18, 19, 20, 21] (.done)))) (by kernel_rfl) (by kernel_rfl) (by kernel_rfl) (fun c a d v w h => by cases d <;> exact h) ?_ ?_
              · (simp [go_sem, cell_alloc_some, x1, q4])
              refine pl_tames ?_
              (try simp only [Act.put, List.setIfInBounds_toArray, List.set_cons_zero, List.set_cons_succ])
              repeat (first
                | (refine pl_run (v := ?_) rfl ?_ (fun W hW => ?_) ?_; rotate_left; rfl; ((try dsimp only at hW); go_simp; try with_reducible rfl); (try simp only [Act.put, List.setIfInBounds_toArray, List.set_cons_zero, List.set_cons_succ]))
                | (refine pl_skip rfl ?_ ?_; rfl; (try simp only [Act.put, List.setIfInBounds_toArray, List.set_cons_zero, List.set_cons_succ])))
              refine pl_end ?_
              refine pl_one rfl (by rfl) (fun K hK => ?_)
              go_simp
              go_at_call 65; refine (isSpan_is _ _ _ Hsp.out.symm _).mono ?_; rintro e w' ⟨rfl, rfl⟩
              refine hK.out _ _ (by simp [go_sem, cell_alloc_some, x1, q4]) ?_
              clear hK K
              (try refine pl_tames ?_)
              (try simp only [Act.put, List.setIfInBounds_toArray, List.set_cons_zero, List.set_cons_succ])
              try ((repeat (first   | (refine pl_run (v := ?_) rfl ?_ (fun W hW => ?_) ?_; rotate_left; rfl; ((try dsimp only at hW); go_simp; try with_reducible rfl); (try simp only [Act.put, List.setIfInBounds_toArray, List.set_cons_zero, List.set_cons_succ]))   | (refine pl_skip rfl ?_ ?_; rfl; (try simp only [Act.put, List.setIfInBounds_toArray, List.set_cons_zero, List.set_cons_succ])))); refine pl_end ?_)
              repeat (first
                | (refine pl_run (v := ?_) rfl ?_ (fun W hW => ?_) ?_; rotate_left; rfl; ((try dsimp only at hW); go_simp; try with_reducible rfl); (try simp only [Act.put, List.setIfInBounds_toArray, List.set_cons_zero, List.set_cons_succ]))
                | (refine pl_skip rfl ?_ ?_; rfl; (try simp only [Act.put, List.setIfInBounds_toArray, List.set_cons_zero, List.set_cons_succ])))
              refine pl_end ?_
              refine pl_done ?_
              go_wp2
              go_roundw
              case rel => exact ⟨m + 1 + 1, by omega, by go_num, by rw [okB_succ, ← Hg.out]; simp [okBound, ← Hsp.out], (hbx.drew).alloc (by simp; omega) _⟩
              case measure => simp [intOf]; omega
      · obtain rfl : k = B.bounds.length := by omega
        go_wp2_with (fail)
        clear x0 x1 x2 x3 hB
        go_loopw [3, 66] (fun s i wr => ∃ k : Nat, k ≤ B.orders.length ∧ i = .int .i64 k ∧ s = .bool (g && okRows B.comp B.bounds.length B.orders k) ∧ Below (w.heap.size + 1) X wr) (fun _ i _ => B.orders.length - (intOf i).toNat)
        case atStart => exact ⟨0, Nat.zero_le _, rfl, by simp [okRows], hb⟩
        case round =>
          clear hb hsz
          obtain ⟨k, hk, rfl, rfl, hb⟩ := hrel
          have hsz := box_size HX.out hb
          obtain ⟨x0, x1, x2, x3⟩ := box_cells4 HX.out hb
          have hB := h.ext (box_ext HX.out hb)
          obtain ⟨g1, hg1⟩ : ∃ g1, g1 = (g && okRows B.comp B.bounds.length B.orders k) := ⟨_, rfl⟩
          rw [← hg1]
          have Hg1 := Lib.hid hg1
          clear hg1
          by_cases hlt : k < B.orders.length
          · obtain ⟨b, o, rfl, hbl, hc⟩ := hB.orders (by omega)
            obtain ⟨ra, rc, q1, ql, qi⟩ := hc k hlt
            go_upto_region 10 with (fail)
            go_cut [3] (fun s wx => s = .bool (g1 && decide ((oAt B.orders k).length = B.bounds.length + 1)) ∧ wx = wr)
            case first =>
              cases g1 with
              | false =>
                go_wp2
                go_meet
                case rel => exact ⟨rfl, rfl⟩
              | true =>
                have hok : ok0 B = true := by
                  have e1 := Hg1.out
                  have e2 := Hg.out
                  simp only [e2, Bool.true_eq, Bool.and_eq_true] at e1
                  exact e1.1.1
                have hnb := (ok0_comp hok).2.2.2.2.1
                clear hok
                go_wp2
                go_meet
                case rel => exact ⟨congrArg Value.bool (by rw [Bool.eq_iff_iff]; simp; omega), rfl⟩
            case rest =>
              obtain ⟨rfl, rfl⟩ := hcut
              obtain ⟨g2, hg2⟩ : ∃ g2, g2 = (g1 && decide ((oAt B.orders k).length = B.bounds.length + 1)) := ⟨_, rfl⟩
              rw [← hg2]
              have Hg2 := Lib.hid hg2
              clear hg2
              go_wp2_with (fail)
              clear x1 x2 x3
              go_loopw [3, 82] (fun s i wr => ∃ j : Nat, j ≤ (oAt B.orders k).length ∧ i = .int .i64 j ∧ s = .bool (g2 && okNums B.comp (oAt B.orders k) j) ∧ wr = wc) (fun _ i _ => (oAt B.orders k).length - (intOf i).toNat)
              case atStart => exact ⟨0, Nat.zero_le _, rfl, by simp [okNums], rfl⟩
              case round =>
                obtain ⟨j, hj, rfl, rfl, rfl⟩ := hrel
                obtain ⟨g3, hg3⟩ : ∃ g3, g3 = (g2 && okNums B.comp (oAt B.orders k) j) := ⟨_, rfl⟩
                rw [← hg3]
                have Hg3 := Lib.hid hg3
                clear hg3
                by_cases hjl : j < (oAt B.orders k).length
                · obtain ⟨b2, o2, rfl, hbl2, hc2⟩ := qi (by omega)
                  have q2 := hc2 j hjl
                  cases g3 with
                  | false =>
                    go_wp2
                    go_roundw
                    case rel => exact ⟨j + 1, by omega, by go_num, by rw [okNums_succ, ← Hg3.out]; rfl, by trivial⟩
                    case measure => simp [intOf]; omega
                  | true =>
                    have hok : ok0 B = true := by
                      have e1 := Hg3.out
                      have e2 := Hg2.out
                      have e3 := Hg1.out
                      have e4 := Hg.out
                      simp only [e2, e3, e4, Bool.true_eq, Bool.and_eq_true] at e1
                      exact e1.1.1.1.1
                    have hC1 := (ok0_comp hok).1
                    have hC2 := (ok0_comp hok).2.1
                    clear hok
                    go_wp2_with (go_at_call 64; refine (on_any _ _ _ _).mono ?_; rintro e w' ⟨rfl, rfl⟩)
                    go_roundw
                    case rel => exact ⟨j + 1, by omega, by go_num, by rw [okNums_succ, ← Hg3.out]; rfl, by trivial⟩
                    case measure => simp [intOf]; omega
                · obtain rfl : j = (oAt B.orders k).length := by omega
                  go_wp2_with (fail)
                  go_roundw
                  case rel => exact ⟨k + 1, by omega, by go_num, by rw [okRows_succ, ← Hg1.out, ← Hg2.out, ← Hg3.out], hb⟩
                  case measure => simp [intOf]; omega
          · obtain rfl : k = B.orders.length := by omega
            go_wp2_with (fail)
            clear x0 x1 x2 x3 hB
            go_loopw [3, 99] (fun s i wr => ∃ k : Nat, k ≤ B.shots.length ∧ i = .int .i64 k ∧ s = .bool (g1 && okShots B k) ∧ Below (w.heap.size + 1) X wr) (fun _ i _ => B.shots.length - (intOf i).toNat)
            case atStart => exact ⟨0, Nat.zero_le _, rfl, by simp [okShots], hb⟩
            case round =>
              clear hb hsz
              obtain ⟨k, hk, rfl, rfl, hb⟩ := hrel
              have hsz := box_size HX.out hb
              obtain ⟨x0, x1, x2, x3⟩ := box_cells4 HX.out hb
              have hB := h.ext (box_ext HX.out hb)
              obtain ⟨g2, hg2⟩ : ∃ g2, g2 = (g1 && okShots B k) := ⟨_, rfl⟩
              rw [← hg2]
              have Hg2 := Lib.hid hg2
              clear hg2
              by_cases hlt : k < B.shots.length
              · obtain ⟨b, o, rfl, hbl, hc⟩ := hB.shots (by omega)
                obtain ⟨q0, q1, q2, q3⟩ := hc k hlt
                go_upto_region 20 with (fail)
                have hbx : Below (w.heap.size + 1) X (wr.alloc (.cells #[.int .i64 (sAt B.shots k).st, .int .i64 (sAt B.shots k).co, .int .i64 (sAt B.shots k).lo, .int .i64 (sAt B.shots k).hi] 59)) := hb.alloc (by omega) _
                cases g2 with
                | false =>
                  go_wp2
                  go_roundw
                  case rel => exact ⟨k + 1, by omega, by go_num, by rw [okShots_succ, ← Hg2.out]; rfl, hbx⟩
                  case measure => simp [intOf]; omega
                | true =>
                  have hok : ok0 B = true := by
                    have e1 := Hg2.out
                    have e3 := Hg1.out
                    have e4 := Hg.out
                    simp only [e3, e4, Bool.true_eq, Bool.and_eq_true] at e1
                    exact e1.1.1.1
                  have hC1 := (ok0_comp hok).1
                  have hC2 := (ok0_comp hok).2.1
                  clear hok
                  go_wp2_with (first | (go_at_call 64; refine (on_any _ _ _ _).mono ?_; rintro e w' ⟨rfl, rfl⟩) | (go_at_call 65; refine (isSpan_any _ _ _).mono ?_; rintro e w' ⟨rfl, rfl⟩))
                  · go_roundw
                    case rel => exact ⟨k + 1, by omega, by go_num, by rw [okShots_succ, ← Hg2.out, okShot_1 (by assumption) (by assumption)]; rfl, hbx.alloc (by simp; omega) _⟩
                    case measure => simp [intOf]; omega
                  · go_roundw
                    case rel => exact ⟨k + 1, by omega, by go_num, by rw [okShots_succ, ← Hg2.out, okShot_2 (by assumption)]; rfl, hbx⟩
                    case measure => simp [intOf]; omega
                  · go_roundw
                    case rel => exact ⟨k + 1, by omega, by go_num, by rw [okShots_succ, ← Hg2.out, okShot_3 (by assumption)]; rfl, hbx⟩
                    case measure => simp [intOf]; omega
              · obtain rfl : k = B.shots.length := by omega
                have hv : validB B = g2 := by
                  rw [Hg2.out, Hg1.out, Hg.out]
                  rfl
                have Hv := Lib.hid hv
                clear hv
                cases g2 with
                | false =>
                  go_wp2
                  go_ret
                  exact ⟨by rw [checkRes, Hv.out]; rfl, box_ext HX.out hb⟩
                | true =>
                  go_wp2
                  go_ret
                  exact ⟨by rw [checkRes, Hv.out]; rfl, box_ext HX.out hb⟩
end Go.Proofs.YtnhdcdhpfgdphaaDoor

/-
  turn: the least and the greatest turn at a minute.
-/
set_option linter.unusedSimpArgs false
set_option linter.unusedVariables false
namespace Go.Proofs.YtnhdcdhpfgdphaaDoor
open Go Go.RowKit

set_option maxRecDepth 100000 in
set_option maxHeartbeats 4000000 in
theorem turns_any (B : Bk) (a1 a2 a3 : Option Addr) (c1 c2 c3 : Nat) (mp : Option Nat) (m : Int) (w : World) (h : BookA w B a1 a2 a3) (hG : Glob w) :
    Calls Tryd.prog 60 #[.agg #[.int .i64 B.comp, .slice a1 B.bounds.length c1, .slice a2 B.orders.length c2, .slice a3 B.shots.length c3, .map mp], .int .i64 m] w
      fun e w' => e = .returned (.agg #[.int .i64 (tLo B m), .int .i64 (tHi B m)]) ∧ Ext w w' := by
  have l1 := h.l1
  obtain ⟨e0, e1, n0, n1⟩ := hG
  have i0 : ∀ w, (Instr.index 106 (.agg #[.func (.func 141) #[] #[], .func (.func 143) #[] #[]]) (.int .i64 0)).run Tryd.prog w = .ok (.func (.func 141) #[] #[]) w := fun _ => by kernel_rfl
  have i1 : ∀ w, (Instr.index 106 (.agg #[.func (.func 141) #[] #[], .func (.func 143) #[] #[]]) (.int .i64 1)).run Tryd.prog w = .ok (.func (.func 143) #[] #[]) w := fun _ => by kernel_rfl
  have z0 : 0 < w.heap.size := lt_of_cell e0
  go_enter Tryd.func60, Tryd.ntmps60
  go_wp2_with (fail)
  clear e0 e1 n0 n1
  obtain ⟨W0, hW0⟩ : ∃ W0, W0 = (w.alloc (.cells #[.int .i64 B.comp, .slice a1 B.bounds.length c1, .slice a2 B.orders.length c2, .slice a3 B.shots.length c3, .map mp] 81)).alloc (.cells #[.int .i64 0, .int .i64 0] 29) := ⟨_, rfl⟩
  obtain ⟨G2, hG2⟩ : ∃ G2, G2 = w.heap.size + 1 + 1 := ⟨_, rfl⟩
  have s0 : W0.heap.size = w.heap.size + 1 + 1 := by rw [hW0]; simp
  have E0 : Ext w W0 := by rw [hW0]; exact (Ext.alloc _ _).trans (Ext.alloc _ _)
  have b0 : Blk W0 w.heap.size 81 #[.int .i64 B.comp, .slice a1 B.bounds.length c1, .slice a2 B.orders.length c2, .slice a3 B.shots.length c3, .map mp] := by rw [hW0]; exact (Blk.new _ _ _).alloc _
  have r0 : Blk W0 (w.heap.size + 1) 29 #[.int .i64 0, .int .i64 0] := by rw [hW0]; have := Blk.new (w.alloc (.cells #[.int .i64 B.comp, .slice a1 B.bounds.length c1, .slice a2 B.orders.length c2, .slice a3 B.shots.length c3, .map mp] 81)) 29 #[.int .i64 0, .int .i64 0]; simpa using this
  rw [← hG2] at s0
  have o0 : Blk (W0.alloc (.cells #[.int .i64 0, .int .i64 0] 51)) G2 51 #[.int .i64 0, .int .i64 0] := by have := Blk.new W0 51 #[.int .i64 0, .int .i64 0]; rwa [s0] at this
  rw [← hW0, ← hG2]
  have E1 : Below G2 W0 (W0.alloc (.cells #[.int .i64 0, .int .i64 0] 51)) := below_alloc' _ _ (by omega)
  have z2 : w.heap.size + 1 < G2 := by omega
  have HW0 := Lib.hid hW0
  have HG2 := Lib.hid hG2
  have S0 : W0.heap.size ≤ G2 := by omega
  have S1 : G2 ≤ W0.heap.size := by omega
  clear hW0 hG2 s0
  go_loopw [11] (fun i wr => ∃ k : Nat, k ≤ 2 ∧ i = .int .i64 k ∧ Below G2 W0 wr ∧
    Blk wr G2 51 #[.int .i64 (if 1 ≤ k then tLo B m else 0), .int .i64 (if 2 ≤ k then tHi B m else 0)]) (fun i _ => 2 - (intOf i).toNat)
  case atStart => exact ⟨0, by omega, rfl, E1, o0⟩
  case round =>
    clear E1 o0
    obtain ⟨k, hk, rfl, hb, ho⟩ := hrel
    have hs := ho.lt
    have EE : Ext w wr := E0.trans (hb.mono (by omega) : Below W0.heap.size W0 wr)
    have hB := h.ext EE
    obtain ⟨x0, x1, x2, x3, x4⟩ := (b0.below hb (by omega)).c5
    rcases (by omega : k = 0 ∨ k = 1 ∨ k = 2) with rfl | rfl | rfl
    · rw [show ((0 : Nat) : Int) = 0 from rfl]
      go_wp2_with (fail)
      have ho' : Blk wr G2 51 #[.int .i64 (cHi B.bounds m 0), .int .i64 0] := ho
      clear ho x0 x1 x2 x3 x4
      go_loopw [19] (fun i wr => ∃ j : Nat, j ≤ B.bounds.length ∧ i = .int .i64 j ∧ Below G2 W0 wr ∧ Blk wr G2 51 #[.int .i64 (cHi B.bounds m j), .int .i64 0]) (fun i _ => B.bounds.length - (intOf i).toNat)
      case atStart => exact ⟨0, by omega, rfl, hb, ho'⟩
      case round =>
        clear hb ho' hs hB EE
        obtain ⟨j, hj, rfl, hb, ho⟩ := hrel
        have hs := ho.lt
        have EE : Ext w wr := E0.trans (hb.mono (by omega) : Below W0.heap.size W0 wr)
        have hB := h.ext EE
        have hcl := cHi_le B.bounds m j
        have hcl2 := cLo_le B.bounds m j
        have hcl3 := cHi_le B.bounds m B.bounds.length
        by_cases hlt : j < B.bounds.length
        · obtain ⟨b, o, rfl, hbl, hc⟩ := hB.bounds (by omega)
          obtain ⟨q1, q2⟩ := hc j hlt
          by_cases hm : bHi B.bounds j ≤ m
          · go_wp2_with (fail)
            refine (first_any _ _ _).mono ?_
            rintro e w' ⟨rfl, hE⟩
            have hE2 := (Ext.alloc wr (.cells #[.int .i64 (bLo B.bounds j), .int .i64 (bHi B.bounds j)] 29)).trans hE
            have ho2 := ho.ext hE2
            obtain ⟨y0, y1⟩ := ho2.c2
            have f0 := ho2.frozen 0
            have f1 := ho2.frozen 1
            clear hE hc q1 q2
            go_wp2
            go_roundw
            case rel => exact ⟨j + 1, by omega, by go_num, (hb.trans (hE2.mono (by omega))).setCell (by simp) _, by have := ho2.put 0 (.int .i64 ((cHi B.bounds m j : Nat) + 1)); simpa [cHi_succ, cLo_succ, hm] using this⟩
            case measure => simp [intOf]; omega
          · go_wp2_with (fail)
            refine (first_any _ _ _).mono ?_
            rintro e w' ⟨rfl, hE⟩
            have hE2 := (Ext.alloc wr (.cells #[.int .i64 (bLo B.bounds j), .int .i64 (bHi B.bounds j)] 29)).trans hE
            have ho2 := ho.ext hE2
            clear hE hc q1 q2
            go_wp2
            go_roundw
            case rel => exact ⟨j + 1, by omega, by go_num, hb.trans (hE2.mono (by omega)), by rw [cHi_succ, if_neg (by omega)]; exact ho2⟩
            case measure => simp [intOf]; omega
        · obtain rfl : j = B.bounds.length := by omega
          go_wp2_with (fail)
          go_roundw
          case rel => exact ⟨0 + 1, by omega, by go_num, hb, by simpa [tLo, tHi] using ho⟩
          case measure => simp [intOf]
    · rw [show ((1 : Nat) : Int) = 1 from rfl]
      go_wp2_with (fail)
      have ho' : Blk wr G2 51 #[.int .i64 (tLo B m), .int .i64 (cLo B.bounds m 0)] := ho
      clear ho x0 x1 x2 x3 x4
      go_loopw [19] (fun i wr => ∃ j : Nat, j ≤ B.bounds.length ∧ i = .int .i64 j ∧ Below G2 W0 wr ∧ Blk wr G2 51 #[.int .i64 (tLo B m), .int .i64 (cLo B.bounds m j)]) (fun i _ => B.bounds.length - (intOf i).toNat)
      case atStart => exact ⟨0, by omega, rfl, hb, ho'⟩
      case round =>
        clear hb ho' hs hB EE
        obtain ⟨j, hj, rfl, hb, ho⟩ := hrel
        have hs := ho.lt
        have EE : Ext w wr := E0.trans (hb.mono (by omega) : Below W0.heap.size W0 wr)
        have hB := h.ext EE
        have hcl := cHi_le B.bounds m j
        have hcl2 := cLo_le B.bounds m j
        have hcl3 := cHi_le B.bounds m B.bounds.length
        by_cases hlt : j < B.bounds.length
        · obtain ⟨b, o, rfl, hbl, hc⟩ := hB.bounds (by omega)
          obtain ⟨q1, q2⟩ := hc j hlt
          by_cases hm : bLo B.bounds j ≤ m
          · go_wp2_with (fail)
            refine (last_any _ _ _).mono ?_
            rintro e w' ⟨rfl, hE⟩
            have hE2 := (Ext.alloc wr (.cells #[.int .i64 (bLo B.bounds j), .int .i64 (bHi B.bounds j)] 29)).trans hE
            have ho2 := ho.ext hE2
            obtain ⟨y0, y1⟩ := ho2.c2
            have f0 := ho2.frozen 0
            have f1 := ho2.frozen 1
            clear hE hc q1 q2
            go_wp2
            go_roundw
            case rel => exact ⟨j + 1, by omega, by go_num, (hb.trans (hE2.mono (by omega))).setCell (by simp) _, by have := ho2.put 1 (.int .i64 ((cLo B.bounds m j : Nat) + 1)); simpa [cHi_succ, cLo_succ, hm] using this⟩
            case measure => simp [intOf]; omega
          · go_wp2_with (fail)
            refine (last_any _ _ _).mono ?_
            rintro e w' ⟨rfl, hE⟩
            have hE2 := (Ext.alloc wr (.cells #[.int .i64 (bLo B.bounds j), .int .i64 (bHi B.bounds j)] 29)).trans hE
            have ho2 := ho.ext hE2
            clear hE hc q1 q2
            go_wp2
            go_roundw
            case rel => exact ⟨j + 1, by omega, by go_num, hb.trans (hE2.mono (by omega)), by rw [cLo_succ, if_neg (by omega)]; exact ho2⟩
            case measure => simp [intOf]; omega
        · obtain rfl : j = B.bounds.length := by omega
          go_wp2_with (fail)
          go_roundw
          case rel => exact ⟨1 + 1, by omega, by go_num, hb, by simpa [tLo, tHi] using ho⟩
          case measure => simp [intOf]
    · rw [show ((2 : Nat) : Int) = 2 from rfl]
      obtain ⟨y0, y1⟩ := ho.c2
      obtain ⟨r1, r2⟩ := (r0.below hb (by omega)).c2
      have f0 := (r0.below hb (by omega)).frozen 0
      have f1 := (r0.below hb (by omega)).frozen 1
      go_wp2
      have rb : Blk ((wr.setCell ⟨w.heap.size + 1, 0, none⟩ (.int .i64 (tLo B m))).setCell ⟨w.heap.size + 1, 1, none⟩ (.int .i64 (tHi B m))) (w.heap.size + 1) 29 #[.int .i64 (tLo B m), .int .i64 (tHi B m)] :=
        ((r0.below hb (by omega)).put 0 _).put 1 _
      obtain ⟨k0, k1⟩ := rb.c2
      refine bodyPost_ret (v := .agg #[.int .i64 (tLo B m), .int .i64 (tHi B m)]) ?_ rfl ⟨rfl, ?_⟩
      · simp [results, Tryd.results60, go_sem, k0, k1]
      · have e1 : Below w.heap.size w wr := EE
        exact (e1.setCell (by simp) _).setCell (by simp) _
end Go.Proofs.YtnhdcdhpfgdphaaDoor
