/-
  A region whose order is drawn, walked by a plan: what reads only is taken first, in one order; what makes memory comes one by one, each in whatever place the draw gives it.
-/
import Derived.WalkKit
import Derived.OrdersHeld
import Derived.RegionTactic
import Derived.KernelRfl
namespace Go.Proofs.YtnhdcdhpfgdphaaDoor
open Go Go.RowKit

/-- A plan: operations that are taken first, one behind the other; the one operation that alone can come up; the two that can. -/
inductive Pl where
  | done
  | tames (l : List Nat) (p : Pl)
  | one (i : Nat) (p : Pl)
  | two (i j : Nat) (p q : Pl)

section
variable (P : Program) (ops : Array Oper)

def Pl.okT (p : Array Bool → Bool) : List Nat → Array Bool → Bool
  | [], l => p l
  | i :: is, l => Region.free .any ops l i && (Region.ready .any ops l).contains i && Pl.okT p is (l.setIfInBounds i true)

/-- Does a plan fit a region? (How many operations it goes through is asked too.) -/
def Pl.ok : Pl → Nat → Array Bool → Bool
  | .done, _, l => (Region.ready .any ops l).isEmpty
  | .tames is p, n, l => decide (is.length ≤ n) && Pl.okT ops (Pl.ok p (n - is.length)) is l
  | .one i p, n, l => decide (1 ≤ n) && (Region.ready .any ops l == [i]) && Pl.ok p (n - 1) (l.setIfInBounds i true)
  | .two i j p q, n, l => decide (1 ≤ n) && (Region.ready .any ops l == [i, j]) && Pl.ok p (n - 1) (l.setIfInBounds i true) && Pl.ok q (n - 1) (l.setIfInBounds j true)

/-- One operation that yields its value in whatever world that meets S, or that is passed over. -/
def tameAt (S : World → Prop) (i : Nat) (K : Act → World → Prop) (a : Act) (w : World) : Prop :=
  ∃ o v, ops[i]? = some o ∧ YieldsIf P ops S o v a ∧ K (a.put o.dst v) w

def wpPlT (S : World → Prop) (K : Act → World → Prop) : List Nat → Act → World → Prop
  | [], a, w => K a w
  | i :: is, a, w => tameAt P ops S i (wpPlT S K is) a w

def wpPl (Q : Exit → Act → World → Prop) (S : World → Prop) : Pl → Act → World → Prop
  | .done, a, w => Q .normal a w
  | .tames is p, a, w => wpPlT P ops S (wpPl Q S p) is a w
  | .one i p, a, w => wpOp P ops Q i (fun a' w' => S w' ∧ wpPl Q S p a' w') a w
  | .two i j p q, a, w => wpOp P ops Q i (fun a' w' => S w' ∧ wpPl Q S p a' w') a w ∧ wpOp P ops Q j (fun a' w' => S w' ∧ wpPl Q S q a' w') a w
end

section
variable {P : Program} {ops : Array Oper} {Q : Exit → Act → World → Prop} {S : World → Prop}

theorem wpPlT_sound (hs : Region.noSelect ops = true) (hQ : ∀ c a d v w, Q (.panic c) (Act.put a d v) w → Q (.panic c) a w) (p : Array Bool → Bool) (K : Act → World → Prop) (n : Nat)
    (hK : ∀ l a w, p l = true → S w → K a w → wpAnyH P .any ops Q S n l a w) :
    ∀ (is : List Nat) (l : Array Bool) (a : Act) (w : World), Pl.okT ops p is l = true → S w → wpPlT P ops S K is a w → wpAnyH P .any ops Q S (n + is.length) l a w
  | [], l, a, w, ho, hS, h => hK l a w ho hS h
  | i :: is, l, a, w, ho, hS, h => by
    simp only [Pl.okT, Bool.and_eq_true] at ho
    obtain ⟨o, v, hi, hy, hr⟩ := h
    have ih := wpPlT_sound hs hQ p K n hK is _ _ w ho.2 hS hr
    exact wpAnyH_take (i := i) hi hs ho.1.1 ho.1.2 (fun c a w hh => hQ c a _ _ w hh) hy hS ih

theorem wpPl_sound (hs : Region.noSelect ops = true) (hQ : ∀ c a d v w, Q (.panic c) (Act.put a d v) w → Q (.panic c) a w) :
    ∀ (p : Pl) (n : Nat) (l : Array Bool) (a : Act) (w : World), Pl.ok ops p n l = true → S w → wpPl P ops Q S p a w → wpAnyH P .any ops Q S n l a w
  | .done, n, l, a, w, ho, _, h => wpAnyH_done (by simpa [Pl.ok] using ho) h n
  | .tames is p, n, l, a, w, ho, hS, h => by
    simp only [Pl.ok, Bool.and_eq_true, decide_eq_true_eq] at ho
    have := wpPlT_sound (P := P) (Q := Q) (S := S) hs hQ (Pl.ok ops p (n - is.length)) (wpPl P ops Q S p) (n - is.length) (fun l a w h1 h2 h3 => wpPl_sound hs hQ p _ l a w h1 h2 h3) is l a w ho.2 hS h
    rwa [Nat.sub_add_cancel ho.1] at this
  | .one i p, n, l, a, w, ho, hS, h => by
    simp only [Pl.ok, Bool.and_eq_true, decide_eq_true_eq, beq_iff_eq] at ho
    obtain ⟨m, rfl⟩ : ∃ m, n = m + 1 := ⟨n - 1, by omega⟩
    refine wpAnyH_all ho.1.2 (by simp) fun k hk => ?_
    obtain rfl : k = i := by simpa using hk
    exact wpOp_mono (fun a' w' h' => ⟨h'.1, wpPl_sound hs hQ p m _ a' w' (by simpa using ho.2) h'.1 h'.2⟩) h
  | .two i j p q, n, l, a, w, ho, hS, h => by
    simp only [Pl.ok, Bool.and_eq_true, decide_eq_true_eq, beq_iff_eq] at ho
    obtain ⟨m, rfl⟩ : ∃ m, n = m + 1 := ⟨n - 1, by omega⟩
    refine wpAnyH_all ho.1.1.2 (by simp) fun k hk => ?_
    rcases (by simpa using hk : k = i ∨ k = j) with rfl | rfl
    · exact wpOp_mono (fun a' w' h' => ⟨h'.1, wpPl_sound hs hQ p m _ a' w' (by simpa using ho.1.2) h'.1 h'.2⟩) h.1
    · exact wpOp_mono (fun a' w' h' => ⟨h'.1, wpPl_sound hs hQ q m _ a' w' (by simpa using ho.2) h'.1 h'.2⟩) h.2

/-- The beginning. -/
theorem wp_plan {id : Nat} {l : List Oper} {a : Act} {w : World} (S : World → Prop) (p : Pl) (hm : P.follows .mixedOrders = true) (hs : Region.noSelect l.toArray = true)
    (ho : Pl.ok l.toArray p l.length (Array.replicate l.length false) = true) (hQ : ∀ c a d v w, Q (.panic c) (Act.put a d v) w → Q (.panic c) a w)
    (hS : S w.drew) (h : wpPl P l.toArray Q S p a w.drew) : (Code.region id l.toArray true).wp P Q a w :=
  wp_region_held hm (wpPl_sound hs hQ p _ _ _ _ (by simpa using ho) hS h)

/-- An element of a list, found by going along it. -/
def nth : List Oper → Nat → Option Oper
  | [], _ => none
  | o :: _, 0 => some o
  | _ :: l, i + 1 => nth l i
theorem nth_eq : ∀ (l : List Oper) (i : Nat), nth l i = l[i]?
  | [], i => by simp [nth]
  | o :: l, 0 => rfl
  | o :: l, i + 1 => by simp [nth, nth_eq l i]
theorem nth_at {l : List Oper} {i : Nat} {o : Oper} (h : nth l i = some o) : l.toArray[i]? = some o := by
  rw [nth_eq] at h
  simpa using h

/-! ### The steps -/
section
variable {l : List Oper}
theorem pl_run {i : Nat} {is : List Nat} {K : Act → World → Prop} {a : Act} {w : World} {o : Oper} {v : Value} (hi : nth l i = some o) (hw : Region.wanted o (yielded l.toArray a.tmps) = true)
    (hr : ∀ W, S W → (execOp a.eval o).run P W = .ok (.value v) W) (h : wpPlT P l.toArray S K is (a.put o.dst v) w) : wpPlT P l.toArray S K (i :: is) a w :=
  ⟨o, v, nth_at hi, .inl ⟨hw, hr⟩, h⟩
theorem pl_skip {i : Nat} {is : List Nat} {K : Act → World → Prop} {a : Act} {w : World} {o : Oper} (hi : nth l i = some o) (hw : Region.wanted o (yielded l.toArray a.tmps) = false)
    (h : wpPlT P l.toArray S K is (a.put o.dst undef) w) : wpPlT P l.toArray S K (i :: is) a w :=
  ⟨o, undef, nth_at hi, .inr ⟨hw, rfl⟩, h⟩
theorem pl_end {p : Pl} {a : Act} {w : World} (h : wpPl P l.toArray Q S p a w) : wpPlT P l.toArray S (wpPl P l.toArray Q S p) [] a w := h
theorem pl_tames {is : List Nat} {p : Pl} {a : Act} {w : World} (h : wpPlT P l.toArray S (wpPl P l.toArray Q S p) is a w) : wpPl P l.toArray Q S (.tames is p) a w := h
theorem pl_done {a : Act} {w : World} (h : Q .normal a w) : wpPl P l.toArray Q S .done a w := h
theorem pl_one {i : Nat} {p : Pl} {a : Act} {w : World} {o : Oper} (hi : nth l i = some o) (hw : Region.wanted o (yielded l.toArray a.tmps) = true)
    (h : ∀ K : Act → World → Prop, Hid (∀ a w, S w → wpPl P l.toArray Q S p a w → K a w) → o.wp P a w K Q) : wpPl P l.toArray Q S (.one i p) a w :=
  wpOp_step (nth_at hi) fun K' hK => by rw [if_pos hw]; exact h K' fun a w h1 h2 => hK a w ⟨h1, h2⟩
theorem pl_one_skip {i : Nat} {p : Pl} {a : Act} {w : World} {o : Oper} (hi : nth l i = some o) (hw : Region.wanted o (yielded l.toArray a.tmps) = false) (hS : S w)
    (h : wpPl P l.toArray Q S p (a.put o.dst undef) w) : wpPl P l.toArray Q S (.one i p) a w :=
  wpOp_step (nth_at hi) fun K' hK => by rw [if_neg (by simp [hw])]; exact hK _ _ ⟨hS, h⟩
theorem pl_two {i j : Nat} {p q : Pl} {a : Act} {w : World} (h1 : wpPl P l.toArray Q S (.one i p) a w) (h2 : wpPl P l.toArray Q S (.one j q) a w) : wpPl P l.toArray Q S (.two i j p q) a w := ⟨h1, h2⟩
end
end
end Go.Proofs.YtnhdcdhpfgdphaaDoor
