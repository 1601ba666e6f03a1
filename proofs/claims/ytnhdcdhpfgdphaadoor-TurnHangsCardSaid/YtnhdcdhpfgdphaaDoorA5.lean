/-
  The exported function Sure.
-/
import Derived.Test.YtnhdcdhpfgdphaaDoorA1
import Derived.WalkSmall
set_option linter.unusedSimpArgs false
set_option linter.unusedVariables false
namespace Go.Proofs.YtnhdcdhpfgdphaaDoor
open Go Go.RowKit

/-- Has a company surely a station at a minute? -/
def sureAt (B : Bk) (s : Nat) (c : Int) (n : Int) : Bool := decide (ownersL B s n = [c])
def addLast (out : List (Int × Int)) (h : Int) : List (Int × Int) := out.dropLast ++ [((out.getLastD (0, 0)).1, h)]
def runStep (B : Bk) (s : Nat) (c : Int) (st : List (Int × Int) × Bool) (n : Nat) : List (Int × Int) × Bool :=
  (if sureAt B s c n then (if st.2 then addLast st.1 n else st.1 ++ [((n : Int), (n : Int))]) else st.1, sureAt B s c n)
/-- The runs of the first k minutes, and whether one goes on. -/
def runsK (B : Bk) (s : Nat) (c : Int) (k : Nat) : List (Int × Int) × Bool := (List.range k).foldl (runStep B s c) ([], false)
theorem runsK_succ (B : Bk) (s : Nat) (c : Int) (k : Nat) : runsK B s c (k + 1) = runStep B s c (runsK B s c k) k := by simp [runsK, List.range_succ]
def runsL (B : Bk) (s : Nat) (c : Int) : List (Int × Int) := (runsK B s c 1440).1
theorem runsK_inv (B : Bk) (s : Nat) (c : Int) (k : Nat) : (runsK B s c k).1.length ≤ k ∧ ((runsK B s c k).2 = true → 0 < (runsK B s c k).1.length) := by
  induction k with
  | zero => simp [runsK]
  | succ k ih =>
    rw [runsK_succ]
    unfold runStep
    cases h1 : sureAt B s c k <;> cases h2 : (runsK B s c k).2 <;> simp [addLast, h2] at ih ⊢ <;> omega

def flatS (L : List (Int × Int)) : List Value := L.flatMap fun p => [.int .i64 p.1, .int .i64 p.2]
theorem flatS_len (L : List (Int × Int)) : (flatS L).length = L.length * 2 := by
  induction L with
  | nil => rfl
  | cons p L ih => simp only [flatS, List.flatMap_cons, List.length_append, List.length_cons, List.length_nil] at *; omega
theorem flatS_snoc (L : List (Int × Int)) (p : Int × Int) : flatS (L ++ [p]) = flatS L ++ [.int .i64 p.1, .int .i64 p.2] := by simp [flatS]
theorem flatS_at (L : List (Int × Int)) : ∀ i, i < L.length → (flatS L)[i * 2]? = some (.int .i64 (bLo L i)) ∧ (flatS L)[i * 2 + 1]? = some (.int .i64 (bHi L i)) := by
  induction L with
  | nil => intro i hi; simp at hi
  | cons p L ih =>
    intro i hi
    rcases i with _ | i
    · simp [flatS, bLo, bHi]
    · have := ih i (by simpa using hi)
      have e : flatS (p :: L) = .int .i64 p.1 :: .int .i64 p.2 :: flatS L := by simp [flatS]
      rw [e, show (i + 1) * 2 = i * 2 + 1 + 1 by omega]
      simpa [bLo, bHi] using this
theorem own_span {w : World} {base n : Nat} {v : Value} {L : List (Int × Int)} (h : w.ownsRow base 29 2 v n (flatS L)) : n = L.length ∧ ∃ a cp, v = .slice a n cp ∧ SpanA w a L := by
  have hl : n = L.length := by have := h.1; rw [flatS_len] at this; omega
  refine ⟨hl, ?_⟩
  rcases Nat.eq_zero_or_pos n with h0 | h0
  · rcases h.2 with ⟨rfl, _⟩ | ⟨g, cap, cur, rfl, _⟩
    · exact ⟨none, 0, by rw [h0], fun hp => by omega⟩
    · exact ⟨_, cap, rfl, fun hp => by omega⟩
  · rcases h.2 with ⟨_, h1⟩ | ⟨g, cap, cur, rfl, hg, hh, h1, h2, h3, h4⟩
    · omega
    · refine ⟨_, cap, rfl, fun _ => ⟨g, 0, rfl, (Array.getElem?_eq_some_iff.1 hh).1, fun i hi => ?_⟩⟩
      have hb : Blk w g 29 cur := hh
      obtain ⟨f1, f2⟩ := flatS_at L i hi
      rw [← h4, List.getElem?_take, if_pos (by omega)] at f1 f2
      exact ⟨hb.cell (by simpa using f1), hb.cell (by simpa [Nat.zero_add] using f2)⟩
/-- The last span of a row gets another end. -/
theorem own_last {w : World} {base n g cap : Nat} {L : List (Int × Int)} (h : w.ownsRow base 29 2 (.slice (some ⟨g, 0, none⟩) n cap) n (flatS L)) (hn : 0 < n) (m : Int) :
    base ≤ g ∧ (∃ u, w.cell? ⟨g, (n - 1) * 2 + 1, none⟩ = some u) ∧ w.frozen? ⟨g, (n - 1) * 2 + 1, none⟩ = false ∧ (w.setCell ⟨g, (n - 1) * 2 + 1, none⟩ (.int .i64 m)).ownsRow base 29 2 (.slice (some ⟨g, 0, none⟩) n cap) n (flatS (addLast L m)) := by
  have hl : n = L.length := by have := h.1; rw [flatS_len] at this; omega
  have hne : L ≠ [] := by intro e; rw [e] at hl; simp at hl; omega
  rcases h.2 with ⟨e, _⟩ | ⟨g', cap', cur, e, hg, hh, h1, h2, h3, h4⟩
  · cases e
  · simp only [Value.slice.injEq, Option.some.injEq, Addr.mk.injEq] at e
    obtain ⟨⟨rfl, -, -⟩, -, rfl⟩ := e
    have hb : Blk w g 29 cur := hh
    obtain ⟨f1, f2⟩ := flatS_at L (n - 1) (by omega)
    have e0 : L = L.dropLast ++ [L.getLast hne] := (List.dropLast_concat_getLast hne).symm
    have hgl : L.getLastD (0, 0) = L.getLast hne := by rw [List.getLastD_eq_getLast?, List.getLast?_eq_some_getLast hne]; rfl
    refine ⟨hg, ?_, hb.frozen _, ?_⟩
    · rw [← h4, List.getElem?_take, if_pos (by omega)] at f2
      exact ⟨_, hb.cell (by simpa using f2)⟩
    · refine ⟨by rw [flatS_len]; simp [addLast]; omega, .inr ⟨g, cap, cur.setIfInBounds ((n - 1) * 2 + 1) (.int .i64 m), rfl, hg, hb.put _ _, h1, h2, by simpa using h3, ?_⟩⟩
      rw [Array.toList_setIfInBounds, List.take_set, h4]
      have e1 : flatS L = flatS L.dropLast ++ [.int .i64 (L.getLast hne).1, .int .i64 (L.getLast hne).2] := by
        conv => lhs; rw [e0, flatS_snoc]
      have e2 : (flatS L.dropLast).length = (n - 1) * 2 := by rw [flatS_len]; simp; omega
      rw [addLast, flatS_snoc, hgl, e1, List.set_append_right _ _ (by omega), e2, show (n - 1) * 2 + 1 - (n - 1) * 2 = 1 by omega]
      rfl
theorem span_info : (Tryd.prog.info? 29).map (fun i => (i.zero, i.size, i.bytes)) = some (some (.agg #[.int .i64 0, .int .i64 0]), 2, 16) := by kernel_rfl
end Go.Proofs.YtnhdcdhpfgdphaaDoor
