/-
  Maps whose keys are structs of two whole numbers: look-up and store, over any program.
-/
import Derived.WalkKit
import Derived.Laws.StructEq
import Derived.MapKept
import Derived.KernelRfl
import Derived.Test.YtnhdcdhpfgdphaaDoorT0
set_option linter.unusedSimpArgs false
set_option linter.unusedVariables false
namespace Go.Proofs.YtnhdcdhpfgdphaaDoor
open Go Go.RowKit

/-- The type K is a struct of two whole numbers (what the machine's steps on it come to). -/
structure PairKey (P : Program) (K : TypeId) : Prop where
  under : ∃ fs, P.underlying K = some (.struct fs)
  eq : ∀ (a b c d : Int) (w : World), (Op.equal K (.agg #[.int .i64 a, .int .i64 b]) (.agg #[.int .i64 c, .int .i64 d])).run P w = .ok (a == c && b == d) w
  chk : ∀ (e : Bool) (a b : Int) (w : World), (Instr.checkKey e 10000 K (.agg #[.int .i64 a, .int .i64 b])).run P w = .ok () w

def pairV (x : Int × Int) : Value := .agg #[.int .i64 x.1, .int .i64 x.2]
/-- Where a key stands, and what it leads to. -/
def seek (x : Int × Int) : List ((Int × Int) × Value) → Option Value
  | [] => none
  | (k, v) :: l => if x.1 == k.1 && x.2 == k.2 then some v else seek x l

section
variable {P : Program} {K : TypeId}
theorem run_findAsking (hK : PairKey P K) (x : Int × Int) (w : World) : ∀ (es : List MapEntry) (L : List ((Int × Int) × Value)) (i : Nat), es.map (fun e => (e.key, e.val)) = L.map (fun y => (pairV y.1, y.2)) →
    ∃ j, (Instr.findAsking K (pairV x) es i).run P w = .ok ((seek x L).map fun v => (j, v)) w
  | [], [], i, _ => ⟨0, by simp [Instr.findAsking, seek]⟩
  | [], _ :: _, _, h => by simp at h
  | _ :: _, [], _, h => by simp at h
  | e :: es, y :: L, i, h => by
    simp only [List.map_cons, List.cons.injEq, Prod.mk.injEq] at h
    obtain ⟨⟨h1, h2⟩, h3⟩ := h
    obtain ⟨j, ih⟩ := run_findAsking hK x w es L (i + 1) h3
    have he : (Op.equal K (pairV x) e.key).run P w = .ok (x.1 == y.1.1 && x.2 == y.1.2) w := by rw [h1]; exact hK.eq _ _ _ _ w
    by_cases hq : (x.1 == y.1.1 && x.2 == y.1.2) = true
    · refine ⟨i, ?_⟩
      rw [hq] at he
      have hk : seek x (y :: L) = some y.2 := by simp only [seek]; rw [if_pos hq]
      rw [hk]
      simp only [Instr.findAsking, Sem.run_bind, he, Result.andThen_ok]
      simp [h2]
    · refine ⟨j, ?_⟩
      rw [Bool.not_eq_true] at hq
      rw [hq] at he
      have hk : seek x (y :: L) = seek x L := by simp only [seek]; rw [if_neg (by rw [hq]; simp)]
      rw [hk]
      simp only [Instr.findAsking, Sem.run_bind, he, Result.andThen_ok]
      simpa using ih

theorem run_findKey (hK : PairKey P K) (x : Int × Int) (w : World) (es : List MapEntry) (L : List ((Int × Int) × Value)) (h : es.map (fun e => (e.key, e.val)) = L.map (fun y => (pairV y.1, y.2))) :
    ∃ j, (Instr.findKey K (pairV x) es).run P w = .ok ((seek x L).map fun v => (j, v)) w := by
  obtain ⟨fs, hu⟩ := hK.under
  cases es with
  | nil =>
    cases L with
    | nil => exact ⟨0, by simp [Instr.findKey, run_underlying hu, Instr.findNow, seek]⟩
    | cons y L => simp at h
  | cons e es =>
    obtain ⟨j, hj⟩ := run_findAsking hK x w (e :: es) L 0 h
    refine ⟨j, ?_⟩
    have hn : Instr.findNow (.struct fs) (pairV x) (e :: es) 0 = none := by simp [Instr.findNow, Instr.sameNow]
    simp only [Instr.findKey, Sem.run_bind, run_underlying hu, Result.andThen_ok, hn]
    exact hj

/-- Block r is a map that holds just this, in the order in which it came. -/
def MapA (w : World) (r : Nat) (L : List ((Int × Int) × Value)) : Prop :=
  ∃ es clk, w.heap[r]? = some (.map es clk) ∧ es.toList.map (fun e => (e.key, e.val)) = L.map (fun y => (pairV y.1, y.2))

theorem MapA.lt {w : World} {r : Nat} {L : List ((Int × Int) × Value)} (h : MapA w r L) : r < w.heap.size := by
  obtain ⟨es, clk, hb, _⟩ := h
  exact (Array.getElem?_eq_some_iff.1 hb).1
theorem MapA.below {w w' : World} {r n : Nat} {L : List ((Int × Int) × Value)} (h : MapA w r L) (hb : Below n w w') (hn : r < n) : MapA w' r L := by
  obtain ⟨es, clk, h1, h2⟩ := h
  exact ⟨es, clk, (hb.block r hn).trans h1, h2⟩
theorem MapA.ext {w w' : World} {r : Nat} {L : List ((Int × Int) × Value)} (h : MapA w r L) (hb : Below w.heap.size w w') : MapA w' r L := h.below hb h.lt
theorem MapA.new (w : World) : MapA (w.alloc (.map #[] 0)) w.heap.size [] := ⟨#[], 0, by show (w.heap.push _)[w.heap.size]? = _; simp, rfl⟩
theorem MapA.setCell {w : World} {r : Nat} {L : List ((Int × Int) × Value)} (h : MapA w r L) {p : Addr} (hp : r ≠ p.block) (u : Value) : MapA (w.setCell p u) r L := by
  obtain ⟨es, clk, h1, h2⟩ := h
  exact ⟨es, clk, (Below.heap_setCell w p u r hp).trans h1, h2⟩

theorem run_lookup (hK : PairKey P K) {T E : TypeId} (hT : P.underlying T = some (.map K E)) {w : World} {r : Nat} {L : List ((Int × Int) × Value)} (h : MapA w r L) (a b : Int) (v : Value) (hs : seek (a, b) L = some v) :
    (Instr.lookup T (.map (some r)) (.agg #[.int .i64 a, .int .i64 b]) false).run P w = .ok v w := by
  obtain ⟨es, clk, hb, he⟩ := h
  obtain ⟨j, hj⟩ := run_findKey hK (a, b) w es.toList L he
  rw [hs] at hj
  have hc := hK.chk es.isEmpty a b w
  unfold pairV at hj
  simp only [Instr.lookup, Sem.run_bind, run_underlying hT, Result.andThen_ok, run_getObj_map w r es clk hb, Sem.run_pure, hc, hj, Option.map_some]
  simp
theorem run_lookup_ok (hK : PairKey P K) {T E : TypeId} (hT : P.underlying T = some (.map K E)) {w : World} {r : Nat} {L : List ((Int × Int) × Value)} (h : MapA w r L) (a b : Int) (v : Value) (hs : seek (a, b) L = some v) :
    (Instr.lookup T (.map (some r)) (.agg #[.int .i64 a, .int .i64 b]) true).run P w = .ok (.tuple #[v, .bool true]) w := by
  obtain ⟨es, clk, hb, he⟩ := h
  obtain ⟨j, hj⟩ := run_findKey hK (a, b) w es.toList L he
  rw [hs] at hj
  have hc := hK.chk es.isEmpty a b w
  unfold pairV at hj
  simp only [Instr.lookup, Sem.run_bind, run_underlying hT, Result.andThen_ok, run_getObj_map w r es clk hb, Sem.run_pure, hc, hj, Option.map_some]
  simp
theorem run_lookup_not (hK : PairKey P K) {T E : TypeId} (hT : P.underlying T = some (.map K E)) {w : World} {r : Nat} {L : List ((Int × Int) × Value)} (h : MapA w r L) (a b : Int) (z : Value) (hz : (zeroValue E).run P w = .ok z w) (hs : seek (a, b) L = none) :
    (Instr.lookup T (.map (some r)) (.agg #[.int .i64 a, .int .i64 b]) true).run P w = .ok (.tuple #[z, .bool false]) w := by
  obtain ⟨es, clk, hb, he⟩ := h
  obtain ⟨j, hj⟩ := run_findKey hK (a, b) w es.toList L he
  rw [hs] at hj
  have hc := hK.chk es.isEmpty a b w
  unfold pairV at hj
  simp only [Instr.lookup, Sem.run_bind, run_underlying hT, Result.andThen_ok, run_getObj_map w r es clk hb, Sem.run_pure, hc, hj, Option.map_none, hz]
  simp

/-- A store under a new key. -/
theorem run_update (hK : PairKey P K) {T E : TypeId} (hT : P.underlying T = some (.map K E)) {w : World} {r : Nat} {L : List ((Int × Int) × Value)} (h : MapA w r L) (a b : Int) (v : Value) (hs : seek (a, b) L = none) :
    ∃ w', (Instr.mapUpdate T (.map (some r)) (.agg #[.int .i64 a, .int .i64 b]) v).run P w = .ok () w' ∧ MapA w' r (L ++ [((a, b), v)]) ∧ w.grownBy w' (some r) := by
  obtain ⟨es, clk, hb, he⟩ := h
  obtain ⟨j, hj⟩ := run_findKey hK (a, b) w es.toList L he
  rw [hs] at hj
  have hc := hK.chk false a b w
  have hr := (Array.getElem?_eq_some_iff.1 hb).1
  unfold pairV at hj
  refine ⟨{ w with heap := w.heap.setIfInBounds r (.map (es.push { key := .agg #[.int .i64 a, .int .i64 b], val := v, born := clk }) (clk + 1)) }, ?_, ⟨es.push { key := .agg #[.int .i64 a, .int .i64 b], val := v, born := clk }, clk + 1, by simp [hr], ?_⟩, ⟨rfl, rfl, rfl, by simp, fun k hk hne => ?_⟩⟩
  · simp only [Instr.mapUpdate, Sem.run_bind, run_underlying hT, Result.andThen_ok, run_getObj_map w r es clk hb, hc, hj, Option.map_none]
    simp [setObj, Sem.run, hb]
  · simp [he, pairV]
  · have : r ≠ k := fun e => hne (by rw [e])
    simp [Array.getElem?_setIfInBounds, this]

theorem wpList_pairUpdate {ops : Array Oper} {rest : List Oper} {o : Oper} {a : Act} {Q : Exit → Act → World → Prop} (hK : PairKey P K) {T E : TypeId} (hT : P.underlying T = some (.map K E))
    (w : World) (hg : o.guard = none) (m x v : Operand) (hop : o.op = Op.mapUpdate T m x v) {r : Nat} {L : List ((Int × Int) × Value)} (h : MapA w r L) (s t : Int) (c : Value)
    (hm : a.eval m = .map (some r)) (hx : a.eval x = .agg #[.int .i64 s, .int .i64 t]) (hv : a.eval v = c) (hs : seek (s, t) L = none)
    (hk : ∀ w', MapA w' r (L ++ [((s, t), c)]) → w.grownBy w' (some r) → wpList P ops Q rest (a.put o.dst undef) w') : wpList P ops Q (o :: rest) a w := by
  refine wpList_plain hg fun K' hK' => ?_
  obtain ⟨w', hrun, r1, r2⟩ := run_update hK hT h s t c hs
  unfold Oper.wp
  simp [execOp, hop, hm, hx, hv, hrun, Result.andThen]
  exact hK' _ _ (hk w' r1 r2)
theorem wp_pairInsert {o : Oper} {a : Act} {Q : Exit → Act → World → Prop} {next : Act → World → Prop} (hK : PairKey P K) {T E : TypeId} (hT : P.underlying T = some (.map K E))
    (w : World) (m x v : Operand) (hop : o.op = Op.insert T m x v) {r : Nat} {L : List ((Int × Int) × Value)} (h : MapA w r L) (s t : Int) (c : Value)
    (hm : a.eval m = .map (some r)) (hx : a.eval x = .agg #[.int .i64 s, .int .i64 t]) (hv : a.eval v = c) (hs : seek (s, t) L = none)
    (hk : ∀ w', MapA w' r (L ++ [((s, t), c)]) → w.grownBy w' (some r) → next (a.put o.dst undef) w') : o.wp P a w next Q := by
  obtain ⟨w', hrun, r1, r2⟩ := run_update hK hT h s t c hs
  unfold Oper.wp
  simp [execOp, hop, hm, hx, hv, hrun, Result.andThen]
  exact hk w' r1 r2
end

theorem seek_append (x : Int × Int) (L M : List ((Int × Int) × Value)) : seek x (L ++ M) = (seek x L).or (seek x M) := by
  induction L with
  | nil => simp [seek]
  | cons y L ih =>
    obtain ⟨k, u⟩ := y
    by_cases h : (x.1 == k.1 && x.2 == k.2) = true
    · simp only [List.cons_append, seek]; rw [if_pos h, if_pos h]; rfl
    · simp only [List.cons_append, seek]; rw [if_neg h, if_neg h]; exact ih

theorem Blk.grown {w w' : World} {g : Nat} {t : TypeId} {cs : Array Value} {row : Option Nat} (h : Blk w g t cs) (hb : w.grownBy w' row) (hg : some g ≠ row) : Blk w' g t cs := (hb.block g h.lt hg).trans h

/-! ### Who has which place -/
def rowL (s : Nat) (xs : List Int) (k : Nat) : List ((Int × Int) × Value) := (List.range k).map fun t : Nat => (((s : Int), (t : Int)), .int .i64 (nAt xs t))
def rowsL (os : List (List Int)) (n : Nat) : List ((Int × Int) × Value) := (List.range n).flatMap fun s => rowL s (oAt os s) (oAt os s).length
def ownL (os : List (List Int)) (n : Nat) : List ((Int × Int) × Value) := ((-1, -1), .int .i64 (-1)) :: rowsL os n

theorem rowL_succ (s : Nat) (xs : List Int) (k : Nat) : rowL s xs (k + 1) = rowL s xs k ++ [(((s : Int), (k : Int)), .int .i64 (nAt xs k))] := by
  simp [rowL, List.range_succ]
theorem rowsL_succ (os : List (List Int)) (n : Nat) : rowsL os (n + 1) = rowsL os n ++ rowL n (oAt os n) (oAt os n).length := by
  simp [rowsL, List.range_succ]
theorem seek_rowL (x : Int × Int) (s : Nat) (xs : List Int) (k : Nat) : seek x (rowL s xs k) = if x.1 = s ∧ 0 ≤ x.2 ∧ x.2 < k then some (.int .i64 (nAt xs x.2.toNat)) else none := by
  induction k with
  | zero => rw [if_neg (by omega)]; rfl
  | succ k ih =>
    rw [rowL_succ, seek_append, ih]
    by_cases h : x.1 = s ∧ 0 ≤ x.2 ∧ x.2 < k
    · rw [if_pos h, if_pos (by omega)]; rfl
    · rw [if_neg h]
      by_cases h2 : x.1 = s ∧ x.2 = k
      · rw [if_pos (by omega)]
        simp [seek, h2.1, h2.2]
      · rw [if_neg (by omega)]
        have : (x.1 == (s : Int) && x.2 == (k : Int)) = false := by
          rw [Bool.and_eq_false_iff]
          by_cases h3 : x.1 = s
          · exact .inr (by rw [beq_eq_false_iff_ne]; omega)
          · exact .inl (by rw [beq_eq_false_iff_ne]; omega)
        simp [seek, this]
theorem seek_rowsL (x : Int × Int) (os : List (List Int)) (n : Nat) : seek x (rowsL os n) = if 0 ≤ x.1 ∧ x.1 < n ∧ 0 ≤ x.2 ∧ x.2 < (oAt os x.1.toNat).length then some (.int .i64 (nAt (oAt os x.1.toNat) x.2.toNat)) else none := by
  induction n with
  | zero => rw [if_neg (by omega)]; rfl
  | succ n ih =>
    rw [rowsL_succ, seek_append, ih, seek_rowL]
    by_cases h : 0 ≤ x.1 ∧ x.1 < n ∧ 0 ≤ x.2 ∧ x.2 < (oAt os x.1.toNat).length
    · rw [if_pos h, if_neg (by omega)]
      have h' : 0 ≤ x.1 ∧ x.1 < ((n + 1 : Nat) : Int) ∧ 0 ≤ x.2 ∧ x.2 < (oAt os x.1.toNat).length := ⟨h.1, by omega, h.2.2⟩
      rw [if_pos h']
      rfl
    · rw [if_neg h]
      by_cases h2 : x.1 = n
      · have h3 : x.1.toNat = n := by omega
        rw [h3] at h ⊢
        by_cases h4 : 0 ≤ x.2 ∧ x.2 < ((oAt os n).length : Int)
        · rw [if_pos ⟨h2, h4⟩, if_pos ⟨by omega, by omega, h4⟩]; rfl
        · rw [if_neg (fun q => h4 q.2), if_neg (fun q => h4 q.2.2)]; rfl
      · rw [if_neg (fun q => h2 q.1), if_neg (fun q => h ⟨q.1, by omega, q.2.2⟩)]; rfl
theorem seek_ownL (s t : Nat) (os : List (List Int)) (hs : s < os.length) (ht : t < (oAt os s).length) : seek ((s : Int), (t : Int)) (ownL os os.length) = some (.int .i64 (nAt (oAt os s) t)) := by
  have h : seek ((s : Int), (t : Int)) (rowsL os os.length) = some (.int .i64 (nAt (oAt os s) t)) := by
    rw [seek_rowsL, if_pos (by simp; omega)]
    simp
  simp only [ownL, seek]
  rw [if_neg (by simp)]
  exact h
theorem seek_new (os : List (List Int)) (n k : Nat) : seek ((n : Int), (k : Int)) (ownL os n ++ rowL n (oAt os n) k) = none := by
  simp only [ownL, List.cons_append, seek]
  rw [if_neg (by simp), seek_append, seek_rowsL, seek_rowL, if_neg (by simp), if_neg (by simp)]
  rfl

/-- Five cells of a block of the call's own are written. -/
theorem puts5 {w : World} {g : Nat} {t : TypeId} {u0 u1 u2 u3 u4 : Value} (h : Blk w g t #[u0, u1, u2, u3, u4]) (v0 v1 v2 v3 v4 : Value) :
    Blk (((((w.setCell ⟨g, 0, none⟩ v0).setCell ⟨g, 1, none⟩ v1).setCell ⟨g, 2, none⟩ v2).setCell ⟨g, 3, none⟩ v3).setCell ⟨g, 4, none⟩ v4) g t #[v0, v1, v2, v3, v4] :=
  ((((h.put 0 v0).put 1 v1).put 2 v2).put 3 v3).put 4 v4
theorem below5 {n : Nat} {a w : World} {g : Nat} (h : Below n a w) (hg : n ≤ g) (v0 v1 v2 v3 v4 : Value) :
    Below n a (((((w.setCell ⟨g, 0, none⟩ v0).setCell ⟨g, 1, none⟩ v1).setCell ⟨g, 2, none⟩ v2).setCell ⟨g, 3, none⟩ v3).setCell ⟨g, 4, none⟩ v4) :=
  ((((h.setCell hg _).setCell hg _).setCell hg _).setCell hg _).setCell hg _
theorem MapA.puts5 {w : World} {r g : Nat} {L : List ((Int × Int) × Value)} (h : MapA w r L) (hg : r ≠ g) (v0 v1 v2 v3 v4 : Value) :
    MapA (((((w.setCell ⟨g, 0, none⟩ v0).setCell ⟨g, 1, none⟩ v1).setCell ⟨g, 2, none⟩ v2).setCell ⟨g, 3, none⟩ v3).setCell ⟨g, 4, none⟩ v4) r L :=
  ((((h.setCell hg _).setCell hg _).setCell hg _).setCell hg _).setCell hg _
end Go.Proofs.YtnhdcdhpfgdphaaDoor
