/-
  Maps whose keys are structs of two whole numbers: look-up and store, over any program.
-/
import Derived.WalkKit
import Derived.Laws.StructEq
import Derived.MapKept
import Derived.KernelRfl
import Derived.Test.YtnhdcdhpfgdphaaDoorMOw1
import Derived.Test.YtnhdcdhpfgdphaaDoorMOw2
set_option linter.unusedSimpArgs false
set_option linter.unusedVariables false
namespace Go.Proofs.YtnhdcdhpfgdphaaDoor
open Go Go.RowKit

/-- The type K is a struct of two whole numbers (what the machine's steps on it come to). -/
structure PairKey (P : Program) (K : TypeId) : Prop where
  under : ∃ fs, P.underlying K = some (.struct fs)
  eq : ∀ (a b c d : Int) (w : World), (Op.equal K (.agg #[.int .i64 a, .int .i64 b]) (.agg #[.int .i64 c, .int .i64 d])).run P w = .ok (a == c && b == d) w
  chk : ∀ (e : Bool) (a b : Int) (w : World), (Instr.checkKey e 10000 K (.agg #[.int .i64 a, .int .i64 b])).run P w = .ok () w

def pairV (x : Int × Int) : Value := .agg #[.int .i64 x.1, .int .i64 x.2]
/-- Where a key stands, and what it leads to. -/
def seek (x : Int × Int) : List ((Int × Int) × Value) → Option Value
  | [] => none
  | (k, v) :: l => if x.1 == k.1 && x.2 == k.2 then some v else seek x l

section
variable {P : Program} {K : TypeId}
theorem run_findAsking (hK : PairKey P K) (x : Int × Int) (w : World) : ∀ (es : List MapEntry) (L : List ((Int × Int) × Value)) (i : Nat), es.map (fun e => (e.key, e.val)) = L.map (fun y => (pairV y.1, y.2)) →
    ∃ j, (Instr.findAsking K (pairV x) es i).run P w = .ok ((seek x L).map fun v => (j, v)) w
  | [], [], i, _ => ⟨0, by simp [Instr.findAsking, seek]⟩
  | [], _ :: _, _, h => by simp at h
  | _ :: _, [], _, h => by simp at h
  | e :: es, y :: L, i, h => by
    simp only [List.map_cons, List.cons.injEq, Prod.mk.injEq] at h
    obtain ⟨⟨h1, h2⟩, h3⟩ := h
    obtain ⟨j, ih⟩ := run_findAsking hK x w es L (i + 1) h3
    have he : (Op.equal K (pairV x) e.key).run P w = .ok (x.1 == y.1.1 && x.2 == y.1.2) w := by rw [h1]; exact hK.eq _ _ _ _ w
    by_cases hq : (x.1 == y.1.1 && x.2 == y.1.2) = true
    · refine ⟨i, ?_⟩
      rw [hq] at he
      have hk : seek x (y :: L) = some y.2 := by simp only [seek]; rw [if_pos hq]
      rw [hk]
      simp only [Instr.findAsking, Sem.run_bind, he, Result.andThen_ok]
      simp [h2]
    · refine ⟨j, ?_⟩
      rw [Bool.not_eq_true] at hq
      rw [hq] at he
      have hk : seek x (y :: L) = seek x L := by simp only [seek]; rw [if_neg (by rw [hq]; simp)]
      rw [hk]
      simp only [Instr.findAsking, Sem.run_bind, he, Result.andThen_ok]
      simpa using ih

theorem run_findKey (hK : PairKey P K) (x : Int × Int) (w : World) (es : List MapEntry) (L : List ((Int × Int) × Value)) (h : es.map (fun e => (e.key, e.val)) = L.map (fun y => (pairV y.1, y.2))) :
    ∃ j, (Instr.findKey K (pairV x) es).run P w = .ok ((seek x L).map fun v => (j, v)) w := by
  obtain ⟨fs, hu⟩ := hK.under
  cases es with
  | nil =>
    cases L with
    | nil => exact ⟨0, by simp [Instr.findKey, run_underlying hu, Instr.findNow, seek]⟩
    | cons y L => simp at h
  | cons e es =>
    obtain ⟨j, hj⟩ := run_findAsking hK x w (e :: es) L 0 h
    refine ⟨j, ?_⟩
    have hn : Instr.findNow (.struct fs) (pairV x) (e :: es) 0 = none := by simp [Instr.findNow, Instr.sameNow]
    simp only [Instr.findKey, Sem.run_bind, run_underlying hu, Result.andThen_ok, hn]
    exact hj

/-- Block r is a map that holds just this, in the order in which it came. -/
def MapA (w : World) (r : Nat) (L : List ((Int × Int) × Value)) : Prop :=
  ∃ es clk, w.heap[r]? = some (.map es clk) ∧ es.toList.map (fun e => (e.key, e.val)) = L.map (fun y => (pairV y.1, y.2))

theorem MapA.lt {w : World} {r : Nat} {L : List ((Int × Int) × Value)} (h : MapA w r L) : r < w.heap.size := by
  obtain ⟨es, clk, hb, _⟩ := h
  exact (Array.getElem?_eq_some_iff.1 hb).1
theorem MapA.below {w w' : World} {r n : Nat} {L : List ((Int × Int) × Value)} (h : MapA w r L) (hb : Below n w w') (hn : r < n) : MapA w' r L := by
  obtain ⟨es, clk, h1, h2⟩ := h
  exact ⟨es, clk, (hb.block r hn).trans h1, h2⟩
theorem MapA.ext {w w' : World} {r : Nat} {L : List ((Int × Int) × Value)} (h : MapA w r L) (hb : Below w.heap.size w w') : MapA w' r L := h.below hb h.lt
theorem MapA.new (w : World) : MapA (w.alloc (.map #[] 0)) w.heap.size [] := ⟨#[], 0, by show (w.heap.push _)[w.heap.size]? = _; simp, rfl⟩
theorem MapA.setCell {w : World} {r : Nat} {L : List ((Int × Int) × Value)} (h : MapA w r L) {p : Addr} (hp : r ≠ p.block) (u : Value) : MapA (w.setCell p u) r L := by
  obtain ⟨es, clk, h1, h2⟩ := h
  exact ⟨es, clk, (Below.heap_setCell w p u r hp).trans h1, h2⟩

theorem run_lookup (hK : PairKey P K) {T E : TypeId} (hT : P.underlying T = some (.map K E)) {w : World} {r : Nat} {L : List ((Int × Int) × Value)} (h : MapA w r L) (a b : Int) (v : Value) (hs : seek (a, b) L = some v) :
    (Instr.lookup T (.map (some r)) (.agg #[.int .i64 a, .int .i64 b]) false).run P w = .ok v w := by
  obtain ⟨es, clk, hb, he⟩ := h
  obtain ⟨j, hj⟩ := run_findKey hK (a, b) w es.toList L he
  rw [hs] at hj
  have hc := hK.chk es.isEmpty a b w
  unfold pairV at hj
  simp only [Instr.lookup, Sem.run_bind, run_underlying hT, Result.andThen_ok, run_getObj_map w r es clk hb, Sem.run_pure, hc, hj, Option.map_some]
  simp
theorem run_lookup_ok (hK : PairKey P K) {T E : TypeId} (hT : P.underlying T = some (.map K E)) {w : World} {r : Nat} {L : List ((Int × Int) × Value)} (h : MapA w r L) (a b : Int) (v : Value) (hs : seek (a, b) L = some v) :
    (Instr.lookup T (.map (some r)) (.agg #[.int .i64 a, .int .i64 b]) true).run P w = .ok (.tuple #[v, .bool true]) w := by
  obtain ⟨es, clk, hb, he⟩ := h
  obtain ⟨j, hj⟩ := run_findKey hK (a, b) w es.toList L he
  rw [hs] at hj
  have hc := hK.chk es.isEmpty a b w
  unfold pairV at hj
  simp only [Instr.lookup, Sem.run_bind, run_underlying hT, Result.andThen_ok, run_getObj_map w r es clk hb, Sem.run_pure, hc, hj, Option.map_some]
  simp
theorem run_lookup_not (hK : PairKey P K) {T E : TypeId} (hT : P.underlying T = some (.map K E)) {w : World} {r : Nat} {L : List ((Int × Int) × Value)} (h : MapA w r L) (a b : Int) (z : Value) (hz : (zeroValue E).run P w = .ok z w) (hs : seek (a, b) L = none) :
    (Instr.lookup T (.map (some r)) (.agg #[.int .i64 a, .int .i64 b]) true).run P w = .ok (.tuple #[z, .bool false]) w := by
  obtain ⟨es, clk, hb, he⟩ := h
  obtain ⟨j, hj⟩ := run_findKey hK (a, b) w es.toList L he
  rw [hs] at hj
  have hc := hK.chk es.isEmpty a b w
  unfold pairV at hj
  simp only [Instr.lookup, Sem.run_bind, run_underlying hT, Result.andThen_ok, run_getObj_map w r es clk hb, Sem.run_pure, hc, hj, Option.map_none, hz]
  simp

/-- A store under a new key. -/
theorem run_update (hK : PairKey P K) {T E : TypeId} (hT : P.underlying T = some (.map K E)) {w : World} {r : Nat} {L : List ((Int × Int) × Value)} (h : MapA w r L) (a b : Int) (v : Value) (hs : seek (a, b) L = none) :
    ∃ w', (Instr.mapUpdate T (.map (some r)) (.agg #[.int .i64 a, .int .i64 b]) v).run P w = .ok () w' ∧ MapA w' r (L ++ [((a, b), v)]) ∧ w.grownBy w' (some r) := by
  obtain ⟨es, clk, hb, he⟩ := h
  obtain ⟨j, hj⟩ := run_findKey hK (a, b) w es.toList L he
  rw [hs] at hj
  have hc := hK.chk false a b w
  have hr := (Array.getElem?_eq_some_iff.1 hb).1
  unfold pairV at hj
  refine ⟨{ w with heap := w.heap.setIfInBounds r (.map (es.push { key := .agg #[.int .i64 a, .int .i64 b], val := v, born := clk }) (clk + 1)) }, ?_, ⟨es.push { key := .agg #[.int .i64 a, .int .i64 b], val := v, born := clk }, clk + 1, by simp [hr], ?_⟩, ⟨rfl, rfl, rfl, by simp, fun k hk hne => ?_⟩⟩
  · simp only [Instr.mapUpdate, Sem.run_bind, run_underlying hT, Result.andThen_ok, run_getObj_map w r es clk hb, hc, hj, Option.map_none]
    simp [setObj, Sem.run, hb]
  · simp [he, pairV]
  · have : r ≠ k := fun e => hne (by rw [e])
    simp [Array.getElem?_setIfInBounds, this]

theorem wpList_pairUpdate {ops : Array Oper} {rest : List Oper} {o : Oper} {a : Act} {Q : Exit → Act → World → Prop} (hK : PairKey P K) {T E : TypeId} (hT : P.underlying T = some (.map K E))
    (w : World) (hg : o.guard = none) (m x v : Operand) (hop : o.op = Op.mapUpdate T m x v) {r : Nat} {L : List ((Int × Int) × Value)} (h : MapA w r L) (s t : Int) (c : Value)
    (hm : a.eval m = .map (some r)) (hx : a.eval x = .agg #[.int .i64 s, .int .i64 t]) (hv : a.eval v = c) (hs : seek (s, t) L = none)
    (hk : ∀ w', MapA w' r (L ++ [((s, t), c)]) → w.grownBy w' (some r) → wpList P ops Q rest (a.put o.dst undef) w') : wpList P ops Q (o :: rest) a w := by
  refine wpList_plain hg fun K' hK' => ?_
  obtain ⟨w', hrun, r1, r2⟩ := run_update hK hT h s t c hs
  unfold Oper.wp
  simp [execOp, hop, hm, hx, hv, hrun, Result.andThen]
  exact hK' _ _ (hk w' r1 r2)
theorem wp_pairInsert {o : Oper} {a : Act} {Q : Exit → Act → World → Prop} {next : Act → World → Prop} (hK : PairKey P K) {T E : TypeId} (hT : P.underlying T = some (.map K E))
    (w : World) (m x v : Operand) (hop : o.op = Op.insert T m x v) {r : Nat} {L : List ((Int × Int) × Value)} (h : MapA w r L) (s t : Int) (c : Value)
    (hm : a.eval m = .map (some r)) (hx : a.eval x = .agg #[.int .i64 s, .int .i64 t]) (hv : a.eval v = c) (hs : seek (s, t) L = none)
    (hk : ∀ w', MapA w' r (L ++ [((s, t), c)]) → w.grownBy w' (some r) → next (a.put o.dst undef) w') : o.wp P a w next Q := by
  obtain ⟨w', hrun, r1, r2⟩ := run_update hK hT h s t c hs
  unfold Oper.wp
  simp [execOp, hop, hm, hx, hv, hrun, Result.andThen]
  exact hk w' r1 r2
end

theorem seek_append (x : Int × Int) (L M : List ((Int × Int) × Value)) : seek x (L ++ M) = (seek x L).or (seek x M) := by
  induction L with
  | nil => simp [seek]
  | cons y L ih =>
    obtain ⟨k, u⟩ := y
    by_cases h : (x.1 == k.1 && x.2 == k.2) = true
    · simp only [List.cons_append, seek]; rw [if_pos h, if_pos h]; rfl
    · simp only [List.cons_append, seek]; rw [if_neg h, if_neg h]; exact ih

theorem Blk.grown {w w' : World} {g : Nat} {t : TypeId} {cs : Array Value} {row : Option Nat} (h : Blk w g t cs) (hb : w.grownBy w' row) (hg : some g ≠ row) : Blk w' g t cs := (hb.block g h.lt hg).trans h

/-! ### Who has which place -/
def rowL (s : Nat) (xs : List Int) (k : Nat) : List ((Int × Int) × Value) := (List.range k).map fun t : Nat => (((s : Int), (t : Int)), .int .i64 (nAt xs t))
def rowsL (os : List (List Int)) (n : Nat) : List ((Int × Int) × Value) := (List.range n).flatMap fun s => rowL s (oAt os s) (oAt os s).length
def ownL (os : List (List Int)) (n : Nat) : List ((Int × Int) × Value) := ((-1, -1), .int .i64 (-1)) :: rowsL os n

theorem rowL_succ (s : Nat) (xs : List Int) (k : Nat) : rowL s xs (k + 1) = rowL s xs k ++ [(((s : Int), (k : Int)), .int .i64 (nAt xs k))] := by
  simp [rowL, List.range_succ]
theorem rowsL_succ (os : List (List Int)) (n : Nat) : rowsL os (n + 1) = rowsL os n ++ rowL n (oAt os n) (oAt os n).length := by
  simp [rowsL, List.range_succ]
theorem seek_rowL (x : Int × Int) (s : Nat) (xs : List Int) (k : Nat) : seek x (rowL s xs k) = if x.1 = s ∧ 0 ≤ x.2 ∧ x.2 < k then some (.int .i64 (nAt xs x.2.toNat)) else none := by
  induction k with
  | zero => rw [if_neg (by omega)]; rfl
  | succ k ih =>
    rw [rowL_succ, seek_append, ih]
    by_cases h : x.1 = s ∧ 0 ≤ x.2 ∧ x.2 < k
    · rw [if_pos h, if_pos (by omega)]; rfl
    · rw [if_neg h]
      by_cases h2 : x.1 = s ∧ x.2 = k
      · rw [if_pos (by omega)]
        simp [seek, h2.1, h2.2]
      · rw [if_neg (by omega)]
        have : (x.1 == (s : Int) && x.2 == (k : Int)) = false := by
          rw [Bool.and_eq_false_iff]
          by_cases h3 : x.1 = s
          · exact .inr (by rw [beq_eq_false_iff_ne]; omega)
          · exact .inl (by rw [beq_eq_false_iff_ne]; omega)
        simp [seek, this]
theorem seek_rowsL (x : Int × Int) (os : List (List Int)) (n : Nat) : seek x (rowsL os n) = if 0 ≤ x.1 ∧ x.1 < n ∧ 0 ≤ x.2 ∧ x.2 < (oAt os x.1.toNat).length then some (.int .i64 (nAt (oAt os x.1.toNat) x.2.toNat)) else none := by
  induction n with
  | zero => rw [if_neg (by omega)]; rfl
  | succ n ih =>
    rw [rowsL_succ, seek_append, ih, seek_rowL]
    by_cases h : 0 ≤ x.1 ∧ x.1 < n ∧ 0 ≤ x.2 ∧ x.2 < (oAt os x.1.toNat).length
    · rw [if_pos h, if_neg (by omega)]
      have h' : 0 ≤ x.1 ∧ x.1 < ((n + 1 : Nat) : Int) ∧ 0 ≤ x.2 ∧ x.2 < (oAt os x.1.toNat).length := ⟨h.1, by omega, h.2.2⟩
      rw [if_pos h']
      rfl
    · rw [if_neg h]
      by_cases h2 : x.1 = n
      · have h3 : x.1.toNat = n := by omega
        rw [h3] at h ⊢
        by_cases h4 : 0 ≤ x.2 ∧ x.2 < ((oAt os n).length : Int)
        · rw [if_pos ⟨h2, h4⟩, if_pos ⟨by omega, by omega, h4⟩]; rfl
        · rw [if_neg (fun q => h4 q.2), if_neg (fun q => h4 q.2.2)]; rfl
      · rw [if_neg (fun q => h2 q.1), if_neg (fun q => h ⟨q.1, by omega, q.2.2⟩)]; rfl
theorem seek_ownL (s t : Nat) (os : List (List Int)) (hs : s < os.length) (ht : t < (oAt os s).length) : seek ((s : Int), (t : Int)) (ownL os os.length) = some (.int .i64 (nAt (oAt os s) t)) := by
  have h : seek ((s : Int), (t : Int)) (rowsL os os.length) = some (.int .i64 (nAt (oAt os s) t)) := by
    rw [seek_rowsL, if_pos (by simp; omega)]
    simp
  simp only [ownL, seek]
  rw [if_neg (by simp)]
  exact h
theorem seek_new (os : List (List Int)) (n k : Nat) : seek ((n : Int), (k : Int)) (ownL os n ++ rowL n (oAt os n) k) = none := by
  simp only [ownL, List.cons_append, seek]
  rw [if_neg (by simp), seek_append, seek_rowsL, seek_rowL, if_neg (by simp), if_neg (by simp)]
  rfl

/-- Five cells of a block of the call's own are written. -/
theorem puts5 {w : World} {g : Nat} {t : TypeId} {u0 u1 u2 u3 u4 : Value} (h : Blk w g t #[u0, u1, u2, u3, u4]) (v0 v1 v2 v3 v4 : Value) :
    Blk (((((w.setCell ⟨g, 0, none⟩ v0).setCell ⟨g, 1, none⟩ v1).setCell ⟨g, 2, none⟩ v2).setCell ⟨g, 3, none⟩ v3).setCell ⟨g, 4, none⟩ v4) g t #[v0, v1, v2, v3, v4] :=
  ((((h.put 0 v0).put 1 v1).put 2 v2).put 3 v3).put 4 v4
theorem below5 {n : Nat} {a w : World} {g : Nat} (h : Below n a w) (hg : n ≤ g) (v0 v1 v2 v3 v4 : Value) :
    Below n a (((((w.setCell ⟨g, 0, none⟩ v0).setCell ⟨g, 1, none⟩ v1).setCell ⟨g, 2, none⟩ v2).setCell ⟨g, 3, none⟩ v3).setCell ⟨g, 4, none⟩ v4) :=
  ((((h.setCell hg _).setCell hg _).setCell hg _).setCell hg _).setCell hg _
theorem MapA.puts5 {w : World} {r g : Nat} {L : List ((Int × Int) × Value)} (h : MapA w r L) (hg : r ≠ g) (v0 v1 v2 v3 v4 : Value) :
    MapA (((((w.setCell ⟨g, 0, none⟩ v0).setCell ⟨g, 1, none⟩ v1).setCell ⟨g, 2, none⟩ v2).setCell ⟨g, 3, none⟩ v3).setCell ⟨g, 4, none⟩ v4) r L :=
  ((((h.setCell hg _).setCell hg _).setCell hg _).setCell hg _).setCell hg _
end Go.Proofs.YtnhdcdhpfgdphaaDoor

/-
  turn.opened: the book and the map of who has which place.
-/
set_option linter.unusedSimpArgs false
set_option linter.unusedVariables false
namespace Go.Proofs.YtnhdcdhpfgdphaaDoor
open Go Go.RowKit

theorem chkInt (n : Nat) (e : Bool) (a : Int) (w : World) : (Instr.checkKey e (n + 1) 3 (.int .i64 a)).run Tryd.prog w = .ok () w := by
  simp [Instr.checkKey, run_underlying Tryd.underlying3]
theorem chkPlace (n : Nat) (e : Bool) (a b : Int) (w : World) : (Instr.checkKey e (n + 2) 110 (.agg #[.int .i64 a, .int .i64 b])).run Tryd.prog w = .ok () w := by
  have a3 := Tryd.isAgg3
  have z3 := Tryd.sizeOf3
  have c := chkInt n e
  rw [Instr.checkKey]
  simp only [Sem.run_bind, run_underlying Tryd.underlying110, Result.andThen_ok]
  rw [← Array.forIn_toList]
  simp only [List.forIn_cons, List.forIn_nil]
  go_simp
theorem placeKey : PairKey Tryd.prog 110 where
  under := ⟨_, Tryd.underlying110⟩
  eq a b c d w := by
    have hS : Tryd.prog.underlying 110 = some (.struct (Tryd.prog.fieldsOf 110)) := by kernel_rfl
    have hp : Tryd.prog.stoodInHeld 110 = false := by kernel_rfl
    have u3 := Tryd.underlying3
    have a3 := Tryd.isAgg3
    have z3 := Tryd.sizeOf3
    rw [show Op.equal 110 (.agg #[.int .i64 a, .int .i64 b]) (.agg #[.int .i64 c, .int .i64 d]) = Op.equalIn (9999 + 1) 110 (.agg #[.int .i64 a, .int .i64 b]) (.agg #[.int .i64 c, .int .i64 d]) from rfl, run_equalIn_struct w 9999 _ _ _ hS hp]
    simp only [Program.fieldsOf, Tryd.underlying110]
    go_simp
    by_cases h1 : a = c <;> by_cases h2 : b = d <;> simp [h1, h2]
  chk e a b w := chkPlace 9998 e a b w

theorem mapTy : Tryd.prog.underlying 79 = some (.map 110 3) := Tryd.underlying79

set_option maxRecDepth 100000 in
set_option maxHeartbeats 4000000 in
theorem opened_any (B : Bk) (a1 a2 a3 : Option Addr) (c1 c2 c3 : Nat) (w : World) (h : BookA w B a1 a2 a3) (hG : Glob w) :
    Calls Tryd.prog 85 #[.agg #[.int .i64 B.comp, .slice a1 B.bounds.length c1, .slice a2 B.orders.length c2, .slice a3 B.shots.length c3]] w
      fun e w' => (∃ mp, e = .returned (.agg #[.int .i64 B.comp, .slice a1 B.bounds.length c1, .slice a2 B.orders.length c2, .slice a3 B.shots.length c3, .map (some mp)]) ∧ MapA w' mp (ownL B.orders B.orders.length) ∧ w.heap.size ≤ mp) ∧ Ext w w' := by
  have l2 := h.l2
  have hmm := @run_makeMap Tryd.prog
  obtain ⟨e0, e1, n0, n1⟩ := hG
  go_enter Tryd.func85, Tryd.ntmps85
  go_wp2_with (fail)
  go_upto_region 1 with (fail)
  obtain ⟨W0, hW0⟩ : ∃ W0, W0 = (w.alloc (.cells #[.int .i64 B.comp, .slice a1 B.bounds.length c1, .slice a2 B.orders.length c2, .slice a3 B.shots.length c3] 26)).alloc (.cells #[.int .i64 0, .slice none 0 0, .slice none 0 0, .slice none 0 0, .map none] 81) := ⟨_, rfl⟩
  have b0 : Blk W0 w.heap.size 26 #[.int .i64 B.comp, .slice a1 B.bounds.length c1, .slice a2 B.orders.length c2, .slice a3 B.shots.length c3] := by rw [hW0]; exact (Blk.new _ _ _).alloc _
  have r0 : Blk W0 (w.heap.size + 1) 81 #[.int .i64 0, .slice none 0 0, .slice none 0 0, .slice none 0 0, .map none] := by rw [hW0]; have := Blk.new (w.alloc (.cells #[.int .i64 B.comp, .slice a1 B.bounds.length c1, .slice a2 B.orders.length c2, .slice a3 B.shots.length c3] 26)) 81 #[.int .i64 0, .slice none 0 0, .slice none 0 0, .slice none 0 0, .map none]; simpa using this
  have E0 : Ext w W0 := by rw [hW0]; exact (Ext.alloc _ _).trans (Ext.alloc _ _)
  rw [← hW0]
  have s0 : W0.heap.size = w.heap.size + 2 := by rw [hW0]; simp
  have S0 : w.heap.size + 1 < W0.heap.size := by omega
  clear hW0 s0
  obtain ⟨x0, x1, x2, x3⟩ := b0.c4
  have m0 := E0.keep n0
  have m1 := E0.keep n1
  clear e0 e1 n0 n1
  have HS : ∀ W, Ext W0 W → (W.cell? ⟨w.heap.size, 0, none⟩ = some (.int .i64 B.comp) ∧ W.cell? ⟨w.heap.size, 1, none⟩ = some (.slice a1 B.bounds.length c1) ∧ W.cell? ⟨w.heap.size, 2, none⟩ = some (.slice a2 B.orders.length c2) ∧ W.cell? ⟨w.heap.size, 3, none⟩ = some (.slice a3 B.shots.length c3) ∧ W.cell? ⟨1, 0, none⟩ = some (.int .i64 (-1)) ∧ W.cell? ⟨1, 1, none⟩ = some (.int .i64 (-1))) :=
    fun W e => ⟨e.keep x0, e.keep x1, e.keep x2, e.keep x3, e.keep m0, e.keep m1⟩
  go_cut [3] (fun s wx => ∃ g mp, s = .pointer (some ⟨g, 0, none⟩) ∧ Blk wx g 81 #[.int .i64 B.comp, .slice a1 B.bounds.length c1, .slice a2 B.orders.length c2, .slice a3 B.shots.length c3, .map (some mp)] ∧ MapA wx mp (ownL B.orders 0) ∧ W0.heap.size ≤ g ∧ W0.heap.size ≤ mp ∧ g ≠ mp ∧ Ext W0 wx)
  case first =>
    have HH := Lib.hid HS
    clear HS x0 x1 x2 x3 m0 m1
    refine wp_plan (fun W => W.cell? ⟨w.heap.size, 0, none⟩ = some (.int .i64 B.comp) ∧ W.cell? ⟨w.heap.size, 1, none⟩ = some (.slice a1 B.bounds.length c1) ∧ W.cell? ⟨w.heap.size, 2, none⟩ = some (.slice a2 B.orders.length c2) ∧ W.cell? ⟨w.heap.size, 3, none⟩ = some (.slice a3 B.shots.length c3) ∧ W.cell? ⟨1, 0, none⟩ = some (.int .i64 (-1)) ∧ W.cell? ⟨1, 1, none⟩ = some (.int .i64 (-1))) (.tames [0, 2] (.two 1 6 (.two 3 6 (.tames [4, 5] (.one 6 (.one 7 (.done)))) (.one 3 (.tames [4, 5] (.one 7 (.done))))) (.one 1 (.one 3 (.tames [4, 5] (.one 7 (.done))))))) (by kernel_rfl) (by kernel_rfl) (by kernel_rfl) (fun c a d v w h => by cases d <;> exact h) ?_ ?_
    · exact HH.out _ (Ext.drew _)
    refine pl_tames ?_
    (try simp only [Act.put, List.setIfInBounds_toArray, List.set_cons_zero, List.set_cons_succ])
    repeat (first
      | (refine pl_run (v := ?_) rfl ?_ (fun W hW => ?_) ?_; rotate_left; rfl; ((try dsimp only at hW); go_simp; try with_reducible rfl); (try simp only [Act.put, List.setIfInBounds_toArray, List.set_cons_zero, List.set_cons_succ]))
      | (refine pl_skip rfl ?_ ?_; rfl; (try simp only [Act.put, List.setIfInBounds_toArray, List.set_cons_zero, List.set_cons_succ])))
    refine pl_end ?_
    refine pl_two ?_ ?_
    · -- the map first
      refine pl_one rfl (by rfl) (fun K hK => ?_)
      go_simp
      have M1 : MapA (W0.alloc (.map #[] 0)).drew W0.heap.size [] := MapA.new W0
      have X1 : Ext W0 (W0.alloc (.map #[] 0)).drew := (Ext.alloc _ _).trans (Ext.drew _)
      have Z1 : (W0.alloc (.map #[] 0)).drew.heap.size = W0.heap.size + 1 := by simp
      refine hK.out _ _ (HH.out _ X1) ?_
      clear hK K
      refine pl_two ?_ ?_
      · -- then what is laid in it, then the box
        refine pl_one rfl (by rfl) (fun K hK => ?_)
        refine wp_pairInsert placeKey mapTy _ _ _ _ rfl M1 (-1) (-1) (.int .i64 (-1)) rfl rfl rfl rfl ?_
        intro W2 M2 G2
        have X2 : Ext W0 W2 := X1.grown G2 (by omega) (fun k e => by cases e; exact Nat.le_refl _)
        refine hK.out _ _ (HH.out _ X2) (pl_tames ?_)
        clear hK K
        (try simp only [Act.put, List.setIfInBounds_toArray, List.set_cons_zero, List.set_cons_succ])
        repeat (first
          | (refine pl_run (v := ?_) rfl ?_ (fun W hW => ?_) ?_; rotate_left; rfl; ((try dsimp only at hW); go_simp; try with_reducible rfl); (try simp only [Act.put, List.setIfInBounds_toArray, List.set_cons_zero, List.set_cons_succ]))
          | (refine pl_skip rfl ?_ ?_; rfl; (try simp only [Act.put, List.setIfInBounds_toArray, List.set_cons_zero, List.set_cons_succ])))
        refine pl_end ?_
        refine pl_one rfl (by rfl) (fun K hK => ?_)
        go_simp
        refine hK.out _ _ (HH.out _ (Ext.trans X2 (Ext.alloc _ _))) ?_
        clear hK K
        have z2 := M2.lt
        have B3 : Blk (W2.alloc (.cells #[.int .i64 0, .slice none 0 0, .slice none 0 0, .slice none 0 0, .map none] 81)) W2.heap.size 81 #[.int .i64 0, .slice none 0 0, .slice none 0 0, .slice none 0 0, .map none] := (Blk.new W2 _ _)
        have M3 : MapA (W2.alloc (.cells #[.int .i64 0, .slice none 0 0, .slice none 0 0, .slice none 0 0, .map none] 81)) W0.heap.size (ownL B.orders 0) := (M2.ext (Ext.alloc _ _))
        have X3 : Ext W0 (W2.alloc (.cells #[.int .i64 0, .slice none 0 0, .slice none 0 0, .slice none 0 0, .map none] 81)) := (Ext.trans X2 (Ext.alloc _ _))
        have g1 : W0.heap.size ≤ W2.heap.size := X2.size
        have g2 : W0.heap.size ≤ W0.heap.size := (Nat.le_refl _)
        have g3 : W0.heap.size ≠ W2.heap.size := (by omega)
        generalize (W2.alloc (.cells #[.int .i64 0, .slice none 0 0, .slice none 0 0, .slice none 0 0, .map none] 81)) = W3 at B3 M3 X3 ⊢
        obtain ⟨k0, k1, k2, k3, k4⟩ := B3.c5
        have f0 := B3.frozen 0
        have f1 := B3.frozen 1
        have f2 := B3.frozen 2
        have f3 := B3.frozen 3
        have f4 := B3.frozen 4
        refine pl_one rfl (by rfl) (fun K hK => ?_)
        go_simp
        refine hK.out _ _ (HH.out _ (below5 X3 g1 _ _ _ _ _)) (pl_done ?_)
        clear hK K
        (try simp only [Act.put])
        go_wp2
        go_meet
        case rel => exact ⟨W2.heap.size, _, rfl, puts5 B3 _ _ _ _ _, M3.puts5 g3 _ _ _ _ _, g1, g2, Ne.symm g3, below5 X3 g1 _ _ _ _ _⟩
      · -- the box, then what is laid in the map
        refine pl_one rfl (by rfl) (fun K hK => ?_)
        go_simp
        have X2 : Ext W0 ((W0.alloc (.map #[] 0)).alloc (.cells #[.int .i64 0, .slice none 0 0, .slice none 0 0, .slice none 0 0, .map none] 81)).drew := Ext.trans (Ext.trans (Ext.alloc _ _) (Ext.alloc _ _)) (Ext.drew _)
        refine hK.out _ _ (HH.out _ X2) ?_
        clear hK K
        have M2 : MapA ((W0.alloc (.map #[] 0)).alloc (.cells #[.int .i64 0, .slice none 0 0, .slice none 0 0, .slice none 0 0, .map none] 81)).drew W0.heap.size [] := (MapA.new W0).ext (Ext.trans (Ext.alloc _ _) (Ext.drew _))
        have B2 : Blk ((W0.alloc (.map #[] 0)).alloc (.cells #[.int .i64 0, .slice none 0 0, .slice none 0 0, .slice none 0 0, .map none] 81)).drew (W0.heap.size + 1) 81 #[.int .i64 0, .slice none 0 0, .slice none 0 0, .slice none 0 0, .map none] := by
          have := Blk.new (W0.alloc (.map #[] 0)) 81 #[.int .i64 0, .slice none 0 0, .slice none 0 0, .slice none 0 0, .map none]
          rw [World.size_alloc] at this
          exact this.drew
        refine pl_one rfl (by rfl) (fun K hK => ?_)
        refine wp_pairInsert placeKey mapTy _ _ _ _ rfl M2 (-1) (-1) (.int .i64 (-1)) rfl rfl rfl rfl ?_
        intro W2 M3 G2
        have X3 : Ext W0 W2 := X2.grown G2 X2.size (fun k e => by cases e; exact Nat.le_refl _)
        have B3 := B2.grown G2 (by simp)
        refine hK.out _ _ (HH.out _ X3) (pl_tames ?_)
        clear hK K
        (try simp only [Act.put, List.setIfInBounds_toArray, List.set_cons_zero, List.set_cons_succ])
        repeat (first
          | (refine pl_run (v := ?_) rfl ?_ (fun W hW => ?_) ?_; rotate_left; rfl; ((try dsimp only at hW); go_simp; try with_reducible rfl); (try simp only [Act.put, List.setIfInBounds_toArray, List.set_cons_zero, List.set_cons_succ]))
          | (refine pl_skip rfl ?_ ?_; rfl; (try simp only [Act.put, List.setIfInBounds_toArray, List.set_cons_zero, List.set_cons_succ])))
        refine pl_end ?_
        have B3 : Blk W2 (W0.heap.size + 1) 81 #[.int .i64 0, .slice none 0 0, .slice none 0 0, .slice none 0 0, .map none] := B3
        have M3 : MapA W2 W0.heap.size (ownL B.orders 0) := M3
        have X3 : Ext W0 W2 := X3
        have g1 : W0.heap.size ≤ (W0.heap.size + 1) := (by omega)
        have g2 : W0.heap.size ≤ W0.heap.size := (Nat.le_refl _)
        have g3 : W0.heap.size ≠ (W0.heap.size + 1) := (by omega)
        generalize W2 = W3 at B3 M3 X3 ⊢
        obtain ⟨k0, k1, k2, k3, k4⟩ := B3.c5
        have f0 := B3.frozen 0
        have f1 := B3.frozen 1
        have f2 := B3.frozen 2
        have f3 := B3.frozen 3
        have f4 := B3.frozen 4
        refine pl_one rfl (by rfl) (fun K hK => ?_)
        go_simp
        refine hK.out _ _ (HH.out _ (below5 X3 g1 _ _ _ _ _)) (pl_done ?_)
        clear hK K
        (try simp only [Act.put])
        go_wp2
        go_meet
        case rel => exact ⟨(W0.heap.size + 1), _, rfl, puts5 B3 _ _ _ _ _, M3.puts5 g3 _ _ _ _ _, g1, g2, Ne.symm g3, below5 X3 g1 _ _ _ _ _⟩
    · -- the box first
      refine pl_one rfl (by rfl) (fun K hK => ?_)
      go_simp
      have X1 : Ext W0 (W0.alloc (.cells #[.int .i64 0, .slice none 0 0, .slice none 0 0, .slice none 0 0, .map none] 81)).drew := (Ext.alloc _ _).trans (Ext.drew _)
      refine hK.out _ _ (HH.out _ X1) ?_
      clear hK K
      refine pl_one rfl (by rfl) (fun K hK => ?_)
      go_simp
      have X2 : Ext W0 ((W0.alloc (.cells #[.int .i64 0, .slice none 0 0, .slice none 0 0, .slice none 0 0, .map none] 81)).alloc (.map #[] 0)).drew := Ext.trans (Ext.trans (Ext.alloc _ _) (Ext.alloc _ _)) (Ext.drew _)
      refine hK.out _ _ (HH.out _ X2) ?_
      clear hK K
      have M2 : MapA ((W0.alloc (.cells #[.int .i64 0, .slice none 0 0, .slice none 0 0, .slice none 0 0, .map none] 81)).alloc (.map #[] 0)).drew (W0.heap.size + 1) [] := by
        have := MapA.new (W0.alloc (.cells #[.int .i64 0, .slice none 0 0, .slice none 0 0, .slice none 0 0, .map none] 81))
        rw [World.size_alloc] at this
        exact this.ext (Ext.drew _)
      have B2 : Blk ((W0.alloc (.cells #[.int .i64 0, .slice none 0 0, .slice none 0 0, .slice none 0 0, .map none] 81)).alloc (.map #[] 0)).drew W0.heap.size 81 #[.int .i64 0, .slice none 0 0, .slice none 0 0, .slice none 0 0, .map none] := (Blk.new W0 _ _).alloc _
      refine pl_one rfl (by rfl) (fun K hK => ?_)
      refine wp_pairInsert placeKey mapTy _ _ _ _ rfl M2 (-1) (-1) (.int .i64 (-1)) rfl rfl rfl rfl ?_
      intro W2 M3 G2
      have X3 : Ext W0 W2 := X2.grown G2 X2.size (fun k e => by cases e; omega)
      have B3 := B2.grown G2 (by simp)
      refine hK.out _ _ (HH.out _ X3) (pl_tames ?_)
      clear hK K
      (try simp only [Act.put, List.setIfInBounds_toArray, List.set_cons_zero, List.set_cons_succ])
      repeat (first
        | (refine pl_run (v := ?_) rfl ?_ (fun W hW => ?_) ?_; rotate_left; rfl; ((try dsimp only at hW); go_simp; try with_reducible rfl); (try simp only [Act.put, List.setIfInBounds_toArray, List.set_cons_zero, List.set_cons_succ]))
        | (refine pl_skip rfl ?_ ?_; rfl; (try simp only [Act.put, List.setIfInBounds_toArray, List.set_cons_zero, List.set_cons_succ])))
      refine pl_end ?_
      have B3 : Blk W2 W0.heap.size 81 #[.int .i64 0, .slice none 0 0, .slice none 0 0, .slice none 0 0, .map none] := B3
      have M3 : MapA W2 (W0.heap.size + 1) (ownL B.orders 0) := M3
      have X3 : Ext W0 W2 := X3
      have g1 : W0.heap.size ≤ W0.heap.size := (Nat.le_refl _)
      have g2 : W0.heap.size ≤ (W0.heap.size + 1) := (by omega)
      have g3 : (W0.heap.size + 1) ≠ W0.heap.size := (by omega)
      generalize W2 = W3 at B3 M3 X3 ⊢
      obtain ⟨k0, k1, k2, k3, k4⟩ := B3.c5
      have f0 := B3.frozen 0
      have f1 := B3.frozen 1
      have f2 := B3.frozen 2
      have f3 := B3.frozen 3
      have f4 := B3.frozen 4
      refine pl_one rfl (by rfl) (fun K hK => ?_)
      go_simp
      refine hK.out _ _ (HH.out _ (below5 X3 g1 _ _ _ _ _)) (pl_done ?_)
      clear hK K
      (try simp only [Act.put])
      go_wp2
      go_meet
      case rel => exact ⟨W0.heap.size, _, rfl, puts5 B3 _ _ _ _ _, M3.puts5 g3 _ _ _ _ _, g1, g2, Ne.symm g3, below5 X3 g1 _ _ _ _ _⟩
  case rest =>
    obtain ⟨g, mp, rfl, Bg, Mp, g1, g2, g3, X1⟩ := hcut
    have EE := Ext.trans E0 X1
    obtain ⟨y0, y1, y2, y3⟩ := (b0.ext X1).c4
    clear x0 x1 x2 x3 m0 m1 HS
    go_wp2_with (fail)
    clear y0 y1 y2 y3
    go_loopw [16] (fun i wr => ∃ k : Nat, k ≤ B.orders.length ∧ i = .int .i64 k ∧ Blk wr g 81 #[.int .i64 B.comp, .slice a1 B.bounds.length c1, .slice a2 B.orders.length c2, .slice a3 B.shots.length c3, .map (some mp)] ∧ MapA wr mp (ownL B.orders k) ∧ Ext W0 wr) (fun i _ => B.orders.length - (intOf i).toNat)
    case atStart => exact ⟨0, Nat.zero_le _, rfl, Bg, Mp, X1⟩
    case round =>
      clear Bg Mp X1 EE
      obtain ⟨k, hk, rfl, Bg, Mp, X1⟩ := hrel
      have EE := Ext.trans E0 X1
      by_cases hlt : k < B.orders.length
      · obtain ⟨b, o, rfl, hbl, hc⟩ := h.orders (by omega)
        obtain ⟨ra, rc, q0, ql, qi⟩ := hc k hlt
        have q1 := EE.keep q0
        go_wp2_with (fail)
        have Mp' : MapA wr mp (ownL B.orders k ++ rowL k (oAt B.orders k) 0) := by simpa [rowL] using Mp
        clear Mp q1 q0 hc
        go_loopw [23] (fun i wr => ∃ j : Nat, j ≤ (oAt B.orders k).length ∧ i = .int .i64 j ∧ Blk wr g 81 #[.int .i64 B.comp, .slice a1 B.bounds.length c1, .slice (some ⟨b, o, none⟩) B.orders.length c2, .slice a3 B.shots.length c3, .map (some mp)] ∧ MapA wr mp (ownL B.orders k ++ rowL k (oAt B.orders k) j) ∧ Ext W0 wr) (fun i _ => (oAt B.orders k).length - (intOf i).toNat)
        case atStart => exact ⟨0, Nat.zero_le _, rfl, Bg, Mp', X1⟩
        case round =>
          clear Bg Mp' X1 EE
          obtain ⟨j, hj, rfl, Bg, Mp, X1⟩ := hrel
          have EE := Ext.trans E0 X1
          by_cases hjl : j < (oAt B.orders k).length
          · obtain ⟨b', o', rfl, hbl', hc⟩ := qi.ext EE (by omega)
            have q1 := hc j hjl
            obtain ⟨y0, y1, y2, y3, y4⟩ := Bg.c5
            clear hc y0 y1 y2 y3
            go_wp2_with (at_mapUpdate; refine wpList_pairUpdate placeKey mapTy _ rfl _ _ _ rfl Mp (k : Int) (j : Int) (.int .i64 (nAt (oAt B.orders k) j)) rfl rfl rfl (seek_new _ _ _) ?_)
            intro w1 M1 G1
            have zz := Mp.lt
            have B1 := Bg.grown G1 (by simp; omega)
            have X2 : Ext W0 w1 := X1.grown G1 X1.size (fun k e => by cases e; exact g2)
            go_wp2
            go_roundw
            case rel => exact ⟨j + 1, by omega, by go_num, B1, by rw [rowL_succ, ← List.append_assoc]; simpa using M1, X2⟩
            case measure => simp [intOf]; omega
          · obtain rfl : j = (oAt B.orders k).length := by omega
            go_wp2_with (fail)
            go_roundw
            case rel => exact ⟨k + 1, by omega, by go_num, Bg, by simpa [ownL, rowsL_succ] using Mp, X1⟩
            case measure => simp [intOf]; omega
      · obtain rfl : k = B.orders.length := by omega
        obtain ⟨y0, y1, y2, y3, y4⟩ := Bg.c5
        have r1 := r0.ext X1
        obtain ⟨r2, r3, r4, r5, r6⟩ := r1.c5
        have f0 := r1.frozen 0
        have f1 := r1.frozen 1
        have f2 := r1.frozen 2
        have f3 := r1.frozen 3
        have f4 := r1.frozen 4
        go_wp2
        have rb := puts5 r1 (.int .i64 B.comp) (.slice a1 B.bounds.length c1) (.slice a2 B.orders.length c2) (.slice a3 B.shots.length c3) (.map (some mp))
        obtain ⟨t0, t1, t2, t3, t4⟩ := rb.c5
        refine bodyPost_ret (v := .agg #[.int .i64 B.comp, .slice a1 B.bounds.length c1, .slice a2 B.orders.length c2, .slice a3 B.shots.length c3, .map (some mp)]) ?_ rfl ⟨⟨mp, rfl, Mp.puts5 (by omega) _ _ _ _ _, by omega⟩, ?_⟩
        · simp [results, Tryd.results85, go_sem, t0, t1, t2, t3, t4]
        · have e1 : Below w.heap.size w wr := EE
          exact below5 e1 (by simp) _ _ _ _ _
end Go.Proofs.YtnhdcdhpfgdphaaDoor

/-
  turn.asked: a book that is checked, and what is asked.
-/
set_option linter.unusedSimpArgs false
set_option linter.unusedVariables false
namespace Go.Proofs.YtnhdcdhpfgdphaaDoor
open Go Go.RowKit

theorem check_yes (B : Bk) (a1 a2 a3 : Option Addr) (c1 c2 c3 : Nat) (w : World) (h : BookA w B a1 a2 a3) (hv : validB B = true) :
    Calls Tryd.prog 17 #[.agg #[.int .i64 B.comp, .slice a1 B.bounds.length c1, .slice a2 B.orders.length c2, .slice a3 B.shots.length c3]] w
      fun e w' => e = .returned (.int .i64 0) ∧ Ext w w' :=
  (check_any B a1 a2 a3 c1 c2 c3 w h).mono fun e w' q => ⟨by rw [q.1, checkRes, hv]; rfl, q.2⟩
theorem check_no (B : Bk) (a1 a2 a3 : Option Addr) (c1 c2 c3 : Nat) (w : World) (h : BookA w B a1 a2 a3) (hv : validB B = false) :
    Calls Tryd.prog 17 #[.agg #[.int .i64 B.comp, .slice a1 B.bounds.length c1, .slice a2 B.orders.length c2, .slice a3 B.shots.length c3]] w
      fun e w' => e = .returned (.int .i64 20) ∧ Ext w w' :=
  (check_any B a1 a2 a3 c1 c2 c3 w h).mono fun e w' q => ⟨by rw [q.1, checkRes, hv]; rfl, q.2⟩


set_option maxRecDepth 100000 in
set_option maxHeartbeats 2000000 in
theorem asked_no (B : Bk) (a1 a2 a3 : Option Addr) (c1 c2 c3 : Nat) (is : Bool) (w : World) (h : BookA w B a1 a2 a3) (hG : Glob w) (hv : validB B = false) :
    Calls Tryd.prog 58 #[.agg #[.int .i64 B.comp, .slice a1 B.bounds.length c1, .slice a2 B.orders.length c2, .slice a3 B.shots.length c3], .bool is] w
      fun e w' => e = .returned (.tuple #[.agg #[.int .i64 0, .slice none 0 0, .slice none 0 0, .slice none 0 0, .map none], .int .i64 20]) ∧ Ext w w' := by
  have HB := Lib.hid h
  have HG := Lib.hid hG
  clear h hG
  go_enter Tryd.func58, Tryd.ntmps58
  go_wp2_with (fail)
  obtain ⟨W0, hW0⟩ : ∃ W0, W0 = (w.alloc (.cells #[.int .i64 B.comp, .slice a1 B.bounds.length c1, .slice a2 B.orders.length c2, .slice a3 B.shots.length c3] 26)).alloc (.cells #[.int .i64 0, .slice none 0 0, .slice none 0 0, .slice none 0 0, .map none] 81) := ⟨_, rfl⟩
  have b0 : Blk W0 w.heap.size 26 #[.int .i64 B.comp, .slice a1 B.bounds.length c1, .slice a2 B.orders.length c2, .slice a3 B.shots.length c3] := by rw [hW0]; exact (Blk.new _ _ _).alloc _
  have r0 : Blk W0 (w.heap.size + 1) 81 #[.int .i64 0, .slice none 0 0, .slice none 0 0, .slice none 0 0, .map none] := by rw [hW0]; have := Blk.new (w.alloc (.cells #[.int .i64 B.comp, .slice a1 B.bounds.length c1, .slice a2 B.orders.length c2, .slice a3 B.shots.length c3] 26)) 81 #[.int .i64 0, .slice none 0 0, .slice none 0 0, .slice none 0 0, .map none]; simpa using this
  have E0 : Ext w W0 := by rw [hW0]; exact (Ext.alloc _ _).trans (Ext.alloc _ _)
  rw [← hW0]
  clear hW0
  refine (check_no B a1 a2 a3 c1 c2 c3 _ (HB.out.ext E0) hv).mono ?_
  rintro e w1 ⟨rfl, hE⟩
  have r1 : Blk w1 (w.heap.size + 1) 81 #[.int .i64 0, .slice none 0 0, .slice none 0 0, .slice none 0 0, .map none] := r0.ext hE
  obtain ⟨r2, r3, r4, r5, r6⟩ := r1.c5
  have f0 := r1.frozen 0
  have f1 := r1.frozen 1
  have f2 := r1.frozen 2
  have f3 := r1.frozen 3
  have f4 := r1.frozen 4
  go_wp2
  have rb := puts5 r1 (.int .i64 0) (.slice none 0 0) (.slice none 0 0) (.slice none 0 0) (.map none)
  obtain ⟨t0, t1, t2, t3, t4⟩ := rb.c5
  have e1 : Below w.heap.size w w1 := Ext.trans E0 hE
  refine bodyPost_ret (v := .tuple #[.agg #[.int .i64 0, .slice none 0 0, .slice none 0 0, .slice none 0 0, .map none], .int .i64 20]) ?_ rfl ⟨rfl, below5 e1 (by simp) _ _ _ _ _⟩
  simp [results, Tryd.results58, go_sem, t0, t1, t2, t3, t4]

set_option maxRecDepth 100000 in
set_option maxHeartbeats 2000000 in
theorem asked_not (B : Bk) (a1 a2 a3 : Option Addr) (c1 c2 c3 : Nat) (w : World) (h : BookA w B a1 a2 a3) (hG : Glob w) (hv : validB B = true) :
    Calls Tryd.prog 58 #[.agg #[.int .i64 B.comp, .slice a1 B.bounds.length c1, .slice a2 B.orders.length c2, .slice a3 B.shots.length c3], .bool false] w
      fun e w' => e = .returned (.tuple #[.agg #[.int .i64 0, .slice none 0 0, .slice none 0 0, .slice none 0 0, .map none], .int .i64 21]) ∧ Ext w w' := by
  have HB := Lib.hid h
  have HG := Lib.hid hG
  clear h hG
  go_enter Tryd.func58, Tryd.ntmps58
  go_wp2_with (fail)
  obtain ⟨W0, hW0⟩ : ∃ W0, W0 = (w.alloc (.cells #[.int .i64 B.comp, .slice a1 B.bounds.length c1, .slice a2 B.orders.length c2, .slice a3 B.shots.length c3] 26)).alloc (.cells #[.int .i64 0, .slice none 0 0, .slice none 0 0, .slice none 0 0, .map none] 81) := ⟨_, rfl⟩
  have b0 : Blk W0 w.heap.size 26 #[.int .i64 B.comp, .slice a1 B.bounds.length c1, .slice a2 B.orders.length c2, .slice a3 B.shots.length c3] := by rw [hW0]; exact (Blk.new _ _ _).alloc _
  have r0 : Blk W0 (w.heap.size + 1) 81 #[.int .i64 0, .slice none 0 0, .slice none 0 0, .slice none 0 0, .map none] := by rw [hW0]; have := Blk.new (w.alloc (.cells #[.int .i64 B.comp, .slice a1 B.bounds.length c1, .slice a2 B.orders.length c2, .slice a3 B.shots.length c3] 26)) 81 #[.int .i64 0, .slice none 0 0, .slice none 0 0, .slice none 0 0, .map none]; simpa using this
  have E0 : Ext w W0 := by rw [hW0]; exact (Ext.alloc _ _).trans (Ext.alloc _ _)
  rw [← hW0]
  clear hW0
  refine (check_yes B a1 a2 a3 c1 c2 c3 _ (HB.out.ext E0) hv).mono ?_
  rintro e w1 ⟨rfl, hE⟩
  have r1 : Blk w1 (w.heap.size + 1) 81 #[.int .i64 0, .slice none 0 0, .slice none 0 0, .slice none 0 0, .map none] := r0.ext hE
  obtain ⟨r2, r3, r4, r5, r6⟩ := r1.c5
  have f0 := r1.frozen 0
  have f1 := r1.frozen 1
  have f2 := r1.frozen 2
  have f3 := r1.frozen 3
  have f4 := r1.frozen 4
  go_wp2
  have rb := puts5 r1 (.int .i64 0) (.slice none 0 0) (.slice none 0 0) (.slice none 0 0) (.map none)
  obtain ⟨t0, t1, t2, t3, t4⟩ := rb.c5
  have e1 : Below w.heap.size w w1 := Ext.trans E0 hE
  refine bodyPost_ret (v := .tuple #[.agg #[.int .i64 0, .slice none 0 0, .slice none 0 0, .slice none 0 0, .map none], .int .i64 21]) ?_ rfl ⟨rfl, below5 e1 (by simp) _ _ _ _ _⟩
  simp [results, Tryd.results58, go_sem, t0, t1, t2, t3, t4]

set_option maxRecDepth 100000 in
set_option maxHeartbeats 2000000 in
theorem asked_yes (B : Bk) (a1 a2 a3 : Option Addr) (c1 c2 c3 : Nat) (w : World) (h : BookA w B a1 a2 a3) (hG : Glob w) (hv : validB B = true) :
    Calls Tryd.prog 58 #[.agg #[.int .i64 B.comp, .slice a1 B.bounds.length c1, .slice a2 B.orders.length c2, .slice a3 B.shots.length c3], .bool true] w
      fun e w' => (∃ mp, e = .returned (.tuple #[.agg #[.int .i64 B.comp, .slice a1 B.bounds.length c1, .slice a2 B.orders.length c2, .slice a3 B.shots.length c3, .map (some mp)], .int .i64 0]) ∧ MapA w' mp (ownL B.orders B.orders.length) ∧ w.heap.size ≤ mp) ∧ Ext w w' := by
  have HB := Lib.hid h
  have HG := Lib.hid hG
  clear h hG
  go_enter Tryd.func58, Tryd.ntmps58
  go_wp2_with (fail)
  obtain ⟨W0, hW0⟩ : ∃ W0, W0 = (w.alloc (.cells #[.int .i64 B.comp, .slice a1 B.bounds.length c1, .slice a2 B.orders.length c2, .slice a3 B.shots.length c3] 26)).alloc (.cells #[.int .i64 0, .slice none 0 0, .slice none 0 0, .slice none 0 0, .map none] 81) := ⟨_, rfl⟩
  have b0 : Blk W0 w.heap.size 26 #[.int .i64 B.comp, .slice a1 B.bounds.length c1, .slice a2 B.orders.length c2, .slice a3 B.shots.length c3] := by rw [hW0]; exact (Blk.new _ _ _).alloc _
  have r0 : Blk W0 (w.heap.size + 1) 81 #[.int .i64 0, .slice none 0 0, .slice none 0 0, .slice none 0 0, .map none] := by rw [hW0]; have := Blk.new (w.alloc (.cells #[.int .i64 B.comp, .slice a1 B.bounds.length c1, .slice a2 B.orders.length c2, .slice a3 B.shots.length c3] 26)) 81 #[.int .i64 0, .slice none 0 0, .slice none 0 0, .slice none 0 0, .map none]; simpa using this
  have E0 : Ext w W0 := by rw [hW0]; exact (Ext.alloc _ _).trans (Ext.alloc _ _)
  rw [← hW0]
  clear hW0
  refine (check_yes B a1 a2 a3 c1 c2 c3 _ (HB.out.ext E0) hv).mono ?_
  rintro e w1 ⟨rfl, hE⟩
  obtain ⟨x0, x1, x2, x3⟩ := (b0.ext hE).c4
  go_wp2_with (fail)
  refine (opened_any B a1 a2 a3 c1 c2 c3 _ ((HB.out.ext E0).ext hE) ((HG.out.ext E0).ext hE)).mono ?_
  rintro e w2 ⟨⟨mp, rfl, hM, hmp⟩, hE2⟩
  clear x0 x1 x2 x3
  have hE3 := Ext.trans hE hE2
  have hlt := r0.lt
  have hs := hE3.size
  have r1 : Blk w2 (w.heap.size + 1) 81 #[.int .i64 0, .slice none 0 0, .slice none 0 0, .slice none 0 0, .map none] := r0.ext hE3
  obtain ⟨r2, r3, r4, r5, r6⟩ := r1.c5
  have f0 := r1.frozen 0
  have f1 := r1.frozen 1
  have f2 := r1.frozen 2
  have f3 := r1.frozen 3
  have f4 := r1.frozen 4
  go_wp2
  have rb := puts5 r1 (.int .i64 B.comp) (.slice a1 B.bounds.length c1) (.slice a2 B.orders.length c2) (.slice a3 B.shots.length c3) (.map (some mp))
  obtain ⟨t0, t1, t2, t3, t4⟩ := rb.c5
  have e1 : Below w.heap.size w w2 := Ext.trans E0 hE3
  have hs1 := hE.size
  refine bodyPost_ret (v := .tuple #[.agg #[.int .i64 B.comp, .slice a1 B.bounds.length c1, .slice a2 B.orders.length c2, .slice a3 B.shots.length c3, .map (some mp)], .int .i64 0]) ?_ rfl ⟨⟨mp, rfl, hM.puts5 (by omega) _ _ _ _ _, by have := E0.size; omega⟩, below5 e1 (by simp) _ _ _ _ _⟩
  simp [results, Tryd.results58, go_sem, t0, t1, t2, t3, t4]
end Go.Proofs.YtnhdcdhpfgdphaaDoor
