/-
  open: how many shots are fair in some truths, and in others not; the lesser of two numbers.
-/
import Derived.Test.YtnhdcdhpfgdphaaDoorMOw5
import Derived.Test.YtnhdcdhpfgdphaaDoorMOw8
import Derived.Laws.Cover3
import Derived.Test.YtnhdcdhpfgdphaaDoorMOw9
import Derived.Test.YtnhdcdhpfgdphaaDoorMOw7
import Derived.Test.YtnhdcdhpfgdphaaDoorMOw6
set_option linter.unusedSimpArgs false
set_option linter.unusedVariables false
namespace Go.Proofs.YtnhdcdhpfgdphaaDoor
open Go Go.RowKit

def openK (B : Bk) (k : Nat) : Int := ((List.range k).map fun i => wh (fairN B (sAt B.shots i) == 1)).sum
theorem openK_succ (B : Bk) (k : Nat) : openK B (k + 1) = openK B k + wh (fairN B (sAt B.shots k) == 1) := by simp [openK, List.range_succ]
theorem openK_le (B : Bk) (k : Nat) : 0 ≤ openK B k ∧ openK B k ≤ k := by
  induction k with
  | zero => simp [openK]
  | succ k ih => rw [openK_succ]; have := wh_le (fairN B (sAt B.shots k) == 1); omega
/-- How many shots are undecided. -/
def openN (B : Bk) : Int := openK B B.shots.length

set_option maxRecDepth 100000 in
set_option maxHeartbeats 4000000 in
theorem open_any (B : Bk) (a1 a2 a3 : Option Addr) (c1 c2 c3 mp : Nat) (w : World) (h : BookA w B a1 a2 a3) (hG : Glob w) (hM : MapA w mp (ownL B.orders B.orders.length)) (hv : validB B = true) :
    Calls Tryd.prog 86 #[.agg #[.int .i64 B.comp, .slice a1 B.bounds.length c1, .slice a2 B.orders.length c2, .slice a3 B.shots.length c3, .map (some mp)]] w
      fun e w' => e = .returned (.int .i64 (openN B)) ∧ Ext w w' := by
  have hn5 := (valid_sizes hv).2.2.2.2.2
  have HB := Lib.hid h
  have HG := Lib.hid hG
  clear h hG
  go_enter Tryd.func86, Tryd.ntmps86
  go_upto_region 2 with (fail)
  obtain ⟨W0, hW0⟩ : ∃ W0, W0 = w.alloc (.cells #[.int .i64 B.comp, .slice a1 B.bounds.length c1, .slice a2 B.orders.length c2, .slice a3 B.shots.length c3, .map (some mp)] 81) := ⟨_, rfl⟩
  have E0 : Ext w W0 := by rw [hW0]; exact Ext.alloc _ _
  have b0 : Blk W0 w.heap.size 81 #[.int .i64 B.comp, .slice a1 B.bounds.length c1, .slice a2 B.orders.length c2, .slice a3 B.shots.length c3, .map (some mp)] := by rw [hW0]; exact Blk.new _ _ _
  rw [← hW0]
  clear hW0
  obtain ⟨x0, x1, x2, x3, x4⟩ := b0.c5
  go_wp2_with (fail)
  clear x0 x1 x2 x3 x4
  go_loopw [3, 10] (fun n i wr => ∃ k : Nat, k ≤ B.shots.length ∧ i = .int .i64 k ∧ n = .int .i64 (openK B k) ∧ Ext W0 wr) (fun _ i _ => B.shots.length - (intOf i).toNat)
  case atStart => exact ⟨0, Nat.zero_le _, rfl, rfl, Ext.refl _⟩
  case round =>
    obtain ⟨k, hk, rfl, rfl, hE⟩ := hrel
    have HBr := Lib.hid ((HB.out.ext E0).ext hE)
    by_cases hlt : k < B.shots.length
    · obtain ⟨h1, h2, h3, h4, h5, h6, h7, h8⟩ := valid_shot hv hlt
      obtain ⟨b, o, rfl, hbl, hc⟩ := HBr.out.shots (by omega)
      obtain ⟨q0, q1, q2, q3⟩ := hc k hlt
      have hop := openK_le B k
      have hwl := wh_le (fairN B (sAt B.shots k) == 1)
      have hsucc := Lib.hid (openK_succ B k)
      clear hc
      go_upto_region 5 with (fail)
      obtain ⟨W5, hW5⟩ : ∃ W5, W5 = wr.alloc (.cells #[.int .i64 (sAt B.shots k).st, .int .i64 (sAt B.shots k).co, .int .i64 (sAt B.shots k).lo, .int .i64 (sAt B.shots k).hi] 59) := ⟨_, rfl⟩
      have X5 : Ext wr W5 := by rw [hW5]; exact Ext.alloc _ _
      have s5 : Blk W5 wr.heap.size 59 #[.int .i64 (sAt B.shots k).st, .int .i64 (sAt B.shots k).co, .int .i64 (sAt B.shots k).lo, .int .i64 (sAt B.shots k).hi] := by rw [hW5]; exact Blk.new _ _ _
      rw [← hW5]
      clear hW5 q0 q1 q2 q3
      have E5 := Ext.trans hE X5
      obtain ⟨x0, x1, x2, x3, x4⟩ := (b0.ext E5).c5
      obtain ⟨y0, y1, y2, y3⟩ := s5.c4
      go_wp2_with (first | (go_at_call 75; refine (fair_any B a1 a2 _ c1 c2 c3 mp (sAt B.shots k) _ (HBr.out.ext X5) ((HG.out.ext E0).ext E5) ((hM.ext E0).ext E5) hv ⟨h1, h2⟩ h5 h6 h7).mono ?_; rintro e w6 ⟨rfl, hE6⟩) | (go_at_call 80; refine (whether_any _ _).mono ?_; rintro e w' ⟨rfl, rfl⟩))
      go_roundw
      case rel => exact ⟨k + 1, by omega, by go_num, by rw [hsucc.out], Ext.trans E5 hE6⟩
      case measure => simp [intOf]; omega
    · obtain rfl : k = B.shots.length := by omega
      go_wp2
      go_ret
      exact ⟨rfl, Ext.trans E0 hE⟩

set_option maxHeartbeats 1000000 in
theorem lesser_any (a b : Int) (w : World) : Calls Tryd.prog 100 #[.int .i64 a, .int .i64 b] w fun e w' => e = .returned (.bool (decide (a < b))) ∧ w = w' := by
  go_enter Tryd.func100, Tryd.ntmps100
  go_wp2
  go_ret
  exact ⟨rfl, rfl⟩
end Go.Proofs.YtnhdcdhpfgdphaaDoor

/-
  fewer; a copy of spans.
-/
set_option linter.unusedSimpArgs false
set_option linter.unusedVariables false
namespace Go.Proofs.YtnhdcdhpfgdphaaDoor
open Go Go.RowKit

set_option maxHeartbeats 1000000 in
theorem fewer_any (w : World) : Calls Tryd.prog 87 #[] w fun e w' => e = .returned (.agg #[.func (.func 100) #[] #[]]) ∧ Ext w w' := by
  have hst : ∀ (a : Addr) (f : Fn) (r c : Array Value) (W : World), (store a (.func f r c)).run Tryd.prog W = stored Tryd.prog W a (.func f r c) .plain := fun a f r c W => run_store _ _ _ _ _ rfl
  go_enter Tryd.func87, Tryd.ntmps87
  go_wp2_with (fail)
  have k0 := (Blk.new w 102 #[.func (.func 100) #[] #[]]).c1
  refine bodyPost_ret (v := .agg #[.func (.func 100) #[] #[]]) ?_ rfl ⟨rfl, Ext.alloc _ _⟩
  simp [results, Tryd.results87, go_sem, k0]

theorem add_at (b o j : Nat) : (⟨b, o, none⟩ : Addr).add j = ⟨b, o + j, none⟩ := by
  rcases j with _ | j <;> simp [Addr.add]
set_option maxRecDepth 100000 in
set_option maxHeartbeats 2000000 in
theorem clone_any (b o : Nat) (L : List (Int × Int)) (cp : Nat) (w : World) (h : SpanA w (some ⟨b, o, none⟩) L) (h0 : 0 < L.length) (h1 : L.length ≤ 1000) :
    Calls Tryd.prog 84 #[.slice (some ⟨b, o, none⟩) L.length cp] w fun e w' => (∃ v, e = .returned v ∧ w'.ownsRow w.heap.size 29 2 v L.length (flatS L)) ∧ Ext w w' := by
  obtain ⟨i0, hi, hz0, hz1, hz2⟩ := info_parts span_info
  obtain ⟨b', o', e, hl, hc⟩ := h h0
  simp only [Option.some.injEq, Addr.mk.injEq] at e
  obtain ⟨rfl, rfl, -⟩ := e
  go_enter Tryd.func84, Tryd.ntmps84
  have hq : ∀ W, (binOp .eql 22 (.slice (some ⟨b, o, none⟩) L.length cp) (.slice none 0 0)).run Tryd.prog W = .ok (.bool false) W := fun W => by
    simp only [binOp]
    simp [run_equal_slice_nil W _ _ _ _ _ Tryd.underlying22]
  have hnews : ∀ j u, (flatS L)[j]? = some u → (w.alloc (.cells #[] 29)).cell? ((⟨b, o, none⟩ : Addr).add j) = some u := by
    intro j u hj
    have hjl : j < L.length * 2 := by have := (List.getElem?_eq_some_iff.1 hj).1; rwa [flatS_len] at this
    have hk := hc (j / 2) (by omega)
    obtain ⟨f1, f2⟩ := flatS_at L (j / 2) (by omega)
    rcases (by omega : j = j / 2 * 2 ∨ j = j / 2 * 2 + 1) with e | e
    · rw [← e] at f1 hk
      rw [f1] at hj
      cases hj
      exact (Ext.alloc w _).keep (by rw [add_at]; exact hk.1)
    · rw [← e] at f2
      rw [f2] at hj
      cases hj
      have := hk.2
      rw [Nat.add_assoc, ← e] at this
      exact (Ext.alloc w _).keep (by rw [add_at]; exact this)
  have hone : ∀ u ∈ flatS L, u.oneCell' = true := by
    intro u hu
    simp only [flatS, List.mem_flatMap, List.mem_cons, List.not_mem_nil, or_false] at hu
    obtain ⟨p, _, rfl | rfl⟩ := hu <;> rfl
  have hown : (w.alloc (.cells #[] 29)).ownsRow w.heap.size 29 2 (.slice (some ⟨w.heap.size, 0, none⟩) 0 0) 0 [] :=
    ⟨rfl, .inr ⟨w.heap.size, 0, #[], rfl, Nat.le_refl _, heap_new w _, Nat.le_refl _, Nat.zero_le _, rfl, rfl⟩⟩
  clear hc h
  go_wp2_with (at_builtin; refine wpList_append_own _ rfl _ _ 22 rfl w.heap.size 29 i0 (.agg #[.int .i64 0, .int .i64 0]) 2 16 Tryd.underlying22 hi hz0 hz1 hz2 rfl (by decide) _ _ _ rfl hown ⟨b, o, none⟩ L.length cp (flatS L) rfl (flatS_len L) hnews hone (by unfold maxLen; omega) (by omega) (by simp) ?_; intro v' w7 hown' hgrow _)
  go_ret
  refine ⟨⟨_, rfl, by simpa using hown'⟩, Below.grown (Ext.alloc w _) hgrow (by simp) (fun k e => by cases e; exact Nat.le_refl _)⟩
end Go.Proofs.YtnhdcdhpfgdphaaDoor

/-
  Wrong: the sets of shots, as numbers.
-/
set_option linter.unusedSimpArgs false
set_option linter.unusedVariables false
namespace Go.Proofs.YtnhdcdhpfgdphaaDoor
open Go Go.RowKit

def bitB (m k : Nat) : Bool := m / 2 ^ k % 2 == 1
/-- The shots of the first k that a set has; those that it has not. -/
def outK (m k : Nat) : List Int := ((List.range k).filter (bitB m)).map fun (i : Nat) => (i : Int)
def restK (ss : List Sh) (m k : Nat) : List Sh := ((List.range k).filter fun i => !bitB m i).map (sAt ss)
theorem outK_succ (m k : Nat) : outK m (k + 1) = if bitB m k then outK m k ++ [(k : Int)] else outK m k := by
  unfold outK
  rw [List.range_succ, List.filter_append]
  cases h : bitB m k <;> simp [h]
theorem restK_succ (ss : List Sh) (m k : Nat) : restK ss m (k + 1) = if bitB m k then restK ss m k else restK ss m k ++ [sAt ss k] := by
  unfold restK
  rw [List.range_succ, List.filter_append]
  cases h : bitB m k <;> simp [h]
def worse (out best : List Int) : Bool := decide (out.length > best.length) || (decide (out.length = best.length) && decide (0 ≤ cmpL out best))
def wrongStep (B : Bk) (st : List Int × Bool) (m : Nat) : List Int × Bool :=
  if st.2 && worse (outK m B.shots.length) st.1 then st else if togB B (restK B.shots m B.shots.length) then (outK m B.shots.length, true) else st
def wrongK (B : Bk) (k : Nat) : List Int × Bool := (List.range k).foldl (wrongStep B) ([], false)
theorem wrongK_succ (B : Bk) (k : Nat) : wrongK B (k + 1) = wrongStep B (wrongK B k) k := by simp [wrongK, List.range_succ]
/-- The fewest shots that cannot be fair. -/
def wrongL (B : Bk) : List Int := (wrongK B (2 ^ B.shots.length)).1
theorem outK_len (m k : Nat) : (outK m k).length ≤ k := by
  unfold outK
  rw [List.length_map]
  have := List.length_filter_le (bitB m) (List.range k)
  simpa using this
theorem restK_len (ss : List Sh) (m k : Nat) : (restK ss m k).length ≤ k := by
  unfold restK
  rw [List.length_map]
  have := List.length_filter_le (fun i => !bitB m i) (List.range k)
  simpa using this
theorem wrongK_len (B : Bk) (k : Nat) : (wrongK B k).1.length ≤ B.shots.length := by
  induction k with
  | zero => simp [wrongK]
  | succ k ih =>
    rw [wrongK_succ]
    unfold wrongStep
    split
    · exact ih
    · split
      · exact outK_len _ _
      · exact ih
theorem shot_info : (Tryd.prog.info? 59).map (fun i => (i.zero, i.size, i.bytes)) = some (some (.agg #[.int .i64 0, .int .i64 0, .int .i64 0, .int .i64 0]), 4, 32) := by kernel_rfl
theorem bits_all : ((List.range 32).all fun m => (List.range 5).all fun k => (bits BinOp.and IntKind.i64 ((m : Int) / 2 ^ k) 1 == 1) == bitB m k) = true := by kernel_rfl
theorem bits_eq {m k : Nat} (hm : m < 32) (hk : k < 5) : (bits BinOp.and IntKind.i64 ((m : Int) / 2 ^ k) 1 == 1) = bitB m k := by
  have h := bits_all
  simp only [List.all_eq_true, List.mem_range, beq_iff_eq] at h
  exact h m hm k hk
theorem wrap_pow {n : Nat} (h : n ≤ 5) : wrap64 ((2 : Int) ^ n) = ((2 ^ n : Nat) : Int) := by
  rcases (by omega : n = 0 ∨ n = 1 ∨ n = 2 ∨ n = 3 ∨ n = 4 ∨ n = 5) with rfl | rfl | rfl | rfl | rfl | rfl <;> first | kernel_rfl | simp [wrap64]
theorem ownsRow_other {w w' : World} {base e e' s s' n n' : Nat} {v v' : Value} {xs xs' : List Value} (h : w.ownsRow base e s v n xs) (h' : w.ownsRow base e' s' v' n' xs') (hne : e ≠ e') (hg : w.grownBy w' v.ownBlock) : w'.ownsRow base e' s' v' n' xs' := by
  refine ⟨h'.1, ?_⟩
  rcases h'.2 with hn | ⟨g, cap, cur, hv, hb, hc, rest⟩
  · exact .inl hn
  · refine .inr ⟨g, cap, cur, hv, hb, (hg.block g (Array.getElem?_eq_some_iff.1 hc).1 (fun ek => ?_)).trans hc, rest⟩
    rcases h.2 with ⟨rfl, _⟩ | ⟨g2, cap2, cur2, rfl, _, hc2, _⟩
    · simp [Value.ownBlock] at ek
    · have : g = g2 := by simpa [Value.ownBlock] using ek
      subst this
      rw [hc2] at hc
      simp only [Option.some.injEq, Obj.cells.injEq] at hc
      exact hne hc.2.1
theorem own_from {w : World} {base base' e s n : Nat} {v : Value} {xs : List Value} (h : w.ownsRow base e s v n xs) (hb : base' ≤ base) : w.ownsRow base' e s v n xs := by
  refine ⟨h.1, ?_⟩
  rcases h.2 with hn | ⟨g, cap, cur, hv, hg, rest⟩
  · exact .inl hn
  · exact .inr ⟨g, cap, cur, hv, Nat.le_trans hb hg, rest⟩
theorem four_new (w : World) (a b c d : Value) (t : TypeId) : ∀ j u, [a, b, c, d][j]? = some u → (w.alloc (.cells #[a, b, c, d] t)).cell? ((⟨w.heap.size, 0, none⟩ : Addr).add j) = some u := by
  intro j u hj
  rw [add_at]
  have h := (Blk.new w t #[a, b, c, d]).cell (i := j) (v := u) (by simpa using hj)
  simpa using h
theorem own_x {w : World} {base n : Nat} {v : Value} {xs : List Value} (h : w.ownsRow base 59 4 v n xs) : (∃ a cp, v = .slice a n cp) ∧ ∀ k, v.ownBlock = some k → base ≤ k := by
  rcases h.2 with ⟨rfl, rfl⟩ | ⟨g, cap, cur, rfl, hb, _⟩
  · exact ⟨⟨none, 0, rfl⟩, fun k hk => by simp [Value.ownBlock] at hk⟩
  · exact ⟨⟨_, _, rfl⟩, fun k hk => by have : g = k := by simpa [Value.ownBlock] using hk
                                       omega⟩
def flatX (L : List Sh) : List Value := L.flatMap fun x => [.int .i64 x.st, .int .i64 x.co, .int .i64 x.lo, .int .i64 x.hi]
theorem flatX_snoc (L : List Sh) (x : Sh) : flatX (L ++ [x]) = flatX L ++ [.int .i64 x.st, .int .i64 x.co, .int .i64 x.lo, .int .i64 x.hi] := by simp [flatX]

theorem flatX_len (L : List Sh) : (flatX L).length = L.length * 4 := by
  induction L with
  | nil => rfl
  | cons p L ih => simp only [flatX, List.flatMap_cons, List.length_append, List.length_cons, List.length_nil] at *; omega
theorem flatX_at (L : List Sh) : ∀ i, i < L.length → (flatX L)[i * 4]? = some (.int .i64 (sAt L i).st) ∧ (flatX L)[i * 4 + 1]? = some (.int .i64 (sAt L i).co) ∧ (flatX L)[i * 4 + 2]? = some (.int .i64 (sAt L i).lo) ∧ (flatX L)[i * 4 + 3]? = some (.int .i64 (sAt L i).hi) := by
  induction L with
  | nil => intro i hi; simp at hi
  | cons p L ih =>
    intro i hi
    rcases i with _ | i
    · simp [flatX, sAt]
    · have := ih i (by simpa using hi)
      have e : flatX (p :: L) = .int .i64 p.st :: .int .i64 p.co :: .int .i64 p.lo :: .int .i64 p.hi :: flatX L := by simp [flatX]
      rw [e, show (i + 1) * 4 = i * 4 + 1 + 1 + 1 + 1 by omega]
      simpa [sAt] using this
theorem own_shot {w : World} {base n : Nat} {v : Value} {L : List Sh} (h : w.ownsRow base 59 4 v n (flatX L)) : n = L.length ∧ ∃ a cp, v = .slice a n cp ∧ ShotA w a L := by
  have hl : n = L.length := by have := h.1; rw [flatX_len] at this; omega
  refine ⟨hl, ?_⟩
  rcases Nat.eq_zero_or_pos n with h0 | h0
  · rcases h.2 with ⟨rfl, _⟩ | ⟨g, cap, cur, rfl, _⟩
    · exact ⟨none, 0, by rw [h0], fun hp => by omega⟩
    · exact ⟨_, cap, rfl, fun hp => by omega⟩
  · rcases h.2 with ⟨_, h1⟩ | ⟨g, cap, cur, rfl, hg, hh, h1, h2, h3, h4⟩
    · omega
    · refine ⟨_, cap, rfl, fun _ => ⟨g, 0, rfl, (Array.getElem?_eq_some_iff.1 hh).1, fun i hi => ?_⟩⟩
      have hb : Blk w g 59 cur := hh
      obtain ⟨f1, f2, f3, f4⟩ := flatX_at L i hi
      rw [← h4, List.getElem?_take, if_pos (by omega)] at f1 f2 f3 f4
      exact ⟨hb.cell (by simpa using f1), hb.cell (by simpa [Nat.zero_add] using f2), hb.cell (by simpa [Nat.zero_add] using f3), hb.cell (by simpa [Nat.zero_add] using f4)⟩
theorem restK_mem (ss : List Sh) (m k : Nat) {i : Nat} (hi : i < (restK ss m k).length) : ∃ j, j < k ∧ sAt (restK ss m k) i = sAt ss j := by
  have h : sAt (restK ss m k) i ∈ restK ss m k := by
    simp only [sAt, List.getD_eq_getElem?_getD, List.getElem?_eq_getElem hi, Option.getD_some]
    exact List.getElem_mem hi
  obtain ⟨j, hj, e⟩ := List.mem_map.1 h
  have := List.mem_filter.1 hj
  exact ⟨j, List.mem_range.1 this.1, e.symm⟩

set_option maxRecDepth 100000 in
set_option maxHeartbeats 4000000 in
theorem wrong_no (B : Bk) (a1 a2 a3 : Option Addr) (c1 c2 c3 : Nat)  (w : World) (h : BookA w B a1 a2 a3) (hG : Glob w) (hv : validB B = false) :
    Calls Tryd.prog 32 #[.agg #[.int .i64 B.comp, .slice a1 B.bounds.length c1, .slice a2 B.orders.length c2, .slice a3 B.shots.length c3]] w
      fun e w' => e = .returned (.tuple #[.slice none 0 0, .int .i64 20]) ∧ Ext w w' := by
  have HB := Lib.hid h
  have HG := Lib.hid hG
  have l2 := h.l2
  have l3 := h.l3
  clear h hG
  go_enter Tryd.func32, Tryd.ntmps32
  go_upto_region 1 with (fail)
  obtain ⟨W0, hW0⟩ : ∃ W0, W0 = w.alloc (.cells #[.int .i64 B.comp, .slice a1 B.bounds.length c1, .slice a2 B.orders.length c2, .slice a3 B.shots.length c3] 26) := ⟨_, rfl⟩
  have b0 : Blk W0 w.heap.size 26 #[.int .i64 B.comp, .slice a1 B.bounds.length c1, .slice a2 B.orders.length c2, .slice a3 B.shots.length c3] := by rw [hW0]; exact Blk.new _ _ _
  have E0 : Ext w W0 := by rw [hW0]; exact Ext.alloc _ _
  rw [← hW0]
  clear hW0
  have HH : Hid (∀ W, Ext W0 W → (W.cell? ⟨w.heap.size, 0, none⟩ = some (.int .i64 B.comp) ∧ W.cell? ⟨w.heap.size, 1, none⟩ = some (.slice a1 B.bounds.length c1) ∧ W.cell? ⟨w.heap.size, 2, none⟩ = some (.slice a2 B.orders.length c2) ∧ W.cell? ⟨w.heap.size, 3, none⟩ = some (.slice a3 B.shots.length c3))) := Lib.hid fun W e => (b0.ext e).c4
  obtain ⟨x0, x1, x2, x3⟩ := b0.c4
  go_wp2_with (go_at_call 58; refine (asked_no B a1 a2 a3 c1 c2 c3 true _ (HB.out.ext E0) (HG.out.ext E0) hv).mono ?_; rintro e w1 ⟨rfl, hE1⟩)
  refine bodyPost_ret (v := .tuple #[.slice none 0 0, .int .i64 20]) ?_ rfl ⟨rfl, E0.trans (Ext.trans hE1 (Ext.alloc _ _))⟩
  simp [results, Tryd.results32, go_sem]

set_option maxRecDepth 100000 in
set_option maxHeartbeats 4000000 in
theorem wrong_yes (B : Bk) (a1 a2 a3 : Option Addr) (c1 c2 c3 : Nat)  (w : World) (h : BookA w B a1 a2 a3) (hG : Glob w) (hv : validB B = true) :
    Calls Tryd.prog 32 #[.agg #[.int .i64 B.comp, .slice a1 B.bounds.length c1, .slice a2 B.orders.length c2, .slice a3 B.shots.length c3]] w
      fun e w' => (∃ a cp, e = .returned (.tuple #[.slice a (wrongL B).length cp, .int .i64 0]) ∧ IntA w' a (wrongL B)) ∧ Ext w w' := by
  have HB := Lib.hid h
  have HG := Lib.hid hG
  have l2 := h.l2
  have l3 := h.l3
  clear h hG
  go_enter Tryd.func32, Tryd.ntmps32
  go_upto_region 1 with (fail)
  obtain ⟨W0, hW0⟩ : ∃ W0, W0 = w.alloc (.cells #[.int .i64 B.comp, .slice a1 B.bounds.length c1, .slice a2 B.orders.length c2, .slice a3 B.shots.length c3] 26) := ⟨_, rfl⟩
  have b0 : Blk W0 w.heap.size 26 #[.int .i64 B.comp, .slice a1 B.bounds.length c1, .slice a2 B.orders.length c2, .slice a3 B.shots.length c3] := by rw [hW0]; exact Blk.new _ _ _
  have E0 : Ext w W0 := by rw [hW0]; exact Ext.alloc _ _
  rw [← hW0]
  clear hW0
  have HH : Hid (∀ W, Ext W0 W → (W.cell? ⟨w.heap.size, 0, none⟩ = some (.int .i64 B.comp) ∧ W.cell? ⟨w.heap.size, 1, none⟩ = some (.slice a1 B.bounds.length c1) ∧ W.cell? ⟨w.heap.size, 2, none⟩ = some (.slice a2 B.orders.length c2) ∧ W.cell? ⟨w.heap.size, 3, none⟩ = some (.slice a3 B.shots.length c3))) := Lib.hid fun W e => (b0.ext e).c4
  have hn5 := (valid_sizes hv).2.2.2.2.2
  obtain ⟨x0, x1, x2, x3⟩ := b0.c4
  go_upto_region 2 with (go_at_call 58; refine (asked_yes B a1 a2 a3 c1 c2 c3 _ (HB.out.ext E0) (HG.out.ext E0) hv).mono ?_; rintro e w1 ⟨⟨mp, rfl, hM, hmp⟩, hE1⟩)
  obtain ⟨W2, hW2⟩ : ∃ W2, W2 = w1.alloc (.cells #[.int .i64 B.comp, .slice a1 B.bounds.length c1, .slice a2 B.orders.length c2, .slice a3 B.shots.length c3, .map (some mp)] 81) := ⟨_, rfl⟩
  have E2 : Ext W0 W2 := by rw [hW2]; exact Ext.trans hE1 (Ext.alloc _ _)
  have hb : Blk W2 w1.heap.size 81 #[.int .i64 B.comp, .slice a1 B.bounds.length c1, .slice a2 B.orders.length c2, .slice a3 B.shots.length c3, .map (some mp)] := by rw [hW2]; exact Blk.new _ _ _
  have hM2 : MapA W2 mp (ownL B.orders B.orders.length) := by rw [hW2]; exact hM.ext (Ext.alloc _ _)
  rw [← hW2]
  clear hW2 x0 x1 x2 x3 hM
  obtain ⟨g, hg⟩ : ∃ g, g = w1.heap.size := ⟨_, rfl⟩
  rw [← hg] at hb ⊢
  clear hg hE1 hmp
  obtain ⟨x0, x1, x2, x3⟩ := (b0.ext E2).c4
  obtain ⟨P, hP⟩ : ∃ P : Nat, P = 2 ^ B.shots.length := ⟨_, rfl⟩
  have hP32 : P ≤ 32 := by rw [hP]; exact Nat.pow_le_pow_right (by omega) hn5
  have hp2 : wrap64 ((2 : Int) ^ B.shots.length) = (P : Int) := by
    rw [hP]
    exact wrap_pow hn5
  have HPf := Lib.hid hP
  clear hP
  obtain ⟨i0, hi, hz0, hz1, hz2⟩ := info_parts int_info
  obtain ⟨j0, ji, jz0, jz1, jz2⟩ := info_parts shot_info
  go_wp2_with (fail)
  rw [hp2]
  clear x0 x1 x2 x3 hp2
  go_loopw [6, 7, 25] (fun v f i wr => ∃ m : Nat, m ≤ P ∧ i = .int .i64 m ∧ f = .bool (wrongK B m).2 ∧ wr.ownsRow W2.heap.size 3 1 v (wrongK B m).1.length (ints (wrongK B m).1) ∧ Ext W2 wr) (fun _ _ i _ => P - (intOf i).toNat)
  case atStart => exact ⟨0, Nat.zero_le _, rfl, rfl, World.ownsRow_nil _ _ _ _, Ext.refl _⟩
  case round =>
    obtain ⟨m, hm, rfl, rfl, hown, hE⟩ := hrel
    have hblen := wrongK_len B m
    have hsucc := wrongK_succ B m
    obtain ⟨R, hR⟩ : ∃ R, R = wrongK B m := ⟨_, rfl⟩
    have hfin : m = P → wrongL B = R.1 := fun e => by rw [hR, e, HPf.out]; rfl
    rw [← hR] at hblen hsucc hown ⊢
    obtain ⟨best, found⟩ := R
    dsimp only at hblen hsucc hown hfin ⊢
    have Hsucc := Lib.hid hsucc
    have Hfin := Lib.hid hfin
    clear hR hsucc hfin
    by_cases hlt : m < P
    · obtain ⟨x0, x1, x2, x3⟩ := (b0.ext (Ext.trans E2 hE)).c4
      obtain ⟨hn0, av0, cpv0, rfl, hI0⟩ := own_int hown
      have HI0 := Lib.hid hI0
      have Hown := Lib.hid hown
      clear hI0 hown hn0
      obtain ⟨Wr, hWr⟩ : ∃ Wr, Wr = wr := ⟨_, rfl⟩
      subst hWr
      go_wp2_with (fail)
      clear x0 x1 x2 x3
      go_loopw [9, 10, 31] (fun o r i wx => ∃ k : Nat, k ≤ B.shots.length ∧ i = .int .i64 k ∧ wx.ownsRow Wr.heap.size 3 1 o (outK m k).length (ints (outK m k)) ∧ wx.ownsRow Wr.heap.size 59 4 r (restK B.shots m k).length (flatX (restK B.shots m k)) ∧ Ext Wr wx) (fun _ _ i _ => B.shots.length - (intOf i).toNat)
      case atStart => exact ⟨0, Nat.zero_le _, rfl, World.ownsRow_nil _ _ _ _, World.ownsRow_nil _ _ _ _, Ext.refl _⟩
      case round =>
        obtain ⟨k, hk, rfl, ho, hr, hE3⟩ := hrel
        have EA := Ext.trans (Ext.trans E2 hE) hE3
        by_cases hkl : k < B.shots.length
        · obtain ⟨b, o, rfl, hbl, hc⟩ := ((HB.out.ext E0).ext EA).shots (by omega)
          obtain ⟨q0, q1, q2, q3⟩ := hc k hkl
          have Ho := Lib.hid ho
          have Hr := Lib.hid hr
          clear hc ho hr
          go_upto_if 40 with (fail)
          rw [bits_eq (by omega) (by omega)]
          have hos := outK_succ m k
          have hrs := restK_succ B.shots m k
          have hol := outK_len m k
          have hrl := restK_len B.shots m k
          obtain ⟨p, hp⟩ : ∃ p, p = bitB m k := ⟨_, rfl⟩
          rw [← hp] at hos hrs ⊢
          have Hos := Lib.hid hos
          have Hrs := Lib.hid hrs
          clear hp hos hrs
          obtain ⟨W5, hW5⟩ : ∃ W5, W5 = wr.alloc (.cells #[.int .i64 (sAt B.shots k).st, .int .i64 (sAt B.shots k).co, .int .i64 (sAt B.shots k).lo, .int .i64 (sAt B.shots k).hi] 59) := ⟨_, rfl⟩
          have X5 : Ext wr W5 := by rw [hW5]; exact Ext.alloc _ _
          have s5 : Blk W5 wr.heap.size 59 #[.int .i64 (sAt B.shots k).st, .int .i64 (sAt B.shots k).co, .int .i64 (sAt B.shots k).lo, .int .i64 (sAt B.shots k).hi] := by rw [hW5]; exact Blk.new _ _ _
          rw [← hW5]
          clear hW5 q0 q1 q2 q3
          have X6 := Ext.trans hE3 X5
          have ho5 := ownsRow_ext Ho.out X5
          have hr5 := ownsRow_ext Hr.out X5
          cases p with
          | true =>
            have Hr5 := Lib.hid hr5
            clear hr5
            obtain ⟨hn, av, cpv, rfl, hI⟩ := own_int ho5
            clear hn hI
            go_wp2_with (at_builtin; refine wpList_append_own _ rfl _ _ 34 rfl Wr.heap.size 3 i0 (.int .i64 0) 1 8 Tryd.underlying34 hi hz0 hz1 hz2 rfl (by decide) _ _ _ rfl (ho5.alloc _) ⟨W5.heap.size, 0, none⟩ 1 1 [.int .i64 k] rfl rfl (cell_one_new _ _ _) (by simp [Value.oneCell']) (by unfold maxLen; omega) (by omega) (by have := X6.size; simp; omega) ?_)
            intro v' w7 hown' hgrow _
            have hE7 : Ext Wr w7 := Below.grown (Ext.trans X6 (Ext.alloc W5 _)) hgrow (by have := X6.size; simp; omega) (own_base ho5)
            have hr7 := ownsRow_other (ho5.alloc (.cells #[.int .i64 k] 3)) (Hr5.out.alloc (.cells #[.int .i64 k] 3)) (by decide) hgrow
            go_wp2
            go_roundw
            case rel => exact ⟨k + 1, by omega, by go_num, by rw [Hos.out]; simpa [ints] using hown', by rw [Hrs.out]; exact hr7, hE7⟩
            case measure => simp [intOf]; omega
          | false =>
            have Ho5 := Lib.hid ho5
            clear ho5
            obtain ⟨⟨av, cpv, rfl⟩, hbs⟩ := own_x hr5
            obtain ⟨z0, z1, z2, z3⟩ := s5.c4
            go_wp2_with (at_builtin; refine wpList_append_own _ rfl _ _ 24 rfl Wr.heap.size 59 j0 (.agg #[.int .i64 0, .int .i64 0, .int .i64 0, .int .i64 0]) 4 32 Tryd.underlying24 ji jz0 jz1 jz2 rfl (by decide) _ _ _ rfl (hr5.alloc _) ⟨W5.heap.size, 0, none⟩ 1 1 [.int .i64 (sAt B.shots k).st, .int .i64 (sAt B.shots k).co, .int .i64 (sAt B.shots k).lo, .int .i64 (sAt B.shots k).hi] rfl rfl (four_new _ _ _ _ _ _) (by simp [Value.oneCell']) (by unfold maxLen; omega) (by omega) (by have := X6.size; simp; omega) ?_)
            intro v' w7 hown' hgrow _
            have hE7 : Ext Wr w7 := Below.grown (Ext.trans X6 (Ext.alloc W5 _)) hgrow (by have := X6.size; simp; omega) hbs
            have ho7 := ownsRow_other (hr5.alloc (.cells #[.int .i64 (sAt B.shots k).st, .int .i64 (sAt B.shots k).co, .int .i64 (sAt B.shots k).lo, .int .i64 (sAt B.shots k).hi] 59)) (Ho5.out.alloc (.cells #[.int .i64 (sAt B.shots k).st, .int .i64 (sAt B.shots k).co, .int .i64 (sAt B.shots k).lo, .int .i64 (sAt B.shots k).hi] 59)) (by decide) hgrow
            go_wp2
            go_roundw
            case rel => exact ⟨k + 1, by omega, by go_num, by rw [Hos.out]; exact ho7, by rw [Hrs.out]; simpa [flatX_snoc] using hown', hE7⟩
            case measure => simp [intOf]; omega
        · obtain rfl : k = B.shots.length := by omega
          have hol := outK_len m B.shots.length
          have hrl := restK_len B.shots m B.shots.length
          obtain ⟨hno, ao, co, rfl, hIo⟩ := own_int ho
          have hIb := HI0.out.ext hE3
          have hcmp := compare_any ao av0 (outK m B.shots.length) best co cpv0 wr hIo hIb (by omega) (by omega)
          have Hcmp := Lib.hid hcmp
          have HIo := Lib.hid hIo
          have HIb := Lib.hid hIb
          have Ho := Lib.hid ho
          have Hr := Lib.hid hr
          clear hcmp hIo hIb ho hr hno
          obtain ⟨lo, hlo⟩ : ∃ l, l = (outK m B.shots.length).length := ⟨_, rfl⟩
          go_upto_region 18 with (fail)
          go_cut [70] (fun p wx => p = .bool (found && worse (outK m B.shots.length) best) ∧ wx = wr)
          case first =>
            clear hlo
            cases found with
            | false =>
              go_wp2_with (fail)
              go_meet
              case rel => exact ⟨rfl, rfl⟩
            | true =>
              rcases (by omega : best.length < (outK m B.shots.length).length ∨ (outK m B.shots.length).length < best.length ∨ (outK m B.shots.length).length = best.length) with hc | hc | hc
              · have hw : Hid (worse (outK m B.shots.length) best = true) := Lib.hid (by simp [worse, hc])
                go_wp2_with (fail)
                go_meet
                case rel => exact ⟨by rw [hw.out]; rfl, rfl⟩
              · have hw : Hid (worse (outK m B.shots.length) best = false) := Lib.hid (by simp [worse]; omega)
                go_wp2_with (fail)
                go_meet
                case rel => exact ⟨by rw [hw.out]; simp; omega, rfl⟩
              · have hw : Hid (worse (outK m B.shots.length) best = decide (0 ≤ cmpL (outK m B.shots.length) best)) := Lib.hid (by simp [worse, hc])
                have Hcm := Lib.hid Hcmp.out
                have hc1 : (outK m B.shots.length).length ≤ best.length := by omega
                have hc2 : best.length ≤ (outK m B.shots.length).length := by omega
                clear Hcmp hc
                obtain ⟨cv, hcv⟩ : ∃ cv, cv = cmpL (outK m B.shots.length) best := ⟨_, rfl⟩
                rw [← hcv] at hw Hcm
                clear hcv
                go_wp2_with (go_at_call 81; refine Hcm.out.mono ?_; rintro e w' ⟨rfl, rfl⟩)
                go_meet
                case rel => exact ⟨by rw [hw.out]; simp; omega, rfl⟩
          case rest =>
            obtain ⟨rfl, rfl⟩ := hcut
            have hst : wrongStep B (best, found) m = if found && worse (outK m B.shots.length) best then (best, found) else if togB B (restK B.shots m B.shots.length) then (outK m B.shots.length, true) else (best, found) := rfl
            have hsc := Hsucc.out
            rw [hst] at hsc
            obtain ⟨p, hp⟩ : ∃ p, p = (found && worse (outK m B.shots.length) best) := ⟨_, rfl⟩
            rw [← hp] at hsc ⊢
            have Hsc := Lib.hid hsc
            clear hst hsc hp hlo Hcmp
            have hbest := ownsRow_ext Hown.out hE3
            cases p with
            | true =>
              go_wp2_with (fail)
              go_roundw
              case rel => exact ⟨m + 1, by omega, by go_num, by rw [Hsc.out]; rfl, by rw [Hsc.out]; exact hbest, Ext.trans hE hE3⟩
              case measure => simp [intOf]; omega
            | false =>
              obtain ⟨hnr, ar, cr, rfl, hIr⟩ := own_shot Hr.out
              have hok : ∀ i, i < (restK B.shots m B.shots.length).length → okSh B (sAt (restK B.shots m B.shots.length) i) := fun i hi => by
                obtain ⟨j, hj, e⟩ := restK_mem B.shots m B.shots.length hi
                rw [e]
                obtain ⟨h1, h2, h3, h4, h5, h6, h7, h8⟩ := valid_shot hv hj
                exact ⟨h1, h2, h5, h6, h7⟩
              have EM := Ext.trans hE hE3
              have HTog := Lib.hid (together_any B a1 a2 a3 ar c1 c2 c3 mp cr (restK B.shots m B.shots.length) wc ((HB.out.ext E0).ext EA) ((HG.out.ext E0).ext EA) (hM2.ext EM) hv hIr (by omega) hok)
              obtain ⟨q, hq⟩ : ∃ q, q = togB B (restK B.shots m B.shots.length) := ⟨_, rfl⟩
              have hsd := Hsc.out
              rw [← hq] at hsd HTog
              have Hsd := Lib.hid hsd
              clear hsd hq hnr hIr hok
              obtain ⟨x0, x1, x2, x3, x4⟩ := (hb.ext EM).c5
              cases q with
              | true =>
                go_wp2_with (go_at_call 82; refine HTog.out.mono ?_; rintro e w6 ⟨rfl, hE6⟩)
                go_roundw
                case rel => exact ⟨m + 1, by omega, by go_num, by rw [Hsd.out]; rfl, by rw [Hsd.out]; exact own_from (ownsRow_ext Ho.out hE6) hE.size, Ext.trans EM hE6⟩
                case measure => simp [intOf]; omega
              | false =>
                go_wp2_with (go_at_call 82; refine HTog.out.mono ?_; rintro e w6 ⟨rfl, hE6⟩)
                go_roundw
                case rel => exact ⟨m + 1, by omega, by go_num, by rw [Hsd.out]; rfl, by rw [Hsd.out]; exact ownsRow_ext hbest hE6, Ext.trans EM hE6⟩
                case measure => simp [intOf]; omega
    · obtain rfl : m = P := by omega
      have hf := Hfin.out rfl
      (try dsimp only at hf)
      have hI0 := own_int hown
      have EF := E0.trans (Ext.trans E2 hE)
      subst hf
      rcases Nat.eq_zero_or_pos (wrongL B).length with h0 | h0
      · have Hh := Lib.hid h0
        rw [h0] at hown
        rcases hown.2 with ⟨rfl, _⟩ | ⟨gg, cap, cur, rfl, g1, g2, g3, g4, _⟩
        · clear h0
          go_wp2
          refine bodyPost_ret (v := .tuple #[.slice none 0 0, .int .i64 0]) ?_ rfl ⟨⟨_, ⟨0, by rw [Hh.out]⟩, fun hp => absurd hp (by rw [Hh.out]; omega)⟩, EF⟩
          simp [results, Tryd.results32, go_sem]
        · unfold maxLen at g4
          clear h0
          go_wp2
          refine bodyPost_ret (v := .tuple #[.slice (some ⟨gg, 0, none⟩) 0 0, .int .i64 0]) ?_ rfl ⟨⟨_, ⟨0, by rw [Hh.out]⟩, fun hp => absurd hp (by rw [Hh.out]; omega)⟩, EF⟩
          simp [results, Tryd.results32, go_sem]
      · obtain ⟨gg, cap, cur, rfl, g1, g2, g3, hbk, ht⟩ := own_open hown h0
        obtain ⟨hn, av, cpv, e1, hI⟩ := hI0
        unfold maxLen at g3
        simp only [Value.slice.injEq] at e1
        obtain ⟨rfl, -, rfl⟩ := e1
        go_wp2
        refine bodyPost_ret (v := .tuple #[.slice (some ⟨gg, 0, none⟩) (wrongL B).length (wrongL B).length, .int .i64 0]) ?_ rfl ⟨⟨_, ⟨_, rfl⟩, hI⟩, EF⟩
        simp [results, Tryd.results32, go_sem]
end Go.Proofs.YtnhdcdhpfgdphaaDoor
