/-
  What the arguments read as; what the listed variables hold; the witness's world.
-/
import Derived.Test.YtnhdcdhpfgdphaaDoorRows
import Derived.Test.YtnhdcdhpfgdphaaDoorMOw1
import Derived.ProofKit
import Derived.LaidMore
import Derived.OpenShut
import Derived.Stop.Joined
import Derived.Lib.SmallJoins
import Derived.Deep.SlicePairs
import Derived.Deep.Matrix
import Derived.Carry
import Derived.ShutString
import Derived.ChangeOld
set_option linter.unusedSimpArgs false
set_option linter.unusedVariables false
namespace Go.Proofs.YtnhdcdhpfgdphaaDoor
open Go Go.ChangeShapes Go.WideShapes Go.ChangeAt Go.WideMaps Go.WideElems Go.RowKit Go.Deep Go.Joins

theorem ownKnob_none : ownKnob Tryd.prog.godebug = none := by kernel_rfl
theorem gNowhere : Tryd.prog.globalNamed "huer/turn.nowhere" = some 1 := by kernel_rfl
theorem gEnds : Tryd.prog.globalNamed "huer/turn.ends" = some 0 := by kernel_rfl
theorem tNowhere : (Tryd.prog.globals[1]?).map (·.type) = some 110 := by kernel_rfl
theorem tEnds : (Tryd.prog.globals[0]?).map (·.type) = some 106 := by kernel_rfl
theorem cInt : Tryd.prog.cellsOf 3 = 1 := by kernel_rfl
theorem cFn : Tryd.prog.cellsOf 105 = 1 := by kernel_rfl
theorem cSpan : Tryd.prog.cellsOf 29 = 2 := by kernel_rfl
theorem cRow : Tryd.prog.cellsOf 34 = 1 := by kernel_rfl
theorem cShot : Tryd.prog.cellsOf 59 = 4 := by kernel_rfl
theorem cBook : Tryd.prog.cellsOf 26 = 4 := by kernel_rfl

def laidT : List (String × DataW Unit) := [("huer/turn.nowhere", Rows.laid_huer_turn_nowhere), ("huer/turn.ends", Rows.laid_huer_turn_ends)]

/-- The door's own heap meets the condition. -/
theorem door_met (os : Os) (args : Array Value) : laidMetH Tryd.prog laidT ((World.doorLaid Tryd.prog 19 os).forCall (fun _ _ => 0) ⟨#[], args, []⟩).memory :=
  laidMetH_of_parts3 (fuel := 8) (laidMet_of_run' 8 (by kernel_rfl) (by kernel_rfl)) (by kernel_rfl) (by kernel_rfl)

set_option maxRecDepth 100000 in
/-- What the condition gives the walks. -/
theorem glob_of_laid {W : World} (h : laidMetH Tryd.prog laidT W) : Glob W := by
  obtain ⟨g, t, cs, fuel, p, hg, ht, hv, hd⟩ := h.funcs (n := "huer/turn.ends") (List.mem_cons_of_mem _ (List.mem_singleton.2 rfl))
  obtain rfl := Option.some.inj (gEnds.symm.trans hg)
  obtain rfl := Option.some.inj (tEnds.symm.trans ht)
  have hd' : DataW.trod (funcToken Tryd.prog) Tryd.prog W 0 (fun _ => true) true fuel 106 cs.toList = some (.agg [.held [40, 104, 117, 101, 114, 47, 116, 117, 114, 110, 46, 115, 112, 97, 110, 41, 46, 102, 105, 114, 115, 116], .held [40, 104, 117, 101, 114, 47, 116, 117, 114, 110, 46, 115, 112, 97, 110, 41, 46, 108, 97, 115, 116]], p) := hd
  obtain ⟨xs, m, -, hx, hlen, hn, hel⟩ := DataW.trod_array Tryd.underlying106 hd'
  have h' : laidMet Tryd.prog [("huer/turn.nowhere", Rows.laid_huer_turn_nowhere)] W := (show laidMet Tryd.prog _ W ∧ handlesMet Tryd.prog _ W from h).1
  obtain ⟨ps, ⟨g0, t0, cs0, f0, p0, q0, hg0, ht0, hv0, hd0, _⟩, _⟩ := h'
  obtain rfl := Option.some.inj (gNowhere.symm.trans hg0)
  obtain rfl := Option.some.inj (tNowhere.symm.trans ht0)
  obtain ⟨y0, y1, n, hy, hl0, hr0, hr1⟩ := trod_struct2 Tryd.underlying110 hd0
  have l0 := World.var?_cell hg hv 0
  have l1 := World.var?_cell hg hv 1
  have k0 := World.var?_cell hg0 hv0 0
  have k1 := World.var?_cell hg0 hv0 1
  rw [show Tryd.prog.cellsOf 110 = 2 by kernel_rfl] at hl0
  dsimp only at hr0 hr1
  rw [cInt] at hr0 hr1
  match e0 : cs0.toList, hl0 with
  | [u0, u1], _ =>
    rw [e0] at hr0 hr1
    obtain ⟨x0, f0', f1, _⟩ := DataW.trod_int Tryd.underlying3 hr0
    obtain ⟨x1, g0', g1, _⟩ := DataW.trod_int Tryd.underlying3 hr1
    have hy1 := congrArg Prod.fst hy
    rw [f1, g1] at hy1
    simp only [Rows.laid_huer_turn_nowhere, DataW.agg.injEq, List.cons.injEq, DataW.lit.injEq, Lit.int.injEq, true_and, and_true] at hy1
    obtain ⟨rfl, rfl⟩ := hy1
    simp only [List.drop_zero, List.take_succ_cons, List.take_zero, List.drop_succ_cons, List.cons.injEq, and_true] at f0' g0'
    subst f0' g0'
    have c0 : cs0[0]? = some (.int .i64 (-1)) := by rw [← Array.getElem?_toList, e0]; rfl
    have c1 : cs0[1]? = some (.int .i64 (-1)) := by rw [← Array.getElem?_toList, e0]; rfl
    rw [show Tryd.prog.cellsOf 106 = 2 by kernel_rfl] at hlen
    have h0 := hel 0 (by decide)
    have h1 := hel 1 (by decide)
    rw [cFn] at h0 h1
    match e1 : cs.toList, hlen, xs, hn with
    | [v0, v1], _, [x0, x1], _ =>
      rw [e1] at h0 h1
      have hx1 := congrArg Prod.fst hx
      simp only [List.map_cons, List.map_nil, DataW.agg.injEq, List.cons.injEq, and_true] at hx1
      simp only [List.drop_zero, List.take_succ_cons, List.take_zero, Nat.zero_mul, Nat.one_mul, List.drop_succ_cons, List.getElem?_cons_zero, List.getElem?_cons_succ] at h0 h1
      have r0 : DataW.trod (funcToken Tryd.prog) Tryd.prog W 0 (fun _ => true) true m 105 [v0] = some (.held [40, 104, 117, 101, 114, 47, 116, 117, 114, 110, 46, 115, 112, 97, 110, 41, 46, 102, 105, 114, 115, 116], x0.2) := by rw [h0, hx1.1]
      have r1 : DataW.trod (funcToken Tryd.prog) Tryd.prog W 0 (fun _ => true) true m 105 [v1] = some (.held [40, 104, 117, 101, 114, 47, 116, 117, 114, 110, 46, 115, 112, 97, 110, 41, 46, 108, 97, 115, 116], x1.2) := by rw [h1, hx1.2]
      obtain rfl := func_of_trod (f0 := 141) Tryd.underlying105 (by kernel_rfl) r0
      obtain rfl := func_of_trod (f0 := 143) Tryd.underlying105 (by kernel_rfl) r1
      have d0 : cs[0]? = some (.func (.func 141) #[] #[]) := by rw [← Array.getElem?_toList, e1]; rfl
      have d1 : cs[1]? = some (.func (.func 143) #[] #[]) := by rw [← Array.getElem?_toList, e1]; rfl
      exact ⟨l0.trans d0, l1.trans d1, k0.trans c0, k1.trans c1⟩

section
variable {H : Type} {enc : TypeId × Value → H} {w : World}
theorem addr_plain {a : Addr} {v : Value} (h : w.cell? (a.add 0) = some v) : a = ⟨a.block, a.off, none⟩ := by
  have := World.cell?_spot h
  obtain ⟨b, o, s⟩ := a
  have hs : s = none := by simpa [Addr.add] using this
  subst hs
  rfl
theorem add_plain' (b o j : Nat) : (⟨b, o, none⟩ : Addr).add j = ⟨b, o + j, none⟩ := by
  rcases j with _ | j <;> simp [Addr.add]
theorem open_spans {n : Nat} {v : Value} {y : DataW H × List MemPlace} (h : DataW.trod enc Tryd.prog w 0 (fun _ => true) true n 22 [v] = some y) :
    ∃ (L : List (Int × Int)) (a : Option Addr) (cp : Nat), v = .slice a L.length cp ∧ SpanA w a L ∧ L.length ≤ 9223372036854775807 := by
  rcases open_slice_pairs Tryd.underlying22 Tryd.underlying29 cSpan rfl rfl cInt cInt h with ⟨hcs, _⟩ | ⟨a, len, cap, m, n', V0, V1, D0, D1, P0, P1, hcs, _, hl, hm, hmm, _, hx⟩
  · exact ⟨[], none, 0, by simpa using hcs, fun hp => by simp at hp, by simp⟩
  · simp only [List.cons.injEq, and_true] at hcs
    subst hcs
    simp only [if_true] at hmm
    unfold maxLen at hm
    obtain ⟨q, hq⟩ := choose_lt (α := Int × Int) (n := len) (p := fun i q => V0 i = .int .i64 q.1 ∧ V1 i = .int .i64 q.2) (fun i hi => by
      obtain ⟨_, _, h2, h3⟩ := hx i (by omega)
      obtain ⟨u, e1, _, _⟩ := DataW.trod_int Tryd.underlying3 h2
      obtain ⟨v, e2, _, _⟩ := DataW.trod_int Tryd.underlying3 h3
      exact ⟨(u, v), by simpa using e1, by simpa using e2⟩)
    refine ⟨(List.range len).map q, some a, cap, by simp, fun hp => ?_, by simp; omega⟩
    have hlen : 0 < len := by simpa using hp
    have hpl := addr_plain (by simpa using (hx 0 (by omega)).1)
    refine ⟨a.block, a.off, by rw [← hpl], lt_of_cell (hx 0 (by omega)).1 |> fun h => (by rw [hpl] at h; simpa [add_plain'] using h), fun i hi => ?_⟩
    have hi' : i < len := by simpa using hi
    obtain ⟨h0, h1, _⟩ := hx i (by omega)
    rw [hpl, add_plain'] at h0 h1
    obtain ⟨e0, e1⟩ := hq i hi'
    refine ⟨?_, ?_⟩
    · rw [h0, e0]; simp [bLo, List.getD, hi']
    · rw [Nat.add_assoc, h1, e1]; simp [bHi, List.getD, hi']
theorem open_ints' {n : Nat} {v : Value} {y : DataW H × List MemPlace} (h : DataW.trod enc Tryd.prog w 0 (fun _ => true) true n 34 [v] = some y) :
    ∃ (L : List Int) (a : Option Addr) (cp : Nat), v = .slice a L.length cp ∧ IntA w a L ∧ L.length ≤ 9223372036854775807 ∧ ∀ x ∈ L, -9223372036854775808 ≤ x ∧ x ≤ 9223372036854775807 := by
  rcases open_slice1 Tryd.underlying34 cInt h with ⟨hcs, _⟩ | ⟨a, len, cap, m, n', V, D, Pl, hcs, _, hl, hm, hmm, _, hx⟩
  · exact ⟨[], none, 0, by simpa using hcs, fun hp => by simp at hp, by simp, by simp⟩
  · simp only [List.cons.injEq, and_true] at hcs
    subst hcs
    simp only [if_true] at hmm
    unfold maxLen at hm
    obtain ⟨q, hq⟩ := choose_lt (α := Int) (n := len) (p := fun i q => V i = .int .i64 q ∧ -9223372036854775808 ≤ q ∧ q ≤ 9223372036854775807) (fun i hi => by
      obtain ⟨_, h2⟩ := hx i (by omega)
      obtain ⟨u, e1, _, hw⟩ := DataW.trod_int Tryd.underlying3 h2
      exact ⟨u, by simpa using e1, bounds_i64 hw⟩)
    refine ⟨(List.range len).map q, some a, cap, by simp, fun hp => ?_, by simp; omega, fun x hx => ?_⟩
    · have hlen : 0 < len := by simpa using hp
      have hpl := addr_plain (hx 0 (by omega)).1
      refine ⟨a.block, a.off, by rw [← hpl], lt_of_cell (hx 0 (by omega)).1 |> fun h => (by rw [hpl] at h; simpa [add_plain'] using h), fun i hi => ?_⟩
      have hi' : i < len := by simpa using hi
      obtain ⟨h0, _⟩ := hx i (by omega)
      rw [hpl, add_plain'] at h0
      obtain ⟨e0, _⟩ := hq i hi'
      rw [h0, e0]; simp [nAt, List.getD, hi']
    · obtain ⟨i, hi, rfl⟩ := List.mem_map.1 hx
      exact (hq i (List.mem_range.1 hi)).2
theorem open_rows {n : Nat} {v : Value} {y : DataW H × List MemPlace} (h : DataW.trod enc Tryd.prog w 0 (fun _ => true) true n 23 [v] = some y) :
    ∃ (L : List (List Int)) (a : Option Addr) (cp : Nat), v = .slice a L.length cp ∧ RowsA w a L ∧ L.length ≤ 9223372036854775807 := by
  rcases open_slice1 Tryd.underlying23 cRow h with ⟨hcs, _⟩ | ⟨a, len, cap, m, n', V, D, Pl, hcs, _, hl, hm, hmm, _, hx⟩
  · exact ⟨[], none, 0, by simpa using hcs, fun hp => by simp at hp, by simp⟩
  · simp only [List.cons.injEq, and_true] at hcs
    subst hcs
    simp only [if_true] at hmm
    unfold maxLen at hm
    obtain ⟨q, hq⟩ := choose_lt (α := List Int) (n := len) (p := fun i q => ∃ (a : Option Addr) (cp : Nat), V i = .slice a q.length cp ∧ IntA w a q ∧ q.length ≤ 9223372036854775807) (fun i hi => by
      obtain ⟨_, h2⟩ := hx i (by omega)
      obtain ⟨L, b, cq, e, hL, hl2, _⟩ := open_ints' h2
      exact ⟨L, b, cq, e, hL, hl2⟩)
    refine ⟨(List.range len).map q, some a, cap, by simp, fun hp => ?_, by simp; omega⟩
    have hlen : 0 < len := by simpa using hp
    have hpl := addr_plain (hx 0 (by omega)).1
    refine ⟨a.block, a.off, by rw [← hpl], lt_of_cell (hx 0 (by omega)).1 |> fun h => (by rw [hpl] at h; simpa [add_plain'] using h), fun i hi => ?_⟩
    have hi' : i < len := by simpa using hi
    obtain ⟨h0, _⟩ := hx i (by omega)
    rw [hpl, add_plain'] at h0
    obtain ⟨b, cq, e0, e1, e2⟩ := hq i hi'
    have eo : oAt ((List.range len).map q) i = q i := by simp [oAt, List.getD, hi']
    rw [eo]
    exact ⟨b, cq, by rw [h0, e0], e2, e1⟩
set_option maxRecDepth 100000 in
theorem open_shots {n : Nat} {v : Value} {y : DataW H × List MemPlace} (h : DataW.trod enc Tryd.prog w 0 (fun _ => true) true n 24 [v] = some y) :
    ∃ (L : List Sh) (a : Option Addr) (cp : Nat), v = .slice a L.length cp ∧ ShotA w a L ∧ L.length ≤ 9223372036854775807 := by
  rcases open_slice Tryd.underlying24 h with ⟨hcs, _⟩ | ⟨a, len, cap, m, n', D, Pl, hcs, _, hl, hm, hmm, _, hx⟩
  · exact ⟨[], none, 0, by simpa using hcs, fun hp => by simp at hp, by simp⟩
  · simp only [List.cons.injEq, and_true] at hcs
    subst hcs
    simp only [if_true] at hmm
    unfold maxLen at hm
    rw [cShot] at hx
    obtain ⟨q, hq⟩ := choose_lt (α := Sh) (n := len) (p := fun i q => w.cell? (a.add (i * 4)) = some (.int .i64 q.st) ∧ w.cell? ((a.add (i * 4)).add 1) = some (.int .i64 q.co) ∧ w.cell? ((a.add (i * 4)).add 2) = some (.int .i64 q.lo) ∧ w.cell? ((a.add (i * 4)).add 3) = some (.int .i64 q.hi)) (fun i hi => by
      obtain ⟨cs', h1, h2⟩ := hx i (by omega)
      obtain ⟨_, hlen, hcell⟩ := World.cells?_some h1
      obtain ⟨xs, k, _, _, _, hxl, hf⟩ := DataW.trod_struct Tryd.underlying59 h2
      match xs, hxl, cs', hlen with
      | [y0, y1, y2], _, [v0, v1, v2, v3], _ =>
        have g0 : DataW.trod enc Tryd.prog w 0 (fun _ => true) true k 3 (([v0, v1, v2, v3].drop 0).take (Tryd.prog.cellsOf 3)) = some y0 := hf 0 _ rfl
        have g1 : DataW.trod enc Tryd.prog w 0 (fun _ => true) true k 3 (([v0, v1, v2, v3].drop 1).take (Tryd.prog.cellsOf 3)) = some y1 := hf 1 _ rfl
        have g2 : DataW.trod enc Tryd.prog w 0 (fun _ => true) true k 29 (([v0, v1, v2, v3].drop 2).take (Tryd.prog.cellsOf 29)) = some y2 := hf 2 _ rfl
        rw [cInt] at g0 g1
        rw [cSpan] at g2
        obtain ⟨u0, e0, _, _⟩ := DataW.trod_int Tryd.underlying3 g0
        obtain ⟨u1, e1, _, _⟩ := DataW.trod_int Tryd.underlying3 g1
        obtain ⟨zs, k2, _, _, _, hzl, hf2⟩ := DataW.trod_struct Tryd.underlying29 g2
        match zs, hzl with
        | [z0, z1], _ =>
          have j0 : DataW.trod enc Tryd.prog w 0 (fun _ => true) true k2 3 ((([v0, v1, v2, v3].drop 2).take 2).drop 0 |>.take (Tryd.prog.cellsOf 3)) = some z0 := hf2 0 _ rfl
          have j1 : DataW.trod enc Tryd.prog w 0 (fun _ => true) true k2 3 ((([v0, v1, v2, v3].drop 2).take 2).drop 1 |>.take (Tryd.prog.cellsOf 3)) = some z1 := hf2 1 _ rfl
          rw [cInt] at j0 j1
          obtain ⟨u2, e2, _, _⟩ := DataW.trod_int Tryd.underlying3 j0
          obtain ⟨u3, e3, _, _⟩ := DataW.trod_int Tryd.underlying3 j1
          simp only [List.drop_zero, List.take_succ_cons, List.take_zero, List.drop_succ_cons, List.cons.injEq, and_true] at e0 e1 e2 e3
          subst e0 e1 e2 e3
          refine ⟨⟨u0, u1, u2, u3⟩, ?_, ?_, ?_, ?_⟩
          · simpa [add_add] using hcell 0 (by omega)
          · simpa using hcell 1 (by omega)
          · simpa using hcell 2 (by omega)
          · simpa using hcell 3 (by omega))
    refine ⟨(List.range len).map q, some a, cap, by simp, fun hp => ?_, by simp; omega⟩
    have hlen : 0 < len := by simpa using hp
    have hpl := addr_plain (by simpa using (hq 0 hlen).1)
    refine ⟨a.block, a.off, by rw [← hpl], lt_of_cell (hq 0 hlen).1 |> fun h => (by rw [hpl] at h; simpa [add_plain'] using h), fun i hi => ?_⟩
    have hi' : i < len := by simpa using hi
    obtain ⟨h0, h1, h2, h3⟩ := hq i hi'
    rw [hpl, add_plain'] at h0 h1 h2 h3
    rw [add_plain'] at h1 h2 h3
    have eo : sAt ((List.range len).map q) i = q i := by simp [sAt, List.getD, hi']
    rw [eo]
    exact ⟨h0, h1, h2, h3⟩
set_option maxRecDepth 100000 in
theorem open_book {b0 : Nat} {v : Value} {d : DataW H} {p : List MemPlace} (hv : Value.okWide Tryd.prog w .any b0 26 v) (h : DataW.Trod enc Tryd.prog w 0 (fun _ => true) true 26 v d p) :
    ∃ (B : Bk) (a1 a2 a3 : Option Addr) (c1 c2 c3 : Nat), v = .agg #[.int .i64 B.comp, .slice a1 B.bounds.length c1, .slice a2 B.orders.length c2, .slice a3 B.shots.length c3] ∧ BookA w B a1 a2 a3 := by
  obtain ⟨v0, v1, v2, v3, y0, y1, y2, y3, n, rfl, _, _, h0, h1, h2, h3⟩ := open_agg4 Tryd.underlying26 (by kernel_rfl) cBook hv h
  dsimp only at h0 h1 h2 h3
  obtain ⟨C, e0, _, _⟩ := DataW.trod_int Tryd.underlying3 h0
  obtain ⟨L1, a1, c1, rfl, hA1, hl1⟩ := open_spans h1
  obtain ⟨L2, a2, c2, rfl, hA2, hl2⟩ := open_rows h2
  obtain ⟨L3, a3, c3, rfl, hA3, hl3⟩ := open_shots h3
  simp only [List.cons.injEq, and_true] at e0
  subst e0
  exact ⟨⟨C, L1, L2, L3⟩, a1, a2, a3, c1, c2, c3, rfl, hA1, hA2, hA3, hl1, hl2, hl3⟩
end
end Go.Proofs.YtnhdcdhpfgdphaaDoor

/-
  The arguments that are arrays; the closed facts of the rows.
-/
set_option linter.unusedSimpArgs false
set_option linter.unusedVariables false
namespace Go.Proofs.YtnhdcdhpfgdphaaDoor
open Go Go.ChangeShapes Go.WideShapes Go.ChangeAt Go.WideMaps Go.WideElems Go.RowKit Go.Deep Go.Joins

theorem laidOut : laidOutB Tryd.prog = true := by kernel_rfl

theorem list_two {α : Type} {l : List α} (h : l.length = 2) : ∃ a b, l = [a, b] := by
  match l, h with
  | [a, b], _ => exact ⟨a, b, rfl⟩
theorem list_three {α : Type} {l : List α} (h : l.length = 3) : ∃ a b c, l = [a, b, c] := by
  match l, h with
  | [a, b, c], _ => exact ⟨a, b, c, rfl⟩
theorem list_four {α : Type} {l : List α} (h : l.length = 4) : ∃ a b c d, l = [a, b, c, d] := by
  match l, h with
  | [a, b, c, d], _ => exact ⟨a, b, c, d, rfl⟩
set_option maxRecDepth 100000 in
theorem open_arr {H : Type} {enc : TypeId × Value → H} {w : World} {b0 : Nat} {n : Nat} {t : TypeId} {v : Value} {d : DataW H} {p : List MemPlace} (ht : Tryd.prog.underlying t = some (.array n 3)) (hc : Tryd.prog.cellsOf t = n)
    (hv : Value.okWide Tryd.prog w .any b0 t v) (h : DataW.Trod enc Tryd.prog w 0 (fun _ => true) true t v d p) :
    ∃ ns : List Int, ns.length = n ∧ v = .agg (ns.map fun x => Value.int .i64 x).toArray ∧ ∀ x ∈ ns, -9223372036854775808 ≤ x ∧ x ≤ 9223372036854775807 := by
  obtain ⟨cs, rfl, hsz⟩ : ∃ cs, v = .agg cs ∧ cs.size = Tryd.prog.cellsOf t := by
    simp only [Value.okWide, ht] at hv
    obtain ⟨cs, h1, h2, _⟩ := hv
    exact ⟨cs, h1, h2⟩
  obtain ⟨fuel, hf⟩ := h
  obtain ⟨xs, m, -, -, hlen, hxl, hel⟩ := DataW.trod_array ht hf
  rw [hc] at hsz hlen
  rw [cInt] at hel
  have hcs : (Value.agg cs).cells.toList = cs.toList := rfl
  rw [hcs] at hlen hel
  obtain ⟨q, hq⟩ := choose_lt (α := Int) (n := n) (p := fun i q => cs.toList[i]? = some (.int .i64 q) ∧ -9223372036854775808 ≤ q ∧ q ≤ 9223372036854775807) (fun i hi => by
    have h1 := hel i hi
    rw [List.getElem?_eq_getElem (show i < xs.length by omega)] at h1
    obtain ⟨u, e1, _, hw⟩ := DataW.trod_int Tryd.underlying3 h1
    refine ⟨u, ?_, bounds_i64 hw⟩
    have h2 : ((cs.toList.drop (i * 1)).take 1)[0]? = some (.int .i64 u) := by rw [e1]; rfl
    simpa using h2)
  refine ⟨(List.range n).map q, by simp, ?_, fun x hx => ?_⟩
  · congr 1
    apply Array.ext_getElem?
    intro i
    by_cases hi : i < n
    · rw [← Array.getElem?_toList, (hq i hi).1]
      simp [hi]
    · rw [Array.getElem?_eq_none (by omega), Array.getElem?_eq_none (by simp; omega)]
  · obtain ⟨i, hi, rfl⟩ := List.mem_map.1 hx
    exact (hq i (List.mem_range.1 hi)).2

end Go.Proofs.YtnhdcdhpfgdphaaDoor
