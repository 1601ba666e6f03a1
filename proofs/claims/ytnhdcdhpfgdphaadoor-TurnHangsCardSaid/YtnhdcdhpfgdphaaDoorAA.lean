/-
  fewer; a copy of spans.
-/
import Derived.Test.YtnhdcdhpfgdphaaDoorA9
import Derived.Test.YtnhdcdhpfgdphaaDoorA5
import Derived.Laws.Cover3
set_option linter.unusedSimpArgs false
set_option linter.unusedVariables false
namespace Go.Proofs.YtnhdcdhpfgdphaaDoor
open Go Go.RowKit

set_option maxHeartbeats 1000000 in
theorem fewer_any (w : World) : Calls Tryd.prog 87 #[] w fun e w' => e = .returned (.agg #[.func (.func 100) #[] #[]]) ∧ Ext w w' := by
  have hst : ∀ (a : Addr) (f : Fn) (r c : Array Value) (W : World), (store a (.func f r c)).run Tryd.prog W = stored Tryd.prog W a (.func f r c) .plain := fun a f r c W => run_store _ _ _ _ _ rfl
  go_enter Tryd.func87, Tryd.ntmps87
  go_wp2_with (fail)
  have k0 := (Blk.new w 102 #[.func (.func 100) #[] #[]]).c1
  refine bodyPost_ret (v := .agg #[.func (.func 100) #[] #[]]) ?_ rfl ⟨rfl, Ext.alloc _ _⟩
  simp [results, Tryd.results87, go_sem, k0]

theorem add_at (b o j : Nat) : (⟨b, o, none⟩ : Addr).add j = ⟨b, o + j, none⟩ := by
  rcases j with _ | j <;> simp [Addr.add]
set_option maxRecDepth 100000 in
set_option maxHeartbeats 2000000 in
theorem clone_any (b o : Nat) (L : List (Int × Int)) (cp : Nat) (w : World) (h : SpanA w (some ⟨b, o, none⟩) L) (h0 : 0 < L.length) (h1 : L.length ≤ 1000) :
    Calls Tryd.prog 84 #[.slice (some ⟨b, o, none⟩) L.length cp] w fun e w' => (∃ v, e = .returned v ∧ w'.ownsRow w.heap.size 29 2 v L.length (flatS L)) ∧ Ext w w' := by
  obtain ⟨i0, hi, hz0, hz1, hz2⟩ := info_parts span_info
  obtain ⟨b', o', e, hl, hc⟩ := h h0
  simp only [Option.some.injEq, Addr.mk.injEq] at e
  obtain ⟨rfl, rfl, -⟩ := e
  go_enter Tryd.func84, Tryd.ntmps84
  have hq : ∀ W, (binOp .eql 22 (.slice (some ⟨b, o, none⟩) L.length cp) (.slice none 0 0)).run Tryd.prog W = .ok (.bool false) W := fun W => by
    simp only [binOp]
    simp [run_equal_slice_nil W _ _ _ _ _ Tryd.underlying22]
  have hnews : ∀ j u, (flatS L)[j]? = some u → (w.alloc (.cells #[] 29)).cell? ((⟨b, o, none⟩ : Addr).add j) = some u := by
    intro j u hj
    have hjl : j < L.length * 2 := by have := (List.getElem?_eq_some_iff.1 hj).1; rwa [flatS_len] at this
    have hk := hc (j / 2) (by omega)
    obtain ⟨f1, f2⟩ := flatS_at L (j / 2) (by omega)
    rcases (by omega : j = j / 2 * 2 ∨ j = j / 2 * 2 + 1) with e | e
    · rw [← e] at f1 hk
      rw [f1] at hj
      cases hj
      exact (Ext.alloc w _).keep (by rw [add_at]; exact hk.1)
    · rw [← e] at f2
      rw [f2] at hj
      cases hj
      have := hk.2
      rw [Nat.add_assoc, ← e] at this
      exact (Ext.alloc w _).keep (by rw [add_at]; exact this)
  have hone : ∀ u ∈ flatS L, u.oneCell' = true := by
    intro u hu
    simp only [flatS, List.mem_flatMap, List.mem_cons, List.not_mem_nil, or_false] at hu
    obtain ⟨p, _, rfl | rfl⟩ := hu <;> rfl
  have hown : (w.alloc (.cells #[] 29)).ownsRow w.heap.size 29 2 (.slice (some ⟨w.heap.size, 0, none⟩) 0 0) 0 [] :=
    ⟨rfl, .inr ⟨w.heap.size, 0, #[], rfl, Nat.le_refl _, heap_new w _, Nat.le_refl _, Nat.zero_le _, rfl, rfl⟩⟩
  clear hc h
  go_wp2_with (at_builtin; refine wpList_append_own _ rfl _ _ 22 rfl w.heap.size 29 i0 (.agg #[.int .i64 0, .int .i64 0]) 2 16 Tryd.underlying22 hi hz0 hz1 hz2 rfl (by decide) _ _ _ rfl hown ⟨b, o, none⟩ L.length cp (flatS L) rfl (flatS_len L) hnews hone (by unfold maxLen; omega) (by omega) (by simp) ?_; intro v' w7 hown' hgrow _)
  go_ret
  refine ⟨⟨_, rfl, by simpa using hown'⟩, Below.grown (Ext.alloc w _) hgrow (by simp) (fun k e => by cases e; exact Nat.le_refl _)⟩
end Go.Proofs.YtnhdcdhpfgdphaaDoor
