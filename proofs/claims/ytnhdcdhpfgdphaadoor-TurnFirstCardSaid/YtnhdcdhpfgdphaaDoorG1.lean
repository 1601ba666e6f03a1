/-
  TurnFirst: the row and the card.
-/
import Derived.Test.YtnhdcdhpfgdphaaDoorF1
import Derived.Test.YtnhdcdhpfgdphaaDoorL6
import Derived.Test.YtnhdcdhpfgdphaaDoorTie
import Derived.Test.YtnhdcdhpfgdphaaDoorCards
import Derived.SevenTiedAt
import Derived.ShutString
import Derived.ChangeOld
set_option linter.unusedSimpArgs false
set_option linter.unusedVariables false
namespace Go.Proofs.YtnhdcdhpfgdphaaDoor
open Go Go.ChangeShapes Go.WideShapes Go.ChangeAt Go.WideMaps Go.WideElems Go.RowKit Go.Deep Go.Joins

theorem laidOut : laidOutB Tryd.prog = true := by kernel_rfl

theorem list_four {α : Type} {l : List α} (h : l.length = 4) : ∃ a b c d, l = [a, b, c, d] := by
  match l, h with
  | [a, b, c, d], _ => exact ⟨a, b, c, d, rfl⟩
set_option maxRecDepth 100000 in
theorem open_arr {H : Type} {enc : TypeId × Value → H} {w : World} {b0 : Nat} {n : Nat} {t : TypeId} {v : Value} {d : DataW H} {p : List MemPlace} (ht : Tryd.prog.underlying t = some (.array n 3)) (hc : Tryd.prog.cellsOf t = n)
    (hv : Value.okWide Tryd.prog w .any b0 t v) (h : DataW.Trod enc Tryd.prog w 0 (fun _ => true) true t v d p) :
    ∃ ns : List Int, ns.length = n ∧ v = .agg (ns.map fun x => Value.int .i64 x).toArray ∧ ∀ x ∈ ns, -9223372036854775808 ≤ x ∧ x ≤ 9223372036854775807 := by
  obtain ⟨cs, rfl, hsz⟩ : ∃ cs, v = .agg cs ∧ cs.size = Tryd.prog.cellsOf t := by
    simp only [Value.okWide, ht] at hv
    obtain ⟨cs, h1, h2, _⟩ := hv
    exact ⟨cs, h1, h2⟩
  obtain ⟨fuel, hf⟩ := h
  obtain ⟨xs, m, -, -, hlen, hxl, hel⟩ := DataW.trod_array ht hf
  rw [hc] at hsz hlen
  rw [cInt] at hel
  have hcs : (Value.agg cs).cells.toList = cs.toList := rfl
  rw [hcs] at hlen hel
  obtain ⟨q, hq⟩ := choose_lt (α := Int) (n := n) (p := fun i q => cs.toList[i]? = some (.int .i64 q) ∧ -9223372036854775808 ≤ q ∧ q ≤ 9223372036854775807) (fun i hi => by
    have h1 := hel i hi
    rw [List.getElem?_eq_getElem (show i < xs.length by omega)] at h1
    obtain ⟨u, e1, _, hw⟩ := DataW.trod_int Tryd.underlying3 h1
    refine ⟨u, ?_, bounds_i64 hw⟩
    have h2 : ((cs.toList.drop (i * 1)).take 1)[0]? = some (.int .i64 u) := by rw [e1]; rfl
    simpa using h2)
  refine ⟨(List.range n).map q, by simp, ?_, fun x hx => ?_⟩
  · congr 1
    apply Array.ext_getElem?
    intro i
    by_cases hi : i < n
    · rw [← Array.getElem?_toList, (hq i hi).1]
      simp [hi]
    · rw [Array.getElem?_eq_none (by omega), Array.getElem?_eq_none (by simp; omega)]
  · obtain ⟨i, hi, rfl⟩ := List.mem_map.1 hx
    exact (hq i (List.mem_range.1 hi)).2

set_option maxRecDepth 100000 in
theorem turnFirst_walk (B : Bk) (a1 a2 a3 : Option Addr) (c1 c2 c3 : Nat) (n0 n1 n2 n3 : Int) (w : World) (h : BookA w B a1 a2 a3) (hG : Glob w) (k0 : intOk n0) (k1 : intOk n1) (k2 : intOk n2) (k3 : intOk n3) :
    Calls Tryd.prog 12 #[.agg #[.int .i64 B.comp, .slice a1 B.bounds.length c1, .slice a2 B.orders.length c2, .slice a3 B.shots.length c3], .agg #[.int .i64 n0, .int .i64 n1, .int .i64 n2, .int .i64 n3]] w
      fun e w' => e = .returned (.bool true) ∧ Ext w w' := by
  cases hv : validB B with
  | false => exact turnFirst_no B a1 a2 a3 c1 c2 c3 n0 n1 n2 n3 w h hG hv
  | true =>
    rcases Nat.lt_or_ge B.shots.length 2 with hn | hn
    · exact turnFirst_few B a1 a2 a3 c1 c2 c3 n0 n1 n2 n3 w h hG hv hn
    · exact turnFirst_yes B a1 a2 a3 c1 c2 c3 n0 n1 n2 n3 w h hG hv hn k0 k1 k2 k3

set_option maxRecDepth 100000 in
set_option maxHeartbeats 400000 in
theorem turnFirst_lifted (os : Os) (started : os.Started) (H : Type) (enc : TypeId × Value → H) :
    ReturnsInHanded {} Tryd.checked os 12 .any (fun w args => (Rows.turnFirstSpec.pre enc Tryd.prog Tryd.f12 [] false w args ∧ laidMetH Tryd.prog laidT w) ∧ sizedMet enc Tryd.prog Tryd.f12 (OpenSpec.ofChange Rows.turnFirstSpec) false w args)
      (Rows.turnFirstSpec.post enc Tryd.prog Tryd.f12 false true false false) := by
  refine returnsInHanded_of_change_and (C := Tryd.checked) (X := fun w _ => laidMetH Tryd.prog laidT w) (fun _ _ _ hh h => h.of_heap hh) ownKnob_none started (by kernel_rfl) Tryd.func12
    (ChangeSpec.witness_shaped (enc := enc) (C := Tryd.checked) (os := os) (X := fun w _ => laidMetH Tryd.prog laidT w) false (World.doorLaid Tryd.prog 19 os) #[.agg #[.int .i64 0, .slice none 0 0, .slice none 0 0, .slice none 0 0], .agg #[.int .i64 0, .int .i64 0, .int .i64 0, .int .i64 0]] 8 rfl (World.shaped_of_RefB (by kernel_rfl) (by kernel_rfl)) (by kernel_rfl) (by kernel_rfl) (by kernel_rfl) (door_met os _)) ?_
  intro W base args ds gs before hval0 hW _ _ hL _
  have hval : ∀ (j : Nat) t v, Tryd.f12.params[j]? = some t → args[j]? = some v → Value.okWide Tryd.prog W .any base t v := hval0
  have hW' := hW
  obtain ⟨p, q, hA0, hV, rfl, hfz, hnd⟩ := hW
  have hA : DataW.TrodAll enc Tryd.prog W 0 (fun _ => true) true Tryd.f12.params.toList args.toList ds p := hA0
  rw [Tryd.params12] at hA hval
  obtain ⟨v0, v1, d0, d1, p0, p1, rfl, rfl, rfl, h0, h1⟩ := trodAll_two hA
  obtain ⟨rfl, rfl⟩ := trodVars_none hV
  obtain ⟨B, a1, a2, a3, c1, c2, c3, rfl, hB⟩ := open_book (hval 0 26 v0 rfl rfl) h0
  obtain ⟨ns, hnl, rfl, hnb⟩ := open_arr Tryd.underlying70 (by kernel_rfl) (hval 1 70 v1 rfl rfl) h1
  obtain ⟨n0, n1, n2, n3, rfl⟩ := list_four hnl
  have lt0 : ∀ x ∈ p0, x.block < W.heap.size := by obtain ⟨m, hm⟩ := h0; exact DataW.trod_lt m _ _ _ hm
  have lt1 : ∀ x ∈ p1, x.block < W.heap.size := by obtain ⟨m, hm⟩ := h1; exact DataW.trod_lt m _ _ _ hm
  clear hA0 hval0
  refine (turnFirst_walk B a1 a2 a3 c1 c2 c3 n0 n1 n2 n3 W hB (glob_of_laid hL) (hnb _ (by simp)) (hnb _ (by simp)) (hnb _ (by simp)) (hnb _ (by simp))).mono fun e W' ⟨he, bel⟩ => ?_
  subst he
  exact ⟨_, rfl, _, _, _, [], _, [], hW', trodAll_mk1 (shut_bool Tryd.underlying4 _), (trodAll_cons_mk (Below.trod laidOut (by kernel_rfl) (of_decide_eq_true (by kernel_rfl)) h0 bel lt0) (trodAll_cons_mk (Below.trod laidOut (by kernel_rfl) (of_decide_eq_true (by kernel_rfl)) h1 bel lt1) trodAll_mk0)), rfl, bel.frame _, fun h => by cases h⟩

theorem turnFirst_row_holds : Rows.TurnFirstSaid :=
  OpenClaim.holds_of_wide 12 Tryd.f12 rfl rfl rfl rfl rfl rfl rfl ⟨rfl, rfl, rfl, rfl, rfl⟩ rfl rfl rfl rfl rfl (by kernel_rfl) Tryd.func12 (by kernel_rfl)
    (of_decide_eq_true (by kernel_rfl)) (by unfold Func.isWrapper; first | (rw [if_pos (by decide +kernel)]; kernel_rfl) | (rw [if_neg (by decide +kernel)]; exact ⟨rfl, rfl⟩))
    (fun os started H enc _ => turnFirst_lifted os started H enc)
theorem turnFirst_holds : Rows.TurnFirstCardSaid :=
  Claim7.holds_tied_plain_at .later [] [.data, .funcs] true (true, "b725dd78a201d2ffe3af5a79ffbbe972087fb848ac668f018f954fb309be5c94") false
    turnFirst_row_holds (fun _ h => by cases h) (by kernel_rfl) (fun _ h => by cases h) turnFirst_row_tie rfl ⟨rfl, rfl⟩ (by kernel_rfl) rfl
    (fun f fn hf hfn => by
      obtain rfl : f = 12 := Option.some.inj ((show Tryd.prog.funcNamed "huer/huerlaw02.TurnFirst" = some 12 by kernel_rfl).symm.trans hf) |>.symm
      obtain rfl : fn = Tryd.f12 := (Option.some.inj (Tryd.func12.symm.trans hfn)).symm
      exact ⟨by kernel_rfl, fun j t ht => by
        rw [Tryd.params12] at ht
        have hm : t ∈ [26, 70] := by simpa using Array.mem_of_getElem? ht
        have hall : ([26, 70].all fun u => !Tryd.prog.wantsStandIn u) = true := by kernel_rfl
        exact (show Tryd.prog.wantsStandIn t = false by simpa using List.all_eq_true.1 hall t hm)⟩)
    (by kernel_rfl)
#print axioms turnFirst_holds
end Go.Proofs.YtnhdcdhpfgdphaaDoor
