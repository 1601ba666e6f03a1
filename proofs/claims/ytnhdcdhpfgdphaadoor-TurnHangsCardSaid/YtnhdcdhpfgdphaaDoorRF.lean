/-
  A region whose order is drawn, and whose operations make memory: whatever has come up leaves a fact of its slot; facts stay when the world grows.
-/
import Derived.Test.YtnhdcdhpfgdphaaDoorR
import Derived.Test.YtnhdcdhpfgdphaaDoorT0
namespace Go.Proofs.YtnhdcdhpfgdphaaDoor
open Go Go.RowKit

def lackN (l : Array Bool) : Nat := l.toList.countP fun b => !b
theorem lackN_set {l : Array Bool} {i : Nat} (h : l.getD i true = false) : lackN (l.setIfInBounds i true) + 1 = lackN l ∧ i < l.size := by
  have hi : i < l.size := by
    rcases Nat.lt_or_ge i l.size with h' | h'
    · exact h'
    · simp [Array.getElem?_eq_none h'] at h
  have hl : i < l.toList.length := by simpa using hi
  have hv : l.toList[i] = false := by simpa [hi] using h
  refine ⟨?_, hi⟩
  unfold lackN
  rw [Array.toList_setIfInBounds, List.countP_set hl]
  have hp : 0 < l.toList.countP fun b => !b := List.countP_pos_iff.2 ⟨l.toList[i], List.getElem_mem hl, by simp [hv]⟩
  simp only [hv, Bool.not_false, if_true, Bool.not_true, Bool.false_eq_true, if_false]
  omega
theorem lackN_zero {l : Array Bool} (h : lackN l = 0) (i : Nat) : l.getD i true = true := by
  rcases Nat.lt_or_ge i l.size with h' | h'
  · have := List.countP_eq_zero.1 h l[i] (by simp)
    simpa [h'] using this
  · simp [Array.getElem?_eq_none h']

section
variable {P : Program} {ops : Array Oper} {Q : Exit → Act → World → Prop} {md : Region.Mode}

theorem wpAny_inv (Inv : Array Bool → Act → World → Prop) (hD : ∀ l a w, Inv l a w → Region.ready md ops l = [] → Q .normal a w)
    (hS : ∀ l a w, Inv l a w → ∀ i ∈ Region.ready md ops l, wpOp P ops Q i (fun a' w' => Inv (l.setIfInBounds i true) a' w') a w) :
    ∀ (n : Nat) (l : Array Bool) (a : Act) (w : World), lackN l ≤ n → Inv l a w → wpAny P md ops Q n l a w
  | 0, l, a, w, hn, hI => by
    have hr : Region.ready md ops l = [] := by
      rw [List.eq_nil_iff_forall_not_mem]
      intro i hi
      have h1 := (mem_ready.1 hi).1
      rw [lackN_zero (by omega) i] at h1
      cases h1
    exact ⟨hr, hD l a w hI hr⟩
  | n + 1, l, a, w, hn, hI => by
    refine ⟨hD l a w hI, fun i hi => ?_⟩
    have h1 := lackN_set (mem_ready.1 hi).1
    exact wpOp_mono (fun a' w' h' => wpAny_inv Inv hD hS n _ a' w' (by omega) h') (hS l a w hI i hi)

def upd (vals : Nat → Value) (i : Nat) (v : Value) : Nat → Value := fun j => if j = i then v else vals j

/-- What binds an operation: those behind which it comes. -/
def Oper.waits (o : Oper) : List Nat := (o.after.toList.filter (Region.binds .any)).map (·.on)

theorem wp_region_facts {id : Nat} {ls : List Oper} {w : World} (n : Nat) (mk : (Nat → Value) → Act) (fact : Nat → Value → World → Prop) (base : World → Prop) (vals0 : Nat → Value)
    (hm : P.follows .mixedOrders = true) (hn : ls.length = n + 1) (hlast : (nth ls n).any (fun o => (List.range n).all (Oper.waits o).contains) = true)
    (hord : (List.range ls.length).all (fun i => (nth ls i).any fun o => (Oper.waits o).all (decide <| · < i)) = true)
    (hmono : ∀ i v w w', Ext w w' → fact i v w → fact i v w') (h0 : base w.drew)
    (hstep : ∀ i, i < n → ∀ vals w (K : Act → World → Prop), base w → (∀ o, nth ls i = some o → ∀ j ∈ Oper.waits o, fact j (vals j) w) →
      Hid (∀ v' w', fact i v' w' → base w' → Ext w w' → K (mk (upd vals i v')) w') → wpOp P ls.toArray Q i K (mk vals) w)
    (hend : ∀ vals w, base w → (∀ i, i < n → fact i (vals i) w) → wpOp P ls.toArray Q n (fun a w => Q .normal a w) (mk vals) w) :
    (Code.region id ls.toArray true).wp P Q (mk vals0) w := by
  refine wp_region_any hm ?_
  let Inv : Array Bool → Act → World → Prop := fun l a w => l.size = n + 1 ∧
    ((l.getD n true = false ∧ base w ∧ ∃ vals, a = mk vals ∧ ∀ i, i < n → l.getD i false = true → fact i (vals i) w) ∨ ((∀ i, l.getD i true = true) ∧ Q .normal a w))
  have hget : ∀ (l : Array Bool) i, l.size = n + 1 → i < n + 1 → l.getD i true = l.getD i false := fun l i hl hi => by simp [Array.getD, hl, hi]
  refine wpAny_inv Inv ?_ ?_ _ _ _ _ ?_ ?_
  · rintro l a w ⟨hsz, ⟨hln, hb, vals, rfl, hf⟩ | ⟨_, hq⟩⟩ hr
    · -- the least that has not come up is ready: so none is left
      exfalso
      have hall : ∀ m i, i < m → i < n + 1 → l.getD i true = true := by
        intro m
        induction m with
        | zero => intro i hi; omega
        | succ m ih =>
          intro i hi hin
          rcases (by omega : i < m ∨ i = m) with h | rfl
          · exact ih i h hin
          · cases hli : l.getD i true with
            | true => rfl
            | false =>
              exfalso
              have h1 := List.all_eq_true.1 hord i (by simp; omega)
              obtain ⟨o, ho, h2⟩ := (Option.any_eq_true _ _).1 h1
              have hmem : i ∈ Region.ready .any ls.toArray l := by
                rw [mem_ready]
                refine ⟨hli, o, by rw [nth_eq] at ho; simpa using ho, fun e he hb => ?_⟩
                have h3 := List.all_eq_true.1 h2 e.on (List.mem_map.2 ⟨e, List.mem_filter.2 ⟨by simpa using he, hb⟩, rfl⟩)
                have h4 : e.on < i := by simpa using h3
                rw [← hget l e.on hsz (by omega)]
                exact ih e.on h4 (by omega)
              rw [hr] at hmem
              cases hmem
      rw [hall (n + 1) n (by omega) (by omega)] at hln
      cases hln
    · exact hq
  · rintro l a w ⟨hsz, ⟨hln, hb, vals, rfl, hf⟩ | ⟨hall, _⟩⟩ i hi
    · obtain ⟨hli, o, ho, hw⟩ := mem_ready.1 hi
      have hin : i < n + 1 := by have := (Array.getElem?_eq_some_iff.1 ho).1; simp at this; omega
      have hnth : nth ls i = some o := by rw [nth_eq]; simpa using ho
      have hwait : ∀ j ∈ Oper.waits o, l.getD j false = true := fun j hj => by
        obtain ⟨e, he, rfl⟩ := List.mem_map.1 hj
        have := List.mem_filter.1 he
        exact hw e (by simpa using this.1) this.2
      rcases Nat.lt_or_ge i n with hlt | hge
      · refine hstep i hlt vals w _ hb (fun o' ho' j hj => ?_) (Lib.hid fun v' w' hv hb' hE => ?_)
        · rw [hnth] at ho'
          cases ho'
          have hj2 := hwait j hj
          have hjn : j < n := by
            rcases Nat.lt_or_ge j n with h | h
            · exact h
            · exfalso
              have hjs : j < n + 1 := by
                rcases Nat.lt_or_ge j (n + 1) with h' | h'
                · exact h'
                · rw [Array.getD_eq_getD_getElem?, Array.getElem?_eq_none (by omega)] at hj2
                  simp at hj2
              obtain rfl : j = n := by omega
              rw [hget l j hsz (by omega), hj2] at hln
              cases hln
          exact hf j hjn hj2
        · refine ⟨by simpa using hsz, .inl ⟨?_, hb', upd vals i v', rfl, fun j hj hlj => ?_⟩⟩
          · rw [getD_set_ne true (by omega)]; exact hln
          · unfold upd
            by_cases hji : j = i
            · subst hji; rw [if_pos rfl]; exact hv
            · rw [if_neg hji]
              rw [getD_set_ne false (Ne.symm hji)] at hlj
              exact hmono _ _ _ _ hE (hf j hj hlj)
      · obtain rfl : i = n := by omega
        have hall : ∀ j, j < i → l.getD j false = true := fun j hj => by
          rw [hnth] at hlast
          simp only [Option.any_some, List.all_eq_true, List.mem_range, List.contains_iff_mem] at hlast
          exact hwait j (hlast j hj)
        refine wpOp_mono (fun a' w' hq => ?_) (hend vals w hb fun j hj => hf j hj (hall j hj))
        refine ⟨by simpa using hsz, .inr ⟨fun j => ?_, hq⟩⟩
        by_cases hji : j = i
        · subst hji
          simp [hsz]
        · rw [getD_set_ne true (Ne.symm hji)]
          rcases Nat.lt_or_ge j (i + 1) with h | h
          · rw [hget l j hsz h]; exact hall j (by omega)
          · rw [Array.getD_eq_getD_getElem?, Array.getElem?_eq_none (by omega)]; rfl
    · have := (mem_ready.1 hi).1
      rw [hall i] at this
      cases this
  · have : lackN (Array.replicate ls.toArray.size false) = ls.length := by
      unfold lackN
      rw [Array.toList_replicate, List.countP_replicate]
      simp
    rw [this]
    simp
  · refine ⟨by simp [hn], .inl ⟨by simp [hn], h0, vals0, rfl, fun i hi hl => ?_⟩⟩
    exfalso
    have : i < n + 1 := by omega
    simp [hn, this] at hl
end
end Go.Proofs.YtnhdcdhpfgdphaaDoor
