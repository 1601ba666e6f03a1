/-
  Bits, Sooner, Fewer: contracts.
-/
import Derived.Test.YtnhdcdhpfgdphaaDoorP2
import Derived.Test.YtnhdcdhpfgdphaaDoorL1
import Derived.Deep.RegionLawGrows
set_option linter.unusedSimpArgs false
set_option linter.unusedVariables false
namespace Go.Proofs.YtnhdcdhpfgdphaaDoor
open Go Go.RowKit

theorem bit_all : ((List.range 32).all fun m => (List.range 5).all fun k => (((m : Int) / 2 ^ k).tmod 2 == 1) == bitB m k) = true := by kernel_rfl
theorem bit_eq {m k : Nat} (hm : m < 32) (hk : k < 5) : (((m : Int) / 2 ^ k).tmod 2 == 1) = bitB m k := by
  have h := bit_all
  simp only [List.all_eq_true, List.mem_range, beq_iff_eq] at h
  exact h m hm k hk
theorem bit_any {m k : Nat} (hm : m < 32) (hk : k < 5) (w : World) : Calls Tryd.prog 89 #[.int .i64 m, .int .i64 k] w fun e w' => e = .returned (.bool (bitB m k)) ∧ w = w' := by
  have hb := bit_eq hm hk
  have Hb := Lib.hid hb
  clear hb
  go_enter Tryd.func89, Tryd.ntmps89
  go_wp2
  go_ret
  exact ⟨by rw [← Hb.out]; rfl, rfl⟩
set_option maxRecDepth 100000 in
set_option maxHeartbeats 1000000 in
theorem bits_any (m n : Nat) (hm : m < 32) (hn : n ≤ 5) (w : World) : Calls Tryd.prog 50 #[.int .i64 m, .int .i64 n] w
    fun e w' => (∃ a cp, e = .returned (.slice a (outK m n).length cp) ∧ IntA w' a (outK m n)) ∧ Ext w w' := by
  obtain ⟨i0, hi, hz0, hz1, hz2⟩ := info_parts int_info
  go_enter Tryd.func50, Tryd.ntmps50
  go_upto_region 3 with (fail)
  have hown : (w.alloc (.cells #[] 3)).ownsRow w.heap.size 3 1 (.slice (some ⟨w.heap.size, 0, none⟩) 0 0) 0 [] :=
    ⟨rfl, .inr ⟨w.heap.size, 0, #[], rfl, Nat.le_refl _, heap_new w _, Nat.le_refl _, Nat.zero_le _, rfl, rfl⟩⟩
  go_loopw [5, 6] (fun v i wr => ∃ k : Nat, k ≤ n ∧ i = .int .i64 k ∧ wr.ownsRow w.heap.size 3 1 v (outK m k).length (ints (outK m k)) ∧ Ext w wr) (fun _ i _ => n - (intOf i).toNat)
  case atStart => exact ⟨0, Nat.zero_le _, rfl, hown, Ext.alloc _ _⟩
  case round =>
    obtain ⟨k, hk, rfl, ho, hE⟩ := hrel
    clear hown
    by_cases hlt : k < n
    · have hos := outK_succ m k
      have hol := outK_len m k
      have hbit := bit_any hm (show k < 5 by omega) wr
      obtain ⟨p, hp⟩ : ∃ p, p = bitB m k := ⟨_, rfl⟩
      rw [← hp] at hos hbit
      have Hos := Lib.hid hos
      have Hbit := Lib.hid hbit
      obtain ⟨hnn, av, cpv, rfl, hI⟩ := own_int ho
      clear hp hos hbit hI hnn
      cases p with
      | true =>
        go_wp2_with (first | (go_at_call 89; refine Hbit.out.mono ?_; rintro e w2 ⟨rfl, rfl⟩) | (at_builtin; refine wpList_append_own _ rfl _ _ 34 rfl w.heap.size 3 i0 (.int .i64 0) 1 8 Tryd.underlying34 hi hz0 hz1 hz2 rfl (by decide) _ _ _ rfl (ho.alloc _) ⟨wr.heap.size, 0, none⟩ 1 1 [.int .i64 k] rfl rfl (cell_one_new _ _ _) (by simp [Value.oneCell']) (by unfold maxLen; omega) (by omega) (by have := hE.size; simp; omega) ?_))
        intro v' w7 hown' hgrow _
        have hE7 : Ext w w7 := Below.grown (Ext.trans hE (Ext.alloc wr _)) hgrow (by have := hE.size; simp; omega) (own_base ho)
        go_wp2
        go_roundw
        case rel => exact ⟨k + 1, by omega, by go_num, by rw [Hos.out]; simpa [ints] using hown', hE7⟩
        case measure => simp [intOf]; omega
      | false =>
        go_wp2_with (go_at_call 89; refine Hbit.out.mono ?_; rintro e w2 ⟨rfl, rfl⟩)
        go_roundw
        case rel => exact ⟨k + 1, by omega, by go_num, by rw [Hos.out]; exact ho, hE⟩
        case measure => simp [intOf]; omega
    · obtain rfl : k = n := by omega
      obtain ⟨hnn, av, cpv, rfl, hI⟩ := own_int ho
      clear hnn
      go_wp2
      go_ret
      exact ⟨⟨_, _, rfl, hI⟩, hE⟩

set_option maxRecDepth 100000 in
set_option maxHeartbeats 1000000 in
theorem sooner_any (a b : Option Addr) (xs ys : List Int) (cp cq : Nat) (w : World) (h : IntA w a xs) (h2 : IntA w b ys) (hm : xs.length ≤ 9223372036854775807) (hm2 : ys.length ≤ 9223372036854775807) :
    Calls Tryd.prog 90 #[.slice a xs.length cp, .slice b ys.length cq] w fun e w' => e = .returned (.bool (decide (cmpL xs ys < 0))) ∧ Ext w w' := by
  go_enter Tryd.func90, Tryd.ntmps90
  go_upto_region 2 with (fail)
  go_loopw [5] (fun i wr => ∃ k : Nat, k ≤ xs.length ∧ k ≤ ys.length ∧ i = .int .i64 k ∧ cmpL xs ys = cmpL (xs.drop k) (ys.drop k) ∧ Ext w wr) (fun i _ => xs.length - (intOf i).toNat)
  case atStart => exact ⟨0, Nat.zero_le _, Nat.zero_le _, rfl, rfl, Ext.refl _⟩
  case round =>
    obtain ⟨k, hk, hk2, rfl, hn, hE⟩ := hrel
    by_cases hlt : k < xs.length
    · rw [drop_at hlt] at hn
      obtain ⟨b1, o1, rfl, hb1, hc1⟩ := (h.ext hE) (by omega)
      have q1 := hc1 k hlt
      clear hc1
      by_cases hlt2 : k < ys.length
      · rw [drop_at hlt2, cmpL] at hn
        obtain ⟨b2, o2, rfl, hb2, hc2⟩ := (h2.ext hE) (by omega)
        have q2 := hc2 k hlt2
        obtain ⟨x, hx⟩ : ∃ x, x = nAt xs k := ⟨_, rfl⟩
        obtain ⟨y, hy⟩ : ∃ y, y = nAt ys k := ⟨_, rfl⟩
        rw [← hx] at hn q1
        rw [← hy] at hn q2
        clear hc2 hx hy
        rcases (by omega : x = y ∨ x < y ∨ y < x) with hc | hc | hc
        · have Hn : Hid (cmpL xs ys = cmpL (xs.drop (k + 1)) (ys.drop (k + 1))) := Lib.hid (by rw [hn, if_neg (by omega), if_neg (by omega)])
          subst hc
          clear hn
          go_upto_region 2 with (fail)
          go_quiet (fail)
          go_wp2
          go_roundw
          case rel => exact ⟨k + 1, by omega, by omega, by go_num, Hn.out, hE.trans (Ext.drewN _ _)⟩
          case measure => simp [intOf]; omega
        · have Hn : Hid (decide (cmpL xs ys < 0) = true) := Lib.hid (by rw [hn, if_pos hc]; rfl)
          have hne : (x == y) = false := by simp; omega
          have hkl : ((k : Int) == (xs.length : Int)) = false := by simp; omega
          clear hn
          go_upto_region 2 with (fail)
          go_quiet (fail)
          go_upto_region 4 with (fail)
          go_quiet (fail)
          go_wp2
          go_ret
          refine ⟨?_, hE.trans ((Ext.drewN _ _).trans (Ext.drewN _ _))⟩
          rw [Hn.out]
          first | rfl | (show Ending.returned (Value.bool (decide _)) = _; congr 2; simp; omega)
        · have Hn : Hid (decide (cmpL xs ys < 0) = false) := Lib.hid (by rw [hn, if_neg (by omega), if_pos hc]; rfl)
          have hne : (x == y) = false := by simp; omega
          have hkl : ((k : Int) == (xs.length : Int)) = false := by simp; omega
          clear hn
          go_upto_region 2 with (fail)
          go_quiet (fail)
          go_upto_region 4 with (fail)
          go_quiet (fail)
          go_wp2
          go_ret
          refine ⟨?_, hE.trans ((Ext.drewN _ _).trans (Ext.drewN _ _))⟩
          rw [Hn.out]
          first | rfl | (show Ending.returned (Value.bool (decide _)) = _; congr 2; simp; omega)
      · obtain rfl : k = ys.length := by omega
        rw [List.drop_length] at hn
        have Hn : Hid (decide (cmpL xs ys < 0) = false) := Lib.hid (by rw [hn]; rfl)
        clear hn
        go_upto_region 2 with (fail)
        go_quiet (fail)
        go_upto_region 4 with (fail)
        go_quiet (fail)
        go_wp2
        go_ret
        exact ⟨by rw [Hn.out]; rfl, hE.trans ((Ext.drewN _ _).trans (Ext.drewN _ _))⟩
    · obtain rfl : k = xs.length := by omega
      rw [List.drop_length] at hn
      by_cases hlt2 : xs.length < ys.length
      · rw [drop_at hlt2] at hn
        have Hn : Hid (decide (cmpL xs ys < 0) = true) := Lib.hid (by rw [hn]; rfl)
        clear hn
        go_upto_region 2 with (fail)
        go_quiet (fail)
        go_upto_region 4 with (fail)
        go_quiet (fail)
        go_wp2
        go_ret
        exact ⟨by rw [Hn.out]; rfl, hE.trans ((Ext.drewN _ _).trans (Ext.drewN _ _))⟩
      · have e : ys.length = xs.length := by omega
        rw [← e, List.drop_length] at hn
        have Hn : Hid (decide (cmpL xs ys < 0) = false) := Lib.hid (by rw [hn]; rfl)
        clear hn e
        go_upto_region 2 with (fail)
        go_quiet (fail)
        go_upto_region 4 with (fail)
        go_quiet (fail)
        go_wp2
        go_ret
        exact ⟨by rw [Hn.out]; rfl, hE.trans ((Ext.drewN _ _).trans (Ext.drewN _ _))⟩

def fewerB (xs ys : List Int) : Bool := decide (xs.length < ys.length) || (decide (xs.length = ys.length) && decide (cmpL xs ys < 0))
theorem fewer_better (xs ys : List Int) : fewerB xs ys = true ↔ better xs ys := by simp [fewerB, better]
set_option maxRecDepth 100000 in
set_option maxHeartbeats 1000000 in
theorem fewerL_any (a b : Option Addr) (xs ys : List Int) (cp cq : Nat) (w : World) (h : IntA w a xs) (h2 : IntA w b ys) (hm : xs.length ≤ 9223372036854775807) (hm2 : ys.length ≤ 9223372036854775807) :
    Calls Tryd.prog 51 #[.slice a xs.length cp, .slice b ys.length cq] w fun e w' => e = .returned (.bool (fewerB xs ys)) ∧ Ext w w' := by
  rcases (by omega : xs.length < ys.length ∨ ys.length < xs.length ∨ xs.length = ys.length) with hc | hc | hc
  · have Hr : Hid (fewerB xs ys = true) := Lib.hid (by simp [fewerB, hc])
    go_enter Tryd.func51, Tryd.ntmps51
    go_wp2_with (fail)
    go_ret
    exact ⟨by rw [Hr.out]; rfl, Ext.refl _⟩
  · have Hr : Hid (fewerB xs ys = false) := Lib.hid (by simp [fewerB]; omega)
    have hne : ((xs.length : Int) == (ys.length : Int)) = false := by simp; omega
    go_enter Tryd.func51, Tryd.ntmps51
    go_wp2_with (fail)
    go_ret
    have hd : decide (xs.length < ys.length) = false := by simp; omega
    refine ⟨?_, Ext.refl _⟩
    rw [Hr.out, ← hd]
    rfl
  · have Hr : Hid (fewerB xs ys = decide (cmpL xs ys < 0)) := Lib.hid (by simp [fewerB, hc])
    have hs := Lib.hid (sooner_any a b xs ys cp cq w h h2 hm hm2)
    have heq : ((xs.length : Int) == (ys.length : Int)) = true := by simp; omega
    have h3 : xs.length ≤ ys.length := by omega
    have h4 : ys.length ≤ xs.length := by omega
    clear hc
    go_enter Tryd.func51, Tryd.ntmps51
    go_wp2_with (go_at_call 90; refine hs.out.mono ?_; rintro e w2 ⟨rfl, hE2⟩)
    go_ret
    have hd : decide (xs.length < ys.length) = false := by simp; omega
    refine ⟨?_, hE2⟩
    show Ending.returned (Value.bool (decide (xs.length < ys.length) || decide (cmpL xs ys < 0))) = _
    rw [Hr.out, hd, Bool.false_or]

theorem step_append_own {P : Program} {ops : Array Oper} {o : Oper} {a : Act} {w : World} {K : Act → World → Prop} {Q : Exit → Act → World → Prop} {E : Prop}
    (hg : o.guard = none) (s x : Operand) (t : TypeId) (hop : o.op = Op.call { callee := Callee.builtin Builtin.append, args := #[s, x], argTypes := #[t, t] })
    (base : Nat) (e : TypeId) (i : TypeInfo) (z : Value) (size bytes : Nat) (h1 : P.underlying t = some (.slice e)) (h2 : P.info? e = some i) (h3 : i.zero = some z) (h4 : i.size = size) (h5 : i.bytes = bytes) (h6 : z.cells.size = size) (h7 : 0 < size)
    (v : Value) (n : Nat) (xs : List Value) (hs : a.eval s = v) (hown : w.ownsRow base e size v n xs)
    (ad : Addr) (m c : Nat) (news : List Value) (hx : a.eval x = .slice (some ad) m c) (hn : news.length = m * size) (hc : ∀ j u, news[j]? = some u → w.cell? (ad.add j) = some u) (h1c : ∀ u ∈ news, u.oneCell' = true)
    (b1 : n + m ≤ maxLen) (b2 : (n + m) * bytes ≤ 140737488355328) (hb : base ≤ w.heap.size)
    (hK : ∀ v' w', w'.ownsRow base e size v' (n + m) (xs ++ news) → w.grownBy w' v.ownBlock → K (a.put o.dst v') w') :
    if Region.wanted o (yielded ops a.tmps) = true then Oper.wp P o a w K Q else E := by
  have hw : Region.wanted o (yielded ops a.tmps) = true := by simp [Region.wanted, hg]
  rw [if_pos hw]
  obtain ⟨v', w', hrun, r1, r2, _⟩ := run_append_own (P := P) w base t o.type e i z size bytes h1 h2 h3 h4 h5 h6 h7 v n xs hown ad m c news hn hc h1c b1 b2 hb
  unfold Oper.wp
  simp [execOp, hop, resolve, invoke, builtin, hs, hx, hrun, Result.andThen]
  exact hK v' w' r1 r2
theorem wp_append_own {P : Program} {o : Oper} {a : Act} {w : World} {K : Act → World → Prop} {Q : Exit → Act → World → Prop}
    (s x : Operand) (t : TypeId) (hop : o.op = Op.call { callee := Callee.builtin Builtin.append, args := #[s, x], argTypes := #[t, t] })
    (base : Nat) (e : TypeId) (i : TypeInfo) (z : Value) (size bytes : Nat) (h1 : P.underlying t = some (.slice e)) (h2 : P.info? e = some i) (h3 : i.zero = some z) (h4 : i.size = size) (h5 : i.bytes = bytes) (h6 : z.cells.size = size) (h7 : 0 < size)
    (v : Value) (n : Nat) (xs : List Value) (hs : a.eval s = v) (hown : w.ownsRow base e size v n xs)
    (ad : Addr) (m c : Nat) (news : List Value) (hx : a.eval x = .slice (some ad) m c) (hn : news.length = m * size) (hc : ∀ j u, news[j]? = some u → w.cell? (ad.add j) = some u) (h1c : ∀ u ∈ news, u.oneCell' = true)
    (b1 : n + m ≤ maxLen) (b2 : (n + m) * bytes ≤ 140737488355328) (hb : base ≤ w.heap.size)
    (hK : ∀ v' w', w'.ownsRow base e size v' (n + m) (xs ++ news) → w.grownBy w' v.ownBlock → K (a.put o.dst v') w') :
    Oper.wp P o a w K Q := by
  obtain ⟨v', w', hrun, r1, r2, _⟩ := run_append_own (P := P) w base t o.type e i z size bytes h1 h2 h3 h4 h5 h6 h7 v n xs hown ad m c news hn hc h1c b1 b2 hb
  unfold Oper.wp
  simp [execOp, hop, resolve, invoke, builtin, hs, hx, hrun, Result.andThen]
  exact hK v' w' r1 r2
end Go.Proofs.YtnhdcdhpfgdphaaDoor
