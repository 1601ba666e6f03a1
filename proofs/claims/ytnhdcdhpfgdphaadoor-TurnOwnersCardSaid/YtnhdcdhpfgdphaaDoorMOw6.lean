/-
  A range over a function whose iterator keeps state of its own in cells: what the caller says of memory speaks of what lay ahead of the loop alone; a round keeps all cells that lie. And a region that draws its order within a round, whose operations only read.
-/
import Derived.RangeFuncNested
import Derived.RangeFuncBound
import Derived.RangeFuncCalls
import Derived.RangeFuncLeaves
import Derived.Shelf.Abstract
import Derived.WalkKit
import Derived.OwnWalkIn
import Derived.TacticsInMore
import Derived.LoopNIn
import Derived.LoopIn
import Derived.Sort.BigQuietIn
import Derived.Sort.CutIn
import Derived.WalkMore
import Derived.Test.YtnhdcdhpfgdphaaDoorMOw5
set_option linter.unusedVariables false
namespace Go.Proofs.YtnhdcdhpfgdphaaDoor
open Go Go.RowKit

section
variable {F : Fence} {n : Nat} {P : Program}

/-- All cells that lay lie as they lay. -/
structure KeepC (W W' : World) : Prop where
  size : W.heap.size ≤ W'.heap.size
  same : ∀ (k : Nat) (o : Obj), W.heap[k]? = some o → o.isCells = true → W'.heap[k]? = some o

theorem KeepC.refl (W : World) : KeepC W W := ⟨Nat.le_refl _, fun _ _ h _ => h⟩
theorem KeepC.trans {A B C : World} (h : KeepC A B) (k : KeepC B C) : KeepC A C := ⟨Nat.le_trans h.size k.size, fun i o hi ho => k.same i o (h.same i o hi ho) ho⟩
theorem KeepC.of_ext {A B : World} (h : Ext A B) : KeepC A B := ⟨h.size, fun k o hk _ => (h.block k (Array.getElem?_eq_some_iff.1 hk).1).trans hk⟩
theorem KeepC.put {W : World} {l : Nat} {o : Obj} (o' : Obj) (hl : W.heap[l]? = some o) (ho : o.isCells = false) : KeepC W (W.putObj l o') :=
  ⟨by simp, fun k x hk hx => (World.putObj_heap_other (fun e => by subst e; rw [hl] at hk; cases hk; rw [ho] at hx; cases hx)).trans hk⟩

theorem KeepC.blk {A B : World} (h : KeepC A B) {g : Nat} {t : TypeId} {cs : Array Value} (hb : Blk A g t cs) : Blk B g t cs := h.same g _ hb rfl
theorem KeepC.cell {A B : World} (h : KeepC A B) {p : Addr} {v : Value} (hc : A.cell? p = some v) : B.cell? p = some v := by
  unfold World.cell? at hc ⊢
  split at hc
  · rename_i hk
    have := h.same _ _ hk rfl
    rw [this]
    exact hc
  · cases hc
theorem KeepC.span {A B : World} (h : KeepC A B) {a : Option Addr} {bs : List (Int × Int)} (hs : SpanA A a bs) : SpanA B a bs := fun hp => by
  obtain ⟨b, o, e, hl, hc⟩ := hs hp
  exact ⟨b, o, e, Nat.lt_of_lt_of_le hl h.size, fun i hi => ⟨h.cell (hc i hi).1, h.cell (hc i hi).2⟩⟩

/-- The contract of such an iterator. -/
def SeqFar {α : Type} (F : Fence) (n : Nat) (P : Program) (g : Nat) (lb : Array Value) (encs : α → Array Value) (S Sp : List α → Prop) (N : Nat) (w : World) : Prop :=
  ∀ (l : Nat) (J Jx : List α → World → Prop) (W : World), Below w.heap.size w W →
    (∀ s A B, J s A → Below W.heap.size A B → J s B) → (∀ s A B, Jx s A → Below W.heap.size A B → Jx s B) →
    (∀ pre x W1, J pre W1 → pre.length < N → YieldAt F (n - 1) P l (encs x) W1 fun e W' =>
      (e = .returned (.bool true) ∧ J (pre ++ [x]) W' ∧ KeepC W1 W') ∨ (e = .returned (.bool false) ∧ Jx (pre ++ [x]) W')) →
    J [] W →
    CallsIn F n P g (#[.func (.yield l) #[] #[]] ++ lb) W fun e W' => (∃ v, e = .returned v) ∧ ((∃ xs, S xs ∧ J xs W') ∨ (∃ pre, Sp pre ∧ Jx pre W'))

/-- How a round may be left. -/
def farPost {α : Type} (B : Nat) (I : List α → World → Prop) (Ix : Code → List α → World → Prop) (xs : List α) (W : World) : Exit → Act → World → Prop
  | .normal, _, W' => Ext W W' ∧ I xs W'
  | .ret, _, W' => KeepsFrom B W W' ∧ Ix .ret xs W'
  | .exit id, _, W' => KeepsFrom B W W' ∧ Ix (.exit id) xs W'
  | .goto t, _, W' => KeepsFrom B W W' ∧ Ix (.goto t) xs W'
  | .panic _, _, _ => False
  | .outgrown, _, _ => False

theorem below_put {n l : Nat} {W : World} {x : Obj} (o : Obj) (hl : W.heap[l]? = some x) (h : n ≤ l) : Below n W (W.putObj l o) :=
  (Below.refl n W).grown (grownBy_putObj' W l o) (by have := (Array.getElem?_eq_some_iff.1 hl).1; omega) (fun k e => by cases e; exact h)
theorem keepsFrom_ext {A B : World} (h : Ext A B) (m : Nat) : KeepsFrom m A B := ⟨h.size, fun k _ _ hk _ => (h.block k (Array.getElem?_eq_some_iff.1 hk).1).trans hk⟩

/-- **A range over such an iterator.** -/
theorem wpIn_rangeFunc_far {α : Type} {g : Operand} {ps : Array Tmp} {assign body : Code} {Q : Exit → Act → World → Prop} {a : Act} {w : World}
    (hro : F.round = none) (h1 : 1 ≤ n) {gf : Nat} {lb : Array Value} (hg : a.eval g = .func (.func gf) #[] lb) (hFg : F.fn gf) (eg : ∀ args w, (callFunc gf args).run P w = .ok (.enter gf args) w)
    {encs : α → Array Value} {S Sp : List α → Prop} {N : Nat} (hseq : SeqFar F (n - 1) P gf lb encs S Sp N w) (hps : ∀ x, (encs x).size = ps.size)
    (I : List α → World → Prop) (Ix : Code → List α → World → Prop) (hI : ∀ s A B, I s A → Below w.heap.size A B → I s B) (hIx : ∀ c s A B, Ix c s A → Below w.heap.size A B → Ix c s B) (h0 : I [] w)
    (Ax : α → Act → World → Prop) (hAx : ∀ x a' A B, Ax x a' A → KeepC A B → Ax x a' B)
    (hassign : ∀ (l : Nat) (pre : List α) (x : α) (W : World) (K : Act → World → Prop), I pre W → w.heap.size ≤ W.heap.size → (∀ a' W', Ext W W' → Ax x a' W' → K a' W') →
      assign.wpIn (F.inRound l) (n - 1 - 1) P (Exit.then K (fun _ _ _ => False)) { tmps := (ps.zip (encs x)).foldl (fun t (p, v) => t.setIfInBounds p v) a.tmps, defers := [] } W)
    (hbody : ∀ (l : Nat) (pre : List α) (x : α) (a' : Act) (W : World), I pre W → w.heap.size ≤ W.heap.size → Ax x a' W → pre.length < N → body.wpIn (F.inRound l) (n - 1 - 1) P (farPost w.heap.size I Ix (pre ++ [x]) W) a' W)
    (hdone : ∀ (D : Nat) (xs : List α) (W : World), w.heap.size ≤ D → S xs → I xs W → W.heap[D]? = some (.deferred (some [])) → Q .normal { a with defers := { target := .collected D, args := #[] } :: a.defers } W)
    (hstop : ∀ (D : Nat) (c : Code) (pre : List α) (W : World), w.heap.size ≤ D → Sp pre → Ix c pre W → W.heap[D]? = some (.deferred (some [])) → c.wpIn F n P Q { a with defers := { target := .collected D, args := #[] } :: a.defers } W) :
    (Code.rangeFunc g ps assign body).wpIn F n P Q a w := by
  refine wpIn_rangeFunc ?_
  intro fn hfn
  rw [hro]
  obtain ⟨B, hB⟩ : ∃ B, B = w.heap.size := ⟨_, rfl⟩
  obtain ⟨rec, hrec⟩ : ∃ rec : LoopState → Option Code → Loop, rec = fun st pe => { state := st, pending := pe, fn, tmps := a.tmps, params := ps, assign, body, defers := B } := ⟨_, rfl⟩
  obtain ⟨W1, hW1⟩ : ∃ W1, (w.alloc (.deferred (some []))).alloc (.loop (rec .ready none)) = W1 := ⟨_, rfl⟩
  have hsz : W1.heap.size = B + 2 := by rw [← hW1, hB]; simp
  have hE1 : Ext w W1 := by rw [← hW1]; exact (Ext.alloc _ _).trans (Ext.alloc _ _)
  have hL1 : W1.heap[B + 1]? = some (.loop (rec .ready none)) := by
    rw [← hW1, hB]; have := heap_new (w.alloc (.deferred (some []))) (.loop (rec .ready none)); rwa [World.size_alloc] at this
  have hD1 : W1.heap[B]? = some (.deferred (some [])) := by
    rw [← hW1, hB]; exact ((Ext.alloc (w.alloc (.deferred (some []))) _).block _ (by simp)).trans (heap_new w _)
  have hI1 : I [] W1 := hI _ _ _ h0 hE1
  refine ⟨B + 1, [{ target := .collected B, args := #[] }], W1, { target := .fn (.func gf) lb, args := #[.func (.yield (B + 1)) #[] #[]] }, W1, gf, #[.func (.yield (B + 1)) #[] #[]] ++ lb, W1, ?_, ?_, ?_, ?_, fun _ => h1, ?_⟩
  · rw [← hW1, hrec, hB]; exact run_enterLoop_outer _ _ _ _ _
  · simp only [resolve, hg]
    simp [go_sem]
  · intro f' hf'; simp [Target.leads] at hf'; subst hf'; exact hFg
  · simp [invoke, go_sem, eg]
  refine (hseq (B + 1) (fun pre W => I pre W ∧ W.heap[B + 1]? = some (.loop (rec .ready none)) ∧ W.heap[B]? = some (.deferred (some [])))
    (fun pre W => ∃ c, Ix c pre W ∧ W.heap[B + 1]? = some (.loop (rec .done (some c))) ∧ W.heap[B]? = some (.deferred (some [])))
    W1 hE1
    (fun s X Y hs hb => ⟨hI s X Y hs.1 (hb.mono (by omega)), (hb.block _ (by omega)).trans hs.2.1, (hb.block _ (by omega)).trans hs.2.2⟩)
    (fun s X Y hs hb => by
      obtain ⟨c, hc, hl, hk⟩ := hs
      exact ⟨c, hIx c s X Y hc (hb.mono (by omega)), (hb.block _ (by omega)).trans hl, (hb.block _ (by omega)).trans hk⟩)
    ?_ ⟨hI1, hL1, hD1⟩).mono ?_
  · -- one round
    rintro pre x W ⟨hi, hl, hk⟩ hlen
    have hlt : B + 1 < W.heap.size := (Array.getElem?_eq_some_iff.1 hl).1
    have hy := run_yield (P := P) (args := encs x) hl (by rw [hrec]; exact hps x)
    rw [hrec] at hy
    refine ⟨fn, _, assign, body, hy, roundIn_of_wpIn hfn (hassign _ pre x W _ hi (by omega) ?_)⟩
    clear hy
    intro a' Wa hEa hax
    have hla := (hEa.block _ hlt).trans hl
    have hka := (hEa.block _ (by omega : B < W.heap.size)).trans hk
    have hlta : B + 1 < Wa.heap.size := (Array.getElem?_eq_some_iff.1 hla).1
    have hia := hI _ _ _ hi (hEa.mono (by omega))
    refine ⟨_, run_beginRound hla (by rw [hrec]), ?_⟩
    obtain ⟨Wb, hWb⟩ : ∃ Wb, Wb = Wa.putObj (B + 1) (.loop { rec .ready none with state := .busy }) := ⟨_, rfl⟩
    have hlb : Wb.heap[B + 1]? = some (.loop { rec .ready none with state := .busy }) := by rw [hWb]; exact World.putObj_heap_same hlta
    have hkb : Wb.heap[B]? = some (.deferred (some [])) := by rw [hWb]; exact (World.putObj_heap_other (by omega)).trans hka
    have hCb : KeepC Wa Wb := by rw [hWb]; exact KeepC.put _ hla rfl
    have hib : I pre Wb := by rw [hWb]; exact hI _ _ _ hia (below_put _ hla (by omega))
    have hsb : B + 1 < Wb.heap.size := (Array.getElem?_eq_some_iff.1 hlb).1
    rw [← hWb]
    refine wpIn_mono (hbody _ pre x a' Wb hib (by omega) (hAx _ _ _ _ hax hCb) hlen) ?_
    have fin : ∀ (jump : Option Code) (W3 : World), KeepsFrom w.heap.size Wb W3 →
        (Instr.endRound (B + 1) jump).run P W3 = .ok (.bool jump.isNone) (W3.putObj (B + 1) (.loop (rec (if jump.isNone then .ready else .done) jump))) ∧
        W3.heap[B + 1]? = some (.loop { rec .ready none with state := .busy }) ∧
        (W3.putObj (B + 1) (.loop (rec (if jump.isNone then .ready else .done) jump))).heap[B + 1]? = some (.loop (rec (if jump.isNone then .ready else .done) jump)) ∧
        (W3.putObj (B + 1) (.loop (rec (if jump.isNone then .ready else .done) jump))).heap[B]? = some (.deferred (some [])) := fun jump W3 hk3 => by
      have hl3 := hk3.same _ _ (by omega) hlb rfl
      have := run_endRound (P := P) jump hl3
      rw [hrec] at this ⊢
      exact ⟨this, by rw [hrec] at hl3; exact hl3, World.putObj_heap_same (Array.getElem?_eq_some_iff.1 hl3).1, (World.putObj_heap_other (by omega)).trans (hk3.same _ _ (by omega) hkb rfl)⟩
    rintro e a3 W3 hp
    cases e with
    | normal =>
      obtain ⟨hE3, hi3⟩ := hp
      obtain ⟨hr, hl3, hl4, hk4⟩ := fin none W3 (keepsFrom_ext hE3 _)
      exact ⟨_, _, hr, .inl ⟨rfl, ⟨hI _ _ _ hi3 (below_put _ hl3 (by omega)), hl4, hk4⟩, ((KeepC.of_ext hEa).trans hCb).trans ((KeepC.of_ext hE3).trans (KeepC.put _ hl3 rfl))⟩⟩
    | ret =>
      obtain ⟨hk3, hi3⟩ := hp
      obtain ⟨hr, hl3, hl4, hk4⟩ := fin (some .ret) W3 hk3
      exact ⟨_, _, hr, .inr ⟨rfl, .ret, hIx _ _ _ _ hi3 (below_put _ hl3 (by omega)), hl4, hk4⟩⟩
    | exit id =>
      obtain ⟨hk3, hi3⟩ := hp
      obtain ⟨hr, hl3, hl4, hk4⟩ := fin (some (.exit id)) W3 hk3
      exact ⟨_, _, hr, .inr ⟨rfl, .exit id, hIx _ _ _ _ hi3 (below_put _ hl3 (by omega)), hl4, hk4⟩⟩
    | goto t =>
      obtain ⟨hk3, hi3⟩ := hp
      obtain ⟨hr, hl3, hl4, hk4⟩ := fin (some (.goto t)) W3 hk3
      exact ⟨_, _, hr, .inr ⟨rfl, .goto t, hIx _ _ _ _ hi3 (below_put _ hl3 (by omega)), hl4, hk4⟩⟩
    | panic ch => exact hp.elim
    | outgrown => exact hp.elim
  · -- behind the iterator
    rintro e W2 ⟨⟨v, rfl⟩, (⟨xs, hS, hi, hl, hk⟩ | ⟨pre, hSp, c, hi, hl, hk⟩)⟩
    · exact ⟨none, _, by have := run_endLoop (P := P) hl (by rw [hrec]; simp); rw [hrec] at this; exact this, by subst hB; exact hdone _ xs _ (Nat.le_refl _) hS (hI _ _ _ hi (below_put _ hl (by omega))) ((World.putObj_heap_other (by omega)).trans hk)⟩
    · exact ⟨some c, _, by have := run_endLoop (P := P) hl (by rw [hrec]; simp); rw [hrec] at this; exact this, by subst hB; exact hstop _ c pre _ (Nat.le_refl _) hSp (hIx c _ _ _ hi (below_put _ hl (by omega))) ((World.putObj_heap_other (by omega)).trans hk)⟩

/-! ### A region that draws its order, within a round: its operations only read -/
variable {ops : Array Oper} {C : World → Prop} {md : Region.Mode}

theorem quiet_wpIn {o : Oper} {a : Act} {K : Act → Prop} {K' : Act → World → Prop} {Q' : Exit → Act → World → Prop} {w : World} (hd : ∀ c, o.op ≠ .defer c) (hw : C w) (h : ∀ a w', C w' → K a → K' a w')
    (ha : o.askedIn F P a C) (hh : o.quietIn F n P a C K) : o.wpIn F n P a w K' Q' := by
  obtain ⟨v, h1, h2⟩ := hh
  have h3 := h1 w hw
  unfold Oper.quietAtIn at h3
  unfold Oper.wpIn
  refine ⟨ha w hw, ?_⟩
  rw [Oper.semAt_eq _ _ _ hd]
  generalize (execOp a.eval o).run P w = r at *
  cases r with
  | ok x w' =>
    cases x <;> simp only [Oper.quietUponIn] at h3 <;> simp only [Oper.uponIn]
    case value u =>
      obtain ⟨e1, e2⟩ := h3
      rw [e1, e2]
      exact h _ _ hw h2
    case skip =>
      obtain ⟨e1, e2⟩ := h3
      rw [e1, ← e2]
      exact h _ _ hw h2
    case enter f args =>
      obtain ⟨e1, hd, hc⟩ := h3
      rw [e1]
      exact ⟨hd, hc.mono fun e w'' ⟨he, hw''⟩ => by subst he; exact h _ _ hw'' h2⟩
  | halt x w' => simp only [Oper.quietUponIn] at h3

def noDefer (ops : Array Oper) : Bool := ops.toList.all fun o => match o.op with | .defer _ => false | _ => true
theorem noDefer_at (h : noDefer ops = true) {i : Nat} {o : Oper} (hi : ops[i]? = some o) : ∀ c, o.op ≠ .defer c := fun c hc => by
  unfold noDefer at h
  rw [List.all_eq_true] at h
  have := h o (by simpa using Array.mem_of_getElem? hi)
  rw [hc] at this
  cases this
theorem quiet_opIn (hn : noDefer ops = true) {i : Nat} {a : Act} {K : Act → Prop} {K' : Act → World → Prop} {Q' : Exit → Act → World → Prop} {w : World} (hC : C w) (h : ∀ a w', C w' → K a → K' a w')
    (hh : qOpIn F n P ops C i K a) : wpOpIn F n P ops Q' i K' a w := by
  unfold qOpIn at hh
  unfold wpOpIn
  split
  · rename_i ho; simp only [ho] at hh; exact h _ _ hC hh
  · rename_i o ho
    simp only [ho] at hh
    obtain ⟨ha, hh⟩ := hh
    split
    · rename_i hw; simp only [hw, if_true] at hh; exact quiet_wpIn (noDefer_at hn ho) hC h ha hh
    · rename_i hw; simp only [hw] at hh; exact ⟨ha w hC, h _ _ hC hh⟩
theorem quiet_anyIn (hn : noDefer ops = true) {Q : Act → Prop} {Q' : Exit → Act → World → Prop} (hQ : ∀ a w, C w → Q a → Q' .normal a w) : ∀ (fuel : Nat) (listed : Array Bool) (a : Act) (w : World), C w →
    wpAnyQIn F n P md ops C Q fuel listed a → wpAnyIn F n P md ops Q' fuel listed a w
  | 0, _, _, _, hw, h => ⟨h.1, hQ _ _ hw h.2⟩
  | fuel + 1, _, _, _, hw, h => ⟨fun h0 => hQ _ _ hw (h.1 h0), fun i hi => quiet_opIn hn hw (fun a' w' hw' => quiet_anyIn hn hQ fuel _ a' w' hw') (h.2 i hi)⟩
theorem wpIn_quiet_round {id : Nat} {Q : Exit → Act → World → Prop} {a : Act} {w : World} {l : List Oper} (hn : noDefer l.toArray = true) (hm : P.follows .mixedOrders = true) (hB : Region.lexB .any l.toArray = true)
    (h : wpQuietIn F n P l.toArray (fun w' => ∃ n, w' = w.drewN n) (fun a' => ∀ w', (∃ n, w' = w.drewN n) → Q .normal a' w') l a) : (Code.region id l.toArray true).wpIn F n P Q a w := by
  simp only [Region.lexB, Bool.and_eq_true] at hB
  refine wpIn_region_any hm (quiet_anyIn (C := fun w' => ∃ n, w' = w.drewN n) (Q := fun a' => ∀ w', (∃ n, w' = w.drewN n) → Q .normal a' w') hn (fun _ w' hw' h => h w' hw') _ _ _ _ ⟨1, rfl⟩ ?_)
  have := wpAnyQIn_lex (F := F) (n := n) (C := fun w' => ∃ n, w' = w.drewN n) (md := .any) (by simpa using hB.1) l 0 (Array.replicate l.toArray.size false) a (by simp) (by simpa using hB.2) h
  simpa using this

/-! ### A scope (a function with labels) through which the run goes without a jump to a label -/
theorem stepR_scope {b : Frame} {a : Act} {k : List Item} {cs : List Frame} {w : World} {c : Code} : step P (lone (b.atR a (.code (.scope c) :: k)) cs w) = .next (lone (b.atR a (.code c :: .inScope c :: k)) cs w) :=
  step_lone_go (by simp [stepG, stepG.exec, Frame.atR])
theorem stepR_inScope {b : Frame} {a : Act} {k : List Item} {cs : List Frame} {w : World} {c : Code} : step P (lone (b.atR a (.inScope c :: k)) cs w) = .next (lone (b.atR a k) cs w) :=
  step_lone_go (by simp [stepG, stepG.exec, Frame.atR])
theorem wpIn_scope {c : Code} {Q : Exit → Act → World → Prop} {a : Act} {w : World} (h : c.wpIn F n P (Exit.noGoto Q) a w) : (Code.scope c).wpIn F n P Q a w := by
  intro b k cs hro hb hr
  have h0 : (lone (b.atR a (.code (.scope c) :: k)) cs w).fenced P F := fenced_calm hb hr rfl
  obtain ⟨e, a₁, w₁, hq, harr⟩ := h b (.inScope c :: k) cs hro hb hr
  cases e with
  | normal => exact ⟨.normal, a₁, w₁, hq, .head h0 stepR_scope (StepsIn.trans harr (.one (fenced_calm hb hr rfl) stepR_inScope))⟩
  | exit id =>
    have hx : exitTo id (.inScope c :: k) = exitTo id k := by simp [exitTo]
    exact ⟨.exit id, a₁, w₁, hq, fun k' hk => .head h0 stepR_scope (harr.1 k' (by rw [hx]; exact hk)),
      fun hr' hk => let ⟨k₁, h1, h2⟩ := harr.2 hr' (by rw [hx]; exact hk); ⟨k₁, h1, .head h0 stepR_scope h2⟩⟩
  | goto l => exact hq.elim
  | ret => exact ⟨_, a₁, w₁, hq, .of_steps (.one h0 stepR_scope) harr⟩
  | panic ch => exact ⟨_, a₁, w₁, hq, .of_steps (.one h0 stepR_scope) harr⟩
  | outgrown => exact ⟨_, a₁, w₁, hq, .of_steps (.one h0 stepR_scope) harr⟩
end
end Go.Proofs.YtnhdcdhpfgdphaaDoor

/-
  truths: the iterator over all truths.
-/
set_option linter.unusedSimpArgs false
set_option linter.unusedVariables false
namespace Go.Proofs.YtnhdcdhpfgdphaaDoor
open Go Go.RowKit Go.Shelf

attribute [local go_sem] Oper.semAt_some

abbrev Q4 := Int × Int × Int × Int
def q4L (t : Q4) : List Int := [t.1, t.2.1, t.2.2.1, t.2.2.2]
def q4C (t : Q4) : Array Value := #[.int .i64 t.1, .int .i64 t.2.1, .int .i64 t.2.2.1, .int .i64 t.2.2.2]
def setQ (t : Q4) (k : Nat) (v : Int) : Q4 :=
  match k with
  | 0 => (v, t.2.1, t.2.2.1, t.2.2.2)
  | 1 => (t.1, v, t.2.2.1, t.2.2.2)
  | 2 => (t.1, t.2.1, v, t.2.2.2)
  | 3 => (t.1, t.2.1, t.2.2.1, v)
  | _ => t
/-- All truths of d more bounds, from the k-th on. -/
def gen (bs : List (Int × Int)) : Nat → Nat → Q4 → List Q4
  | 0, _, t => [t]
  | d + 1, k, t => (List.range (bHi bs k - bLo bs k + 1).toNat).flatMap fun (n : Nat) => gen bs d (k + 1) (setQ t k (bLo bs k + n))
/-- Those of the first j minutes. -/
def genJ (bs : List (Int × Int)) (d k : Nat) (t : Q4) (j : Nat) : List Q4 := (List.range j).flatMap fun (n : Nat) => gen bs d (k + 1) (setQ t k (bLo bs k + n))
theorem genJ_succ (bs : List (Int × Int)) (d k : Nat) (t : Q4) (j : Nat) : genJ bs d k t (j + 1) = genJ bs d k t j ++ gen bs d (k + 1) (setQ t k (bLo bs k + j)) := by
  simp [genJ, List.range_succ]
theorem genJ_add (bs : List (Int × Int)) (d k : Nat) (t : Q4) (j m : Nat) : genJ bs d k t j <+: genJ bs d k t (j + m) := by
  induction m with
  | zero => exact List.prefix_refl _
  | succ m ih => rw [← Nat.add_assoc, genJ_succ]; exact ih.trans (List.prefix_append _ _)
theorem genJ_le (bs : List (Int × Int)) (d k : Nat) (t : Q4) {i j : Nat} (h : i ≤ j) : genJ bs d k t i <+: genJ bs d k t j := by
  obtain ⟨m, rfl⟩ := Nat.exists_eq_add_of_le h
  exact genJ_add bs d k t i m
def truthsL (B : Bk) : List Q4 := gen B.bounds B.bounds.length 0 (0, 0, 0, 0)
theorem setQ_setQ (t : Q4) (k : Nat) (u v : Int) : setQ (setQ t k u) k v = setQ t k v := by
  unfold setQ
  rcases k with _ | _ | _ | _ | k <;> rfl
theorem q4_put {w : World} {g : Nat} {t : TypeId} {q : Q4} (h : Blk w g t (q4C q)) {k : Nat} (hk : k < 4) (v : Int) : Blk (w.setCell ⟨g, k, none⟩ (.int .i64 v)) g t (q4C (setQ q k v)) := by
  have := h.put k (.int .i64 v)
  rcases (by omega : k = 0 ∨ k = 1 ∨ k = 2 ∨ k = 3) with rfl | rfl | rfl | rfl <;> simpa [q4C, setQ] using this

theorem room_none {F : Fence} (hd : F.depth = none) (k : Nat) : F.room k := fun d h => by rw [hd] at h; cases h
theorem yieldAny {F : Fence} (hd : F.depth = none) {m : Nat} (m' : Nat) {P : Program} {l : Nat} {args : Array Value} {W : World} {R : Ending → World → Prop} (h : YieldAt F m P l args W R) : YieldAt F m' P l args W R := by
  obtain ⟨fn, tmps, assign, body, hy, hR⟩ := h
  exact ⟨fn, tmps, assign, body, hy, hR.1, fun c cs _ => hR.2 c cs (room_none hd _)⟩

theorem SpanA.at {w : World} {bs : List (Int × Int)} {b o : Nat} (h : SpanA w (some ⟨b, o, none⟩) bs) {k : Nat} (hk : k < bs.length) :
    w.cell? ⟨b, o + k * 2, none⟩ = some (.int .i64 (bLo bs k)) ∧ w.cell? ⟨b, o + k * 2 + 1, none⟩ = some (.int .i64 (bHi bs k)) := by
  obtain ⟨b', o', e, hl, hc⟩ := h (by omega)
  simp only [Option.some.injEq, Addr.mk.injEq] at e
  obtain ⟨rfl, rfl, -⟩ := e
  exact hc k hk
theorem KeepC.far {A B C : World} (h : KeepC A B) (k : Below A.heap.size B C) : KeepC A C :=
  ⟨Nat.le_trans h.size k.size, fun i o hi ho => (k.block i (Array.getElem?_eq_some_iff.1 hi).1).trans (h.same i o hi ho)⟩

set_option maxRecDepth 100000 in
set_option maxHeartbeats 4000000 in
theorem from_in (B : Bk) (a1 a2 a3 : Option Addr) (c1 c2 c3 mp : Nat) (hv : validB B = true) (F : Fence) (hd : F.depth = none) (h6 : F.fn 106) (hro : F.round = none) (l n₀ N : Nat) (J Jx : List Q4 → World → Prop)
    (hJ : ∀ s X Y, J s X → Below n₀ X Y → J s Y)
    (hY : ∀ m pre x W, J pre W → pre.length < N → YieldAt F m Tryd.prog l #[.agg (q4C x)] W fun e W' =>
      (e = .returned (.bool true) ∧ J (pre ++ [x]) W' ∧ KeepC W W') ∨ (e = .returned (.bool false) ∧ Jx (pre ++ [x]) W')) (Bb Yb Fb : Nat) (d : Nat) :
    ∀ (k : Nat) (t : Q4) (n : Nat) (pre : List Q4) (W : World), k + d = B.bounds.length →
      Blk W Bb 81 #[.int .i64 B.comp, .slice a1 B.bounds.length c1, .slice a2 B.orders.length c2, .slice a3 B.shots.length c3, .map (some mp)] →
      Blk W Yb 122 #[.func (.yield l) #[] #[]] → Blk W Fb 123 #[.func (.func 106) #[] #[.pointer (some ⟨Bb, 0, none⟩), .pointer (some ⟨Yb, 0, none⟩), .pointer (some ⟨Fb, 0, none⟩)]] →
      SpanA W a1 B.bounds → n₀ ≤ W.heap.size → J pre W → pre.length + (gen B.bounds d k t).length ≤ N →
      CallsIn F n Tryd.prog 106 #[.int .i64 k, .agg (q4C t), .pointer (some ⟨Bb, 0, none⟩), .pointer (some ⟨Yb, 0, none⟩), .pointer (some ⟨Fb, 0, none⟩)] W fun e W' =>
        (e = .returned (.bool true) ∧ J (pre ++ gen B.bounds d k t) W' ∧ KeepC W W') ∨ (e = .returned (.bool false) ∧ ∃ q, q <+: gen B.bounds d k t ∧ Jx (pre ++ q) W') := by
  induction d with
  | zero =>
    intro k t n pre W hk hb hy hf hs hn hj hN
    obtain rfl : k = B.bounds.length := by omega
    obtain ⟨t0, t1, t2, t3⟩ := t
    have hX : Ext W (W.alloc (.cells (q4C (t0, t1, t2, t3)) 117)) := Ext.alloc _ _
    have hj1 : J pre (W.alloc (.cells (q4C (t0, t1, t2, t3)) 117)) := hJ _ _ _ hj (hX.mono hn)
    obtain ⟨fn, tmps, assign, body, hyy, hR⟩ := hY (n - 1) pre (t0, t1, t2, t3) _ hj1 (by simp [gen] at hN; omega)
    dsimp only [q4C] at hyy hR hX
    obtain ⟨x0, x1, x2, x3, x4⟩ := (hb.ext hX).c5
    have hbe : ((B.bounds.length : Int) == B.bounds.length) = true := by simp
    have y0 := (hy.ext hX).c1
    obtain ⟨z0, z1, z2, z3⟩ := (Blk.new W 117 #[.int .i64 t0, .int .i64 t1, .int .i64 t2, .int .i64 t3]).c4
    refine callsIn_of_wp Tryd.func106 rfl h6 ?_ hro
    simp only [q4C, Tryd.ntmps106, List.size_toArray, List.length_cons, List.length_nil, Nat.reduceAdd, Nat.reduceSub, Array.replicate_succ, Array.replicate_zero, List.push_toArray, List.append_toArray, List.nil_append, List.cons_append]
    gi_wp2
    refine hR.mono ?_
    rintro e W3 (⟨rfl, hJ3, hk3⟩ | ⟨rfl, hJx3⟩)
    · gi_wp2
      go_ret
      exact .inl ⟨rfl, hJ3, (KeepC.of_ext hX).trans hk3⟩
    · gi_wp2
      go_ret
      exact .inr ⟨rfl, [(t0, t1, t2, t3)], List.prefix_refl _, hJx3⟩
  | succ d ih =>
    intro k t n pre W hk hb hy hf hs hn hj hN
    have hk4 := (valid_sizes hv).2.2.2.2.1
    have hbd := valid_bound hv (i := k) (by omega)
    have Hv := Lib.hid hv
    clear hv
    obtain ⟨t0, t1, t2, t3⟩ := t
    have hbe : ((k : Int) == B.bounds.length) = false := by rw [beq_eq_false_iff_ne]; omega
    obtain ⟨W0, hW0⟩ : ∃ W0, W0 = W.alloc (.cells (q4C (t0, t1, t2, t3)) 117) := ⟨_, rfl⟩
    have hX : Ext W W0 := by rw [hW0]; exact Ext.alloc _ _
    have hj0 : J pre W0 := hJ _ _ _ hj (hX.mono hn)
    have ht0 : Blk W0 W.heap.size 117 (q4C (t0, t1, t2, t3)) := by rw [hW0]; exact Blk.new _ _ _
    have hb0 := hb.ext hX
    have hy0 := hy.ext hX
    have hf0 := hf.ext hX
    have hs0 := hs.ext hX
    refine callsIn_of_wp Tryd.func106 rfl h6 ?_ hro
    simp only [q4C, Tryd.ntmps106, List.size_toArray, List.length_cons, List.length_nil, Nat.reduceAdd, Nat.reduceSub, Array.replicate_succ, Array.replicate_zero, List.push_toArray, List.append_toArray, List.nil_append, List.cons_append]
    dsimp only [q4C] at hW0
    obtain ⟨x0, x1, x2, x3, x4⟩ := hb0.c5
    obtain ⟨b, o, rfl, hbl, hc⟩ := hs0 (by omega)
    obtain ⟨s1, s2⟩ := hc k (by omega)
    rw [hW0] at x0 x1 x2 x3 x4
    gi_upto_region 3 with (fail)
    rw [← hW0]
    rw [← hW0] at x0 x1 x2 x3 x4
    clear hW0
    refine wpIn_region_quiet_lit hro (by kernel_rfl) (by kernel_rfl) ?_
    repeat (gi_big_quiet_step (fail))
    refine wpQuietIn_nil ?_
    intro _ hw'
    obtain ⟨nq, hw''⟩ := hw'
    subst hw''
    gi_wp2_with (fail)
    gi_loopw [34] (fun i wr => ∃ (j : Nat) (q : Q4), i = .int .i64 j ∧ j ≤ (bHi B.bounds k - bLo B.bounds k + 1).toNat ∧ J (pre ++ genJ B.bounds d k (t0, t1, t2, t3) j) wr ∧ KeepC W wr ∧ Blk wr W.heap.size 117 (q4C q) ∧ (∀ v, setQ q k v = setQ (t0, t1, t2, t3) k v)) (fun i _ => (bHi B.bounds k - bLo B.bounds k + 1).toNat - (intOf i).toNat)
    case atStart => exact ⟨0, (t0, t1, t2, t3), rfl, Nat.zero_le _, by simpa [genJ] using hJ _ _ _ hj0 ((Ext.drewN _ _).mono (by have := hX.size; omega)), KeepC.of_ext (hX.trans (Ext.drewN _ _)), ht0.drewN _, fun _ => rfl⟩
    case round =>
      obtain ⟨j, q, rfl, hjl, hjj, hkc, hq, hset⟩ := hrel
      clear x0 x1 x2 x3 x4 s1 s2 hc
      have hgn := hX.size
      have hg0 := ht0.lt
      by_cases hlt : j < (bHi B.bounds k - bLo B.bounds k + 1).toNat
      · obtain ⟨x0, x1, x2, x3, x4⟩ := (hkc.blk hb).c5
        have s1 := ((hkc.span hs).at (by omega : k < B.bounds.length)).1
        have hck : wr.cell? ⟨W.heap.size, k, none⟩ = some (.int .i64 (nAt (q4L q) k)) := hq.cell (by
          obtain ⟨r0, r1, r2, r3⟩ := q
          rcases (by omega : k = 0 ∨ k = 1 ∨ k = 2 ∨ k = 3) with rfl | rfl | rfl | rfl <;> rfl)
        have hfk := hq.frozen k
        gi_upto_region 7 with (fail)
        obtain ⟨W2, hW2⟩ : ∃ W2, W2 = wr.setCell ⟨W.heap.size, k, none⟩ (.int .i64 (bLo B.bounds k + j)) := ⟨_, rfl⟩
        have hbl : Below W.heap.size wr W2 := by rw [hW2]; exact (Below.refl W.heap.size wr).setCell (p := ⟨W.heap.size, k, none⟩) (Nat.le_refl _) _
        have hq2 : Blk W2 W.heap.size 117 (q4C (setQ (t0, t1, t2, t3) k (bLo B.bounds k + j))) := by rw [hW2, ← hset]; exact q4_put hq (by omega) _
        have hj2 := hJ _ _ _ hjj (hbl.mono hn)
        have hk2 : KeepC W W2 := hkc.far hbl
        rw [← hW2]
        clear hW2 x0 x1 x2 x3 x4 s1 hck hfk hbl hq
        have hsub := genJ_succ B.bounds d k (t0, t1, t2, t3) j
        have hle := (genJ_le B.bounds d k (t0, t1, t2, t3) (show j + 1 ≤ (bHi B.bounds k - bLo B.bounds k + 1).toNat by omega)).length_le
        have hgen : gen B.bounds (d + 1) k (t0, t1, t2, t3) = genJ B.bounds d k (t0, t1, t2, t3) (bHi B.bounds k - bLo B.bounds k + 1).toNat := rfl
        have hset' := fun v => setQ_setQ (t0, t1, t2, t3) k (bLo B.bounds k + j) v
        obtain ⟨q', hq'⟩ : ∃ q', q' = setQ (t0, t1, t2, t3) k (bLo B.bounds k + j) := ⟨_, rfl⟩
        rw [← hq'] at hq2 hsub hset'
        have hpre := List.prefix_append (genJ B.bounds d k (t0, t1, t2, t3) j) (gen B.bounds d (k + 1) q')
        have hcall := ih (k + 1) q' (n - 1) (pre ++ genJ B.bounds d k (t0, t1, t2, t3) j) W2 (by omega) (hk2.blk hb) (hk2.blk hy) (hk2.blk hf) (hk2.span hs) (by have := hk2.size; omega) hj2 (by rw [hsub] at hle; rw [hgen] at hN; simp only [List.length_append] at hle ⊢; omega)
        clear hq' hj2
        obtain ⟨u0, u1, u2, u3⟩ := q'
        obtain ⟨z0, z1, z2, z3⟩ := hq2.c4
        have f0 := (hk2.blk hf).c1
        dsimp only [q4C] at hcall
        have hc1 : ((k + 1 : Nat) : Int) = (k : Int) + 1 := by omega
        rw [hc1] at hcall
        have hdd : ∀ k : Nat, (F.depth.isSome = true → 1 ≤ k) := fun k h => by rw [hd] at h; cases h
        gi_wp2_with ((try refine ⟨hdd _, ?_⟩); gi_at_call 106; refine hcall.mono ?_; clear hcall; rintro e W3 (⟨rfl, hJ3, hk3⟩ | ⟨rfl, q3, hq3, hx3⟩))
        · go_roundw
          case rel => exact ⟨j + 1, (u0, u1, u2, u3), by go_num, by omega, by rw [hsub, ← List.append_assoc]; exact hJ3, hk2.trans hk3, hk3.blk hq2, hset'⟩
          case measure => simp [intOf]; omega
        · go_ret
          refine .inr ⟨rfl, genJ B.bounds d k (t0, t1, t2, t3) j ++ q3, ?_, by rw [← List.append_assoc]; exact hx3⟩
          rw [hgen]
          refine List.IsPrefix.trans ?_ (genJ_le B.bounds d k (t0, t1, t2, t3) (show j + 1 ≤ (bHi B.bounds k - bLo B.bounds k + 1).toNat by omega))
          rw [hsub]
          exact (List.prefix_append_right_inj _).2 hq3
      · obtain rfl : j = (bHi B.bounds k - bLo B.bounds k + 1).toNat := by omega
        gi_wp2_with (fail)
        go_ret
        exact .inl ⟨rfl, hjj, hkc⟩

set_option maxRecDepth 100000 in
set_option maxHeartbeats 4000000 in
theorem truths1_calls (B : Bk) (a1 a2 a3 : Option Addr) (c1 c2 c3 mp : Nat) (hv : validB B = true) (n l : Nat) (J Jx : List Q4 → World → Prop) (W : World)
    (hJ : ∀ s X Y, J s X → Below W.heap.size X Y → J s Y)
    (hY : ∀ m pre x W, J pre W → pre.length < (truthsL B).length → YieldAt Fence.wide m Tryd.prog l #[.agg (q4C x)] W fun e W' =>
      (e = .returned (.bool true) ∧ J (pre ++ [x]) W' ∧ KeepC W W') ∨ (e = .returned (.bool false) ∧ Jx (pre ++ [x]) W')) (Bb : Nat)
    (hb : Blk W Bb 81 #[.int .i64 B.comp, .slice a1 B.bounds.length c1, .slice a2 B.orders.length c2, .slice a3 B.shots.length c3, .map (some mp)]) (hs : SpanA W a1 B.bounds) (h0 : J [] W) :
    Calls Tryd.prog 105 #[.func (.yield l) #[] #[], .pointer (some ⟨Bb, 0, none⟩)] W fun e W' => (∃ v, e = .returned v) ∧ ((∃ xs, xs = truthsL B ∧ J xs W') ∨ (∃ pre, pre <+: truthsL B ∧ Jx pre W')) := by
  go_enter Tryd.func105, Tryd.ntmps105
  go_upto_region 2 with (fail)
  obtain ⟨W1, hW1⟩ : ∃ W1, W1 = (W.alloc (.cells #[.func (.yield l) #[] #[]] 122)).alloc (.cells #[.nilFunc] 123) := ⟨_, rfl⟩
  have E1 : Ext W W1 := by rw [hW1]; exact (Ext.alloc _ _).trans (Ext.alloc _ _)
  have hy1 : Blk W1 W.heap.size 122 #[.func (.yield l) #[] #[]] := by rw [hW1]; exact (Blk.new _ _ _).alloc _
  have hf1 : Blk W1 (W.heap.size + 1) 123 #[.nilFunc] := by rw [hW1]; have := Blk.new (W.alloc (.cells #[.func (.yield l) #[] #[]] 122)) 123 #[.nilFunc]; simpa using this
  rw [← hW1]
  clear hW1
  have f0 := hf1.c1
  have f1 := hf1.frozen 0
  have hst : ∀ (a : Addr) (f : Fn) (r c : Array Value) (W : World), (store a (.func f r c)).run Tryd.prog W = stored Tryd.prog W a (.func f r c) .plain := fun a f r c W => run_store _ _ _ _ _ rfl
  go_upto_region 3 with (fail)
  have hf2 : Blk (W1.setCell ⟨W.heap.size + 1, 0, none⟩ (.func (.func 106) #[] #[.pointer (some ⟨Bb, 0, none⟩), .pointer (some ⟨W.heap.size, 0, none⟩), .pointer (some ⟨W.heap.size + 1, 0, none⟩)])) (W.heap.size + 1) 123 #[.func (.func 106) #[] #[.pointer (some ⟨Bb, 0, none⟩), .pointer (some ⟨W.heap.size, 0, none⟩), .pointer (some ⟨W.heap.size + 1, 0, none⟩)]] := by simpa using hf1.put 0 (.func (.func 106) #[] #[.pointer (some ⟨Bb, 0, none⟩), .pointer (some ⟨W.heap.size, 0, none⟩), .pointer (some ⟨W.heap.size + 1, 0, none⟩)])
  have hy2 := hy1.far (p := ⟨W.heap.size + 1, 0, none⟩) (by simp) (.func (.func 106) #[] #[.pointer (some ⟨Bb, 0, none⟩), .pointer (some ⟨W.heap.size, 0, none⟩), .pointer (some ⟨W.heap.size + 1, 0, none⟩)])
  have E2 : Below W.heap.size W (W1.setCell ⟨W.heap.size + 1, 0, none⟩ (.func (.func 106) #[] #[.pointer (some ⟨Bb, 0, none⟩), .pointer (some ⟨W.heap.size, 0, none⟩), .pointer (some ⟨W.heap.size + 1, 0, none⟩)])) := Below.setCell E1 (by simp) _
  generalize W1.setCell ⟨W.heap.size + 1, 0, none⟩ (.func (.func 106) #[] #[.pointer (some ⟨Bb, 0, none⟩), .pointer (some ⟨W.heap.size, 0, none⟩), .pointer (some ⟨W.heap.size + 1, 0, none⟩)]) = W2 at hf2 hy2 E2 ⊢
  have hcall := fun W3 (hE : Ext W2 W3) => callsIn_wide.1 (from_in B a1 a2 a3 c1 c2 c3 mp hv Fence.wide rfl trivial rfl l W.heap.size (truthsL B).length J Jx hJ hY Bb W.heap.size (W.heap.size + 1) B.bounds.length 0 (0, 0, 0, 0) n [] W3 (by simp)
    ((hb.ext E2).ext hE) (hy2.ext hE) (hf2.ext hE) ((hs.ext E2).ext hE) (by have := E2.size; have := hE.size; omega) (hJ _ _ _ h0 (E2.trans (hE.mono E2.size))) (by simp [truthsL]))
  clear f0 f1 hy1 hf1 E1 hb hs h0 hY hJ hv hy2
  obtain ⟨G, hG⟩ : ∃ G, G = W.heap.size := ⟨_, rfl⟩
  rw [← hG] at hf2 hcall ⊢
  clear hG
  dsimp only [q4C] at hcall
  rw [show ((0 : Nat) : Int) = 0 from rfl] at hcall
  have hl0 := hf2.drew.c1
  have hl1 := fun W3 (hE : Ext W2.drew W3) => (hf2.drew.ext hE).c1
  clear hf2
  refine wp_plan (fun W => True) (.two 0 1 (.one 1 (.one 2 (.done))) (.one 0 (.one 2 (.done)))) (by kernel_rfl) (by kernel_rfl) (by kernel_rfl) (fun c a d v w h => by cases d <;> exact h) ?_ ?_
  · exact trivial
  refine pl_two ?_ ?_
  · refine pl_one rfl (by rfl) (fun K hK => ?_)
    go_simp
    refine hK.out _ _ trivial ?_
    clear hK K
    refine pl_one rfl (by rfl) (fun K hK => ?_)
    go_simp
    go_at_call 107
    refine (unbounded_any _).mono ?_
    rintro e w' ⟨rfl, hE⟩
    refine hK.out _ _ trivial ?_
    clear hK K
    have E5 : Ext W2 w' := (Ext.drew _).trans hE
    refine pl_one rfl (by rfl) (fun K hK => ?_)
    go_simp
    go_at_call 106
    refine (hcall _ E5).mono ?_
    rintro e W4 (⟨rfl, hJ4, hk4⟩ | ⟨rfl, q, hq, hx⟩)
    · refine hK.out _ _ trivial (pl_done ?_)
      clear hK K
      (try simp only [Act.put])
      go_wp2
      go_end0
      exact ⟨⟨_, rfl⟩, .inl ⟨_, rfl, hJ4⟩⟩
    · refine hK.out _ _ trivial (pl_done ?_)
      clear hK K
      (try simp only [Act.put])
      go_wp2
      go_end0
      exact ⟨⟨_, rfl⟩, .inr ⟨q, hq, hx⟩⟩
  · refine pl_one rfl (by rfl) (fun K hK => ?_)
    go_simp
    go_at_call 107
    refine (unbounded_any _).mono ?_
    rintro e w' ⟨rfl, hE⟩
    refine hK.out _ _ trivial ?_
    clear hK K
    have h5 := hl1 _ hE
    refine pl_one rfl (by rfl) (fun K hK => ?_)
    go_simp
    refine hK.out _ _ trivial ?_
    clear hK K
    have E5 : Ext W2 w' := (Ext.drew _).trans hE
    refine pl_one rfl (by rfl) (fun K hK => ?_)
    go_simp
    go_at_call 106
    refine (hcall _ E5).mono ?_
    rintro e W4 (⟨rfl, hJ4, hk4⟩ | ⟨rfl, q, hq, hx⟩)
    · refine hK.out _ _ trivial (pl_done ?_)
      clear hK K
      (try simp only [Act.put])
      go_wp2
      go_end0
      exact ⟨⟨_, rfl⟩, .inl ⟨_, rfl, hJ4⟩⟩
    · refine hK.out _ _ trivial (pl_done ?_)
      clear hK K
      (try simp only [Act.put])
      go_wp2
      go_end0
      exact ⟨⟨_, rfl⟩, .inr ⟨q, hq, hx⟩⟩

theorem truths1_far (B : Bk) (a1 a2 a3 : Option Addr) (c1 c2 c3 mp : Nat) (hv : validB B = true) (n : Nat) (Bb : Nat) (w : World)
    (hb : Blk w Bb 81 #[.int .i64 B.comp, .slice a1 B.bounds.length c1, .slice a2 B.orders.length c2, .slice a3 B.shots.length c3, .map (some mp)]) (hs : SpanA w a1 B.bounds) :
    SeqFar Fence.wide n Tryd.prog 105 #[.pointer (some ⟨Bb, 0, none⟩)] (fun x : Q4 => #[.agg (q4C x)]) (fun ys => ys = truthsL B) (fun pre => pre <+: truthsL B) (truthsL B).length w :=
  fun l J Jx W hW hJ hJx hY h0 => callsIn_wide.2 (truths1_calls B a1 a2 a3 c1 c2 c3 mp hv n l J Jx W hJ (fun m pre x W hj hl => yieldAny rfl m (hY pre x W hj hl)) Bb (hb.ext hW) (hs.ext hW) h0)

set_option maxHeartbeats 1000000 in
theorem truths_any (a1 a2 a3 : Option Addr) (v0 : Int) (n1 n2 n3 c1 c2 c3 mp : Nat) (w : World) :
    Calls Tryd.prog 98 #[.agg #[.int .i64 v0, .slice a1 n1 c1, .slice a2 n2 c2, .slice a3 n3 c3, .map (some mp)]] w
      fun e w' => e = .returned (.func (.func 105) #[] #[.pointer (some ⟨w.heap.size, 0, none⟩)]) ∧ w' = w.alloc (.cells #[.int .i64 v0, .slice a1 n1 c1, .slice a2 n2 c2, .slice a3 n3 c3, .map (some mp)] 81) := by
  go_enter Tryd.func98, Tryd.ntmps98
  go_wp2
  go_ret
  exact ⟨rfl, rfl⟩
end Go.Proofs.YtnhdcdhpfgdphaaDoor

/-
  together: can some shots all be fair in one truth?
-/
set_option linter.unusedSimpArgs false
set_option linter.unusedVariables false
namespace Go.Proofs.YtnhdcdhpfgdphaaDoor
open Go Go.RowKit Go.Shelf

attribute [local go_sem] Oper.semAt_some

/-- Is a shot at a minute fair in a truth? -/
def fitX (B : Bk) (t : Q4) (x : Sh) (m : Int) : Bool := fitB B (q4L t) x.st.toNat x.co m
theorem fits_any (B : Bk) (a1 a2 a3 : Option Addr) (c1 c2 c3 mp : Nat) (t0 t1 t2 t3 : Int) (x : Sh) (m : Int) (w : World) (hG : Glob w) (hM : MapA w mp (ownL B.orders B.orders.length)) (hv : validB B = true) (hs : 0 ≤ x.st ∧ x.st < B.orders.length) (hm : 0 ≤ m) :
    Calls Tryd.prog 97 #[.agg #[.int .i64 B.comp, .slice a1 B.bounds.length c1, .slice a2 B.orders.length c2, .slice a3 B.shots.length c3, .map (some mp)], .agg #[.int .i64 t0, .int .i64 t1, .int .i64 t2, .int .i64 t3], .agg #[.int .i64 x.st, .int .i64 x.co, .int .i64 x.lo, .int .i64 x.hi], .int .i64 m] w
      fun e w' => e = .returned (.bool (fitX B (t0, t1, t2, t3) x m)) ∧ Ext w w' := by
  obtain ⟨st, co, lo, hi⟩ := x
  obtain ⟨s, rfl⟩ : ∃ s : Nat, st = s := ⟨st.toNat, by simp at hs; omega⟩
  exact fits_st B a1 a2 a3 c1 c2 c3 mp t0 t1 t2 t3 s co lo hi m w hG hM hv (by simpa using hs.2) hm

/-- Can a shot be fair in a truth, at one of its first k minutes? -/
def canK (B : Bk) (t : Q4) (x : Sh) (k : Nat) : Bool := (List.range k).any fun i => fitX B t x (x.lo + i)
theorem canK_succ (B : Bk) (t : Q4) (x : Sh) (k : Nat) : canK B t x (k + 1) = (canK B t x k || fitX B t x (x.lo + k)) := by simp [canK, List.range_succ]
def canX (B : Bk) (t : Q4) (x : Sh) : Bool := canK B t x (x.hi - x.lo + 1).toNat
def allK (B : Bk) (t : Q4) (L : List Sh) (k : Nat) : Bool := (List.range k).all fun i => canX B t (sAt L i)
theorem allK_succ (B : Bk) (t : Q4) (L : List Sh) (k : Nat) : allK B t L (k + 1) = (allK B t L k && canX B t (sAt L k)) := by simp [allK, List.range_succ]
def allX (B : Bk) (t : Q4) (L : List Sh) : Bool := allK B t L L.length
theorem allX_not {B : Bk} {t : Q4} {L : List Sh} {k : Nat} (hk : k < L.length) (h : canX B t (sAt L k) = false) : allX B t L = false := by
  simp only [allX, allK, List.all_eq_false, List.mem_range]
  exact ⟨k, hk, by simp [h]⟩
def togB (B : Bk) (L : List Sh) : Bool := (truthsL B).any fun t => allX B t L

/-- What is asked of each shot. -/
def okSh (B : Bk) (x : Sh) : Prop := 0 ≤ x.st ∧ x.st < B.orders.length ∧ 0 ≤ x.lo ∧ x.lo ≤ x.hi ∧ x.hi < 1440

set_option maxRecDepth 100000 in
set_option maxHeartbeats 4000000 in
theorem together_any (B : Bk) (a1 a2 a3 al : Option Addr) (c1 c2 c3 mp cl : Nat) (L : List Sh) (w : World) (h : BookA w B a1 a2 a3) (hG : Glob w) (hM : MapA w mp (ownL B.orders B.orders.length)) (hv : validB B = true) (hL : ShotA w al L) (hl5 : L.length ≤ 5) (hok : ∀ i, i < L.length → okSh B (sAt L i)) :
    Calls Tryd.prog 82 #[.agg #[.int .i64 B.comp, .slice a1 B.bounds.length c1, .slice a2 B.orders.length c2, .slice a3 B.shots.length c3, .map (some mp)], .slice al L.length cl] w
      fun e w' => e = .returned (.bool (togB B L)) ∧ Ext w w' := by
  refine (callsIn_wide (n := 3)).1 ?_
  refine callsIn_of_wp_marks Tryd.func82 rfl trivial ?_
  simp only [Tryd.ntmps82, List.size_toArray, List.length_cons, List.length_nil, Nat.reduceAdd, Nat.reduceSub, Array.replicate_succ, Array.replicate_zero, List.push_toArray, List.append_toArray, List.nil_append, List.cons_append]
  gi_wp2_with (fail)
  refine wpIn_scope ?_
  refine wpIn_seq ?_
  refine wpIn_label ?_
  simp only [Exit.then]
  obtain ⟨W0, hW0⟩ : ∃ W0, W0 = ((w.alloc (.cells #[.int .i64 B.comp, .slice a1 B.bounds.length c1, .slice a2 B.orders.length c2, .slice a3 B.shots.length c3, .map (some mp)] 81)).alloc (.cells #[.slice al L.length cl] 24)).alloc (.cells #[.bool false] 4) := ⟨_, rfl⟩
  have E0 : Ext w W0 := by rw [hW0]; exact ((Ext.alloc _ _).trans (Ext.alloc _ _)).trans (Ext.alloc _ _)
  have b0 : Blk W0 w.heap.size 81 #[.int .i64 B.comp, .slice a1 B.bounds.length c1, .slice a2 B.orders.length c2, .slice a3 B.shots.length c3, .map (some mp)] := by rw [hW0]; exact ((Blk.new _ _ _).alloc _).alloc _
  have s0 : Blk W0 (w.heap.size + 1) 24 #[.slice al L.length cl] := by rw [hW0]; have := Blk.new (w.alloc (.cells #[.int .i64 B.comp, .slice a1 B.bounds.length c1, .slice a2 B.orders.length c2, .slice a3 B.shots.length c3, .map (some mp)] 81)) 24 #[.slice al L.length cl]; simpa using this.alloc _
  have r0 : Blk W0 (w.heap.size + 1 + 1) 4 #[.bool false] := by rw [hW0]; have := Blk.new ((w.alloc (.cells #[.int .i64 B.comp, .slice a1 B.bounds.length c1, .slice a2 B.orders.length c2, .slice a3 B.shots.length c3, .map (some mp)] 81)).alloc (.cells #[.slice al L.length cl] 24)) 4 #[.bool false]; simpa using this
  rw [← hW0]
  clear hW0
  obtain ⟨x0, x1, x2, x3, x4⟩ := b0.c5
  gi_wp2_with (refine ⟨trivial, ?_⟩; gi_at_call 98; refine (callsIn_wide.2 (truths_any _ _ _ _ _ _ _ _ _ _ _ _)).mono ?_; rintro e w' ⟨rfl, hw1⟩)
  obtain ⟨W1, hW1⟩ : ∃ W1, W1 = W0.alloc (.cells #[.int .i64 B.comp, .slice a1 B.bounds.length c1, .slice a2 B.orders.length c2, .slice a3 B.shots.length c3, .map (some mp)] 81) := ⟨_, rfl⟩
  have E1 : Ext W0 W1 := by rw [hW1]; exact Ext.alloc _ _
  have b1 : Blk W1 W0.heap.size 81 #[.int .i64 B.comp, .slice a1 B.bounds.length c1, .slice a2 B.orders.length c2, .slice a3 B.shots.length c3, .map (some mp)] := by rw [hW1]; exact Blk.new _ _ _
  rw [← hW1]
  clear hW1 hw1 x0 x1 x2 x3 x4 w'
  have EW : Ext w W1 := E0.trans E1
  have hz1 : w.heap.size + 1 + 1 < W1.heap.size := Nat.lt_of_lt_of_le r0.lt E1.size
  refine wpIn_rangeFunc_far rfl (by omega) (gf := 105) (lb := #[.pointer (some ⟨W0.heap.size, 0, none⟩)]) rfl trivial (enters_of Tryd.func105 (by kernel_rfl) rfl)
    (truths1_far B a1 a2 a3 c1 c2 c3 mp hv (3 - 1) W0.heap.size W1 b1 (h.bounds.ext EW)) (fun _ => rfl)
    (fun pre W => (∀ t ∈ pre, allX B t L = false) ∧ Ext W1 W)
    (fun c pre W => c = .ret ∧ (∃ t ∈ pre, allX B t L = true) ∧ Below w.heap.size w W ∧ Blk W (w.heap.size + 1 + 1) 4 #[.bool true])
    (fun s X Y hs hb => ⟨hs.1, Below.trans hs.2 hb⟩)
    (fun c s X Y hs hb => ⟨hs.1, hs.2.1, Below.trans hs.2.2.1 (hb.mono (by omega)), hs.2.2.2.below hb hz1⟩)
    ⟨by simp, Ext.refl _⟩
    (fun x a' W => ∃ Bx, Blk W Bx 117 (q4C x) ∧ a' = { tmps := #[.agg #[.int .i64 B.comp, .slice a1 B.bounds.length c1, .slice a2 B.orders.length c2, .slice a3 B.shots.length c3, .map (some mp)], .slice al L.length cl, .pointer (some ⟨w.heap.size, 0, none⟩), .pointer (some ⟨w.heap.size + 1, 0, none⟩), .pointer (some ⟨w.heap.size + 1 + 1, 0, none⟩), .pointer (some ⟨Bx, 0, none⟩), undef, undef, undef, undef, .agg #[.int .i64 B.comp, .slice a1 B.bounds.length c1, .slice a2 B.orders.length c2, .slice a3 B.shots.length c3, .map (some mp)], .func (.func 105) #[] #[.pointer (some ⟨W0.heap.size, 0, none⟩)], .agg (q4C x), undef, undef, undef, undef, undef, undef, undef, undef, undef, undef, undef, undef, undef, undef, undef, undef, undef, undef, undef, undef, undef, undef, undef, undef, undef, undef, undef, undef, undef, undef, undef, undef, undef], defers := [] })
    (fun x a' X Y hs hk => by obtain ⟨Bx, h1, h2⟩ := hs; exact ⟨Bx, hk.blk h1, h2⟩)
    ?assign ?body ?done ?stop
  case assign =>
    rintro l pre ⟨t0, t1, t2, t3⟩ W K ⟨hi, hE⟩ hsz hK
    dsimp only [q4C] at hK ⊢
    gi_wp2
    exact hK _ _ (Ext.alloc _ _) ⟨W.heap.size, Blk.new _ _ _, rfl⟩
  case body =>
    rintro l pre ⟨t0, t1, t2, t3⟩ a' W ⟨hi, hE⟩ hsz ⟨Bx, hX, rfl⟩ hlt
    have EW2 := EW.trans hE
    have ET := E1.trans hE
    have y0 := (s0.ext ET).c1
    dsimp only [q4C]
    gi_wp2_with (fail)
    clear y0
    gi_loopw [15] (fun i wr => ∃ k : Nat, i = .int .i64 k ∧ k ≤ L.length ∧ Ext W wr ∧ allK B (t0, t1, t2, t3) L k = true) (fun i _ => L.length - (intOf i).toNat)
    case atStart => exact ⟨0, rfl, Nat.zero_le _, Ext.refl _, rfl⟩
    case round =>
      obtain ⟨k, rfl, hk, hE2, hall⟩ := hrel
      have hS := hL.ext (EW2.trans hE2)
      by_cases hlt2 : k < L.length
      · obtain ⟨b, o, rfl, hbl, hc⟩ := hS (by omega)
        obtain ⟨q0, q1, q2, q3⟩ := hc k hlt2
        obtain ⟨hs1, hs2, h0, h1, h2⟩ := hok k hlt2
        have Hall := Lib.hid hall
        have Hi := Lib.hid hi
        clear hc hall hi
        gi_upto_region 6 with (fail)
        obtain ⟨W5, hW5⟩ : ∃ W5, W5 = wr.alloc (.cells #[.int .i64 (sAt L k).st, .int .i64 (sAt L k).co, .int .i64 (sAt L k).lo, .int .i64 (sAt L k).hi] 59) := ⟨_, rfl⟩
        have E5 : Ext W W5 := by rw [hW5]; exact hE2.trans (Ext.alloc _ _)
        have s5 : Blk W5 wr.heap.size 59 #[.int .i64 (sAt L k).st, .int .i64 (sAt L k).co, .int .i64 (sAt L k).lo, .int .i64 (sAt L k).hi] := by rw [hW5]; exact Blk.new _ _ _
        rw [← hW5]
        clear hW5
        obtain ⟨v0, v1, v2, v3⟩ := s5.c4
        gi_wp2_with (fail)
        clear v0 v1 v2 v3 q0 q1 q2 q3
        gi_loopw [8, 27] (fun c n wy => ∃ j : Nat, n = .int .i64 j ∧ j ≤ ((sAt L k).hi - (sAt L k).lo + 1).toNat ∧ c = .bool (canK B (t0, t1, t2, t3) (sAt L k) j) ∧ Ext W5 wy) (fun _ n _ => ((sAt L k).hi - (sAt L k).lo + 1).toNat - (intOf n).toNat)
        case atStart => exact ⟨0, rfl, Nat.zero_le _, rfl, Ext.refl _⟩
        case round =>
          obtain ⟨j, rfl, hj, rfl, hE6⟩ := hrel
          have E6 := E5.trans hE6
          have hcs := canK_succ B (t0, t1, t2, t3) (sAt L k) j
          obtain ⟨c, hc⟩ : ∃ c, c = canK B (t0, t1, t2, t3) (sAt L k) j := ⟨_, rfl⟩
          by_cases hjl : j < ((sAt L k).hi - (sAt L k).lo + 1).toNat
          · rw [← hc] at hcs ⊢
            have Hcs := Lib.hid hcs
            clear hc hcs
            cases c with
            | true =>
              gi_wp2_with (fail)
              refine ⟨trivial, ?_⟩
              gi_wp2_with (fail)
              go_roundw
              case rel => exact ⟨j + 1, by go_num, by omega, by rw [Hcs.out]; rfl, hE6⟩
              case measure => simp [intOf]; omega
            | false =>
              obtain ⟨x0, x1, x2, x3, x4⟩ := (b0.ext (ET.trans E6)).c5
              obtain ⟨v0, v1, v2, v3⟩ := (s5.ext hE6).c4
              obtain ⟨z0, z1, z2, z3⟩ := (hX.ext E6).c4
              have hcall := fits_any B a1 a2 a3 c1 c2 c3 mp t0 t1 t2 t3 (sAt L k) ((sAt L k).lo + j) wr (hG.ext (EW2.trans E6)) (hM.ext (EW2.trans E6)) hv ⟨hs1, hs2⟩ (by omega)
              gi_wp2_with (refine ⟨trivial, ?_⟩; gi_at_call 97; refine (CallsIn.inRound l (callsIn_wide.2 hcall)).mono ?_; clear hcall; rintro e w' ⟨rfl, hE7⟩)
              go_roundw
              case rel => exact ⟨j + 1, by go_num, by omega, by rw [Hcs.out]; rfl, hE6.trans hE7⟩
              case measure => simp [intOf]; omega
          · obtain rfl : j = ((sAt L k).hi - (sAt L k).lo + 1).toNat := by omega
            have hcx : c = canX B (t0, t1, t2, t3) (sAt L k) := hc
            rw [← hc]
            have Hcx := Lib.hid hcx
            clear hc hcs hcx
            cases c with
            | true =>
              gi_wp2_with (fail)
              go_roundw
              case rel => exact ⟨k + 1, by go_num, by omega, E6, by rw [allK_succ, Hall.out, ← Hcx.out]; rfl⟩
              case measure => simp [intOf]; omega
            | false =>
              gi_wp2_with (fail)
              refine ⟨E6, ?_, hE.trans E6⟩
              intro t ht
              rcases List.mem_append.1 ht with ht | ht
              · exact Hi.out t ht
              · obtain rfl := List.mem_singleton.1 ht
                exact allX_not hlt2 Hcx.out.symm
      · obtain rfl : k = L.length := by omega
        have r1 := r0.ext (ET.trans hE2)
        have hrc := r1.c1
        have hrf := r1.frozen 0
        gi_wp2_with (fail)
        refine ⟨(keepsFrom_ext hE2 _).trans ((KeepsOthers.setCell _ _ _).from _), rfl, ⟨(t0, t1, t2, t3), by simp, hall⟩, ?_, by simpa using r1.put 0 (.bool true)⟩
        exact Below.setCell (EW2.trans hE2) (by simp; omega) _
  case done =>
    rintro D zs W hD rfl ⟨hi, hE⟩ hK
    have r1 := r0.ext (E1.trans hE)
    have hrc := r1.c1
    have hrf := r1.frozen 0
    have hres : togB B L = false := by
      rw [togB, List.any_eq_false]
      intro t ht
      simp [hi t ht]
    gi_wp2_with (fail)
    refine ⟨by simp, .inl ⟨_, _, rfl, run_takeDeferred ((KeepsOthers.setCell _ _ _).same D _ hK rfl), ?_⟩⟩
    have rb : Blk (W.setCell ⟨w.heap.size + 1 + 1, 0, none⟩ (.bool false)) (w.heap.size + 1 + 1) 4 #[.bool false] := by simpa using r1.put 0 (.bool false)
    have hK2 := (KeepsOthers.setCell W ⟨w.heap.size + 1 + 1, 0, none⟩ (.bool false)).same D _ hK rfl
    have eB : Below w.heap.size w (W.setCell ⟨w.heap.size + 1 + 1, 0, none⟩ (.bool false)) := Below.setCell (EW.trans hE) (by simp; omega) _
    generalize W.setCell ⟨w.heap.size + 1 + 1, 0, none⟩ (.bool false) = W9 at rb hK2 eB ⊢
    have kc := ((KeepC.put (.deferred none) hK2 rfl).blk rb).c1
    refine ⟨.bool false, ?_, by rw [hres], eB.trans (below_put _ hK2 (by omega))⟩
    simp [results, Tryd.results82, go_sem, kc]
  case stop =>
    rintro D c pre W hD hpre ⟨rfl, ⟨t, ht, hall⟩, hbw, hr⟩ hK
    have hres : togB B L = true := by
      rw [togB, List.any_eq_true]
      exact ⟨t, hpre.subset ht, hall⟩
    gi_wp2_with (fail)
    refine ⟨by simp, .inl ⟨_, _, rfl, run_takeDeferred hK, ?_⟩⟩
    have kc := ((KeepC.put (.deferred none) hK rfl).blk hr).c1
    refine ⟨.bool true, ?_, by rw [hres], hbw.trans (below_put _ hK (by omega))⟩
    simp [results, Tryd.results82, go_sem, kc]
end Go.Proofs.YtnhdcdhpfgdphaaDoor
