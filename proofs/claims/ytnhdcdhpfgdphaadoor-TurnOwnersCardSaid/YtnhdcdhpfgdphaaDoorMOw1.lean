/-
  What a book of turns is, as plain data, and when memory holds one. Nothing of the program is named here.
-/
import Derived.WalkKit
import Derived.Lib.Hide
import Derived.Deep.Draws
import Derived.Deep.QuietTactic
import Derived.Test.YtnhdcdhpfgdphaaDoorProg
import Derived.WalkLawsBesides
import Derived.WalkSpells
import Derived.Outline
import Derived.BigQuiet
namespace Go.Proofs.YtnhdcdhpfgdphaaDoor
open Go Go.RowKit

/-! ### Plain data -/

/-- A shot: its station, its company, and what is known of its minute. -/
structure Sh where
  st : Int
  co : Int
  lo : Int
  hi : Int

instance : Inhabited Sh := ⟨⟨0, 0, 0, 0⟩⟩

/-- A book. -/
structure Bk where
  comp : Int
  bounds : List (Int × Int)
  orders : List (List Int)
  shots : List Sh

def bLo (bs : List (Int × Int)) (i : Nat) : Int := (bs.getD i (0, 0)).1
def bHi (bs : List (Int × Int)) (i : Nat) : Int := (bs.getD i (0, 0)).2
def oAt (os : List (List Int)) (i : Nat) : List Int := os.getD i []
def nAt (xs : List Int) (i : Nat) : Int := xs.getD i 0
def sAt (ss : List Sh) (i : Nat) : Sh := ss.getD i ⟨0, 0, 0, 0⟩

theorem wr64 (n : Int) (h : -9223372036854775808 ≤ n ∧ n ≤ 9223372036854775807) : IntKind.i64.wrap n = n := IntWalk.i64_in _ h

/-! ### Memory -/

/-- A world that only has more than another one: what was there lies as it lay. -/
abbrev Ext (w w' : World) : Prop := Below w.heap.size w w'

theorem Ext.refl (w : World) : Ext w w := Below.refl _ _
theorem Ext.trans {a b c : World} (h : Ext a b) (k : Ext b c) : Ext a c := Below.trans h (k.mono h.size)
theorem Ext.alloc (w : World) (o : Obj) : Ext w (w.alloc o) := (Below.refl _ _).alloc (Nat.le_refl _) o
theorem Ext.drew (w : World) : Ext w w.drew := (Below.refl _ _).drew
theorem Ext.drewN (w : World) (n : Nat) : Ext w (w.drewN n) := ⟨rfl, rfl, rfl, Nat.le_refl _, fun _ _ => rfl⟩

theorem heap_new (w : World) (o : Obj) : (w.alloc o).heap[w.heap.size]? = some o := by
  show (w.heap.push o)[w.heap.size]? = _
  simp
theorem lt_of_cell {w : World} {a : Addr} {v : Value} (h : w.cell? a = some v) : a.block < w.heap.size := World.block_lt_of_cell? w a h
theorem Below.keep {w w' : World} {n : Nat} (h : Below n w w') {a : Addr} {v : Value} (hn : a.block < n) (hc : w.cell? a = some v) : w'.cell? a = some v := (h.cell hn).trans hc
theorem Ext.keep {w w' : World} (h : Ext w w') {a : Addr} {v : Value} (hc : w.cell? a = some v) : w'.cell? a = some v := Below.keep h (lt_of_cell hc) hc

theorem cell_alloc_some {w : World} {a : Addr} {v : Value} (o : Obj) (h : w.cell? a = some v) : ((w.alloc o).cell? a = some v) = True := eq_true ((Ext.alloc w o).keep h)

/-- A row of cells: at 'a' lie, one behind the other, the values of a list. -/
def Row (w : World) (a : Option Addr) (xs : List Value) : Prop :=
  0 < xs.length → ∃ b o, a = some ⟨b, o, none⟩ ∧ b < w.heap.size ∧ ∀ i v, xs[i]? = some v → w.cell? ⟨b, o + i, none⟩ = some v

theorem Row.below {w w' : World} {a : Option Addr} {xs : List Value} (h : Row w a xs) {n : Nat} (hb : Below n w w') (hn : ∀ b o, a = some ⟨b, o, none⟩ → b < n) : Row w' a xs := fun hp => by
  obtain ⟨b, o, e, hl, hc⟩ := h hp
  exact ⟨b, o, e, Nat.lt_of_lt_of_le hl hb.size, fun i v hv => Below.keep hb (hn b o e) (hc i v hv)⟩
theorem Row.ext {w w' : World} {a : Option Addr} {xs : List Value} (h : Row w a xs) (hb : Ext w w') : Row w' a xs := fun hp => by
  obtain ⟨b, o, e, hl, hc⟩ := h hp
  exact ⟨b, o, e, Nat.lt_of_lt_of_le hl hb.size, fun i v hv => Ext.keep hb (hc i v hv)⟩

/-- Spans: two cells each. -/
def SpanA (w : World) (a : Option Addr) (bs : List (Int × Int)) : Prop :=
  0 < bs.length → ∃ b o, a = some ⟨b, o, none⟩ ∧ b < w.heap.size ∧ ∀ i, i < bs.length →
    w.cell? ⟨b, o + i * 2, none⟩ = some (.int .i64 (bLo bs i)) ∧ w.cell? ⟨b, o + i * 2 + 1, none⟩ = some (.int .i64 (bHi bs i))
/-- Whole numbers. -/
def IntA (w : World) (a : Option Addr) (xs : List Int) : Prop :=
  0 < xs.length → ∃ b o, a = some ⟨b, o, none⟩ ∧ b < w.heap.size ∧ ∀ i, i < xs.length → w.cell? ⟨b, o + i, none⟩ = some (.int .i64 (nAt xs i))
/-- Rows of whole numbers. -/
def RowsA (w : World) (a : Option Addr) (os : List (List Int)) : Prop :=
  0 < os.length → ∃ b o, a = some ⟨b, o, none⟩ ∧ b < w.heap.size ∧ ∀ i, i < os.length → ∃ ra rc, w.cell? ⟨b, o + i, none⟩ = some (.slice ra (oAt os i).length rc) ∧ (oAt os i).length ≤ 9223372036854775807 ∧ IntA w ra (oAt os i)
/-- Shots: four cells each. -/
def ShotA (w : World) (a : Option Addr) (ss : List Sh) : Prop :=
  0 < ss.length → ∃ b o, a = some ⟨b, o, none⟩ ∧ b < w.heap.size ∧ ∀ i, i < ss.length →
    w.cell? ⟨b, o + i * 4, none⟩ = some (.int .i64 (sAt ss i).st) ∧ w.cell? ⟨b, o + i * 4 + 1, none⟩ = some (.int .i64 (sAt ss i).co) ∧
    w.cell? ⟨b, o + i * 4 + 2, none⟩ = some (.int .i64 (sAt ss i).lo) ∧ w.cell? ⟨b, o + i * 4 + 3, none⟩ = some (.int .i64 (sAt ss i).hi)

theorem SpanA.ext {w w' : World} {a : Option Addr} {bs : List (Int × Int)} (h : SpanA w a bs) (hb : Ext w w') : SpanA w' a bs := fun hp => by
  obtain ⟨b, o, e, hl, hc⟩ := h hp
  exact ⟨b, o, e, Nat.lt_of_lt_of_le hl hb.size, fun i hi => ⟨hb.keep (hc i hi).1, hb.keep (hc i hi).2⟩⟩
theorem IntA.ext {w w' : World} {a : Option Addr} {xs : List Int} (h : IntA w a xs) (hb : Ext w w') : IntA w' a xs := fun hp => by
  obtain ⟨b, o, e, hl, hc⟩ := h hp
  exact ⟨b, o, e, Nat.lt_of_lt_of_le hl hb.size, fun i hi => hb.keep (hc i hi)⟩
theorem RowsA.ext {w w' : World} {a : Option Addr} {os : List (List Int)} (h : RowsA w a os) (hb : Ext w w') : RowsA w' a os := fun hp => by
  obtain ⟨b, o, e, hl, hc⟩ := h hp
  refine ⟨b, o, e, Nat.lt_of_lt_of_le hl hb.size, fun i hi => ?_⟩
  obtain ⟨ra, rc, h1, h2, h3⟩ := hc i hi
  exact ⟨ra, rc, hb.keep h1, h2, h3.ext hb⟩
theorem ShotA.ext {w w' : World} {a : Option Addr} {ss : List Sh} (h : ShotA w a ss) (hb : Ext w w') : ShotA w' a ss := fun hp => by
  obtain ⟨b, o, e, hl, hc⟩ := h hp
  refine ⟨b, o, e, Nat.lt_of_lt_of_le hl hb.size, fun i hi => ?_⟩
  obtain ⟨h1, h2, h3, h4⟩ := hc i hi
  exact ⟨hb.keep h1, hb.keep h2, hb.keep h3, hb.keep h4⟩

/-! ### A block of the call's own at the head: a struct argument in its box -/
theorem box_cell {w wr X : World} {cs : Array Value} {t : TypeId} (hX : X = w.alloc (.cells cs t)) (hb : Below (w.heap.size + 1) X wr) (i : Nat) (v : Value) (h : cs[i]? = some v) : wr.cell? ⟨w.heap.size, i, none⟩ = some v := by
  refine Below.keep hb (by simp) ?_
  subst hX
  have hn := heap_new w (.cells cs t)
  simp only [World.cell?, hn]
  simpa using h
theorem box_cells4 {w wr X : World} {v0 v1 v2 v3 : Value} {t : TypeId} (hX : X = w.alloc (.cells #[v0, v1, v2, v3] t)) (hb : Below (w.heap.size + 1) X wr) :
    wr.cell? ⟨w.heap.size, 0, none⟩ = some v0 ∧ wr.cell? ⟨w.heap.size, 1, none⟩ = some v1 ∧ wr.cell? ⟨w.heap.size, 2, none⟩ = some v2 ∧ wr.cell? ⟨w.heap.size, 3, none⟩ = some v3 :=
  ⟨box_cell hX hb 0 _ rfl, box_cell hX hb 1 _ rfl, box_cell hX hb 2 _ rfl, box_cell hX hb 3 _ rfl⟩
theorem box_cells5 {w wr X : World} {v0 v1 v2 v3 v4 : Value} {t : TypeId} (hX : X = w.alloc (.cells #[v0, v1, v2, v3, v4] t)) (hb : Below (w.heap.size + 1) X wr) :
    wr.cell? ⟨w.heap.size, 0, none⟩ = some v0 ∧ wr.cell? ⟨w.heap.size, 1, none⟩ = some v1 ∧ wr.cell? ⟨w.heap.size, 2, none⟩ = some v2 ∧ wr.cell? ⟨w.heap.size, 3, none⟩ = some v3 ∧ wr.cell? ⟨w.heap.size, 4, none⟩ = some v4 :=
  ⟨box_cell hX hb 0 _ rfl, box_cell hX hb 1 _ rfl, box_cell hX hb 2 _ rfl, box_cell hX hb 3 _ rfl, box_cell hX hb 4 _ rfl⟩
theorem box_frozen {w wr X : World} {cs : Array Value} {t : TypeId} (hX : X = w.alloc (.cells cs t)) (hb : Below (w.heap.size + 1) X wr) (i : Nat) : wr.frozen? ⟨w.heap.size, i, none⟩ = false := by
  rw [hb.frozen (p := ⟨w.heap.size, i, none⟩) (by simp)]
  subst hX
  have hn := heap_new w (.cells cs t)
  simp only [World.frozen?, hn]
  simp
theorem box_ext {w wr X : World} {cs : Array Value} {t : TypeId} (hX : X = w.alloc (.cells cs t)) (hb : Below (w.heap.size + 1) X wr) : Ext w wr := by
  subst hX
  exact (Ext.alloc w _).trans (hb.mono (by simp))
theorem box_size {w wr X : World} {cs : Array Value} {t : TypeId} (hX : X = w.alloc (.cells cs t)) (hb : Below (w.heap.size + 1) X wr) : w.heap.size < wr.heap.size := by
  have := hb.size
  subst hX
  simp at this
  omega
theorem box_more {w wr wx X : World} (hb : Below (w.heap.size + 1) X wr) (hs : w.heap.size < wr.heap.size) (h : Ext wr wx) : Below (w.heap.size + 1) X wx := hb.trans (h.mono (by omega))

/-! ### Blocks of the call's own -/
/-- Block g holds just these cells. -/
def Blk (w : World) (g : Nat) (t : TypeId) (cs : Array Value) : Prop := w.heap[g]? = some (.cells cs t (0, 0))
section
variable {w w' : World} {g : Nat} {t : TypeId} {cs : Array Value}
theorem Blk.lt (h : Blk w g t cs) : g < w.heap.size := (Array.getElem?_eq_some_iff.1 h).1
theorem Blk.cell (h : Blk w g t cs) {i : Nat} {v : Value} (hv : cs[i]? = some v) : w.cell? ⟨g, i, none⟩ = some v := by
  unfold Blk at h
  simp only [World.cell?, h]
  simpa using hv
theorem Blk.frozen (h : Blk w g t cs) (i : Nat) : w.frozen? ⟨g, i, none⟩ = false := by
  unfold Blk at h
  simp only [World.frozen?, h]
  simp
theorem Blk.new (w : World) (t : TypeId) (cs : Array Value) : Blk (w.alloc (.cells cs t)) w.heap.size t cs := heap_new w _
theorem Blk.below {n : Nat} (h : Blk w g t cs) (hb : Below n w w') (hg : g < n) : Blk w' g t cs := (hb.block g hg).trans h
theorem Blk.ext (h : Blk w g t cs) (hb : Ext w w') : Blk w' g t cs := h.below hb h.lt
theorem Blk.alloc (h : Blk w g t cs) (o : Obj) : Blk (w.alloc o) g t cs := h.ext (Ext.alloc _ _)
theorem Blk.drew (h : Blk w g t cs) : Blk w.drew g t cs := h
theorem Blk.drewN (h : Blk w g t cs) (n : Nat) : Blk (w.drewN n) g t cs := h
theorem Blk.far (h : Blk w g t cs) {p : Addr} (hp : g ≠ p.block) (u : Value) : Blk (w.setCell p u) g t cs := (Below.heap_setCell w p u g hp).trans h
theorem Blk.put (h : Blk w g t cs) (i : Nat) (u : Value) : Blk (w.setCell ⟨g, i, none⟩ u) g t (cs.setIfInBounds i u) := by
  unfold Blk at *
  simp [World.setCell, Array.getElem?_modify, h]
end
section
variable {w : World} {g : Nat} {t : TypeId} {v0 v1 v2 v3 v4 : Value}
theorem Blk.c1 (h : Blk w g t #[v0]) : w.cell? ⟨g, 0, none⟩ = some v0 := h.cell rfl
theorem Blk.c2 (h : Blk w g t #[v0, v1]) : w.cell? ⟨g, 0, none⟩ = some v0 ∧ w.cell? ⟨g, 1, none⟩ = some v1 := ⟨h.cell rfl, h.cell rfl⟩
theorem Blk.c4 (h : Blk w g t #[v0, v1, v2, v3]) : w.cell? ⟨g, 0, none⟩ = some v0 ∧ w.cell? ⟨g, 1, none⟩ = some v1 ∧ w.cell? ⟨g, 2, none⟩ = some v2 ∧ w.cell? ⟨g, 3, none⟩ = some v3 :=
  ⟨h.cell rfl, h.cell rfl, h.cell rfl, h.cell rfl⟩
theorem Blk.c5 (h : Blk w g t #[v0, v1, v2, v3, v4]) : w.cell? ⟨g, 0, none⟩ = some v0 ∧ w.cell? ⟨g, 1, none⟩ = some v1 ∧ w.cell? ⟨g, 2, none⟩ = some v2 ∧ w.cell? ⟨g, 3, none⟩ = some v3 ∧ w.cell? ⟨g, 4, none⟩ = some v4 :=
  ⟨h.cell rfl, h.cell rfl, h.cell rfl, h.cell rfl, h.cell rfl⟩
end
theorem Below.ext {n : Nat} {a b : World} (h : Below n a b) {c : World} (k : Ext b c) (hn : n ≤ b.heap.size) : Below n a c := h.trans (k.mono hn)
theorem below_alloc' (w : World) (o : Obj) {n : Nat} (hn : n ≤ w.heap.size) : Below n w (w.alloc o) := (Below.refl n w).alloc hn o

/-- A book lies in memory. -/
structure BookA (w : World) (B : Bk) (a1 a2 a3 : Option Addr) : Prop where
  bounds : SpanA w a1 B.bounds
  orders : RowsA w a2 B.orders
  shots : ShotA w a3 B.shots
  l1 : B.bounds.length ≤ 9223372036854775807
  l2 : B.orders.length ≤ 9223372036854775807
  l3 : B.shots.length ≤ 9223372036854775807

theorem BookA.ext {w w' : World} {B : Bk} {a1 a2 a3 : Option Addr} (h : BookA w B a1 a2 a3) (hb : Ext w w') : BookA w' B a1 a2 a3 :=
  ⟨h.bounds.ext hb, h.orders.ext hb, h.shots.ext hb, h.l1, h.l2, h.l3⟩

/-- Is it what is known of a minute? -/
def isSpanB (l h : Int) : Bool := decide (0 ≤ l ∧ l ≤ h ∧ h < 1440 ∧ h - l ≤ 10)
def inB (n lo hi : Int) : Bool := decide (lo ≤ n) && decide (n ≤ hi)

/-- Check, step by step. -/
def ok0 (B : Bk) : Bool := inB B.comp 1 4 && decide ((B.bounds.length : Int) ≤ 4) && inB B.orders.length 1 3 && decide ((B.shots.length : Int) ≤ 5)
def okBound (bs : List (Int × Int)) (i : Nat) : Bool := isSpanB (bLo bs i) (bHi bs i) && (i == 0 || decide (bHi bs (i - 1) < bLo bs i))
def okBounds (bs : List (Int × Int)) (k : Nat) : Bool := (List.range k).all (okBound bs)
def okNums (C : Int) (xs : List Int) (k : Nat) : Bool := (List.range k).all fun i => inB (nAt xs i) 0 (C - 1)
def okRow (C : Int) (nb : Nat) (xs : List Int) : Bool := decide (xs.length = nb + 1) && okNums C xs xs.length
def okRows (C : Int) (nb : Nat) (os : List (List Int)) (k : Nat) : Bool := (List.range k).all fun i => okRow C nb (oAt os i)
def okShot (B : Bk) (x : Sh) : Bool := inB x.st 0 (B.orders.length - 1) && inB x.co 0 (B.comp - 1) && isSpanB x.lo x.hi
def okShots (B : Bk) (k : Nat) : Bool := (List.range k).all fun i => okShot B (sAt B.shots i)
def validB (B : Bk) : Bool := ok0 B && okBounds B.bounds B.bounds.length && okRows B.comp B.bounds.length B.orders B.orders.length && okShots B B.shots.length
theorem range_all_succ (p : Nat → Bool) (k : Nat) : (List.range (k + 1)).all p = ((List.range k).all p && p k) := by simp [List.range_succ]
def checkRes (B : Bk) : Int := if validB B then 0 else 20
theorem okShot_1 {B : Bk} {x : Sh} (h1 : 0 ≤ x.st ∧ x.st ≤ (B.orders.length : Int) - 1) (h2 : 0 ≤ x.co ∧ x.co ≤ B.comp - 1) : okShot B x = isSpanB x.lo x.hi := by
  simp [okShot, inB, h1, h2]
theorem okShot_2 {B : Bk} {x : Sh} (h2 : ¬ (0 ≤ x.co ∧ x.co ≤ B.comp - 1)) : okShot B x = false := by
  have : inB x.co 0 (B.comp - 1) = false := by simp [inB]; omega
  simp [okShot, this]
theorem okShot_3 {B : Bk} {x : Sh} (h1 : ¬ (0 ≤ x.st ∧ x.st ≤ (B.orders.length : Int) - 1)) : okShot B x = false := by
  have : inB x.st 0 (B.orders.length - 1) = false := by simp [inB]; omega
  simp [okShot, this]
theorem okNums_succ (g : Bool) (C : Int) (xs : List Int) (k : Nat) : (g && okNums C xs (k + 1)) = ((g && okNums C xs k) && inB (nAt xs k) 0 (C - 1)) := by
  simp [okNums, range_all_succ, Bool.and_assoc]
theorem okRows_succ (g : Bool) (C : Int) (nb : Nat) (os : List (List Int)) (k : Nat) : (g && okRows C nb os (k + 1)) = (((g && okRows C nb os k) && decide ((oAt os k).length = nb + 1)) && okNums C (oAt os k) (oAt os k).length) := by
  simp [okRows, okRow, range_all_succ, Bool.and_assoc]
theorem okShots_succ (g : Bool) (B : Bk) (k : Nat) : (g && okShots B (k + 1)) = ((g && okShots B k) && okShot B (sAt B.shots k)) := by
  simp [okShots, range_all_succ, Bool.and_assoc]
theorem okB_succ (g : Bool) (bs : List (Int × Int)) (k : Nat) : (g && okBounds bs (k + 1)) = ((g && okBounds bs k) && okBound bs k) := by
  simp [okBounds, range_all_succ, Bool.and_assoc]
/-! ### Turns -/
/-- How many of the first k bounds end at or ahead of a minute; how many begin so. -/
def cHi (bs : List (Int × Int)) (m : Int) (k : Nat) : Nat := ((List.range k).filter fun i => decide (bHi bs i ≤ m)).length
def cLo (bs : List (Int × Int)) (m : Int) (k : Nat) : Nat := ((List.range k).filter fun i => decide (bLo bs i ≤ m)).length
theorem cHi_succ (bs : List (Int × Int)) (m : Int) (k : Nat) : cHi bs m (k + 1) = cHi bs m k + if bHi bs k ≤ m then 1 else 0 := by
  by_cases h : bHi bs k ≤ m <;> simp [cHi, List.range_succ, h]
theorem cLo_succ (bs : List (Int × Int)) (m : Int) (k : Nat) : cLo bs m (k + 1) = cLo bs m k + if bLo bs k ≤ m then 1 else 0 := by
  by_cases h : bLo bs k ≤ m <;> simp [cLo, List.range_succ, h]
theorem cHi_le (bs : List (Int × Int)) (m : Int) (k : Nat) : cHi bs m k ≤ k := by
  have := List.length_filter_le (fun i => decide (bHi bs i ≤ m)) (List.range k)
  simpa [cHi] using this
theorem cLo_le (bs : List (Int × Int)) (m : Int) (k : Nat) : cLo bs m k ≤ k := by
  have := List.length_filter_le (fun i => decide (bLo bs i ≤ m)) (List.range k)
  simpa [cLo] using this
/-- The least and the greatest turn at a minute. -/
def tLo (B : Bk) (m : Int) : Nat := cHi B.bounds m B.bounds.length
def tHi (B : Bk) (m : Int) : Nat := cLo B.bounds m B.bounds.length
end Go.Proofs.YtnhdcdhpfgdphaaDoor

/-
  What a valid book gives; who can have a station. Plain data alone.
-/
set_option linter.unusedSimpArgs false
set_option linter.unusedVariables false
namespace Go.Proofs.YtnhdcdhpfgdphaaDoor
open Go

/-- A count of those of the first n that have a property which none has behind one that has it not. -/
theorem count_prefix (p : Nat → Bool) (n : Nat) (hp : ∀ i, i + 1 < n → p (i + 1) = true → p i = true) : ∀ i, i < n → (i < ((List.range n).filter p).length ↔ p i = true) := by
  induction n with
  | zero => intro i hi; omega
  | succ n ih =>
    have ih' := ih (fun i hi h => hp i (by omega) h)
    have hle : ((List.range n).filter p).length ≤ n := by
      have := List.length_filter_le p (List.range n)
      simpa using this
    intro i hi
    by_cases hn : p n = true
    · -- then all have it
      have hall : ∀ d j, j + d = n → p j = true := by
        intro d
        induction d with
        | zero => intro j hj; have : j = n := by omega
                  rw [this]; exact hn
        | succ d ihd => intro j hj; exact hp j (by omega) (ihd (j + 1) (by omega))
      have hpi := hall (n - i) i (by omega)
      have hlen : ((List.range (n + 1)).filter p).length = n + 1 := by
        rw [List.filter_eq_self.2 (by intro a ha; simp at ha; exact hall (n - a) a (by omega))]
        simp
      rw [hlen]
      exact ⟨fun _ => hpi, fun _ => hi⟩
    · have hl : (List.range (n + 1)).filter p = (List.range n).filter p := by
        simp [List.range_succ, hn]
      rw [hl]
      by_cases hin : i = n
      · rw [hin]
        exact ⟨fun h => by omega, fun h => absurd h hn⟩
      · exact ih' i (by omega)

theorem valid_parts {B : Bk} (h : validB B = true) : ok0 B = true ∧ okBounds B.bounds B.bounds.length = true ∧ okRows B.comp B.bounds.length B.orders B.orders.length = true ∧ okShots B B.shots.length = true := by
  simp only [validB, Bool.and_eq_true] at h
  exact ⟨h.1.1.1, h.1.1.2, h.1.2, h.2⟩

theorem valid_sizes {B : Bk} (h : validB B = true) : 1 ≤ B.comp ∧ B.comp ≤ 4 ∧ 1 ≤ B.orders.length ∧ B.orders.length ≤ 3 ∧ B.bounds.length ≤ 4 ∧ B.shots.length ≤ 5 := by
  have := (valid_parts h).1
  simp [ok0, inB] at this
  omega

theorem valid_bound {B : Bk} (h : validB B = true) {i : Nat} (hi : i < B.bounds.length) : 0 ≤ bLo B.bounds i ∧ bLo B.bounds i ≤ bHi B.bounds i ∧ bHi B.bounds i < 1440 ∧ bHi B.bounds i - bLo B.bounds i ≤ 10 := by
  have hb := (valid_parts h).2.1
  simp only [okBounds, List.all_eq_true, List.mem_range, okBound, Bool.and_eq_true] at hb
  have := (hb i hi).1
  simpa [isSpanB] using this
theorem valid_rise {B : Bk} (h : validB B = true) {i : Nat} (hi : i + 1 < B.bounds.length) : bHi B.bounds i < bLo B.bounds (i + 1) := by
  have hb := (valid_parts h).2.1
  simp only [okBounds, List.all_eq_true, List.mem_range, okBound, Bool.and_eq_true] at hb
  have := (hb (i + 1) hi).2
  simpa using this
theorem valid_row {B : Bk} (h : validB B = true) {s : Nat} (hs : s < B.orders.length) : (oAt B.orders s).length = B.bounds.length + 1 ∧ ∀ i, i < (oAt B.orders s).length → 0 ≤ nAt (oAt B.orders s) i ∧ nAt (oAt B.orders s) i < B.comp := by
  have hr := (valid_parts h).2.2.1
  simp only [okRows, List.all_eq_true, List.mem_range, okRow, Bool.and_eq_true, decide_eq_true_eq] at hr
  have := hr s hs
  refine ⟨this.1, fun i hi => ?_⟩
  have hn := this.2
  simp only [okNums, List.all_eq_true, List.mem_range, inB, Bool.and_eq_true, decide_eq_true_eq] at hn
  have := hn i hi
  omega
theorem valid_shot {B : Bk} (h : validB B = true) {k : Nat} (hk : k < B.shots.length) : 0 ≤ (sAt B.shots k).st ∧ (sAt B.shots k).st < B.orders.length ∧ 0 ≤ (sAt B.shots k).co ∧ (sAt B.shots k).co < B.comp ∧
    0 ≤ (sAt B.shots k).lo ∧ (sAt B.shots k).lo ≤ (sAt B.shots k).hi ∧ (sAt B.shots k).hi < 1440 ∧ (sAt B.shots k).hi - (sAt B.shots k).lo ≤ 10 := by
  have hs := (valid_parts h).2.2.2
  simp only [okShots, List.all_eq_true, List.mem_range, okShot, inB, Bool.and_eq_true, decide_eq_true_eq, isSpanB] at hs
  have := hs k hk
  omega

theorem tHi_le {B : Bk} (_h : validB B = true) (m : Int) : tHi B m ≤ B.bounds.length := cLo_le _ _ _
section
variable {B : Bk} (h : validB B = true) (m : Int)
include h
theorem lt_tLo {i : Nat} (hi : i < B.bounds.length) : i < tLo B m ↔ bHi B.bounds i ≤ m := by
  have := count_prefix (fun i => decide (bHi B.bounds i ≤ m)) B.bounds.length (fun i hi hp => by
    simp only [decide_eq_true_eq] at *
    have h1 := valid_rise h hi
    have h2 := valid_bound h hi
    omega) i hi
  simpa [tLo, cHi] using this
theorem lt_tHi {i : Nat} (hi : i < B.bounds.length) : i < tHi B m ↔ bLo B.bounds i ≤ m := by
  have := count_prefix (fun i => decide (bLo B.bounds i ≤ m)) B.bounds.length (fun i hi hp => by
    simp only [decide_eq_true_eq] at *
    have h1 := valid_rise h hi
    have h2 := valid_bound h (i := i) (by omega)
    omega) i hi
  simpa [tHi, cLo] using this
theorem tLo_le_tHi : tLo B m ≤ tHi B m := by
  have hl : tLo B m ≤ B.bounds.length := cHi_le _ _ _
  rcases Nat.eq_zero_or_pos (tLo B m) with h0 | h0
  · omega
  · have hi : tLo B m - 1 < B.bounds.length := by omega
    have h1 := (lt_tLo h m hi).1 (by omega)
    have h2 := valid_bound h hi
    have h3 := (lt_tHi h m hi).2 (by omega)
    omega
theorem tHi_le_succ : tHi B m ≤ tLo B m + 1 := by
  rcases Nat.lt_or_ge (tLo B m + 1) (tHi B m) with hlt | hge
  · have hle := tHi_le h m
    have h1 := (lt_tHi h m (i := tLo B m + 1) (by omega)).1 hlt
    have h2 := valid_rise h (i := tLo B m) (by omega)
    have h3 := (lt_tLo h m (i := tLo B m) (by omega)).2 (by omega)
    omega
  · omega
end

/-! ### Who can have a station -/
/-- The companies of the first so many turns from one on, each once. -/
def dd (xs : List Int) (lo : Nat) : Nat → List Int
  | 0 => []
  | 1 => [nAt xs lo]
  | _ => if nAt xs (lo + 1) = nAt xs lo then [nAt xs lo] else [nAt xs lo, nAt xs (lo + 1)]
def sort2 : List Int → List Int
  | [a, b] => [min a b, max a b]
  | l => l
/-- All companies that can have a station at a minute, increasing. -/
def ownersL (B : Bk) (s : Nat) (m : Int) : List Int := sort2 (dd (oAt B.orders s) (tLo B m) (tHi B m - tLo B m + 1))
theorem dd_cases (xs : List Int) (lo n : Nat) (h1 : 1 ≤ n) (h2 : n ≤ 2) : (dd xs lo n = [nAt xs lo]) ∨ (dd xs lo n = [nAt xs lo, nAt xs (lo + 1)] ∧ nAt xs (lo + 1) ≠ nAt xs lo) := by
  rcases (by omega : n = 1 ∨ n = 2) with rfl | rfl
  · exact .inl rfl
  · unfold dd
    by_cases h : nAt xs (lo + 1) = nAt xs lo
    · rw [if_pos h]; exact .inl rfl
    · rw [if_neg h]; exact .inr ⟨rfl, h⟩
theorem mem_ownersL {B : Bk} (h : validB B = true) (s : Nat) (m c : Int) : c ∈ ownersL B s m ↔ ∃ t, tLo B m ≤ t ∧ t ≤ tHi B m ∧ nAt (oAt B.orders s) t = c := by
  have h1 := tLo_le_tHi h m
  have h2 := tHi_le_succ h m
  unfold ownersL
  rcases (by omega : tHi B m = tLo B m ∨ tHi B m = tLo B m + 1) with e | e
  · rw [e]
    simp only [Nat.sub_self, dd, sort2, List.mem_singleton]
    exact ⟨fun hc => ⟨tLo B m, by omega, by omega, hc.symm⟩, fun ⟨t, a, b, hc⟩ => by rw [← hc, (by omega : t = tLo B m)]⟩
  · rw [e, show tLo B m + 1 - tLo B m + 1 = 2 by omega]
    have key : (c = nAt (oAt B.orders s) (tLo B m) ∨ c = nAt (oAt B.orders s) (tLo B m + 1)) ↔ ∃ t, tLo B m ≤ t ∧ t ≤ tLo B m + 1 ∧ nAt (oAt B.orders s) t = c := by
      constructor
      · rintro (hc | hc)
        · exact ⟨tLo B m, by omega, by omega, hc.symm⟩
        · exact ⟨tLo B m + 1, by omega, by omega, hc.symm⟩
      · rintro ⟨t, a, b, hc⟩
        rcases (by omega : t = tLo B m ∨ t = tLo B m + 1) with rfl | rfl
        · exact .inl hc.symm
        · exact .inr hc.symm
    rw [← key]
    rcases dd_cases (oAt B.orders s) (tLo B m) 2 (by omega) (by omega) with hd | ⟨hd, hne⟩
    · have hq : nAt (oAt B.orders s) (tLo B m + 1) = nAt (oAt B.orders s) (tLo B m) := by
        unfold dd at hd
        by_cases hq : nAt (oAt B.orders s) (tLo B m + 1) = nAt (oAt B.orders s) (tLo B m)
        · exact hq
        · rw [if_neg hq] at hd; simp at hd
      rw [hd, hq]
      simp [sort2]
    · rw [hd]
      simp only [sort2, List.mem_cons, List.not_mem_nil, or_false]
      omega
theorem ownersL_len {B : Bk} (h : validB B = true) (s : Nat) (m : Int) : 1 ≤ (ownersL B s m).length ∧ (ownersL B s m).length ≤ 2 := by
  have h1 := tLo_le_tHi h m
  have h2 := tHi_le_succ h m
  unfold ownersL
  rcases dd_cases (oAt B.orders s) (tLo B m) (tHi B m - tLo B m + 1) (by omega) (by omega) with hd | ⟨hd, hne⟩ <;> rw [hd] <;> simp [sort2]
theorem ownersL_sorted {B : Bk} (h : validB B = true) (s : Nat) (m : Int) : (ownersL B s m).Pairwise (· < ·) := by
  have h1 := tLo_le_tHi h m
  have h2 := tHi_le_succ h m
  unfold ownersL
  rcases dd_cases (oAt B.orders s) (tLo B m) (tHi B m - tLo B m + 1) (by omega) (by omega) with hd | ⟨hd, hne⟩ <;> rw [hd] <;> simp [sort2]
  omega
end Go.Proofs.YtnhdcdhpfgdphaaDoor

/-
  The small functions of package turn: contracts.
-/
namespace Go.Proofs.YtnhdcdhpfgdphaaDoor
open Go Go.RowKit

set_option maxHeartbeats 400000 in
theorem on_any (n lo hi : Int) (w : World) :
    Calls Tryd.prog 64 #[.int .i64 n, .int .i64 lo, .int .i64 hi] w fun e w' => e = .returned (.bool (decide (lo ≤ n) && decide (n ≤ hi))) ∧ w = w' := by
  go_enter Tryd.func64, Tryd.ntmps64
  go_wp2
  all_goals
    go_ret
    refine ⟨?_, rfl⟩
    first | rfl | (congr 2; simp; omega)

set_option maxHeartbeats 400000 in
theorem isMinute_any (n : Int) (w : World) :
    Calls Tryd.prog 59 #[.int .i64 n] w fun e w' => e = .returned (.bool (decide (0 ≤ n) && decide (n ≤ 1439))) ∧ w = w' := by
  go_enter Tryd.func59, Tryd.ntmps59
  go_wp2_with (go_at_call 64; refine (on_any _ _ _ _).mono ?_; rintro e w' ⟨rfl, rfl⟩)
  go_ret
  exact ⟨rfl, rfl⟩




set_option maxHeartbeats 400000 in
theorem isSpan_any (l h : Int) (w : World) :
    Calls Tryd.prog 65 #[.agg #[.int .i64 l, .int .i64 h]] w fun e w' => e = .returned (.bool (isSpanB l h)) ∧ w' = w.alloc (.cells #[.int .i64 l, .int .i64 h] 29) := by
  by_cases h1 : 0 ≤ l ∧ l ≤ h
  · have hb : isSpanB l h = (decide (h < 1440) && decide (h - l ≤ 10)) := by simp [isSpanB, h1]
    have Hb := Lib.hid hb
    clear hb
    go_enter Tryd.func65, Tryd.ntmps65
    go_wp2_with (go_at_call 64; refine (on_any _ _ _ _).mono ?_; rintro e w' ⟨rfl, rfl⟩)
    all_goals
      go_ret
      refine ⟨?_, rfl⟩
      rw [Hb.out]
      first | (congr 2; simp; omega) | (congr 2; simp [*])
  · have h3 : (decide (0 ≤ l) && decide (l ≤ h)) = false := by simp; omega
    have hb : isSpanB l h = false := by simp [isSpanB]; omega
    have Hb := Lib.hid hb
    clear hb
    go_enter Tryd.func65, Tryd.ntmps65
    go_wp2_with (go_at_call 64; refine (on_any _ _ _ _).mono ?_; rintro e w' ⟨rfl, rfl⟩)
    go_ret
    exact ⟨by rw [Hb.out]; rfl, rfl⟩
/-- The same, the answer under a name. -/
theorem isSpan_is (l h : Int) (sp : Bool) (hs : isSpanB l h = sp) (w : World) :
    Calls Tryd.prog 65 #[.agg #[.int .i64 l, .int .i64 h]] w fun e w' => e = .returned (.bool sp) ∧ w' = w.alloc (.cells #[.int .i64 l, .int .i64 h] 29) := by
  subst hs
  exact isSpan_any l h w
/-- The package's variables hold what its text lays in them. -/
structure Glob (w : World) : Prop where
  e0 : w.cell? ⟨0, 0, none⟩ = some (.func (.func 141) #[] #[])
  e1 : w.cell? ⟨0, 1, none⟩ = some (.func (.func 143) #[] #[])
  n0 : w.cell? ⟨1, 0, none⟩ = some (.int .i64 (-1))
  n1 : w.cell? ⟨1, 1, none⟩ = some (.int .i64 (-1))
theorem Glob.ext {w w' : World} (h : Glob w) (hb : Ext w w') : Glob w' := ⟨hb.keep h.e0, hb.keep h.e1, hb.keep h.n0, hb.keep h.n1⟩

set_option maxHeartbeats 400000 in
theorem low_any (l h : Int) (w : World) :
    Calls Tryd.prog 144 #[.agg #[.int .i64 l, .int .i64 h]] w fun e w' => e = .returned (.int .i64 l) ∧ w' = w.alloc (.cells #[.int .i64 l, .int .i64 h] 107) := by
  go_enter Tryd.func144, Tryd.ntmps144
  go_wp2
  go_ret
  exact ⟨rfl, rfl⟩
set_option maxHeartbeats 400000 in
theorem high_any (l h : Int) (w : World) :
    Calls Tryd.prog 145 #[.agg #[.int .i64 l, .int .i64 h]] w fun e w' => e = .returned (.int .i64 h) ∧ w' = w.alloc (.cells #[.int .i64 l, .int .i64 h] 107) := by
  go_enter Tryd.func145, Tryd.ntmps145
  go_wp2
  go_ret
  exact ⟨rfl, rfl⟩
set_option maxHeartbeats 400000 in
theorem first_any (l h : Int) (w : World) :
    Calls Tryd.prog 141 #[.agg #[.int .i64 l, .int .i64 h]] w fun e w' => e = .returned (.int .i64 l) ∧ Ext w w' := by
  go_enter Tryd.func141, Tryd.ntmps141
  go_wp2_with (go_at_call 144; refine (low_any _ _ _).mono ?_; rintro e w' ⟨rfl, rfl⟩)
  go_ret
  exact ⟨rfl, (Ext.alloc _ _).trans (Ext.alloc _ _)⟩
set_option maxHeartbeats 400000 in
theorem last_any (l h : Int) (w : World) :
    Calls Tryd.prog 143 #[.agg #[.int .i64 l, .int .i64 h]] w fun e w' => e = .returned (.int .i64 h) ∧ Ext w w' := by
  go_enter Tryd.func143, Tryd.ntmps143
  go_wp2_with (go_at_call 145; refine (high_any _ _ _).mono ?_; rintro e w' ⟨rfl, rfl⟩)
  go_ret
  exact ⟨rfl, (Ext.alloc _ _).trans (Ext.alloc _ _)⟩
end Go.Proofs.YtnhdcdhpfgdphaaDoor
