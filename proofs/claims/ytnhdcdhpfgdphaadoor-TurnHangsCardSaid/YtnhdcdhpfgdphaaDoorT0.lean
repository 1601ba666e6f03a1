/-
  What a book of turns is, as plain data, and when memory holds one. Nothing of the program is named here.
-/
import Derived.WalkKit
import Derived.Lib.Hide
import Derived.Deep.Draws
import Derived.Deep.QuietTactic
namespace Go.Proofs.YtnhdcdhpfgdphaaDoor
open Go Go.RowKit

/-! ### Plain data -/

/-- A shot: its station, its company, and what is known of its minute. -/
structure Sh where
  st : Int
  co : Int
  lo : Int
  hi : Int

instance : Inhabited Sh := ⟨⟨0, 0, 0, 0⟩⟩

/-- A book. -/
structure Bk where
  comp : Int
  bounds : List (Int × Int)
  orders : List (List Int)
  shots : List Sh

def bLo (bs : List (Int × Int)) (i : Nat) : Int := (bs.getD i (0, 0)).1
def bHi (bs : List (Int × Int)) (i : Nat) : Int := (bs.getD i (0, 0)).2
def oAt (os : List (List Int)) (i : Nat) : List Int := os.getD i []
def nAt (xs : List Int) (i : Nat) : Int := xs.getD i 0
def sAt (ss : List Sh) (i : Nat) : Sh := ss.getD i ⟨0, 0, 0, 0⟩

theorem wr64 (n : Int) (h : -9223372036854775808 ≤ n ∧ n ≤ 9223372036854775807) : IntKind.i64.wrap n = n := IntWalk.i64_in _ h

/-! ### Memory -/

/-- A world that only has more than another one: what was there lies as it lay. -/
abbrev Ext (w w' : World) : Prop := Below w.heap.size w w'

theorem Ext.refl (w : World) : Ext w w := Below.refl _ _
theorem Ext.trans {a b c : World} (h : Ext a b) (k : Ext b c) : Ext a c := Below.trans h (k.mono h.size)
theorem Ext.alloc (w : World) (o : Obj) : Ext w (w.alloc o) := (Below.refl _ _).alloc (Nat.le_refl _) o
theorem Ext.drew (w : World) : Ext w w.drew := (Below.refl _ _).drew
theorem Ext.drewN (w : World) (n : Nat) : Ext w (w.drewN n) := ⟨rfl, rfl, rfl, Nat.le_refl _, fun _ _ => rfl⟩

theorem heap_new (w : World) (o : Obj) : (w.alloc o).heap[w.heap.size]? = some o := by
  show (w.heap.push o)[w.heap.size]? = _
  simp
theorem lt_of_cell {w : World} {a : Addr} {v : Value} (h : w.cell? a = some v) : a.block < w.heap.size := World.block_lt_of_cell? w a h
theorem Below.keep {w w' : World} {n : Nat} (h : Below n w w') {a : Addr} {v : Value} (hn : a.block < n) (hc : w.cell? a = some v) : w'.cell? a = some v := (h.cell hn).trans hc
theorem Ext.keep {w w' : World} (h : Ext w w') {a : Addr} {v : Value} (hc : w.cell? a = some v) : w'.cell? a = some v := Below.keep h (lt_of_cell hc) hc

theorem cell_alloc_some {w : World} {a : Addr} {v : Value} (o : Obj) (h : w.cell? a = some v) : ((w.alloc o).cell? a = some v) = True := eq_true ((Ext.alloc w o).keep h)

/-- A row of cells: at 'a' lie, one behind the other, the values of a list. -/
def Row (w : World) (a : Option Addr) (xs : List Value) : Prop :=
  0 < xs.length → ∃ b o, a = some ⟨b, o, none⟩ ∧ b < w.heap.size ∧ ∀ i v, xs[i]? = some v → w.cell? ⟨b, o + i, none⟩ = some v

theorem Row.below {w w' : World} {a : Option Addr} {xs : List Value} (h : Row w a xs) {n : Nat} (hb : Below n w w') (hn : ∀ b o, a = some ⟨b, o, none⟩ → b < n) : Row w' a xs := fun hp => by
  obtain ⟨b, o, e, hl, hc⟩ := h hp
  exact ⟨b, o, e, Nat.lt_of_lt_of_le hl hb.size, fun i v hv => Below.keep hb (hn b o e) (hc i v hv)⟩
theorem Row.ext {w w' : World} {a : Option Addr} {xs : List Value} (h : Row w a xs) (hb : Ext w w') : Row w' a xs := fun hp => by
  obtain ⟨b, o, e, hl, hc⟩ := h hp
  exact ⟨b, o, e, Nat.lt_of_lt_of_le hl hb.size, fun i v hv => Ext.keep hb (hc i v hv)⟩

/-- Spans: two cells each. -/
def SpanA (w : World) (a : Option Addr) (bs : List (Int × Int)) : Prop :=
  0 < bs.length → ∃ b o, a = some ⟨b, o, none⟩ ∧ b < w.heap.size ∧ ∀ i, i < bs.length →
    w.cell? ⟨b, o + i * 2, none⟩ = some (.int .i64 (bLo bs i)) ∧ w.cell? ⟨b, o + i * 2 + 1, none⟩ = some (.int .i64 (bHi bs i))
/-- Whole numbers. -/
def IntA (w : World) (a : Option Addr) (xs : List Int) : Prop :=
  0 < xs.length → ∃ b o, a = some ⟨b, o, none⟩ ∧ b < w.heap.size ∧ ∀ i, i < xs.length → w.cell? ⟨b, o + i, none⟩ = some (.int .i64 (nAt xs i))
/-- Rows of whole numbers. -/
def RowsA (w : World) (a : Option Addr) (os : List (List Int)) : Prop :=
  0 < os.length → ∃ b o, a = some ⟨b, o, none⟩ ∧ b < w.heap.size ∧ ∀ i, i < os.length → ∃ ra rc, w.cell? ⟨b, o + i, none⟩ = some (.slice ra (oAt os i).length rc) ∧ (oAt os i).length ≤ 9223372036854775807 ∧ IntA w ra (oAt os i)
/-- Shots: four cells each. -/
def ShotA (w : World) (a : Option Addr) (ss : List Sh) : Prop :=
  0 < ss.length → ∃ b o, a = some ⟨b, o, none⟩ ∧ b < w.heap.size ∧ ∀ i, i < ss.length →
    w.cell? ⟨b, o + i * 4, none⟩ = some (.int .i64 (sAt ss i).st) ∧ w.cell? ⟨b, o + i * 4 + 1, none⟩ = some (.int .i64 (sAt ss i).co) ∧
    w.cell? ⟨b, o + i * 4 + 2, none⟩ = some (.int .i64 (sAt ss i).lo) ∧ w.cell? ⟨b, o + i * 4 + 3, none⟩ = some (.int .i64 (sAt ss i).hi)

theorem SpanA.ext {w w' : World} {a : Option Addr} {bs : List (Int × Int)} (h : SpanA w a bs) (hb : Ext w w') : SpanA w' a bs := fun hp => by
  obtain ⟨b, o, e, hl, hc⟩ := h hp
  exact ⟨b, o, e, Nat.lt_of_lt_of_le hl hb.size, fun i hi => ⟨hb.keep (hc i hi).1, hb.keep (hc i hi).2⟩⟩
theorem IntA.ext {w w' : World} {a : Option Addr} {xs : List Int} (h : IntA w a xs) (hb : Ext w w') : IntA w' a xs := fun hp => by
  obtain ⟨b, o, e, hl, hc⟩ := h hp
  exact ⟨b, o, e, Nat.lt_of_lt_of_le hl hb.size, fun i hi => hb.keep (hc i hi)⟩
theorem RowsA.ext {w w' : World} {a : Option Addr} {os : List (List Int)} (h : RowsA w a os) (hb : Ext w w') : RowsA w' a os := fun hp => by
  obtain ⟨b, o, e, hl, hc⟩ := h hp
  refine ⟨b, o, e, Nat.lt_of_lt_of_le hl hb.size, fun i hi => ?_⟩
  obtain ⟨ra, rc, h1, h2, h3⟩ := hc i hi
  exact ⟨ra, rc, hb.keep h1, h2, h3.ext hb⟩
theorem ShotA.ext {w w' : World} {a : Option Addr} {ss : List Sh} (h : ShotA w a ss) (hb : Ext w w') : ShotA w' a ss := fun hp => by
  obtain ⟨b, o, e, hl, hc⟩ := h hp
  refine ⟨b, o, e, Nat.lt_of_lt_of_le hl hb.size, fun i hi => ?_⟩
  obtain ⟨h1, h2, h3, h4⟩ := hc i hi
  exact ⟨hb.keep h1, hb.keep h2, hb.keep h3, hb.keep h4⟩

/-! ### A block of the call's own at the head: a struct argument in its box -/
theorem box_cell {w wr X : World} {cs : Array Value} {t : TypeId} (hX : X = w.alloc (.cells cs t)) (hb : Below (w.heap.size + 1) X wr) (i : Nat) (v : Value) (h : cs[i]? = some v) : wr.cell? ⟨w.heap.size, i, none⟩ = some v := by
  refine Below.keep hb (by simp) ?_
  subst hX
  have hn := heap_new w (.cells cs t)
  simp only [World.cell?, hn]
  simpa using h
theorem box_cells4 {w wr X : World} {v0 v1 v2 v3 : Value} {t : TypeId} (hX : X = w.alloc (.cells #[v0, v1, v2, v3] t)) (hb : Below (w.heap.size + 1) X wr) :
    wr.cell? ⟨w.heap.size, 0, none⟩ = some v0 ∧ wr.cell? ⟨w.heap.size, 1, none⟩ = some v1 ∧ wr.cell? ⟨w.heap.size, 2, none⟩ = some v2 ∧ wr.cell? ⟨w.heap.size, 3, none⟩ = some v3 :=
  ⟨box_cell hX hb 0 _ rfl, box_cell hX hb 1 _ rfl, box_cell hX hb 2 _ rfl, box_cell hX hb 3 _ rfl⟩
theorem box_cells5 {w wr X : World} {v0 v1 v2 v3 v4 : Value} {t : TypeId} (hX : X = w.alloc (.cells #[v0, v1, v2, v3, v4] t)) (hb : Below (w.heap.size + 1) X wr) :
    wr.cell? ⟨w.heap.size, 0, none⟩ = some v0 ∧ wr.cell? ⟨w.heap.size, 1, none⟩ = some v1 ∧ wr.cell? ⟨w.heap.size, 2, none⟩ = some v2 ∧ wr.cell? ⟨w.heap.size, 3, none⟩ = some v3 ∧ wr.cell? ⟨w.heap.size, 4, none⟩ = some v4 :=
  ⟨box_cell hX hb 0 _ rfl, box_cell hX hb 1 _ rfl, box_cell hX hb 2 _ rfl, box_cell hX hb 3 _ rfl, box_cell hX hb 4 _ rfl⟩
theorem box_frozen {w wr X : World} {cs : Array Value} {t : TypeId} (hX : X = w.alloc (.cells cs t)) (hb : Below (w.heap.size + 1) X wr) (i : Nat) : wr.frozen? ⟨w.heap.size, i, none⟩ = false := by
  rw [hb.frozen (p := ⟨w.heap.size, i, none⟩) (by simp)]
  subst hX
  have hn := heap_new w (.cells cs t)
  simp only [World.frozen?, hn]
  simp
theorem box_ext {w wr X : World} {cs : Array Value} {t : TypeId} (hX : X = w.alloc (.cells cs t)) (hb : Below (w.heap.size + 1) X wr) : Ext w wr := by
  subst hX
  exact (Ext.alloc w _).trans (hb.mono (by simp))
theorem box_size {w wr X : World} {cs : Array Value} {t : TypeId} (hX : X = w.alloc (.cells cs t)) (hb : Below (w.heap.size + 1) X wr) : w.heap.size < wr.heap.size := by
  have := hb.size
  subst hX
  simp at this
  omega
theorem box_more {w wr wx X : World} (hb : Below (w.heap.size + 1) X wr) (hs : w.heap.size < wr.heap.size) (h : Ext wr wx) : Below (w.heap.size + 1) X wx := hb.trans (h.mono (by omega))

/-! ### Blocks of the call's own -/
/-- Block g holds just these cells. -/
def Blk (w : World) (g : Nat) (t : TypeId) (cs : Array Value) : Prop := w.heap[g]? = some (.cells cs t (0, 0))
section
variable {w w' : World} {g : Nat} {t : TypeId} {cs : Array Value}
theorem Blk.lt (h : Blk w g t cs) : g < w.heap.size := (Array.getElem?_eq_some_iff.1 h).1
theorem Blk.cell (h : Blk w g t cs) {i : Nat} {v : Value} (hv : cs[i]? = some v) : w.cell? ⟨g, i, none⟩ = some v := by
  unfold Blk at h
  simp only [World.cell?, h]
  simpa using hv
theorem Blk.frozen (h : Blk w g t cs) (i : Nat) : w.frozen? ⟨g, i, none⟩ = false := by
  unfold Blk at h
  simp only [World.frozen?, h]
  simp
theorem Blk.new (w : World) (t : TypeId) (cs : Array Value) : Blk (w.alloc (.cells cs t)) w.heap.size t cs := heap_new w _
theorem Blk.below {n : Nat} (h : Blk w g t cs) (hb : Below n w w') (hg : g < n) : Blk w' g t cs := (hb.block g hg).trans h
theorem Blk.ext (h : Blk w g t cs) (hb : Ext w w') : Blk w' g t cs := h.below hb h.lt
theorem Blk.alloc (h : Blk w g t cs) (o : Obj) : Blk (w.alloc o) g t cs := h.ext (Ext.alloc _ _)
theorem Blk.drew (h : Blk w g t cs) : Blk w.drew g t cs := h
theorem Blk.drewN (h : Blk w g t cs) (n : Nat) : Blk (w.drewN n) g t cs := h
theorem Blk.far (h : Blk w g t cs) {p : Addr} (hp : g ≠ p.block) (u : Value) : Blk (w.setCell p u) g t cs := (Below.heap_setCell w p u g hp).trans h
theorem Blk.put (h : Blk w g t cs) (i : Nat) (u : Value) : Blk (w.setCell ⟨g, i, none⟩ u) g t (cs.setIfInBounds i u) := by
  unfold Blk at *
  simp [World.setCell, Array.getElem?_modify, h]
end
section
variable {w : World} {g : Nat} {t : TypeId} {v0 v1 v2 v3 v4 : Value}
theorem Blk.c1 (h : Blk w g t #[v0]) : w.cell? ⟨g, 0, none⟩ = some v0 := h.cell rfl
theorem Blk.c2 (h : Blk w g t #[v0, v1]) : w.cell? ⟨g, 0, none⟩ = some v0 ∧ w.cell? ⟨g, 1, none⟩ = some v1 := ⟨h.cell rfl, h.cell rfl⟩
theorem Blk.c4 (h : Blk w g t #[v0, v1, v2, v3]) : w.cell? ⟨g, 0, none⟩ = some v0 ∧ w.cell? ⟨g, 1, none⟩ = some v1 ∧ w.cell? ⟨g, 2, none⟩ = some v2 ∧ w.cell? ⟨g, 3, none⟩ = some v3 :=
  ⟨h.cell rfl, h.cell rfl, h.cell rfl, h.cell rfl⟩
theorem Blk.c5 (h : Blk w g t #[v0, v1, v2, v3, v4]) : w.cell? ⟨g, 0, none⟩ = some v0 ∧ w.cell? ⟨g, 1, none⟩ = some v1 ∧ w.cell? ⟨g, 2, none⟩ = some v2 ∧ w.cell? ⟨g, 3, none⟩ = some v3 ∧ w.cell? ⟨g, 4, none⟩ = some v4 :=
  ⟨h.cell rfl, h.cell rfl, h.cell rfl, h.cell rfl, h.cell rfl⟩
end
theorem Below.ext {n : Nat} {a b : World} (h : Below n a b) {c : World} (k : Ext b c) (hn : n ≤ b.heap.size) : Below n a c := h.trans (k.mono hn)
theorem below_alloc' (w : World) (o : Obj) {n : Nat} (hn : n ≤ w.heap.size) : Below n w (w.alloc o) := (Below.refl n w).alloc hn o

/-- A book lies in memory. -/
structure BookA (w : World) (B : Bk) (a1 a2 a3 : Option Addr) : Prop where
  bounds : SpanA w a1 B.bounds
  orders : RowsA w a2 B.orders
  shots : ShotA w a3 B.shots
  l1 : B.bounds.length ≤ 9223372036854775807
  l2 : B.orders.length ≤ 9223372036854775807
  l3 : B.shots.length ≤ 9223372036854775807

theorem BookA.ext {w w' : World} {B : Bk} {a1 a2 a3 : Option Addr} (h : BookA w B a1 a2 a3) (hb : Ext w w') : BookA w' B a1 a2 a3 :=
  ⟨h.bounds.ext hb, h.orders.ext hb, h.shots.ext hb, h.l1, h.l2, h.l3⟩

/-- Is it what is known of a minute? -/
def isSpanB (l h : Int) : Bool := decide (0 ≤ l ∧ l ≤ h ∧ h < 1440 ∧ h - l ≤ 10)
def inB (n lo hi : Int) : Bool := decide (lo ≤ n) && decide (n ≤ hi)

/-- Check, step by step. -/
def ok0 (B : Bk) : Bool := inB B.comp 1 4 && decide ((B.bounds.length : Int) ≤ 4) && inB B.orders.length 1 3 && decide ((B.shots.length : Int) ≤ 5)
def okBound (bs : List (Int × Int)) (i : Nat) : Bool := isSpanB (bLo bs i) (bHi bs i) && (i == 0 || decide (bHi bs (i - 1) < bLo bs i))
def okBounds (bs : List (Int × Int)) (k : Nat) : Bool := (List.range k).all (okBound bs)
def okNums (C : Int) (xs : List Int) (k : Nat) : Bool := (List.range k).all fun i => inB (nAt xs i) 0 (C - 1)
def okRow (C : Int) (nb : Nat) (xs : List Int) : Bool := decide (xs.length = nb + 1) && okNums C xs xs.length
def okRows (C : Int) (nb : Nat) (os : List (List Int)) (k : Nat) : Bool := (List.range k).all fun i => okRow C nb (oAt os i)
def okShot (B : Bk) (x : Sh) : Bool := inB x.st 0 (B.orders.length - 1) && inB x.co 0 (B.comp - 1) && isSpanB x.lo x.hi
def okShots (B : Bk) (k : Nat) : Bool := (List.range k).all fun i => okShot B (sAt B.shots i)
def validB (B : Bk) : Bool := ok0 B && okBounds B.bounds B.bounds.length && okRows B.comp B.bounds.length B.orders B.orders.length && okShots B B.shots.length
theorem range_all_succ (p : Nat → Bool) (k : Nat) : (List.range (k + 1)).all p = ((List.range k).all p && p k) := by simp [List.range_succ]
def checkRes (B : Bk) : Int := if validB B then 0 else 20
theorem okShot_1 {B : Bk} {x : Sh} (h1 : 0 ≤ x.st ∧ x.st ≤ (B.orders.length : Int) - 1) (h2 : 0 ≤ x.co ∧ x.co ≤ B.comp - 1) : okShot B x = isSpanB x.lo x.hi := by
  simp [okShot, inB, h1, h2]
theorem okShot_2 {B : Bk} {x : Sh} (h2 : ¬ (0 ≤ x.co ∧ x.co ≤ B.comp - 1)) : okShot B x = false := by
  have : inB x.co 0 (B.comp - 1) = false := by simp [inB]; omega
  simp [okShot, this]
theorem okShot_3 {B : Bk} {x : Sh} (h1 : ¬ (0 ≤ x.st ∧ x.st ≤ (B.orders.length : Int) - 1)) : okShot B x = false := by
  have : inB x.st 0 (B.orders.length - 1) = false := by simp [inB]; omega
  simp [okShot, this]
theorem okNums_succ (g : Bool) (C : Int) (xs : List Int) (k : Nat) : (g && okNums C xs (k + 1)) = ((g && okNums C xs k) && inB (nAt xs k) 0 (C - 1)) := by
  simp [okNums, range_all_succ, Bool.and_assoc]
theorem okRows_succ (g : Bool) (C : Int) (nb : Nat) (os : List (List Int)) (k : Nat) : (g && okRows C nb os (k + 1)) = (((g && okRows C nb os k) && decide ((oAt os k).length = nb + 1)) && okNums C (oAt os k) (oAt os k).length) := by
  simp [okRows, okRow, range_all_succ, Bool.and_assoc]
theorem okShots_succ (g : Bool) (B : Bk) (k : Nat) : (g && okShots B (k + 1)) = ((g && okShots B k) && okShot B (sAt B.shots k)) := by
  simp [okShots, range_all_succ, Bool.and_assoc]
theorem okB_succ (g : Bool) (bs : List (Int × Int)) (k : Nat) : (g && okBounds bs (k + 1)) = ((g && okBounds bs k) && okBound bs k) := by
  simp [okBounds, range_all_succ, Bool.and_assoc]
/-! ### Turns -/
/-- How many of the first k bounds end at or ahead of a minute; how many begin so. -/
def cHi (bs : List (Int × Int)) (m : Int) (k : Nat) : Nat := ((List.range k).filter fun i => decide (bHi bs i ≤ m)).length
def cLo (bs : List (Int × Int)) (m : Int) (k : Nat) : Nat := ((List.range k).filter fun i => decide (bLo bs i ≤ m)).length
theorem cHi_succ (bs : List (Int × Int)) (m : Int) (k : Nat) : cHi bs m (k + 1) = cHi bs m k + if bHi bs k ≤ m then 1 else 0 := by
  by_cases h : bHi bs k ≤ m <;> simp [cHi, List.range_succ, h]
theorem cLo_succ (bs : List (Int × Int)) (m : Int) (k : Nat) : cLo bs m (k + 1) = cLo bs m k + if bLo bs k ≤ m then 1 else 0 := by
  by_cases h : bLo bs k ≤ m <;> simp [cLo, List.range_succ, h]
theorem cHi_le (bs : List (Int × Int)) (m : Int) (k : Nat) : cHi bs m k ≤ k := by
  have := List.length_filter_le (fun i => decide (bHi bs i ≤ m)) (List.range k)
  simpa [cHi] using this
theorem cLo_le (bs : List (Int × Int)) (m : Int) (k : Nat) : cLo bs m k ≤ k := by
  have := List.length_filter_le (fun i => decide (bLo bs i ≤ m)) (List.range k)
  simpa [cLo] using this
/-- The least and the greatest turn at a minute. -/
def tLo (B : Bk) (m : Int) : Nat := cHi B.bounds m B.bounds.length
def tHi (B : Bk) (m : Int) : Nat := cLo B.bounds m B.bounds.length
end Go.Proofs.YtnhdcdhpfgdphaaDoor
