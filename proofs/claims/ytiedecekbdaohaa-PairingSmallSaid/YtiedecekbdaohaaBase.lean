/- Words that all texts of this seat share: three forms of a contract's end, slices that read as lists, masks as natural numbers. -/
import Derived.Test.YtiedecekbdaohaaProg
import Derived.WalkKit
import Derived.WalkSpells
import Derived.WalkLawsBesides
import Derived.Deep.QuietTactic
import Derived.BigQuiet
import Derived.Deep.LoopGhost
import Derived.Lib.Hide
import Derived.Shelf.Abstract
import Derived.Deep.RegionWith
namespace Go.Proofs.Ytiedecekbdaohaa
open Go.RowKit

/-- It returns v; the world is the very same. -/
def Same (v : Value) (w : World) (e : Ending) (w' : World) : Prop := e = .returned v ∧ w = w'
/-- It returns v; the world is the same but for draws. -/
def Qt (v : Value) (w : World) (e : Ending) (w' : World) : Prop := e = .returned v ∧ ∃ q, w' = w.drewN q
/-- It returns v; all that lay lies unturned. -/
def Frm (v : Value) (w : World) (e : Ending) (w' : World) : Prop := e = .returned v ∧ Below w.heap.size w w'

theorem below_drewN {B : Nat} {a w : World} (h : Below B a w) (q : Nat) : Below B a (w.drewN q) := ⟨h.os, h.tape, h.output, h.size, h.block⟩
theorem Qt.frm {v : Value} {w w' : World} {e : Ending} (h : Qt v w e w') : Frm v w e w' := by
  obtain ⟨rfl, q, rfl⟩ := h
  exact ⟨rfl, below_drewN (Below.refl _ _) q⟩
theorem Same.frm {v : Value} {w w' : World} {e : Ending} (h : Same v w e w') : Frm v w e w' := by
  obtain ⟨rfl, rfl⟩ := h
  exact ⟨rfl, Below.refl _ _⟩
theorem Same.qt {v : Value} {w w' : World} {e : Ending} (h : Same v w e w') : Qt v w e w' := by
  obtain ⟨rfl, rfl⟩ := h
  exact ⟨rfl, 0, rfl⟩
theorem hq_drewN {w wr : World} (h : Hid (∃ q, wr = w.drewN q)) (n : Nat) : Hid (∃ q, wr.drewN n = w.drewN q) := by
  obtain ⟨q, rfl⟩ := h.out
  exact ⟨q + n, by rw [World.drewN_drewN]⟩
theorem World.drewN_zero' (w : World) : w.drewN 0 = w := rfl
/-- Two frames in a row, said of the first world. -/
theorem below_step {a b c : World} (h : Below a.heap.size a b) (k : Below b.heap.size b c) : Below a.heap.size a c := h.trans (k.mono h.size)

/-- A quiet callee inside a quiet region. -/
theorem quiet_same {P : Program} {f : FuncId} {args : Array Value} {w : World} {n : Nat} {v : Value}
    (h : Calls P f args (w.drewN n) (Same v (w.drewN n))) : Calls P f args (w.drewN n) fun e w'' => e = .returned v ∧ ∃ m, w'' = w.drewN m :=
  h.mono fun _ _ ⟨he, hm⟩ => ⟨he, n, hm.symm⟩
theorem quiet_qt {P : Program} {f : FuncId} {args : Array Value} {w : World} {n : Nat} {v : Value}
    (h : Calls P f args (w.drewN n) (Qt v (w.drewN n))) : Calls P f args (w.drewN n) fun e w'' => e = .returned v ∧ ∃ m, w'' = w.drewN m :=
  h.mono fun _ _ ⟨he, m, hm⟩ => ⟨he, n + m, by rw [hm, World.drewN_drewN]⟩

def u8 (n : Nat) : Value := .int .u8 n
def i64 (n : Int) : Value := .int .i64 n

/-- Slice address A reads as the cells xs. -/
def SlAt (w : World) (A : Option Addr) (xs : List Value) : Prop :=
  0 < xs.length → ∃ b o, A = some ⟨b, o, none⟩ ∧ b < w.heap.size ∧ ∀ i v, xs[i]? = some v → w.cell? ⟨b, o + i, none⟩ = some v

theorem SlAt.nil_ {w : World} {A : Option Addr} : SlAt w A [] := fun h => absurd h (by simp)
theorem SlAt.below {w w' : World} {A : Option Addr} {xs : List Value} (h : SlAt w A xs) (hb : Below w.heap.size w w') : SlAt w' A xs := by
  intro hl
  obtain ⟨b, o, e, hlt, hc⟩ := h hl
  exact ⟨b, o, e, Nat.lt_of_lt_of_le hlt hb.size, fun i v hv => (hb.cell (p := ⟨b, o + i, none⟩) hlt).trans (hc i v hv)⟩
theorem SlAt.drewN {w : World} {A : Option Addr} {xs : List Value} (h : SlAt w A xs) (q : Nat) : SlAt (w.drewN q) A xs := h
theorem SlAt.alloc {w : World} {A : Option Addr} {xs : List Value} (h : SlAt w A xs) (o : Obj) : SlAt (w.alloc o) A xs :=
  h.below ((Below.refl _ _).alloc (Nat.le_refl _) o)
theorem SlAt.take {w : World} {A : Option Addr} {xs : List Value} (h : SlAt w A xs) (k : Nat) : SlAt w A (xs.take k) := by
  intro hl
  obtain ⟨b, o, e, hlt, hc⟩ := h (by have := List.length_take_le k xs; simp at hl; omega)
  refine ⟨b, o, e, hlt, fun i v hv => hc i v ?_⟩
  rw [List.getElem?_take] at hv
  split at hv
  · exact hv
  · cases hv

theorem SlAt.u8_at {w : World} {A : Option Addr} {l : List Nat} (h : SlAt w A (l.map u8)) {k : Nat} (hk : k < l.length) :
    ∃ b o x, A = some ⟨b, o, none⟩ ∧ b < w.heap.size ∧ l[k]? = some x ∧ w.cell? ⟨b, o + k, none⟩ = some (.int .u8 (x : Nat)) := by
  obtain ⟨b, o, e, hb, hc⟩ := h (by simp; omega)
  exact ⟨b, o, l[k], e, hb, List.getElem?_eq_getElem hk, hc k _ (by simp [hk, u8])⟩
/-- Every cell of it, at one address. -/
theorem SlAt.u8_all {w : World} {A : Option Addr} {l : List Nat} (h : SlAt w A (l.map u8)) (hk : 0 < l.length) :
    ∃ b o, A = some ⟨b, o, none⟩ ∧ b < w.heap.size ∧ ∀ k x, l[k]? = some x → w.cell? ⟨b, o + k, none⟩ = some (.int .u8 (x : Nat)) := by
  obtain ⟨b, o, e, hb, hc⟩ := h (by simp; omega)
  exact ⟨b, o, e, hb, fun k x hk => hc k _ (by simp [hk, u8])⟩
theorem get_some {l : List Nat} {k : Nat} (hk : k < l.length) : ∃ x, l[k]? = some x := ⟨l[k], List.getElem?_eq_getElem hk⟩
theorem getD_some {l : List Nat} {k x : Nat} (h : l[k]? = some x) : l[k]?.getD 0 = x := by rw [h]; rfl

theorem new_cell (w : World) (v : Value) (t : TypeId) : (w.alloc (.cells #[v] t)).cell? ⟨w.heap.size, 0, none⟩ = some v := by
  exact (cell_of_row _ w.heap.size 0 #[v] t (0, 0) (heap_alloc_new w _)).trans rfl
theorem new_frozen (w : World) (v : Value) (t : TypeId) : (w.alloc (.cells #[v] t)).frozen? ⟨w.heap.size, 0, none⟩ = false := by
  have h := heap_alloc_new w (.cells #[v] t)
  unfold World.frozen?
  rw [h]
  rfl
theorem ret_val {a b : Value} (h : a = b) : Ending.returned a = .returned b := by rw [h]
theorem ret_int {k : IntKind} {a b : Int} (h : a = b) : Ending.returned (.int k a) = .returned (.int k b) := by rw [h]
theorem ret_bool {a b : Bool} (h : a = b) : Ending.returned (.bool a) = .returned (.bool b) := by rw [h]
theorem ret_two {a b c d : Value} (h : a = c) (k : b = d) : Ending.returned (.tuple #[a, b]) = .returned (.tuple #[c, d]) := by rw [h, k]
theorem int_eq {k : IntKind} {a b : Int} (h : a = b) : Value.int k a = .int k b := by rw [h]

/-- Called with a byte, function value (g, lb) returns f of it, in whatever later world. -/
def ByteFn (P : Program) (w : World) (g : Nat) (lb : Array Value) (f : Nat → Int) : Prop :=
  ∀ (c : Nat), c < 256 → ∀ W, Below w.heap.size w W → Calls P g (#[Value.int .u8 (c : Int)] ++ lb) W (Qt (.int .i64 (f c)) W)
theorem ByteFn.later {P : Program} {w W : World} {g : Nat} {lb : Array Value} {f : Nat → Int} (h : ByteFn P w g lb f) (hb : Below w.heap.size w W) : ByteFn P W g lb f :=
  fun c hc W' hb' => h c hc W' (below_step hb hb')


/-- Block g is one cell of type t that holds v. -/
def Box (w : World) (g : Nat) (t : TypeId) (v : Value) : Prop := w.heap[g]? = some (.cells #[v] t (0, 0))
section
variable {w w' : World} {g : Nat} {t : TypeId} {v : Value}
theorem Box.lt (h : Box w g t v) : g < w.heap.size := (Array.getElem?_eq_some_iff.1 h).1
theorem Box.cell (h : Box w g t v) : w.cell? ⟨g, 0, none⟩ = some v := (cell_of_row w g 0 #[v] t (0, 0) h).trans rfl
theorem Box.frozen (h : Box w g t v) : w.frozen? ⟨g, 0, none⟩ = false := by
  unfold Box at h
  unfold World.frozen?
  rw [h]
  rfl
theorem Box.new (w : World) (t : TypeId) (v : Value) : Box (w.alloc (.cells #[v] t)) w.heap.size t v := heap_alloc_new w _
theorem Box.drewN (h : Box w g t v) (n : Nat) : Box (w.drewN n) g t v := h
theorem Box.alloc (h : Box w g t v) (o : Obj) : Box (w.alloc o) g t v := (Below.heap_alloc w o g h.lt).trans h
theorem Box.set (h : Box w g t v) (u : Value) : Box (w.setCell ⟨g, 0, none⟩ u) g t u := by
  unfold Box at h ⊢
  simp [World.setCell, Array.getElem?_modify, h]
theorem Box.other (h : Box w g t v) {p : Addr} (hp : g ≠ p.block) (u : Value) : Box (w.setCell p u) g t v := (Below.heap_setCell w p u g hp).trans h
theorem Box.below {B : Nat} (h : Box w g t v) (hb : Below B w w') (hg : g < B) : Box w' g t v := (hb.block g hg).trans h
theorem Box.later (h : Box w g t v) (hb : Below w.heap.size w w') : Box w' g t v := h.below hb h.lt
theorem Box.grown {row : Option Nat} (h : Box w g t v) (hb : w.grownBy w' row) (hg : some g ≠ row) : Box w' g t v := (hb.block g h.lt hg).trans h
end
end Go.Proofs.Ytiedecekbdaohaa
