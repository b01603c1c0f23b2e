/- A range over an iterator of one value, at the wide fence, for a body that goes on to the end; the cards of a mask. -/
import Derived.Test.YtabejgcpihacpaaBits
import Derived.RangeFuncNested
import Derived.RangeFuncBound
import Derived.RangeFuncCalls
import Derived.RangeFuncLeaves
import Derived.RangeFuncBox
import Derived.Shelf.RegionOpen
import Derived.OwnWalkIn
import Derived.TacticsInMore
import Derived.LoopNIn
import Derived.LoopIn
import Derived.Maps.AppendAt
namespace Go.Proofs.Ytabejgcpihacpaa
open Go.RowKit Go.Shelf
attribute [local go_sem] Oper.semAt_some


theorem Box.kept {w w' : World} {g : Nat} {t : TypeId} {v : Value} {row : Option Nat} (h : Box w g t v) (hg : w.grownBy w' row) (hr : ∀ r, row = some r → ∃ o : Obj, w.heap[r]? = some o ∧ o.isCells = false) : Box w' g t v :=
  h.grown hg (fun e => by
    obtain ⟨o, ho, hc⟩ := hr g e.symm
    unfold Box at h
    rw [h] at ho
    cases ho
    cases hc)

theorem below_step2 {n : Nat} {a b c : World} (h : Below n a b) (k : Below b.heap.size b c) (hn : n ≤ b.heap.size := by omega) : Below n a c := h.trans (k.mono hn)
theorem keepsFrom_below {B : Nat} {W W' : World} (h : Below W.heap.size W W') : KeepsFrom B W W' :=
  ⟨h.size, fun k _ _ hk _ => (h.block k (Array.getElem?_eq_some_iff.1 hk).1).trans hk⟩

/-- Block p lies as it lay. -/
def KeepB (p : Nat) (A B : World) : Prop := B.heap[p]? = A.heap[p]?
theorem KeepB.refl (p : Nat) (A : World) : KeepB p A A := rfl
theorem KeepB.trans {p : Nat} {A B C : World} (h : KeepB p A B) (k : KeepB p B C) : KeepB p A C := Eq.trans k h
theorem KeepB.below {p n : Nat} {A B : World} (h : Below n A B) (hp : p < n) : KeepB p A B := h.block p hp
theorem KeepB.setCell {p : Nat} (A : World) {a : Addr} (h : p ≠ a.block) (v : Value) : KeepB p A (A.setCell a v) := Below.heap_setCell A a v p h
theorem KeepB.box {p : Nat} {A B : World} {t : TypeId} {v : Value} (h : KeepB p A B) (hb : Box A p t v) : Box B p t v := Eq.trans h hb
theorem keepB_b {p : Nat} {w : World} (hp : p < w.heap.size) (W : World) (l : Nat) (o o' : Obj) (hl : w.heap.size ≤ l) (h : W.heap[l]? = some o) (_ : o.isCells = false) (_ : o.isWalk = false) : KeepB p W (W.putObj l o') :=
  (belowK_b (n₀ := w.heap.size) (w := w) (Nat.le_refl _) W l o o' hl h ‹_› ‹_›).block p hp

/-- What an iterator of one value says, at the wide fence: it reads block p; all of S comes, at most N values. -/
def ItSeq (P : Program) (g : Nat) (lb : Array Value) (p : Nat) {α : Type} (enc : α → Value) (S : List α → Prop) (N : Nat) (w : World) : Prop :=
  ∀ n, 1 ≤ n → SeqStopsK Fence.wide n P g lb (fun x => #[enc x]) (KeepB p) S (fun _ => True) N w

/-- How a round's body ends: it goes on. -/
def roundPost {α : Type} (B p : Nat) (I : List α → World → Prop) (xs : List α) (W : World) : Exit → Act → World → Prop
  | .normal, _, W' => KeepsFrom B W W' ∧ KeepB p W W' ∧ I xs W'
  | _, _, _ => False

theorem wpIn_range_all {P : Program} {α : Type} {g : Operand} {p s : Nat} {assign body : Code} {Q : Exit → Act → World → Prop} {a : Act} {w w0 : World} {gf : Nat} {lb : Array Value} {bp : Nat}
    {enc : α → Value} {S : List α → Prop} {N : Nat}
    (hg : a.eval g = .func (.func gf) #[] lb) (eg : ∀ args w, (callFunc gf args).run P w = .ok (.enter gf args) w)
    (hseq : ItSeq P gf lb bp enc S N w0) (hb0 : Below w0.heap.size w0 w) (hbp : bp < w.heap.size)
    (I : List α → World → Prop) (hI : OwnFrom w.heap.size I) (h0 : I [] w)
    (hassign : ∀ (l : Nat) (v : Value) (W : World) (K : Act → World → Prop), K { tmps := (a.tmps.setIfInBounds p v).setIfInBounds s v, defers := [] } W →
      assign.wpIn (Fence.wide.inRound l) 8 P (Exit.then K (fun _ _ _ => False)) { tmps := a.tmps.setIfInBounds p v, defers := [] } W)
    (hbody : ∀ (l : Nat) (pre : List α) (x : α) (W : World), I pre W → pre.length < N →
      body.wpIn (Fence.wide.inRound l) 8 P (roundPost w.heap.size bp I (pre ++ [x]) W) { tmps := (a.tmps.setIfInBounds p (enc x)).setIfInBounds s (enc x), defers := [] } W)
    (hdone : ∀ (D : Nat) (xs : List α) (W : World), w.heap.size ≤ D → S xs → I xs W → W.heap[D]? = some (.deferred (some [])) →
      Q .normal { a with defers := { target := .collected D, args := #[] } :: a.defers } W) :
    (Code.rangeFunc g #[p] assign body).wpIn Fence.wide 10 P Q a w := by
  refine wpIn_rangeFunc_ownG rfl (by omega) hg trivial eg (hseq 9 (by omega)) KeepB.trans (keepB_b hbp) hb0 (fun _ => rfl) I (fun _ _ _ => False) hI (fun _ _ _ _ _ hs _ _ => hs) h0
    (fun x => { tmps := (a.tmps.setIfInBounds p (enc x)).setIfInBounds s (enc x), defers := [] }) ?_ ?_ hdone (fun _ _ _ _ _ _ h _ => h.elim)
  · intro l x W K hK
    have h := hassign l (enc x) W K hK
    simpa using h
  · intro l pre x W hi hlen
    refine wpIn_mono (hbody l pre x W hi hlen) ?_
    intro e a' W' h
    cases e <;> first | exact h | exact h.elim

/-- A card of mask h. -/
abbrev CardOf (h : Nat) := { c : Nat // c < 52 ∧ h.testBit c = true }
/-- The cards of a mask below k, in order. -/
def cardsTo (h : Nat) : Nat → List Nat
  | 0 => []
  | k + 1 => if h.testBit k then cardsTo h k ++ [k] else cardsTo h k
def cardsOf (h : Nat) : List Nat := cardsTo h 52
theorem cardsTo_yes {h k : Nat} (hk : h.testBit k = true) : cardsTo h (k + 1) = cardsTo h k ++ [k] := by
  conv => lhs; unfold cardsTo
  rw [if_pos hk]
theorem cardsTo_no {h k : Nat} (hk : h.testBit k = false) : cardsTo h (k + 1) = cardsTo h k := by
  conv => lhs; unfold cardsTo
  rw [if_neg (by rw [hk]; exact Bool.noConfusion)]
theorem cardsTo_len (h : Nat) : ∀ k, (cardsTo h k).length ≤ k
  | 0 => Nat.le_refl _
  | k + 1 => by
    have := cardsTo_len h k
    unfold cardsTo
    split
    · simp; omega
    · omega
theorem mem_cardsTo {h : Nat} {c : Nat} : ∀ {k}, c ∈ cardsTo h k ↔ c < k ∧ h.testBit c = true
  | 0 => by simp [cardsTo]
  | k + 1 => by
    unfold cardsTo
    split
    · rename_i hk
      rw [List.mem_append, mem_cardsTo]
      constructor
      · rintro (⟨h1, h2⟩ | h1)
        · exact ⟨by omega, h2⟩
        · rw [List.mem_singleton] at h1; subst h1; exact ⟨by omega, hk⟩
      · rintro ⟨h1, h2⟩
        by_cases e : c = k
        · subst e; exact .inr (by simp)
        · exact .inl ⟨by omega, h2⟩
    · rename_i hk
      rw [mem_cardsTo]
      constructor
      · rintro ⟨h1, h2⟩; exact ⟨by omega, h2⟩
      · rintro ⟨h1, h2⟩
        refine ⟨?_, h2⟩
        rcases Nat.lt_or_ge c k with h3 | h3
        · exact h3
        · obtain rfl : c = k := by omega
          exact absurd h2 hk

end Go.Proofs.Ytabejgcpihacpaa
