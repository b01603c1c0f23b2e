/- A map from int to int that the call made, as a function from numbers to numbers that may be missing; what is kept while only its block is written. -/
import Derived.Test.YtiedecekbdaohaaInts
import Derived.Maps.OwnSet
import Derived.Maps.OwnOps
import Derived.Maps.AppendAt
namespace Go.Proofs.Ytiedecekbdaohaa
open Go.RowKit

theorem zeroI (w : World) : (zeroValue 3).run Try.prog w = .ok (.int .i64 0) w := by kernel_rfl
theorem keyI : Maps.Keyed Try.prog 3 := Maps.int_keyed Try.underlying3
def inI (k : Int) : Prop := -9223372036854775808 ≤ k ∧ k ≤ 9223372036854775807
theorem wfI {k : Int} (h : inI k) : (Lit.int .i64 k).wf = true := by
  unfold inI at h
  simp [Lit.wf, IntKind.min, IntKind.max, IntKind.signed, IntKind.bits]
  exact h
theorem wfI_inv {k : Int} (h : (Lit.int .i64 k).wf = true) : inI k := by
  unfold inI
  simp [Lit.wf, IntKind.min, IntKind.max, IntKind.signed, IntKind.bits] at h
  exact h
theorem keyOfI {k : Int} (h : inI k) : keyOf Try.prog 3 (.int .i64 k) = some (.int .i64 k) :=
  Maps.keyOf_int_mk Try.underlying3 (wfI h)
/-- Block b is a map. -/
def MapAt (w : World) (b : Nat) : Prop := ∃ es clock, w.heap[b]? = some (.map es clock)
/-- The map in block b has at most n entries, and reads as g. -/
def MapI (w : World) (b n : Nat) (g : Int → Option Int) : Prop :=
  ∃ D : DataW Unit, w.ownsMap Try.prog 3 (plainElem Try.prog 3) b n D ∧ (∀ k, inI k → Maps.has D (.int .i64 k) = (g k).isSome ∧ D.atKey (.int .i64 k) (.lit (.int .i64 0)) = .lit (.int .i64 ((g k).getD 0)))
theorem MapI.made (w : World) : MapI (w.alloc (.map #[] 0)) w.heap.size 0 (fun _ => none) :=
  ⟨.map [], World.ownsMap_made _ _ _ _, fun k _ => ⟨rfl, rfl⟩⟩
section
variable {w w' : World} {b n : Nat} {g : Int → Option Int}
theorem MapI.lt (h : MapI w b n g) : b < w.heap.size := by obtain ⟨D, h, _⟩ := h; exact h.lt
theorem MapI.kept {row : Option Nat} (h : MapI w b n g) (hg : w.grownBy w' row) (hne : some b ≠ row) : MapI w' b n g := by
  obtain ⟨D, h, hh⟩ := h
  exact ⟨D, h.kept hg hne, hh⟩
theorem MapI.alloc (h : MapI w b n g) (o : Obj) : MapI (w.alloc o) b n g := by
  obtain ⟨D, h, hh⟩ := h
  exact ⟨D, h.alloc o, hh⟩
theorem MapI.drew (h : MapI w b n g) : MapI w.drew b n g := by
  obtain ⟨D, h, hh⟩ := h
  exact ⟨D, h.drew, hh⟩
theorem MapI.setCell (h : MapI w b n g) {a : Addr} (ha : b ≠ a.block) (u : Value) : MapI (w.setCell a u) b n g := by
  obtain ⟨D, h, hh⟩ := h
  exact ⟨D, h.setCell ha u, hh⟩
theorem MapI.later (h : MapI w b n g) (hb : Below w.heap.size w w') : MapI w' b n g :=
  h.kept (row := none) ⟨hb.os, hb.tape, hb.output, hb.size, fun i hi _ => hb.block i hi⟩ (by simp)
theorem MapI.mono (h : MapI w b n g) {n' : Nat} (hn : n ≤ n') : MapI w b n' g := by
  obtain ⟨D, h, hh⟩ := h
  exact ⟨D, h.mono hn, hh⟩
theorem MapI.block (h : MapI w b n g) : MapAt w b := by
  obtain ⟨D, ⟨es, clock, hb, _⟩, _⟩ := h
  exact ⟨_, _, hb⟩
theorem MapI.look_ok (h : MapI w b n g) {k : Int} (hk : inI k) :
    (Instr.lookup 76 (.map (some b)) (.int .i64 k) true).run Try.prog w = .ok (.tuple #[.int .i64 ((g k).getD 0), .bool (g k).isSome]) w := by
  obtain ⟨D, h, hh⟩ := h
  have hw0 : (Lit.int .i64 0).wf = true := by decide
  obtain ⟨v, ps, hrun, hv⟩ := h.look_ok keyI Try.underlying76 (zeroI w) (plainElem_int Try.underlying3 hw0) (keyOfI hk)
  obtain ⟨h1, h2⟩ := hh k hk
  rw [h2] at hv
  obtain ⟨c, rfl, hc, _⟩ := plainElem_int_inv Try.underlying3 hv
  have hc1 : (g k).getD 0 = c ∧ ps = [] := by simpa using hc
  have hc' := hc1.1
  rw [hrun, h1, hc']
theorem MapI.look (h : MapI w b n g) {k : Int} (hk : inI k) :
    (Instr.lookup 76 (.map (some b)) (.int .i64 k) false).run Try.prog w = .ok (.int .i64 ((g k).getD 0)) w := by
  obtain ⟨D, h, hh⟩ := h
  obtain ⟨c, hrun, hat, _⟩ := h.lookup_int keyI Try.underlying76 Try.underlying3 (zeroI w) (keyOfI hk)
  obtain ⟨_, h2⟩ := hh k hk
  rw [h2] at hat
  have hc' : (g k).getD 0 = c := by simpa using hat
  rw [hrun, hc']
/-- g with v at k. -/
def upd (g : Int → Option Int) (k v : Int) : Int → Option Int := fun x => if x = k then some v else g x
theorem MapI.update (h : MapI w b n g) (hn : n < 1000000000000) {k v : Int} (hk : inI k) (hv : inI v) :
    ∃ w', (Instr.mapUpdate 76 (.map (some b)) (.int .i64 k) (.int .i64 v)).run Try.prog w = .ok () w' ∧ MapI w' b (n + 1) (upd g k v) ∧ w.grownBy w' (some b) := by
  obtain ⟨D, h, hh⟩ := h
  have hI := h.isMap
  obtain ⟨w', hrun, h1, h2⟩ := h.update keyI Try.underlying76 (by unfold maxLen; omega) (keyOfI hk) (plainElem_int Try.underlying3 (wfI hv))
  refine ⟨w', hrun, ⟨_, h1, fun x hx => ?_⟩, h2⟩
  have hkl : WideAt.IsKeyLit (.int .i64 k) := keyI.key (keyOfI hk)
  unfold upd
  by_cases e : x = k
  · subst e
    rw [if_pos rfl]
    exact ⟨Maps.has_put_same hI hkl _, Maps.atKey_put_same hI hkl _ _⟩
  · rw [if_neg e]
    have hne : (Lit.int .i64 x) ≠ (Lit.int .i64 k) := fun hh => e (by injection hh)
    rw [Maps.has_put_other hne, Maps.atKey_put_other hne]
    exact hh x hx
end
theorem wpList_mapI_update {w : World} {ops : Array Oper} {rest : List Oper} {o : Oper} {a : Act} {Q : Exit → Act → World → Prop} (hgd : o.guard = none) (m x v : Operand)
    (hop : o.op = Op.mapUpdate 76 m x v) {b n : Nat} {g : Int → Option Int} (h : MapI w b n g) (hn : n < 1000000000000) (hm : a.eval m = .map (some b)) (k u : Int) (hx : a.eval x = .int .i64 k) (hu : a.eval v = .int .i64 u) (hk : inI k) (hv : inI u)
    (hK : ∀ w', MapI w' b (n + 1) (upd g k u) → w.grownBy w' (some b) → wpList Try.prog ops Q rest (a.put o.dst undef) w') : wpList Try.prog ops Q (o :: rest) a w := by
  refine wpList_plain hgd fun K' hK' => ?_
  obtain ⟨w', hrun, h1, h2⟩ := h.update hn hk hv
  unfold Oper.wp
  simp [execOp, hop, hm, hx, hu, hrun, Result.andThen]
  exact hK' _ _ (hK w' h1 h2)
/-- A slice does not lie in a map's block. -/
theorem SlAt.kept {w w' : World} {A : Option Addr} {xs : List Value} {b : Nat} (h : SlAt w A xs) (hb : MapAt w b) (hg : w.grownBy w' (some b)) : SlAt w' A xs := by
  intro hl
  obtain ⟨g, o, e, hlt, hc⟩ := h hl
  have hne : g ≠ b := by
    rintro rfl
    obtain ⟨es, clock, ho⟩ := hb
    have h0 := hc 0 (xs[0]) (List.getElem?_eq_getElem hl)
    unfold World.cell? at h0
    dsimp only at h0
    rw [ho] at h0
    cases h0
  refine ⟨g, o, e, Nat.lt_of_lt_of_le hlt hg.size, fun i v hv => ?_⟩
  exact hg.cell (hc i v hv) (by simpa using hne)
theorem Box.keptMap {w w' : World} {g b : Nat} {t : TypeId} {v : Value} (h : Box w g t v) (hb : MapAt w b) (hg : w.grownBy w' (some b)) : Box w' g t v := by
  refine h.grown hg (fun e => ?_)
  obtain ⟨es, clock, ho⟩ := hb
  obtain rfl : g = b := by injection e
  unfold Box at h
  rw [h] at ho
  cases ho
theorem grown_below {w w' : World} (hb : Below w.heap.size w w') (row : Option Nat) : w.grownBy w' row :=
  ⟨hb.os, hb.tape, hb.output, hb.size, fun i hi _ => hb.block i hi⟩
end Go.Proofs.Ytiedecekbdaohaa
