/- pairing.nth: plain facts on a draw by its number; what its loops carry. -/
import Derived.Test.YtiedecekbdaohaaPrCount
import Derived.Deep.AppendLies
import Derived.Maps.Range
namespace Go.Proofs.Ytiedecekbdaohaa
open Go.RowKit

theorem drawsTo_pre (m : List Pr) (t : Int) (rest : List Int) (j : Nat) : ∀ d, ∃ tl, drawsTo m t rest (j + d) = drawsTo m t rest j ++ tl
  | 0 => ⟨[], by simp⟩
  | d + 1 => by
    obtain ⟨tl, h⟩ := drawsTo_pre m t rest j d
    refine ⟨tl ++ if pMet m t (rest[j + d]?.getD 0) then [] else (draws m (rest.eraseIdx (j + d))).map fun x => (t, rest[j + d]?.getD 0) :: x, ?_⟩
    rw [← List.append_assoc, ← h]
    rfl
theorem draws_at {m : List Pr} {t : Int} {rest : List Int} {j i : Nat} (hj : j ≤ rest.length) (hi : i < cntTo m t rest j) : (draws m (t :: rest))[i]? = (drawsTo m t rest j)[i]? := by
  obtain ⟨tl, h⟩ := drawsTo_pre m t rest j (rest.length - j)
  rw [draws_cons, show rest.length = j + (rest.length - j) from by omega, h, List.getElem?_append_left hi]
/-- The draw with this number begins with the pair. -/
theorem nth_take {m : List Pr} {t x : Int} {rest : List Int} {j k : Nat} {d : List Pr} (hx : rest[j]? = some x) (hm : pMet m t x = false) (hk : k < cnt m (rest.eraseIdx j)) (hd : (draws m (t :: rest))[cntTo m t rest j + k]? = some d) :
    ∃ d', (draws m (rest.eraseIdx j))[k]? = some d' ∧ d = (t, x) :: d' := by
  have hj : j < rest.length := (List.getElem?_eq_some_iff.1 hx).1
  rw [draws_at (j := j + 1) (by omega) (by rw [cntTo_no hx hm]; omega)] at hd
  have e : drawsTo m t rest (j + 1) = drawsTo m t rest j ++ (draws m (rest.eraseIdx j)).map fun d => (t, x) :: d := by
    show drawsTo m t rest j ++ _ = _
    rw [hx, Option.getD_some, if_neg (by rw [hm]; exact Bool.noConfusion)]
  rw [e, List.getElem?_append_right (by unfold cntTo; omega)] at hd
  unfold cntTo at hd
  rw [Nat.add_sub_cancel_left, List.getElem?_map] at hd
  cases hq : (draws m (rest.eraseIdx j))[k]? with
  | none => rw [hq] at hd; cases hd
  | some d' => rw [hq] at hd; cases hd; exact ⟨d', rfl, rfl⟩
theorem nth_end {m : List Pr} {t : Int} {rest : List Int} {k : Nat} {d : List Pr} (hd : (draws m (t :: rest))[cntTo m t rest rest.length + k]? = some d) : False := by
  have := (List.getElem?_eq_some_iff.1 hd).1
  rw [draws_cons] at this
  unfold cntTo at this
  omega
/-- What is to come of a draw. -/
def Rest (m : List Pr) (left : List Int) (i : Nat) (outl res : List Pr) : Prop := ∃ d, (draws m left)[i]? = some d ∧ res = outl ++ d

/-- The value does not lie in the slice's block. -/
def ApartV (A : Option Addr) (v : Value) : Prop := ∀ b o, A = some ⟨b, o, none⟩ → v.ownBlock ≠ some b
/-- What lies in memory while a draw is made: the closure's environment, the map, what is left, what has been collected. -/
structure NSt (w w3 : World) (pt pk pm pc mb : Nat) (A : Option Addr) (n cap : Nat) (t : List Int) (B : Option Addr) (m c : Nat) (l : List Pr) (ov : Value) (outl : List Pr) (A3 : Option Addr) (left : List Int) (wr : World) (nb : Nat) (g : Int → Option Int) : Prop where
  hE3 : CEnv w3 pt pk pm pc mb A n cap t B m c l
  hm3 : MapAt w3 mb
  hG : w3.grownBy wr (some mb)
  hM : MapI wr mb nb g
  hMm : Memo t l g
  hS : SlAt wr A3 (left.map i64)
  hO : wr.ownsRow w3.heap.size 39 2 ov outl.length (prs outl)
  hA : ApartV A3 ov
  hB3 : Below w.heap.size w w3
  hwb : w.heap.size ≤ mb
theorem MapAt.lt {w : World} {b : Nat} (h : MapAt w b) : b < w.heap.size := by
  obtain ⟨es, c, h⟩ := h
  exact (Array.getElem?_eq_some_iff.1 h).1
theorem own_mono {w : World} {base base' : Nat} {e : TypeId} {size : Nat} {v : Value} {n : Nat} {xs : List Value} (h : w.ownsRow base e size v n xs) (hb : base' ≤ base) : w.ownsRow base' e size v n xs :=
  ⟨h.1, h.2.imp id fun ⟨g, cap, cur, h1, h2, h3⟩ => ⟨g, cap, cur, h1, Nat.le_trans hb h2, h3⟩⟩
theorem SlAt.keptRow {w w' : World} {A : Option Addr} {xs : List Value} {row : Option Nat} (h : SlAt w A xs) (hg : w.grownBy w' row) (hne : ∀ b o, A = some ⟨b, o, none⟩ → row ≠ some b) : SlAt w' A xs := by
  intro hl
  obtain ⟨b, o, e, hlt, hc⟩ := h hl
  exact ⟨b, o, e, Nat.lt_of_lt_of_le hlt hg.size, fun i v hv => hg.cell (hc i v hv) (fun hh => hne b o e hh.symm)⟩
section
variable {w w3 : World} {pt pk pm pc mb : Nat} {A : Option Addr} {n cap : Nat} {t : List Int} {B : Option Addr} {m c : Nat} {l : List Pr} {ov : Value} {outl : List Pr} {A3 : Option Addr} {left : List Int} {wr w2 : World} {nb nb2 : Nat} {g g2 : Int → Option Int}
theorem NSt.hE (h : NSt w w3 pt pk pm pc mb A n cap t B m c l ov outl A3 left wr nb g) : CEnv wr pt pk pm pc mb A n cap t B m c l := h.hE3.grown h.hm3 h.hG
theorem NSt.hB (h : NSt w w3 pt pk pm pc mb A n cap t B m c l ov outl A3 left wr nb g) : Below w.heap.size w wr := below_map h.hB3 h.hB3.size h.hwb h.hG
theorem NSt.ne (h : NSt w w3 pt pk pm pc mb A n cap t B m c l ov outl A3 left wr nb g) : ov.ownBlock ≠ some mb := by
  intro e
  have := (h.hO.lt mb e).1
  have := h.hm3.lt
  omega
theorem NSt.map (h : NSt w w3 pt pk pm pc mb A n cap t B m c l ov outl A3 left wr nb g) (hg : wr.grownBy w2 (some mb)) (hM : MapI w2 mb nb2 g2) (hMm : Memo t l g2) : NSt w w3 pt pk pm pc mb A n cap t B m c l ov outl A3 left w2 nb2 g2 :=
  ⟨h.hE3, h.hm3, h.hG.trans hg, hM, hMm, h.hS.kept h.hM.block hg, h.hO.kept hg (.inr h.ne), h.hA, h.hB3, h.hwb⟩
theorem NSt.below (h : NSt w w3 pt pk pm pc mb A n cap t B m c l ov outl A3 left wr nb g) (hb : Below wr.heap.size wr w2) : NSt w w3 pt pk pm pc mb A n cap t B m c l ov outl A3 left w2 nb g :=
  h.map (grown_below hb _) (h.hM.later hb) h.hMm
/-- A pair has been put to what has been collected; another list is left. -/
theorem NSt.put (h : NSt w w3 pt pk pm pc mb A n cap t B m c l ov outl A3 left wr nb g) {ov' : Value} {outl' : List Pr} {A6 : Option Addr} {left' : List Int} (hg : wr.grownBy w2 ov.ownBlock) (hO : w2.ownsRow w3.heap.size 39 2 ov' outl'.length (prs outl'))
    (hS : SlAt wr A6 (left'.map i64)) (hA : ∀ b o, A6 = some ⟨b, o, none⟩ → ov.ownBlock ≠ some b) (hA' : ApartV A6 ov') : NSt w w3 pt pk pm pc mb A n cap t B m c l ov' outl' A6 left' w2 nb g :=
  ⟨h.hE3, h.hm3, h.hG.andThen hg (fun j hj => .inl (h.hO.lt j hj).1), h.hM.kept hg (fun e => h.ne e.symm), h.hMm, hS.keptRow hg hA, hO, hA', h.hB3, h.hwb⟩
end
def nthE (m : List Pr) (t : List Int) (k : Int) : Nat := if 0 ≤ k ∧ k < (cnt m t : Int) then 0 else 6
def nthR (m : List Pr) (t : List Int) (k : Int) : List Pr := if 0 ≤ k ∧ k < (cnt m t : Int) then (draws m t)[k.toNat]?.getD [] else []
def NthPost (m : List Pr) (t : List Int) (k : Int) (w : World) (e : Ending) (w' : World) : Prop :=
  ∃ v, e = .returned (.tuple #[v, .int .i64 (nthE m t k : Nat)]) ∧ w'.ownsRow w.heap.size 39 2 v (nthR m t k).length (prs (nthR m t k)) ∧ Below w.heap.size w w'
theorem info_pr : (Try.prog.info? 39).map (fun i => (i.zero, i.size, i.bytes)) = some (some (.agg #[.int .i64 0, .int .i64 0]), 2, 16) := by kernel_rfl
def lenV : Value → Nat
  | .slice _ n _ => n
  | _ => 0
end Go.Proofs.Ytiedecekbdaohaa
