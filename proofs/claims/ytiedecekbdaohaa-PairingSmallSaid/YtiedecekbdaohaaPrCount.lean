/- Contract of pairing.Count. -/
import Derived.Test.YtiedecekbdaohaaCounter
namespace Go.Proofs.Ytiedecekbdaohaa
open Go.RowKit

theorem pRight_nodup {t : List Int} {m : List Pr} (h : pRight t m = true) : t.Nodup ∧ ∀ x ∈ t, 1 ≤ x ∧ x ≤ 64 := by
  unfold pRight at h
  have h1 := of_decide_eq_true (Bool.and_eq_true_iff.1 h).1
  have key : ∀ k (hk : k < t.length), numB t[k] = true ∧ t[k] ∉ t.take k := by
    intro k hk
    have := h1 k hk
    rwa [List.getElem?_eq_getElem hk, Option.getD_some] at this
  constructor
  · rw [List.Nodup, List.pairwise_iff_getElem]
    intro i j hi hj hij e
    exact (key j hj).2 (e ▸ List.mem_take_iff_getElem.2 ⟨i, by omega, rfl⟩)
  · intro x hx
    obtain ⟨k, hk, rfl⟩ := List.getElem_of_mem hx
    have := (key k hk).1
    unfold numB at this
    exact of_decide_eq_true this
theorem pWrong_zero {t : List Int} {m : List Pr} (h : pWrong t m = 0) : pRight t m = true ∧ t.length ≤ 16 := by
  unfold pWrong at h
  cases hR : pRight t m with
  | false => rw [hR] at h; simp at h
  | true =>
    rw [hR, if_neg Bool.noConfusion] at h
    refine ⟨rfl, ?_⟩
    by_cases h16 : 16 < t.length
    · rw [if_pos h16] at h; omega
    · omega
theorem pWrong_le (t : List Int) (m : List Pr) : pWrong t m ≤ 5 := by unfold pWrong; split <;> (try split) <;> omega
/-- The error of Count, Nth and Number. -/
def pOdd (t : List Int) (m : List Pr) : Nat := if pWrong t m ≠ 0 then pWrong t m else if t.length % 2 = 1 then 360 else 0
def pCount (t : List Int) (m : List Pr) : Nat := if pOdd t m = 0 then cnt m t else 0
theorem pOdd_wrong {t : List Int} {m : List Pr} (h : pWrong t m ≠ 0) : pOdd t m = pWrong t m ∧ pCount t m = 0 := by
  have e : pOdd t m = pWrong t m := by unfold pOdd; rw [if_pos h]
  exact ⟨e, by unfold pCount; rw [e, if_neg h]⟩
theorem pOdd_odd {t : List Int} {m : List Pr} (h : pWrong t m = 0) (ho : t.length % 2 = 1) : pOdd t m = 360 ∧ pCount t m = 0 := by
  have e : pOdd t m = 360 := by unfold pOdd; rw [if_neg (fun h' => h' h), if_pos ho]
  exact ⟨e, by unfold pCount; rw [e, if_neg (by omega)]⟩
theorem pOdd_ok {t : List Int} {m : List Pr} (h : pWrong t m = 0) (ho : ¬ t.length % 2 = 1) : pOdd t m = 0 ∧ pCount t m = cnt m t := by
  have e : pOdd t m = 0 := by unfold pOdd; rw [if_neg (fun h' => h' h), if_neg ho]
  exact ⟨e, by unfold pCount; rw [if_pos e]⟩

/-- The closure called on all teams, straight behind counter. -/
theorem c_countAll {A : Option Addr} {n cap : Nat} {t : List Int} {B : Option Addr} {m c : Nat} {l : List Pr} (hcap : n ≤ cap) (ht : t.length ≤ 16) (hnd : t.Nodup) (hl : l.length ≤ 2^47) {W : World} {pt pk pm pc mb : Nat} (hE : CEnv W pt pk pm pc mb A n cap t B m c l) (hM : MapI W mb 0 (fun _ => none)) :
    Calls Try.prog 49 #[.slice A n cap, .pointer (some ⟨pt, 0, none⟩), .pointer (some ⟨pk, 0, none⟩), .pointer (some ⟨pm, 0, none⟩), .pointer (some ⟨pc, 0, none⟩)] W (CountPost t l mb 0 t W) :=
  c_count pt pk pm pc mb A n cap t B m c l ht hnd hl t.length t (Nat.le_refl _) (List.Sublist.refl _) W A n cap 0 _ hE.hn hcap hE.hA hE hM (Memo.none t l) (by have := stT_16 t.length ht; omega)

theorem below_map {B : Nat} {w w1 w2 : World} {mb : Nat} (h : Below B w w1) (hB : B ≤ w1.heap.size) (hmb : B ≤ mb) (hg : w1.grownBy w2 (some mb)) : Below B w w2 :=
  h.grown hg hB (fun k hk => by have : mb = k := by simpa using hk
                                omega)

set_option maxHeartbeats 1000000 in
theorem c_Count (A : Option Addr) (n cap : Nat) (t : List Int) (B : Option Addr) (m c : Nat) (l : List Pr) (w : World) (hn : n = t.length) (hcap : n ≤ cap) (ht : t.length ≤ 2^47) (hm : m = l.length) (hl : l.length ≤ 2^47) (hA : SlAt w A (t.map i64)) (hB : SlAt w B (prs l)) :
    Calls Try.prog 21 #[.slice A n cap, .slice B m c] w (Frm (.tuple #[.int .i64 (pCount t l : Nat), .int .i64 (pOdd t l : Nat)]) w) := by
  have H := Lib.hid (c_wrong A n cap t B m c l w hn hcap ht hm hl hA hB)
  have hwl := pWrong_le t l
  have HA := Lib.hid hA
  have HB := Lib.hid hB
  clear hA hB
  by_cases hw : pWrong t l = 0
  · rw [hw] at H
    obtain ⟨hR, h16⟩ := pWrong_zero hw
    obtain ⟨hnd, _⟩ := pRight_nodup hR
    by_cases ho : t.length % 2 = 1
    · obtain ⟨e1, e2⟩ := pOdd_odd hw ho
      rw [e1, e2]
      have h1 : (((n : Int) % 2) == 1) = true := beq_iff_eq.2 (by omega)
      clear e1 e2 hw hR hnd ho hn hm hwl
      go_enter Try.func21, Try.ntmps21
      go_wp2_with (go_at_call 35; refine H.out.mono ?_; rintro e w1 ⟨rfl, k1⟩)
      go_ret2
      exact ⟨rfl, k1⟩
    · obtain ⟨e1, e2⟩ := pOdd_ok hw ho
      rw [e1, e2]
      have h1 : (((n : Int) % 2) == 1) = false := beq_eq_false_iff_ne.2 (by omega)
      have Hn := Lib.hid hn
      have Hm := Lib.hid hm
      clear e1 e2 hw hR ho hn hm hwl
      go_enter Try.func21, Try.ntmps21
      go_wp2_with fail
      refine H.out.mono ?_
      rintro e w1 ⟨rfl, k1⟩
      go_wp2_with fail
      refine (c_counter A n cap t B m c l _ Hn.out Hm.out (HA.out.below k1) (HB.out.below k1)).mono ?_
      rintro e w2 ⟨pt, pk, pm, pc, mb, rfl, hE, hM, hmb, k2⟩
      have HC := Lib.hid (c_countAll hcap h16 hnd hl hE hM)
      clear hE hM
      go_wp2_with fail
      refine HC.out.mono ?_
      rintro e w3 ⟨nb, g, rfl, _, _, _, hG⟩
      go_wp2_with fail
      go_ret2
      exact ⟨rfl, below_map (below_step k1 k2) (by have := k1.size; have := k2.size; omega) (by have := k1.size; omega) hG⟩
  · obtain ⟨e1, e2⟩ := pOdd_wrong hw
    rw [e1, e2]
    generalize pWrong t l = q at *
    have h1 : ((q : Int) != 0) = true := bne_iff_ne.2 (by omega)
    clear e1 e2 hw hn hm
    go_enter Try.func21, Try.ntmps21
    go_wp2_with (go_at_call 35; refine H.out.mono ?_; rintro e w1 ⟨rfl, k1⟩)
    go_ret2
    exact ⟨rfl, k1⟩
end Go.Proofs.Ytiedecekbdaohaa
