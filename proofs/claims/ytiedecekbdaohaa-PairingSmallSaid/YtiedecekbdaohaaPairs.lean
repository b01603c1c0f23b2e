/- Lists of pairs of package pairing: slices of them; number, Met, Right, wrong. -/
import Derived.Test.YtiedecekbdaohaaInts
namespace Go.Proofs.Ytiedecekbdaohaa
open Go.RowKit

abbrev Pr := Int × Int
def prs : List Pr → List Value
  | [] => []
  | p :: l => .int .i64 p.1 :: .int .i64 p.2 :: prs l
theorem prs_len : ∀ l : List Pr, (prs l).length = 2 * l.length
  | [] => rfl
  | p :: l => by unfold prs; simp [prs_len l]; omega
theorem prs_append : ∀ a b : List Pr, prs (a ++ b) = prs a ++ prs b
  | [], _ => rfl
  | p :: a, b => by simp [prs, prs_append a b]
theorem prs_get : ∀ {l : List Pr} {k : Nat} {p : Pr}, l[k]? = some p → (prs l)[k * 2]? = some (.int .i64 p.1) ∧ (prs l)[k * 2 + 1]? = some (.int .i64 p.2)
  | [], k, p, h => by simp at h
  | q :: l, 0, p, h => by simp at h; subst h; simp [prs]
  | q :: l, k + 1, p, h => by
    have := prs_get (l := l) (k := k) (p := p) (by simpa using h)
    rw [show (k + 1) * 2 = k * 2 + 1 + 1 from by omega, show (k * 2 + 1 + 1) + 1 = (k * 2 + 1) + 1 + 1 from rfl]
    simpa [prs] using this
theorem SlAt.pr_all {w : World} {A : Option Addr} {l : List Pr} (h : SlAt w A (prs l)) (hk : 0 < l.length) :
    ∃ b o, A = some ⟨b, o, none⟩ ∧ b < w.heap.size ∧ ∀ k p, l[k]? = some p → w.cell? ⟨b, o + k * 2, none⟩ = some (.int .i64 p.1) ∧ w.cell? ⟨b, o + k * 2 + 1, none⟩ = some (.int .i64 p.2) := by
  obtain ⟨b, o, e, hb, hc⟩ := h (by rw [prs_len]; omega)
  refine ⟨b, o, e, hb, fun k p hk => ?_⟩
  obtain ⟨h1, h2⟩ := prs_get hk
  exact ⟨hc _ _ h1, by have := hc _ _ h2; rwa [← Nat.add_assoc] at this⟩
theorem SlAt.pr_at {w : World} {A : Option Addr} {l : List Pr} (h : SlAt w A (prs l)) {k : Nat} (hk : k < l.length) :
    ∃ b o p q, A = some ⟨b, o, none⟩ ∧ b < w.heap.size ∧ l[k]? = some (p, q) ∧ w.cell? ⟨b, o + k * 2, none⟩ = some (.int .i64 p) ∧ w.cell? ⟨b, o + k * 2 + 1, none⟩ = some (.int .i64 q) := by
  obtain ⟨b, o, e, hb, hc⟩ := h.pr_all (by omega)
  have hx : l[k]? = some l[k] := List.getElem?_eq_getElem hk
  exact ⟨b, o, l[k].1, l[k].2, e, hb, hx, (hc k _ hx).1, (hc k _ hx).2⟩

/-- Is the pair p of teams that met the pair of a and b? -/
def metP (a b : Int) (p : Pr) : Bool := (p.1 == a && p.2 == b) || (p.1 == b && p.2 == a)
def pMet (l : List Pr) (a b : Int) : Bool := l.any (metP a b)
def numB (n : Int) : Bool := decide (1 ≤ n ∧ n ≤ 64)

theorem c_number (n : Int) (w : World) : Calls Try.prog 44 #[.int .i64 n] w (Same (.bool (numB n)) w) := by
  unfold numB
  by_cases h1 : 1 ≤ n
  · by_cases h2 : n ≤ 64
    · have H := Lib.hid (decide_eq_true (p := 1 ≤ n ∧ n ≤ 64) ⟨h1, h2⟩)
      rw [H.out]
      go_enter Try.func44, Try.ntmps44
      go_wp2_with fail
      go_ret
      exact ⟨rfl, rfl⟩
    · have H := Lib.hid (decide_eq_false (p := 1 ≤ n ∧ n ≤ 64) (fun h => h2 h.2))
      rw [H.out]
      go_enter Try.func44, Try.ntmps44
      go_wp2_with fail
      go_ret
      exact ⟨rfl, rfl⟩
  · have H := Lib.hid (decide_eq_false (p := 1 ≤ n ∧ n ≤ 64) (fun h => h1 h.1))
    rw [H.out]
    go_enter Try.func44, Try.ntmps44
    go_wp2_with fail
    go_ret
    exact ⟨rfl, rfl⟩

theorem pMet_hit {l : List Pr} {a b : Int} {k : Nat} {p : Pr} (hp : l[k]? = some p) (h : metP a b p = true) : pMet l a b = true :=
  List.any_eq_true.2 ⟨p, List.mem_of_getElem? hp, h⟩
theorem any_take_succ {α : Type} {l : List α} {f : α → Bool} {k : Nat} {p : α} (hp : l[k]? = some p) (h0 : (l.take k).any f = false) (h : f p = false) : (l.take (k + 1)).any f = false := by
  obtain ⟨hk, rfl⟩ := List.getElem?_eq_some_iff.1 hp
  rw [List.take_succ_eq_append_getElem hk, List.any_append, h0]
  simp [h]

set_option maxHeartbeats 400000 in
theorem c_Met (A : Option Addr) (n cap : Nat) (l : List Pr) (a b : Int) (w : World) (hn : n = l.length) (hl : l.length ≤ 2^47) (h : SlAt w A (prs l)) :
    Calls Try.prog 27 #[.slice A n cap, .int .i64 a, .int .i64 b] w (Frm (.bool (pMet l a b)) w) := by
  subst hn
  go_enter Try.func27, Try.ntmps27
  go_wp2_with fail
  go_loopw [11] (fun i wr => ∃ k : Nat, k ≤ l.length ∧ i = .int .i64 k ∧ Hid ((l.take k).any (metP a b) = false) ∧ Below w.heap.size w wr) (fun i _ => l.length - (intOf i).toNat)
  case atStart => exact ⟨0, Nat.zero_le _, rfl, rfl, Below.refl _ _⟩
  case round =>
    obtain ⟨k, hk, rfl, HV, B⟩ := hrel
    by_cases hlt : k < l.length
    · obtain ⟨bb, o, p, q, rfl, hb, hx, hc1, hc2⟩ := (h.below B).pr_at hlt
      have Hx := Lib.hid hx
      have hsz := B.size
      clear hx
      cases hm : metP a b (p, q) with
      | true =>
        have Hr := Lib.hid (pMet_hit Hx.out hm)
        rw [Hr.out]
        unfold metP at hm
        dsimp only at hm
        cases e1 : p == a <;> cases e2 : q == b <;> cases e3 : p == b <;> cases e4 : q == a <;> rw [e1, e2, e3, e4] at hm <;> first | (exfalso; revert hm; decide) | skip
        all_goals
          clear hm
          go_wp2_with fail
          go_ret
          exact ⟨rfl, B.alloc B.size _⟩
      | false =>
        have Hr := Lib.hid (any_take_succ Hx.out HV.out hm)
        unfold metP at hm
        dsimp only at hm
        cases e1 : p == a <;> cases e2 : q == b <;> cases e3 : p == b <;> cases e4 : q == a <;> rw [e1, e2, e3, e4] at hm <;> first | (exfalso; revert hm; decide) | skip
        all_goals
          clear hm
          go_wp2_with fail
          go_roundw
          case rel => exact ⟨k + 1, by omega, by go_num, Hr.out, B.alloc B.size _⟩
          case measure => simp [intOf]; omega
    · obtain rfl : k = l.length := by omega
      have Hr : Hid (pMet l a b = false) := by have := HV.out; rwa [List.take_length] at this
      go_wp2_with fail
      go_ret
      exact ⟨ret_bool Hr.out.symm, B⟩

def pairBad (p : Pr) : Bool := !numB p.1 || !numB p.2 || p.1 == p.2
/-- The first k numbers are numbers of teams, each once. -/
def tOk (t : List Int) (k : Nat) : Prop := ∀ j, j < k → numB (t[j]?.getD 0) = true ∧ t[j]?.getD 0 ∉ t.take j
def pRight (t : List Int) (m : List Pr) : Bool := decide (∀ j, j < t.length → numB (t[j]?.getD 0) = true ∧ t[j]?.getD 0 ∉ t.take j) && !m.any pairBad
def pWrong (t : List Int) (m : List Pr) : Nat := if pRight t m = false then 2 else if 16 < t.length then 5 else 0
theorem pRight_bad {t : List Int} {m : List Pr} {k : Nat} {x : Int} (hx : t[k]? = some x) (h : ¬ (numB x = true ∧ x ∉ t.take k)) : pRight t m = false := by
  unfold pRight
  obtain ⟨hk, rfl⟩ := List.getElem?_eq_some_iff.1 hx
  rw [decide_eq_false (fun hh => h (by have := hh k hk; rwa [hx] at this)), Bool.false_and]
theorem tOk_succ {t : List Int} {k : Nat} {x : Int} (hx : t[k]? = some x) (h : tOk t k) (h1 : numB x = true) (h2 : x ∉ t.take k) : tOk t (k + 1) := by
  intro j hj
  by_cases e : j = k
  · subst e; rw [hx]; exact ⟨h1, h2⟩
  · exact h j (by omega)
theorem pRight_all {t : List Int} {m : List Pr} (h : tOk t t.length) : pRight t m = !m.any pairBad := by
  unfold pRight
  rw [decide_eq_true (show ∀ j, j < t.length → numB (t[j]?.getD 0) = true ∧ t[j]?.getD 0 ∉ t.take j from h), Bool.true_and]

set_option maxHeartbeats 400000 in
theorem c_right1 (p q : Int) (w : World) :
    Calls Try.prog 46 #[.agg #[.int .i64 p, .int .i64 q]] w (Frm (.bool (pairBad (p, q))) w) := by
  have H1 := Lib.hid (fun W => c_number p W)
  have H2 := Lib.hid (fun W => c_number q W)
  unfold pairBad
  dsimp only
  generalize numB p = x at *
  generalize numB q = y at *
  cases e : p == q <;> cases x <;> cases y
  all_goals
    go_enter Try.func46, Try.ntmps46
    go_wp2_with (first
      | (go_at_call_of 44 (Value.int .i64 p); refine (H1.out _).mono ?_; rintro e w' ⟨rfl, rfl⟩)
      | (go_at_call_of 44 (Value.int .i64 q); refine (H2.out _).mono ?_; rintro e w' ⟨rfl, rfl⟩))
    go_ret
    exact ⟨rfl, (Below.refl _ _).alloc (Nat.le_refl _) _⟩

/-- Some index, at least 0 exactly if b. -/
def SomeIdx (b : Bool) (w : World) (e : Ending) (w' : World) : Prop := ∃ z : Int, decide (0 ≤ z) = b ∧ e = .returned (.int .i64 z) ∧ Below w.heap.size w w'

set_option maxHeartbeats 400000 in
theorem c_indexPair (A : Option Addr) (n cap : Nat) (l : List Pr) (w : World) (hn : n = l.length) (hl : l.length ≤ 2^47) (h : SlAt w A (prs l)) :
    Calls Try.prog 50 #[.slice A n cap, .func (.func 46) #[] #[]] w (SomeIdx (l.any pairBad) w) := by
  subst hn
  go_enter Try.func50, Try.ntmps50
  go_wp2_with fail
  go_loopw [5, 8] (fun _ i wr => ∃ k : Nat, k ≤ l.length ∧ i = .int .i64 k ∧ Hid ((l.take k).any pairBad = false) ∧ Below w.heap.size w wr) (fun _ i _ => l.length - (intOf i).toNat)
  case atStart => exact ⟨0, Nat.zero_le _, rfl, rfl, Below.refl _ _⟩
  case round =>
    obtain ⟨k, hk, rfl, HV, B⟩ := hrel
    by_cases hlt : k < l.length
    · obtain ⟨bb, o, p, q, rfl, hb, hx, hc1, hc2⟩ := (h.below B).pr_at hlt
      have Hx := Lib.hid hx
      have H1 := Lib.hid (c_right1 p q wr)
      have hsz := B.size
      clear hx
      cases hm : pairBad (p, q) with
      | true =>
        rw [hm] at H1
        have Hr := Lib.hid (show l.any pairBad = true from List.any_eq_true.2 ⟨_, List.mem_of_getElem? Hx.out, hm⟩)
        clear hm
        go_wp2_with (go_at_call 46; refine H1.out.mono ?_; rintro e w1 ⟨rfl, k1⟩)
        go_ret
        refine ⟨(k : Int), ?_, rfl, below_step B k1⟩
        rw [Hr.out]
        exact decide_eq_true (by omega)
      | false =>
        rw [hm] at H1
        have Hr := Lib.hid (any_take_succ Hx.out HV.out hm)
        clear hm
        go_wp2_with (go_at_call 46; refine H1.out.mono ?_; rintro e w1 ⟨rfl, k1⟩)
        go_roundw
        case rel => exact ⟨k + 1, by omega, by go_num, Hr.out, below_step B k1⟩
        case measure => simp [intOf]; omega
    · obtain rfl : k = l.length := by omega
      have Hr : Hid (l.any pairBad = false) := by have := HV.out; rwa [List.take_length] at this
      go_wp2_with fail
      go_ret
      refine ⟨-1, ?_, rfl, B⟩
      rw [Hr.out]
      rfl

set_option maxHeartbeats 400000 in
theorem c_badPairs (A : Option Addr) (n cap : Nat) (l : List Pr) (w : World) (hn : n = l.length) (hl : l.length ≤ 2^47) (h : SlAt w A (prs l)) :
    Calls Try.prog 45 #[.slice A n cap, .func (.func 46) #[] #[]] w (Frm (.bool (l.any pairBad)) w) := by
  have H := Lib.hid (c_indexPair A n cap l w hn hl h)
  clear h hn
  generalize l.any pairBad = b at *
  go_enter Try.func45, Try.ntmps45
  go_wp2_with (go_at_call 50; refine H.out.mono ?_; rintro e w1 ⟨z, hz, rfl, k1⟩; have Hz := Lib.hid hz; clear hz)
  go_ret
  exact ⟨ret_bool Hz.out, k1⟩

set_option maxHeartbeats 400000 in
theorem c_Right (A : Option Addr) (n cap : Nat) (t : List Int) (B : Option Addr) (m c : Nat) (l : List Pr) (w : World) (hn : n = t.length) (hcap : n ≤ cap) (ht : t.length ≤ 2^47) (hm : m = l.length) (hl : l.length ≤ 2^47) (hA : SlAt w A (t.map i64)) (hB : SlAt w B (prs l)) :
    Calls Try.prog 29 #[.slice A n cap, .slice B m c] w (Frm (.bool (pRight t l)) w) := by
  subst hn hm
  have H1 := Lib.hid (c_badPairs B l.length c l w rfl hl hB)
  clear hB
  go_enter Try.func29, Try.ntmps29
  go_wp2_with fail
  go_loop [5, 6, 9] (fun _ _ i => ∃ k : Nat, k ≤ t.length ∧ i = .int .i64 k ∧ Hid (tOk t k)) (fun _ _ i => t.length - (intOf i).toNat)
  case atStart => exact ⟨0, Nat.zero_le _, rfl, fun j hj => absurd hj (by omega)⟩
  case round =>
    obtain ⟨k, hk, rfl, HV⟩ := hrel
    by_cases hlt : k < t.length
    · obtain ⟨b, o, x, rfl, hb, hx, hc⟩ := hA.i64_at hlt
      have H2 := Lib.hid (c_number x w)
      have H3 := Lib.hid (c_contains (some ⟨b, o, none⟩) k cap (t.take k) x w (by rw [List.length_take]; omega) (by rw [List.length_take]; omega) (by rw [List.map_take]; exact hA.take k))
      have Hx := Lib.hid hx
      clear hx
      cases hn : numB x with
      | false =>
        rw [hn] at H2
        have Hr := Lib.hid (pRight_bad (m := l) Hx.out (fun hh => by rw [hn] at hh; cases hh.1))
        clear hn
        go_wp2_with (go_at_call 44; refine H2.out.mono ?_; rintro e w1 ⟨rfl, rfl⟩)
        go_ret
        exact ⟨ret_bool Hr.out.symm, Below.refl _ _⟩
      | true =>
        rw [hn] at H2
        cases hh : hasI (t.take k) x with
        | true =>
          rw [hh] at H3
          have Hr := Lib.hid (pRight_bad (m := l) Hx.out (fun h2 => h2.2 (of_decide_eq_true hh)))
          clear hn hh
          go_wp2_with (first
            | (go_at_call 44; refine H2.out.mono ?_; rintro e w1 ⟨rfl, rfl⟩)
            | (go_at_call 37; refine H3.out.mono ?_; rintro e w1 ⟨rfl, rfl⟩))
          go_ret
          exact ⟨ret_bool Hr.out.symm, Below.refl _ _⟩
        | false =>
          rw [hh] at H3
          have Hr := Lib.hid (tOk_succ Hx.out HV.out hn (of_decide_eq_false hh))
          clear hn hh
          go_wp2_with (first
            | (go_at_call 44; refine H2.out.mono ?_; rintro e w1 ⟨rfl, rfl⟩)
            | (go_at_call 37; refine H3.out.mono ?_; rintro e w1 ⟨rfl, rfl⟩))
          go_round
          case rel => exact ⟨k + 1, by omega, by go_num, Hr.out⟩
          case measure => simp [intOf]; omega
    · obtain rfl : k = t.length := by omega
      have Hr := Lib.hid (pRight_all (m := l) HV.out)
      go_wp2_with (go_at_call 45; refine H1.out.mono ?_; rintro e w1 ⟨rfl, k1⟩)
      go_ret
      exact ⟨ret_bool Hr.out.symm, k1⟩

set_option maxHeartbeats 400000 in
theorem c_wrong (A : Option Addr) (n cap : Nat) (t : List Int) (B : Option Addr) (m c : Nat) (l : List Pr) (w : World) (hn : n = t.length) (hcap : n ≤ cap) (ht : t.length ≤ 2^47) (hm : m = l.length) (hl : l.length ≤ 2^47) (hA : SlAt w A (t.map i64)) (hB : SlAt w B (prs l)) :
    Calls Try.prog 35 #[.slice A n cap, .slice B m c] w (Frm (.int .i64 (pWrong t l : Nat)) w) := by
  have H := Lib.hid (c_Right A n cap t B m c l w hn hcap ht hm hl hA hB)
  clear hA hB
  subst hn hm
  cases hR : pRight t l with
  | false =>
    rw [hR] at H
    have Hr : Hid (pWrong t l = 2) := by show pWrong t l = 2; unfold pWrong; rw [if_pos hR]
    clear hR
    go_enter Try.func35, Try.ntmps35
    go_wp2_with (go_at_call 29; refine H.out.mono ?_; rintro e w1 ⟨rfl, k1⟩)
    go_ret
    exact ⟨ret_int (by rw [Hr.out]; rfl), k1⟩
  | true =>
    rw [hR] at H
    by_cases h16 : 16 < t.length
    · have Hr : Hid (pWrong t l = 5) := by show pWrong t l = 5; unfold pWrong; rw [if_neg (by rw [hR]; exact Bool.noConfusion), if_pos h16]
      clear hR
      have e1 : (16 : Int) < (t.length : Int) := by omega
      go_enter Try.func35, Try.ntmps35
      go_wp2_with (go_at_call 29; refine H.out.mono ?_; rintro e w1 ⟨rfl, k1⟩)
      go_ret
      exact ⟨ret_int (by rw [Hr.out]; rfl), k1⟩
    · have Hr : Hid (pWrong t l = 0) := by show pWrong t l = 0; unfold pWrong; rw [if_neg (by rw [hR]; exact Bool.noConfusion), if_neg h16]
      clear hR
      have e1 : ¬ (16 : Int) < (t.length : Int) := by omega
      go_enter Try.func35, Try.ntmps35
      go_wp2_with (go_at_call 29; refine H.out.mono ?_; rintro e w1 ⟨rfl, k1⟩)
      go_ret
      exact ⟨ret_int (by rw [Hr.out]; rfl), k1⟩
end Go.Proofs.Ytiedecekbdaohaa
