/- Contract of before of the statements of layer 36. -/
import Derived.Test.YtiedecekbdaohaaBefore36
import Derived.Test.YtiedecekbdaohaaIs36
namespace Go.Proofs.Ytiedecekbdaohaa
open Go.RowKit

theorem find_at {t : List Int} {f : Int → Bool} {j : Nat} {z : Int} (h : ∀ y ∈ t.take j, f y = false) (hz : t[j]? = some z) (hf : f z = true) : t.find? f = some z := by
  obtain ⟨h2, h3⟩ := List.getElem?_eq_some_iff.1 hz
  have e : t = t.take j ++ z :: t.drop (j + 1) := by rw [← h3, List.getElem_cons_drop, List.take_append_drop]
  rw [e, List.find?_append, List.find?_eq_none.2 (fun y hy => by rw [h y hy]; exact Bool.noConfusion), List.find?_cons_of_pos hf]
  rfl
theorem before_drop {t : List Int} {a b : List Pr} {k : Nat} {p q : Pr} (ha : a[k]? = some p) (hb : b[k]? = some q) :
    pBefore t (a.drop k) (b.drop k) = if p = q then pBefore t (a.drop (k + 1)) (b.drop (k + 1)) else match t.find? (fun z => z == p.2 || z == q.2) with
    | some z => z == p.2
    | none => pBefore t (a.drop (k + 1)) (b.drop (k + 1)) := by
  obtain ⟨h2, h3⟩ := List.getElem?_eq_some_iff.1 ha
  obtain ⟨h4, h5⟩ := List.getElem?_eq_some_iff.1 hb
  have e1 : a.drop k = p :: a.drop (k + 1) := by rw [← h3, List.getElem_cons_drop]
  have e2 : b.drop k = q :: b.drop (k + 1) := by rw [← h5, List.getElem_cons_drop]
  rw [e1, e2]
  rfl

set_option maxHeartbeats 1000000 in
theorem c_before (T : Option Addr) (nt ct : Nat) (t : List Int) (A : Option Addr) (n cap : Nat) (a : List Pr) (B : Option Addr) (m c : Nat) (b : List Pr) (w : World) (ht : nt = t.length) (hn : n = a.length) (hm : m = b.length) (hlt : t.length ≤ 2^47) (hl : a.length ≤ 2^47) (hlb : b.length ≤ 2^47) (hab : a.length = b.length) (hT : SlAt w T (t.map i64)) (hA : SlAt w A (prs a)) (hB : SlAt w B (prs b)) :
    Calls Try.prog 26 #[.slice T nt ct, .slice A n cap, .slice B m c] w (Qt (.bool (pBefore t a b)) w) := by
  subst ht hn hm
  have Hlt : Hid (∀ k, k < a.length → k < b.length) := fun k hk => by omega
  have HT := Lib.hid hT
  clear hab hT
  go_enter Try.func26, Try.ntmps26
  go_wp2_with fail
  go_loopw [7, 9, 12] (fun _ _ i wr => ∃ k : Nat, k ≤ a.length ∧ i = .int .i64 k ∧ Hid (∃ q, wr = w.drewN q) ∧ Hid (pBefore t a b = pBefore t (a.drop k) (b.drop k))) (fun _ _ i _ => a.length - (intOf i).toNat)
  case atStart => exact ⟨0, Nat.zero_le _, rfl, ⟨0, rfl⟩, rfl⟩
  case round =>
    obtain ⟨k, hk, rfl, HQ, HV⟩ := hrel
    obtain ⟨q0, rfl⟩ := HQ.out
    by_cases hlt : k < a.length
    · have hltb := Hlt.out k hlt
      obtain ⟨ba, oa, xa, ya, rfl, _, hxa, ha1, ha2⟩ := hA.pr_at hlt
      obtain ⟨bb, ob, xb, yb, rfl, _, hxb, hb1, hb2⟩ := hB.pr_at hltb
      have q1 : (0 : Int) ≤ (k : Int) := by omega
      have q2 : (k : Int) < (a.length : Int) := by omega
      have q3 : (k : Int) < (b.length : Int) := by omega
      have HD := Lib.hid (before_drop (t := t) hxa hxb)
      clear hxa hxb
      by_cases hne : (xa, ya) = (xb, yb)
      · have e2 : (xa == xb) = true := by injection hne with h1 h2; simpa using h1
        have e3 : (ya == yb) = true := by injection hne with h1 h2; simpa using h2
        have HV' : Hid (pBefore t a b = pBefore t (a.drop (k + 1)) (b.drop (k + 1))) := by
          have h := HD.out
          rw [if_pos hne] at h
          exact HV.out.trans h
        clear hne
        go_wp2_with fail
        go_quiet (fail)
        go_wp2_with fail
        go_roundw
        case rel => exact ⟨k + 1, by omega, by go_num, ⟨_, rfl⟩, HV'⟩
        case measure => simp [intOf]; omega
      · have HV' : Hid (pBefore t a b = match t.find? (fun z => z == ya || z == yb) with | some z => z == ya | none => pBefore t (a.drop (k + 1)) (b.drop (k + 1))) := by
          have h := HD.out
          rw [if_neg hne] at h
          exact HV.out.trans h
        have e2 : (xa == xb && ya == yb) = false := by
          rw [Bool.eq_false_iff]
          intro h
          rw [Bool.and_eq_true_iff] at h
          exact hne (by rw [eq_of_beq h.1, eq_of_beq h.2])
        clear hne HD
        cases e4 : xa == xb
        case' true => 
          have e5 : (ya == yb) = false := by rw [e4] at e2; simpa using e2
        all_goals
          clear e2
          go_wp2_with fail
          go_quiet (fail)
          go_wp2_with fail
          go_loopw [9, 26] (fun _ i wr => ∃ j : Nat, j ≤ t.length ∧ i = .int .i64 j ∧ Hid (∃ q, wr = w.drewN q) ∧ Hid (∀ z ∈ t.take j, (z == ya || z == yb) = false)) (fun _ i _ => t.length - (intOf i).toNat)
          case atStart => exact ⟨0, Nat.zero_le _, rfl, ⟨_, rfl⟩, fun z hz => absurd hz (by simp)⟩
          case round =>
            obtain ⟨j, hj, rfl, HQ2, HN⟩ := hrel
            obtain ⟨q1', rfl⟩ := HQ2.out
            by_cases hltj : j < t.length
            · obtain ⟨bt, ot, z, rfl, _, hz, hz1⟩ := HT.out.i64_at hltj
              have Hz := Lib.hid hz
              clear hz
              cases f1 : z == ya
              · cases f2 : z == yb
                · have HN' : Hid (∀ x ∈ t.take (j + 1), (x == ya || x == yb) = false) := by
                    intro x hx
                    obtain ⟨h2, h3⟩ := List.getElem?_eq_some_iff.1 Hz.out
                    rw [List.take_succ_eq_append_getElem h2, h3] at hx
                    rcases List.mem_append.1 hx with hx | hx
                    · exact HN.out x hx
                    · rw [List.mem_singleton] at hx
                      rw [hx, f1, f2]; rfl
                  go_wp2_with fail
                  go_roundw
                  case rel => exact ⟨j + 1, by omega, by go_num, ⟨_, rfl⟩, HN'⟩
                  case measure => simp [intOf]; omega
                · have Hr : Hid (pBefore t a b = false) := by
                    rw [HV'.out, find_at HN.out Hz.out (by rw [f1, f2]; rfl)]
                    exact f1
                  go_wp2_with fail
                  go_ret
                  exact ⟨ret_bool Hr.out.symm, _, rfl⟩
              · have Hr : Hid (pBefore t a b = true) := by
                  rw [HV'.out, find_at HN.out Hz.out (by rw [f1]; rfl)]
                  exact f1
                go_wp2_with fail
                go_ret
                exact ⟨ret_bool Hr.out.symm, _, rfl⟩
            · obtain rfl : j = t.length := by omega
              have Hr : Hid (pBefore t a b = pBefore t (a.drop (k + 1)) (b.drop (k + 1))) := by
                rw [HV'.out, List.find?_eq_none.2 (fun x hx => by rw [HN.out x (by rw [List.take_of_length_le (Nat.le_refl _)]; exact hx)]; exact Bool.noConfusion)]
                rfl
              go_wp2_with fail
              go_roundw
              case rel => exact ⟨k + 1, by omega, by go_num, ⟨_, rfl⟩, Hr⟩
              case measure => simp [intOf]; omega
    · obtain rfl : k = a.length := by omega
      have Hr : Hid (pBefore t a b = false) := by
        rw [HV.out, List.drop_eq_nil_of_le (Nat.le_refl _)]
        rfl
      go_wp2_with fail
      go_ret
      exact ⟨ret_bool Hr.out.symm, _, rfl⟩
end Go.Proofs.Ytiedecekbdaohaa
