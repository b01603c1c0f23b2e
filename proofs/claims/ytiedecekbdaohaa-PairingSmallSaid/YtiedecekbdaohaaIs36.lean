/- Contract of is of the statements of layer 36. -/
import Derived.Test.YtiedecekbdaohaaPairs
namespace Go.Proofs.Ytiedecekbdaohaa
open Go.RowKit

theorem list_eq_get {α : Type} {a b : List α} (hl : a.length = b.length) (h : ∀ (k : Nat) (x y : α), a[k]? = some x → b[k]? = some y → x = y) : a = b := by
  refine List.ext_getElem hl (fun k h1 h2 => ?_)
  exact h k _ _ (List.getElem?_eq_getElem h1) (List.getElem?_eq_getElem h2)

set_option maxHeartbeats 400000 in
theorem c_is (A : Option Addr) (n cap : Nat) (a : List Pr) (B : Option Addr) (m c : Nat) (b : List Pr) (w : World) (hn : n = a.length) (hm : m = b.length) (hl : a.length ≤ 2^47) (hlb : b.length ≤ 2^47) (hA : SlAt w A (prs a)) (hB : SlAt w B (prs b)) :
    Calls Try.prog 18 #[.slice A n cap, .slice B m c] w (Qt (.bool (decide (a = b))) w) := by
  subst hn hm
  by_cases hab : a.length = b.length
  · have e1 : ((a.length : Int) != (b.length : Int)) = false := by simp; omega
    have Hab := Lib.hid hab
    have Hlt : Hid (∀ k, k < a.length → k < b.length) := fun k hk => by omega
    clear hab
    go_enter Try.func18, Try.ntmps18
    go_wp2_with fail
    go_loopw [5, 13] (fun _ i wr => ∃ k : Nat, k ≤ a.length ∧ i = .int .i64 k ∧ Hid (∃ q, wr = w.drewN q) ∧ Hid (∀ j x y, j < k → a[j]? = some x → b[j]? = some y → x = y)) (fun _ i _ => a.length - (intOf i).toNat)
    case atStart => exact ⟨0, Nat.zero_le _, rfl, ⟨0, rfl⟩, fun j _ _ hj => absurd hj (by omega)⟩
    case round =>
      obtain ⟨k, hk, rfl, HQ, HV⟩ := hrel
      obtain ⟨q0, rfl⟩ := HQ.out
      by_cases hlt : k < a.length
      · have hltb := Hlt.out k hlt
        obtain ⟨ba, oa, xa, ya, rfl, _, hxa, ha1, ha2⟩ := hA.pr_at hlt
        obtain ⟨bb, ob, xb, yb, rfl, _, hxb, hb1, hb2⟩ := hB.pr_at hltb
        have q1 : (0 : Int) ≤ (k : Int) := by omega
        have q2 : (k : Int) < (a.length : Int) := by omega
        have q3 : (k : Int) < (b.length : Int) := by omega
        have Hxa := Lib.hid hxa
        have Hxb := Lib.hid hxb
        clear hxa hxb
        by_cases hne : (xa, ya) = (xb, yb)
        · have e2 : (xa == xb) = true := by injection hne with h1 h2; simpa using h1
          have e3 : (ya == yb) = true := by injection hne with h1 h2; simpa using h2
          have Hv : Hid (∀ j x y, j < k + 1 → a[j]? = some x → b[j]? = some y → x = y) := by
            intro j x y hj hx hy
            by_cases e : j = k
            · subst e
              rw [Hxa.out] at hx
              rw [Hxb.out] at hy
              cases hx; cases hy
              exact hne
            · exact HV.out j x y (by omega) hx hy
          clear hne
          go_wp2_with fail
          go_quiet (fail)
          go_wp2_with fail
          go_roundw
          case rel => exact ⟨k + 1, by omega, by go_num, ⟨_, rfl⟩, Hv.out⟩
          case measure => simp [intOf]; omega
        · have Hr : Hid (decide (a = b) = false) := decide_eq_false (fun h => by
            have h1 := Hxa.out
            rw [h, Hxb.out] at h1
            exact hne (Option.some.inj h1).symm)
          cases e2 : xa == xb
          · clear hne
            go_wp2_with fail
            go_quiet (fail)
            go_wp2_with fail
            go_ret
            exact ⟨ret_bool Hr.out.symm, _, World.drewN_drewN ..⟩
          · have e3 : (ya == yb) = false := by
              simp at e2
              simp
              exact fun h => hne (by rw [e2, h])
            clear hne
            go_wp2_with fail
            go_quiet (fail)
            go_wp2_with fail
            go_ret
            exact ⟨ret_bool Hr.out.symm, _, World.drewN_drewN ..⟩
      · obtain rfl : k = a.length := by omega
        have Hr : Hid (decide (a = b) = true) := decide_eq_true (list_eq_get Hab.out (fun j x y hx hy => HV.out j x y (List.getElem?_eq_some_iff.1 hx).1 hx hy))
        go_wp2_with fail
        go_ret
        exact ⟨ret_bool Hr.out.symm, _, rfl⟩
  · have e1 : ((a.length : Int) != (b.length : Int)) = true := by rw [bne_iff_ne]; omega
    have Hr : Hid (decide (a = b) = false) := decide_eq_false (fun h => hab (by rw [h]))
    clear hab
    go_enter Try.func18, Try.ntmps18
    go_wp2_with fail
    go_ret
    exact ⟨ret_bool Hr.out.symm, 0, rfl⟩
end Go.Proofs.Ytiedecekbdaohaa
