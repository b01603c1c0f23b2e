/- Contracts of the helpers of the statements of layer 36: theirs, ours, few, kept. -/
import Derived.Test.YtiedecekbdaohaaAppendS
import Derived.Test.YtiedecekbdaohaaIs36
import Derived.Test.YtiedecekbdaohaaInts
namespace Go.Proofs.Ytiedecekbdaohaa
open Go.RowKit

theorem info_rpr : (Try.prog.info? 71).map (fun i => (i.zero, i.size, i.bytes)) = some (some (.agg #[.int .i64 0, .int .i64 0]), 2, 16) := by kernel_rfl
theorem prs_take {l : List Pr} {k : Nat} {x y : Int} (h : l[k]? = some (x, y)) : prs (l.take (k + 1)) = prs (l.take k) ++ [.int .i64 x, .int .i64 y] := by
  obtain ⟨h2, h3⟩ := List.getElem?_eq_some_iff.1 h
  rw [List.take_succ_eq_append_getElem h2, prs_append, h3]
  rfl
def RowPost (e : TypeId) (l : List Pr) (w : World) (en : Ending) (w' : World) : Prop :=
  ∃ v, en = .returned v ∧ w'.ownsRow w.heap.size e 2 v l.length (prs l) ∧ Below w.heap.size w w'

set_option maxHeartbeats 1000000 in
theorem c_theirs (A : Option Addr) (n cap : Nat) (l : List Pr) (w : World) (hn : n = l.length) (hl : l.length ≤ 1000000) (hA : SlAt w A (prs l)) :
    Calls Try.prog 17 #[.slice A n cap] w (RowPost 71 l w) := by
  subst hn
  obtain ⟨j0, ji, jz0, jz1, jz2⟩ := info_parts info_rpr
  have HA := Lib.hid hA
  clear hA
  go_enter Try.func17, Try.ntmps17
  go_wp2_with fail
  go_loopw [3, 5, 8] (fun ov _ iv wr => ∃ k : Nat, k ≤ l.length ∧ iv = .int .i64 k ∧ wr.ownsRow w.heap.size 71 2 ov k (prs (l.take k)) ∧ Below w.heap.size w wr) (fun _ _ iv _ => l.length - (intOf iv).toNat)
  case atStart => exact ⟨0, Nat.zero_le _, rfl, own_nil _ _, Below.refl _ _⟩
  case round =>
    obtain ⟨k, hk, rfl, hown, B2⟩ := hrel
    have hsz := B2.size
    by_cases hlt : k < l.length
    · obtain ⟨b, o, x, y, rfl, hb, hx, hca, hcb⟩ := (HA.out.below B2).pr_at hlt
      have Hst := Lib.hid (prs_take hx)
      have HO := Lib.hid hown
      clear hx hown
      go_wp2_with (at_builtin; go_must (refine wpList_append_slS rfl (.tmp 12) (.tmp 14) 30 rfl w.heap.size 71 j0 _ 2 16 Try.underlying30 ji jz0 jz1 jz2 rfl (by omega) _ k (prs (l.take k)) rfl ((HO.out.alloc _).alloc _) (some ⟨wr.heap.size + 1, 0, none⟩) 1 1 [.int .i64 x, .int .i64 y] rfl rfl (sl_litG _ _ _ [.int .i64 x, .int .i64 y] (by simp)) (by simp [Value.oneCell']) (by unfold maxLen; omega) (by omega) (by simp; omega) ?_); intro v2 w2 hown2 hg2 _)
      go_roundw
      case rel => exact ⟨k + 1, by omega, by go_num, by rw [Hst.out]; exact hown2, ((B2.alloc B2.size _).alloc (by simp; omega) _).grown hg2 (by simp; omega) (own_base HO.out)⟩
      case measure => simp [intOf]; omega
    · obtain rfl : k = l.length := by omega
      rw [List.take_of_length_le (Nat.le_refl _)] at hown
      go_wp2_with fail
      go_ret
      exact ⟨_, rfl, hown, B2⟩
set_option maxHeartbeats 1000000 in
theorem c_ours (A : Option Addr) (n cap : Nat) (l : List Pr) (w : World) (hn : n = l.length) (hl : l.length ≤ 1000000) (hA : SlAt w A (prs l)) :
    Calls Try.prog 19 #[.slice A n cap] w (RowPost 39 l w) := by
  subst hn
  obtain ⟨j0, ji, jz0, jz1, jz2⟩ := info_parts info_pr
  have HA := Lib.hid hA
  clear hA
  go_enter Try.func19, Try.ntmps19
  go_wp2_with fail
  go_loopw [3, 5, 8] (fun ov _ iv wr => ∃ k : Nat, k ≤ l.length ∧ iv = .int .i64 k ∧ wr.ownsRow w.heap.size 39 2 ov k (prs (l.take k)) ∧ Below w.heap.size w wr) (fun _ _ iv _ => l.length - (intOf iv).toNat)
  case atStart => exact ⟨0, Nat.zero_le _, rfl, own_nil _ _, Below.refl _ _⟩
  case round =>
    obtain ⟨k, hk, rfl, hown, B2⟩ := hrel
    have hsz := B2.size
    by_cases hlt : k < l.length
    · obtain ⟨b, o, x, y, rfl, hb, hx, hca, hcb⟩ := (HA.out.below B2).pr_at hlt
      have Hst := Lib.hid (prs_take hx)
      have HO := Lib.hid hown
      clear hx hown
      go_wp2_with (at_builtin; go_must (refine wpList_append_slS rfl (.tmp 12) (.tmp 14) 23 rfl w.heap.size 39 j0 _ 2 16 Try.underlying23 ji jz0 jz1 jz2 rfl (by omega) _ k (prs (l.take k)) rfl ((HO.out.alloc _).alloc _) (some ⟨wr.heap.size + 1, 0, none⟩) 1 1 [.int .i64 x, .int .i64 y] rfl rfl (sl_litG _ _ _ [.int .i64 x, .int .i64 y] (by simp)) (by simp [Value.oneCell']) (by unfold maxLen; omega) (by omega) (by simp; omega) ?_); intro v2 w2 hown2 hg2 _)
      go_roundw
      case rel => exact ⟨k + 1, by omega, by go_num, by rw [Hst.out]; exact hown2, ((B2.alloc B2.size _).alloc (by simp; omega) _).grown hg2 (by simp; omega) (own_base HO.out)⟩
      case measure => simp [intOf]; omega
    · obtain rfl : k = l.length := by omega
      rw [List.take_of_length_le (Nat.le_refl _)] at hown
      go_wp2_with fail
      go_ret
      exact ⟨_, rfl, hown, B2⟩
def pFew (n m : Nat) : Bool := (decide (n ≤ 9) || (decide (16 < n) && decide (n < 70))) && decide (m ≤ 60)
set_option maxHeartbeats 1000000 in
theorem c_few (A : Option Addr) (n cap : Nat) (B : Option Addr) (m c : Nat) (w : World) :
    Calls Try.prog 12 #[.slice A n cap, .slice B m c] w (Qt (.bool (pFew n m)) w) := by
  obtain ⟨r, hr⟩ : ∃ r, r = pFew n m := ⟨_, rfl⟩
  rw [← hr]
  have e0 : ∀ a b : Nat, decide ((a : Int) ≤ (b : Int)) = decide (a ≤ b) := fun a b => by simp
  by_cases h1 : n ≤ 9
  case' neg =>
    by_cases h2 : 16 < n
    case' pos => by_cases h3 : n < 70
  all_goals by_cases h4 : m ≤ 60
  all_goals
    have Hr : Hid (r = pFew n m) := hr
    clear hr e0
    unfold pFew at Hr
    try rw [decide_eq_true h1] at Hr
    try rw [decide_eq_false h1] at Hr
    try rw [decide_eq_true h2] at Hr
    try rw [decide_eq_false h2] at Hr
    try rw [decide_eq_true h3] at Hr
    try rw [decide_eq_false h3] at Hr
    try rw [decide_eq_true h4] at Hr
    try rw [decide_eq_false h4] at Hr
    first
      | obtain rfl : r = true := Hr
      | obtain rfl : r = false := Hr
    go_enter Try.func12, Try.ntmps12
    go_wp2_with fail
    all_goals
      go_ret
      first
        | exact ⟨rfl, 0, rfl⟩
        | (refine ⟨ret_bool ?_, 0, rfl⟩; simp; omega)

set_option maxHeartbeats 1000000 in
theorem c_kept (A : Option Addr) (n cap : Nat) (B : Option Addr) (n2 cap2 : Nat) (t : List Int) (C : Option Addr) (m c : Nat) (E : Option Addr) (m2 c2 : Nat) (l : List Pr) (w : World) (hn : n = t.length) (hn2 : n2 = t.length) (hm : m = l.length) (hm2 : m2 = l.length) (ht : t.length ≤ 2^47) (hl : l.length ≤ 2^47)
    (hA : SlAt w A (t.map i64)) (hB : SlAt w B (t.map i64)) (hC : SlAt w C (prs l)) (hE : SlAt w E (prs l)) :
    Calls Try.prog 20 #[.slice A n cap, .slice B n2 cap2, .slice C m c, .slice E m2 c2] w (Frm (.bool true) w) := by
  subst hn hn2
  have HA := Lib.hid hA
  have HB := Lib.hid hB
  have hd : decide (l = l) = true := decide_eq_true rfl
  have HI := Lib.hid (fun W (hb : Below w.heap.size w W) => (show Calls Try.prog 18 #[.slice C m c, .slice E m2 c2] W (Frm (.bool true) W) from (c_is C m c l E m2 c2 l W hm hm2 hl hl (hC.below hb) (hE.below hb)).mono (fun _ _ hh => by rw [hd] at hh; exact Qt.frm hh)))
  clear hd
  clear hA hB hC hE hm hm2
  go_enter Try.func20, Try.ntmps20
  go_wp2_with fail
  go_loopw [9, 12] (fun _ iv wr => ∃ k : Nat, k ≤ t.length ∧ iv = .int .i64 k ∧ Below w.heap.size w wr) (fun _ iv _ => t.length - (intOf iv).toNat)
  case atStart => exact ⟨0, Nat.zero_le _, rfl, Below.refl _ _⟩
  case round =>
    obtain ⟨k, hk, rfl, B2⟩ := hrel
    by_cases hlt : k < t.length
    · obtain ⟨b, o, x, rfl, hb, hx, hca⟩ := (HA.out.below B2).i64_at hlt
      obtain ⟨b2, o2, x2, rfl, hb2, hx2, hcb⟩ := (HB.out.below B2).i64_at hlt
      obtain rfl : x = x2 := by rw [hx] at hx2; injection hx2
      have q1 : (0 : Int) ≤ (k : Int) := by omega
      have q2 : (k : Int) < (t.length : Int) := by omega
      have e1 : (x != x) = false := by simp
      clear hx hx2
      go_wp2_with fail
      go_quiet (fail)
      go_wp2_with fail
      go_roundw
      case rel => exact ⟨k + 1, by omega, by go_num, below_drewN B2 _⟩
      case measure => simp [intOf]; omega
    · obtain rfl : k = t.length := by omega
      go_wp2_with fail
      refine (HI.out _ B2).mono ?_
      rintro e w3 ⟨rfl, k3⟩
      go_wp2_with fail
      go_ret
      exact ⟨rfl, below_step B2 k3⟩
end Go.Proofs.Ytiedecekbdaohaa
