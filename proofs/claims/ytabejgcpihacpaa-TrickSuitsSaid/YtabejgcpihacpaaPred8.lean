/- slices.IndexFunc and slices.ContainsFunc at uint8, over any predicate that says what it returns. -/
import Derived.Test.YtabejgcpihacpaaTkA
namespace Go.Proofs.Ytabejgcpihacpaa
open Go.RowKit

/-- Called with a byte, function value (g, lb) returns f of it, in whatever later world. -/
def BytePred (P : Program) (w : World) (g : Nat) (lb : Array Value) (f : Nat → Bool) : Prop :=
  ∀ (c : Nat), c < 256 → ∀ W, Below w.heap.size w W → Calls P g (#[Value.int .u8 (c : Int)] ++ lb) W (Qt (.bool (f c)) W)

/-- The first place where f holds, from k on; -1 if there is none. -/
def firstFrom (f : Nat → Bool) : List Nat → Nat → Int
  | [], _ => -1
  | x :: l, k => if f x then (k : Int) else firstFrom f l (k + 1)
theorem firstFrom_drop {f : Nat → Bool} {l : List Nat} {k x : Nat} (hx : l[k]? = some x) : firstFrom f (l.drop k) k = if f x then (k : Int) else firstFrom f (l.drop (k + 1)) (k + 1) := by
  obtain ⟨hk, rfl⟩ := List.getElem?_eq_some_iff.1 hx
  rw [List.drop_eq_getElem_cons hk]
  rfl
theorem firstFrom_any {f : Nat → Bool} : ∀ {l : List Nat} {k : Nat}, (0 ≤ firstFrom f l k) ↔ l.any f = true
  | [], k => by unfold firstFrom; simp
  | x :: l, k => by
    unfold firstFrom
    rw [List.any_cons]
    cases hf : f x with
    | true => simp
    | false => simp only [Bool.false_eq_true, if_false, Bool.false_or]; exact firstFrom_any
theorem firstFrom_ge {f : Nat → Bool} : ∀ {l : List Nat} {k : Nat}, -1 ≤ firstFrom f l k
  | [], k => by unfold firstFrom; omega
  | x :: l, k => by
    unfold firstFrom
    split
    · omega
    · exact firstFrom_ge

set_option maxHeartbeats 400000 in
theorem c_indexFunc8 (g : Nat) (lb : Array Value) (f : Nat → Bool) (A : Option Addr) (n cap : Nat) (l : List Nat) (w : World) (hn : n = l.length) (hl : l.length ≤ 2^47) (h8 : ∀ x ∈ l, x < 256)
    (eg : ∀ args w, (callFunc g args).run Try.prog w = .ok (.enter g args) w) (h : SlAt w A (l.map u8)) (hf : BytePred Try.prog w g lb f) :
    Calls Try.prog 48 #[.slice A n cap, .func (.func g) #[] lb] w (Qt (.int .i64 (firstFrom f l 0)) w) := by
  subst hn
  go_enter Try.func48, Try.ntmps48
  go_wp2_with fail
  go_loopw [8] (fun i wr => ∃ k : Nat, k ≤ l.length ∧ i = .int .i64 k ∧ Hid (firstFrom f (l.drop k) k = firstFrom f l 0) ∧ Hid (∃ q, wr = w.drewN q)) (fun i _ => l.length - (intOf i).toNat)
  case atStart => exact ⟨0, Nat.zero_le _, rfl, rfl, 0, rfl⟩
  case round =>
    obtain ⟨k, hk, rfl, HF, HQ⟩ := hrel
    have hb : Below w.heap.size w wr := by
      obtain ⟨q, rfl⟩ := HQ.out
      exact below_drewN (Below.refl _ _) q
    have hr := h.below hb
    by_cases hlt : k < l.length
    · obtain ⟨b, o, rfl, hb1, hc⟩ := hr.u8_all (by omega)
      obtain ⟨x, hx⟩ := get_some hlt
      have hck := hc k x hx
      have H1 : Calls Try.prog g (#[Value.int .u8 (x : Int)] ++ lb) wr (Qt (.bool (f x)) wr) := hf x (h8 _ (List.mem_of_getElem? hx)) _ hb
      have hs := firstFrom_drop (f := f) hx
      rw [HF.out] at hs
      cases hfx : f x with
      | true =>
        rw [hfx] at hs H1
        rw [if_pos rfl] at hs
        have Hs := Lib.hid hs
        have H1' := Lib.hid H1
        clear hc hf hs hx hr h H1 hfx HF
        go_wp2_with (go_at_fn g; refine H1'.out.mono ?_; rintro e w' ⟨rfl, q1, rfl⟩)
        go_ret
        refine ⟨ret_int Hs.out.symm, (hq_drewN HQ q1).out⟩
      | false =>
        rw [hfx] at hs H1
        rw [if_neg Bool.noConfusion] at hs
        have Hs := Lib.hid hs
        have H1' := Lib.hid H1
        clear hc hf hs hx hr h H1 hfx HF
        go_wp2_with (go_at_fn g; refine H1'.out.mono ?_; rintro e w' ⟨rfl, q1, rfl⟩)
        go_roundw
        case rel => exact ⟨k + 1, by omega, by go_num, Hs.out.symm, hq_drewN HQ q1⟩
        case measure => simp [intOf]; omega
    · obtain rfl : k = l.length := by omega
      go_wp2_with fail
      go_ret
      refine ⟨ret_int ?_, HQ.out⟩
      rw [← HF.out, List.drop_length]
      rfl

set_option maxHeartbeats 400000 in
theorem c_containsFunc8 (g : Nat) (lb : Array Value) (f : Nat → Bool) (A : Option Addr) (n cap : Nat) (l : List Nat) (w : World) (hn : n = l.length) (hl : l.length ≤ 2^47) (h8 : ∀ x ∈ l, x < 256)
    (eg : ∀ args w, (callFunc g args).run Try.prog w = .ok (.enter g args) w) (h : SlAt w A (l.map u8)) (hf : BytePred Try.prog w g lb f) :
    Calls Try.prog 25 #[.slice A n cap, .func (.func g) #[] lb] w (Qt (.bool (l.any f)) w) := by
  have H := Lib.hid (c_indexFunc8 g lb f A n cap l w hn hl h8 eg h hf)
  have hz : l.any f = decide (0 ≤ firstFrom f l 0) := by
    cases ha : l.any f with
    | true => exact (decide_eq_true (firstFrom_any.2 ha)).symm
    | false => exact (decide_eq_false (fun hh => by rw [firstFrom_any.1 hh] at ha; cases ha)).symm
  rw [hz]
  generalize firstFrom f l 0 = z at *
  clear hf h h8 hz hn
  go_enter Try.func25, Try.ntmps25
  go_wp2_with (go_at_call 48; refine H.out.mono ?_; rintro e w' ⟨rfl, q1, rfl⟩)
  go_ret
  exact ⟨rfl, q1, rfl⟩
end Go.Proofs.Ytabejgcpihacpaa
