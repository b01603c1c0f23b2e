/- Contracts of package trick: Strength, Playable. -/
import Derived.Test.YtabejgcpihacpaaTkB
import Derived.Test.YtabejgcpihacpaaBits
namespace Go.Proofs.Ytabejgcpihacpaa
open Go.RowKit

set_option maxHeartbeats 400000 in
theorem c_tStrength (t d c : Nat) (hc : c < 256) (w : World) :
    Calls Try.prog 28 #[.int .u8 t, .int .u8 d, .int .u8 c] w (Frm (.int .i64 (tStrength t d c : Nat)) w) := by
  by_cases h1 : 4 < t
  · have e1 : tStrength t d c = 0 := by unfold tStrength; rw [if_neg (by omega)]
    rw [e1]; clear e1
    go_enter Try.func28, Try.ntmps28
    go_wp2_with fail
    go_ret
    exact ⟨rfl, Below.refl _ _⟩
  · by_cases h2 : 3 < d
    · have e1 : tStrength t d c = 0 := by unfold tStrength; rw [if_neg (by omega)]
      rw [e1]; clear e1
      go_enter Try.func28, Try.ntmps28
      go_wp2_with fail
      go_ret
      exact ⟨rfl, Below.refl _ _⟩
    · cases hR : cRight c with
      | false =>
        have e1 : tStrength t d c = 0 := by
          unfold cRight at hR
          simp at hR
          unfold tStrength; rw [if_neg (by omega)]
        rw [e1]; clear e1
        go_enter Try.func28, Try.ntmps28
        go_wp2_with (go_at_call 47; refine (c_cardRight _ _).mono ?_; rintro e w' ⟨rfl, rfl⟩)
        go_ret
        exact ⟨rfl, Below.refl _ _⟩
      | true =>
        have e1 : tStrength t d c = stren t d c := by
          unfold cRight at hR
          simp at hR
          unfold tStrength; rw [if_pos (by omega)]
        rw [e1]; clear e1
        go_enter Try.func28, Try.ntmps28
        go_wp2_with (first
          | (go_at_call 47; refine (c_cardRight _ _).mono ?_; rintro e w' ⟨rfl, rfl⟩)
          | (go_at_call 37; refine (c_strengths _ _ _).mono ?_; rintro e w1 ⟨p, q, rfl, hb1, hs⟩)
          | (go_at_call 53; refine (c_strength1 _ _ _ _ _ hc _ hs).mono ?_; rintro e w' ⟨rfl, rfl⟩))
        go_ret
        exact ⟨rfl, hb1⟩

/-- The hand without the first k cards of the list. -/
def clrTo (h : Nat) (l : List Nat) : Nat → Nat
  | 0 => h
  | k + 1 => clr (clrTo h l k) (l[k]?.getD 0)
theorem clrTo_le (h : Nat) (l : List Nat) : ∀ k, clrTo h l k ≤ h
  | 0 => Nat.le_refl _
  | k + 1 => Nat.le_trans (clr_le _ _) (clrTo_le h l k)
def suitMask (s : Nat) : Nat := 8191 * 2 ^ (13 * s)
theorem suitMask_lt {s : Nat} (h : s ≤ 3) : suitMask s < 2 ^ 52 := by
  unfold suitMask
  have : s = 0 ∨ s = 1 ∨ s = 2 ∨ s = 3 := by omega
  rcases this with rfl | rfl | rfl | rfl <;> decide
def follow (h : Nat) (l : List Nat) : Nat := clrTo h l l.length &&& suitMask (cSuit (l[0]?.getD 0))
def tPlayE (h : Nat) (l : List Nat) : Nat := if 2 ^ 52 ≤ h then 2 else if 0 < l.length ∧ tRight l = false then 110 else if l.length = 4 then 111 else 0
def tPlay (h : Nat) (l : List Nat) : Nat := if tPlayE h l ≠ 0 then 0 else if l.length = 0 then h else if follow h l ≠ 0 then follow h l else clrTo h l l.length
theorem w_suitMask {s : Nat} (h : s ≤ 3) : IntKind.u64.wrap (8191 * 2 ^ (13 * s)) = ((suitMask s : Nat) : Int) := by
  have : s = 0 ∨ s = 1 ∨ s = 2 ∨ s = 3 := by omega
  rcases this with rfl | rfl | rfl | rfl <;> decide

set_option maxHeartbeats 400000 in
theorem c_tPlayable (A : Option Addr) (n cap : Nat) (hd : Nat) (l : List Nat) (w : World) (hn : n = l.length) (hcap : n ≤ cap) (hl : l.length ≤ 2^47) (hh : hd < 2^64) (h8 : ∀ x ∈ l, x < 256) (h : SlAt w A (l.map u8)) :
    Calls Try.prog 17 #[.int .u64 hd, .slice A n cap] w (Same (.tuple #[.int .u64 (tPlay hd l : Nat), .int .i64 (tPlayE hd l : Nat)]) w) := by
  subst hn
  by_cases hbig : 2 ^ 52 ≤ hd
  · have e2 : tPlayE hd l = 2 := by unfold tPlayE; rw [if_pos hbig]
    have e1 : tPlay hd l = 0 := by unfold tPlay; rw [e2]; rfl
    rw [e1, e2]; clear e1 e2
    go_enter Try.func17, Try.ntmps17
    go_wp2_with fail
    go_ret2
    exact ⟨rfl, rfl⟩
  · have hlo : hd < 2 ^ 52 := by omega
    clear hbig
    by_cases h0 : l.length = 0
    · have e2 : tPlayE hd l = 0 := by unfold tPlayE; rw [if_neg (by omega), if_neg (fun hh => by have := hh.1; omega), if_neg (by omega)]
      have e1 : tPlay hd l = hd := by unfold tPlay; rw [e2, if_neg (fun hh => hh rfl), if_pos h0]
      rw [e1, e2]; clear e1 e2
      have h0' : ¬ (0 : Int) < (l.length : Int) := by omega
      have h0'' : ((l.length : Int) == 4) = false := by simp; omega
      have h0''' : ((l.length : Int) == 0) = true := beq_iff_eq.2 (by omega)
      have H0 := Lib.hid h0
      clear h0
      go_enter Try.func17, Try.ntmps17
      go_wp2_with fail
      go_ret2
      exact ⟨rfl, rfl⟩
    · have h0' : 0 < l.length := by omega
      cases hR : tRight l with
      | false =>
        have e2 : tPlayE hd l = 110 := by unfold tPlayE; rw [if_neg (by omega), if_pos ⟨h0', hR⟩]
        have e1 : tPlay hd l = 0 := by unfold tPlay; rw [e2]; rfl
        rw [e1, e2]; clear e1 e2
        go_enter Try.func17, Try.ntmps17
        go_wp2_with (go_at_call 23; refine (c_tRight _ _ _ l _ rfl hcap hl h).mono ?_; rintro e w' ⟨rfl, rfl⟩)
        go_ret2
        exact ⟨rfl, rfl⟩
      | true =>
        have hlen := tRight_len hR
        by_cases h4 : l.length = 4
        · have e2 : tPlayE hd l = 111 := by unfold tPlayE; rw [if_neg (by omega), if_neg (by rw [hR]; exact fun hh => Bool.noConfusion hh.2), if_pos h4]
          have e1 : tPlay hd l = 0 := by unfold tPlay; rw [e2]; rfl
          rw [e1, e2]; clear e1 e2
          have h4' : ((l.length : Int) == 4) = true := by simp; omega
          have H4 := Lib.hid h4
          clear h4
          go_enter Try.func17, Try.ntmps17
          go_wp2_with (go_at_call 23; refine (c_tRight _ _ _ l _ rfl hcap hl h).mono ?_; rintro e w' ⟨rfl, rfl⟩)
          go_ret2
          exact ⟨rfl, rfl⟩
        · have e2 : tPlayE hd l = 0 := by unfold tPlayE; rw [if_neg (by omega), if_neg (by rw [hR]; exact fun hh => Bool.noConfusion hh.2), if_neg h4]
          have e1 : tPlay hd l = if follow hd l ≠ 0 then follow hd l else clrTo hd l l.length := by unfold tPlay; rw [e2, if_neg (fun hh => hh rfl), if_neg h0]
          obtain ⟨b, o, rfl, hb, hc⟩ := h.u8_all h0'
          obtain ⟨z, hz⟩ := get_some h0'
          have hcz := hc 0 z hz
          rw [Nat.add_zero] at hcz
          have hz8 := h8 _ (List.mem_of_getElem? hz)
          have hfol : follow hd l = clrTo hd l l.length &&& suitMask (cSuit z) := by unfold follow; rw [hz]; rfl
          have Hfol := Lib.hid hfol
          rw [e2]
          have E1 := Lib.hid e1
          have hs3 := cSuit_le z
          generalize tPlay hd l = res at *
          have h4' : ((l.length : Int) == 4) = false := by simp; omega
          have h0'' : ((l.length : Int) == 0) = false := beq_eq_false_iff_ne.2 (by omega)
          have hb52 : ((hd : Int) / 4503599627370496 != 0) = false := by
            have : (hd : Int) / 4503599627370496 = 0 := by omega
            rw [this]; rfl
          clear e1 e2 hz hfol h4 h0
          go_enter Try.func17, Try.ntmps17
          go_wp2_with (go_at_call 23; refine (c_tRight _ _ _ l _ rfl hcap hl h).mono ?_; rintro e w' ⟨rfl, rfl⟩)
          go_loop [0, 7, 33] (fun m _ i => ∃ k : Nat, k ≤ l.length ∧ i = .int .i64 k ∧ m = .int .u64 (clrTo hd l k : Nat)) (fun _ _ i => l.length - (intOf i).toNat)
          case atStart => exact ⟨0, Nat.zero_le _, rfl, rfl⟩
          case round =>
            obtain ⟨k, hk, rfl, rfl⟩ := hrel
            have hcl := clrTo_le hd l k
            by_cases hlt : k < l.length
            · obtain ⟨x, hx⟩ := get_some hlt
              have hck := hc k x hx
              have hx8 := h8 _ (List.mem_of_getElem? hx)
              have hs : clrTo hd l (k + 1) = clr (clrTo hd l k) x := by show clr _ (l[k]?.getD 0) = _; rw [hx]; rfl
              have Hs := Lib.hid hs
              clear hc hx hcz hs
              generalize clrTo hd l k = m at *
              have hm64 : m < 2 ^ 64 := by omega
              go_wp2_with fail
              go_round
              case rel => exact ⟨k + 1, by omega, by go_num, by rw [Hs.out, w_clr hm64]⟩
              case measure => simp [intOf]; omega
            · obtain rfl : k = l.length := by omega
              clear hc hlt
              generalize clrTo hd l l.length = m at *
              have hm64 : m < 2 ^ 64 := by omega
              rw [Hfol.out] at E1
              have hv : bits BinOp.and IntKind.u64 (m : Int) (IntKind.u64.wrap (8191 * 2 ^ (13 * cSuit z))) = ((m &&& suitMask (cSuit z) : Nat) : Int) := by
                rw [w_suitMask hs3, u64_and_nat _ _ hm64 (Nat.lt_trans (suitMask_lt hs3) (by omega))]
              have HV := Lib.hid hv
              clear hv
              go_wp2_with (go_at_call 38; refine (c_cardSuit _ hz8 _).mono ?_; rintro e w' ⟨rfl, rfl⟩)
              all_goals go_ret2
              · refine ⟨ret_two (int_eq ?_) rfl, rfl⟩
                have ht : (bits BinOp.and IntKind.u64 (m : Int) (IntKind.u64.wrap (8191 * 2 ^ (13 * cSuit z))) != 0) = true := by assumption
                rw [HV.out] at ht ⊢
                rw [E1.out, if_pos (by simpa using ht)]
              · refine ⟨ret_two (int_eq ?_) rfl, rfl⟩
                have ht : (bits BinOp.and IntKind.u64 (m : Int) (IntKind.u64.wrap (8191 * 2 ^ (13 * cSuit z))) != 0) = false := by assumption
                rw [HV.out] at ht
                rw [E1.out, if_neg (by simpa using ht)]
end Go.Proofs.Ytabejgcpihacpaa
