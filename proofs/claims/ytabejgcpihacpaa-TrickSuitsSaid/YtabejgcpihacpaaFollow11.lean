/- The statement TrickFollow of layer 11. -/
import Derived.Test.YtabejgcpihacpaaOut11
namespace Go.Proofs.Ytabejgcpihacpaa
open Go.RowKit

theorem tPlayE_ok {h : Nat} {r : List Nat} (hh : h < 2 ^ 52) (hD : Distinct r) (h3 : r.length ≤ 3) : tPlayE h r = 0 := by
  unfold tPlayE
  rw [if_neg (by omega), if_neg ?_, if_neg (by omega)]
  rintro ⟨h0, hR⟩
  rw [hD.right h0 (by omega)] at hR
  cases hR

theorem follow_sub {h : Nat} {l : List Nat} (hh : h < 2 ^ 64) : follow h l &&& (2 ^ 64 - 1 - clrTo h l l.length) = 0 := by
  refine Nat.eq_of_testBit_eq fun i => ?_
  have hl := clrTo_le h l l.length
  rw [compl_and (Nat.lt_of_lt_of_le (follow_lt h l) (by decide)) (by omega), Nat.zero_testBit]
  unfold follow
  rw [Nat.testBit_and]
  cases (clrTo h l l.length).testBit i <;> simp
theorem w_sub {f own : Nat} (hf : f < 2 ^ 52) (ho : own < 2 ^ 64) (h : f &&& (2 ^ 64 - 1 - own) = 0) : (bits BinOp.andNot IntKind.u64 (f : Int) (own : Int) == 0) = true := by
  rw [u64_andNot_nat f own (by omega) ho, h]
  rfl
theorem w_shape {f s : Nat} (hf : f < 2 ^ 52) (h : ((f / 2 ^ (13 * s)) &&& 8191) * 2 ^ (13 * s) = f) :
    (IntKind.u64.wrap (bits BinOp.and IntKind.u64 ((f : Int) / 2 ^ (13 * s)) 8191 * 2 ^ (13 * s)) == (f : Int)) = true := by
  have hq : f / 2 ^ (13 * s) ≤ f := Nat.div_le_self _ _
  rw [show ((2 : Int) ^ (13 * s)) = ((2 ^ (13 * s) : Nat) : Int) from by simp, ← Int.natCast_ediv, show (8191 : Int) = ((8191 : Nat) : Int) from rfl, u64_and_nat _ _ (by omega) (by omega), ← Int.natCast_mul, h, IntKind.wrap_u64]
  exact beq_iff_eq.2 (by omega)

set_option maxRecDepth 100000 in
set_option maxHeartbeats 2000000 in
theorem c_TrickFollow (A : Option Addr) (n cap : Nat) (l : List Nat) (hd : Nat) (w : World) (hn : n = l.length) (hcap : n ≤ cap) (hc : cap ≤ 9223372036854775807) (h : SlAt w A (l.map u8)) (h8 : ∀ x ∈ l, x < 256) (hh : hd < 2 ^ 64) :
    Calls Try.prog 10 #[.slice A n cap, .int .u64 hd] w (Frm (.bool true) w) := by
  have HM := Lib.hid (fun W (hb : Below w.heap.size w W) => c_Made A n cap l 3 W hn hcap hc (by omega) h8 (h.below hb))
  have HW := Lib.hid (w_hand hh)
  have hm52 : Hid (hd % 2 ^ 52 < 2 ^ 52) := Nat.mod_lt _ (by omega)
  generalize hd % 2 ^ 52 = m at *
  clear h h8 hn hcap hc hh
  go_enter Try.func10, Try.ntmps10
  go_wp2_with (go_at_call 12; refine (c_awake _).mono ?_; rintro e w1 ⟨rfl, hb1⟩)
  refine Calls.mono (HM.out w1 hb1) ?_
  rintro e w2 ⟨v, r, rfl, hown, hlen, hD, hb2⟩
  have B2 := below_step hb1 hb2
  clear HM hb1
  obtain ⟨A2, c2, rfl, hc2, hs2, hn2⟩ := own_sl hown
  have hr3 : r.length ≤ 3 := by omega
  clear hown hlen hn2
  have HPE := tPlayE_ok hm52.out hD hr3
  have HP0 := c_tPlayable A2 r.length c2 m r w2 rfl hc2 (by omega) (by have := hm52.out; omega) hD.lt256 hs2
  rw [HPE] at HP0
  have HP := Lib.hid HP0
  clear HP0
  dsimp only
  by_cases h0 : r.length = 0
  · have e1 : tPlay m r = m := by unfold tPlay; rw [HPE, if_neg (fun hh => hh rfl), if_pos h0]
    rw [e1] at HP
    have h0' : ((r.length : Int) == 0) = true := beq_iff_eq.2 (by omega)
    clear e1 HPE hs2 hD h0
    go_wp2_with (go_at_call 17; rw [HW.out]; refine HP.out.mono ?_; rintro e w' ⟨rfl, rfl⟩)
    go_ret
    exact ⟨rfl, B2⟩
  · have h0' : ((r.length : Int) == 0) = false := beq_eq_false_iff_ne.2 (by omega)
    obtain ⟨b, o, z, rfl, hb, hz, hcz⟩ := hs2.u8_at (k := 0) (by omega)
    rw [Nat.add_zero] at hcz
    have hz52 := hD.1 z (List.mem_of_getElem? hz)
    have hr0 : 0 < r.length := by omega
    have hown64 := clrTo_le m r r.length
    have e1 : tPlay m r = if follow m r ≠ 0 then follow m r else clrTo m r r.length := by unfold tPlay; rw [HPE, if_neg (fun hh => hh rfl), if_neg h0]
    have hft := fun i hi => follow_testBit (h := m) (i := i) hz hi
    have hfs := follow_shape (h := m) hz
    have hsub := follow_sub (h := m) (l := r) (by have := hm52.out; omega)
    have hfl := follow_lt m r
    have HO := w_own (h := m) (l := r) (by have := hm52.out; omega) hD.lt64
    have hfle : follow m r ≤ clrTo m r r.length := Nat.and_le_left
    have HMK := Lib.hid (c_mask (some ⟨b, o, none⟩) r.length c2 r w2 rfl (by omega) hD.lt256 hs2)
    have hol : clrTo m r r.length < 2 ^ 52 := by have := hm52.out; omega
    rw [e1] at HP
    generalize clrTo m r r.length = own at *
    generalize follow m r = f at *
    obtain ⟨mm, hmm⟩ : ∃ mm, (if f ≠ 0 then f else own) = mm := ⟨_, rfl⟩
    rw [hmm] at HP
    have Hmm := Lib.hid hmm
    have Hz := Lib.hid hz
    have HO' := Lib.hid HO
    have HF := Lib.hid (And.intro hft (And.intro hfs hsub))
    have HL := Lib.hid (And.intro hfl hol)
    have Hcz := Lib.hid hcz
    clear hz hD hs2 h0 e1 hft hfs hsub hown64 hfl hfle hol hmm HO HPE
    go_wp2_with (first
      | (go_at_call 17; rw [HW.out]; refine HP.out.mono ?_; rintro e w' ⟨rfl, rfl⟩)
      | (go_at_call 19; refine HMK.out.mono ?_; rintro e w' ⟨rfl, rfl⟩))
    rw [HO'.out]
    have hown64 : own < 2 ^ 64 := by have := HL.out.2; omega
    go_loop [9, 10, 36] (fun a1 a2 i => ∃ k ks rs : Nat, k ≤ 52 ∧ i = .int .u8 k ∧ a1 = .int .i64 ks ∧ a2 = .int .i64 rs ∧ ks ≤ k ∧ rs ≤ k ∧ Hid (cnt f k = ks ∧ ks + rs = cnt own k)) (fun _ _ i => 52 - (intOf i).toNat)
    case atStart => exact ⟨0, 0, 0, by omega, rfl, rfl, rfl, by omega, by omega, rfl, rfl⟩
    case round =>
      obtain ⟨k, ks, rs, hk, rfl, rfl, rfl, hks, hrs, HC⟩ := hrel
      have hcz := Hcz.out
      by_cases hlt : k < 52
      · have hft := HF.out.1 k hlt
        have hcs : cSuit z = z / 13 := by unfold cSuit; rw [if_pos hz52]
        rw [hcs] at hft
        cases ho : own.testBit k with
        | false =>
          rw [ho] at hft
          have e1 : (bits BinOp.and IntKind.u64 ((own : Int) / 2 ^ k) 1 == 1) = false := by rw [w_bit_lt hown64 (by omega), ho]
          have HK : Hid (cnt f (k + 1) = ks ∧ ks + rs = cnt own (k + 1)) := by
            constructor
            · show cnt f k + (f.testBit k).toNat = ks
              rw [hft, HC.out.1]; rfl
            · show _ = cnt own k + (own.testBit k).toNat
              rw [ho, HC.out.2]; rfl
          clear ho hft hcs
          go_wp2_with fail
          go_round
          case rel => exact ⟨k + 1, ks, rs, by omega, by go_num, rfl, rfl, by omega, by omega, HK⟩
          case measure => simp [intOf]; omega
        | true =>
          rw [ho, Bool.true_and] at hft
          have e1 : (bits BinOp.and IntKind.u64 ((own : Int) / 2 ^ k) 1 == 1) = true := by rw [w_bit_lt hown64 (by omega), ho]
          by_cases hs : k / 13 = z / 13
          · have e2 : ((k : Int) / 13 == (z : Int) / 13) = true := beq_iff_eq.2 (by omega)
            have HK : Hid (cnt f (k + 1) = ks + 1 ∧ (ks + 1) + rs = cnt own (k + 1)) := by
              constructor
              · show cnt f k + (f.testBit k).toNat = ks + 1
                rw [hft, HC.out.1, decide_eq_true hs]; rfl
              · show _ = cnt own k + (own.testBit k).toNat
                rw [ho, ← HC.out.2]; show _ = ks + rs + 1; omega
            clear ho hft hcs hs
            go_wp2_with fail
            go_round
            case rel => exact ⟨k + 1, ks + 1, rs, by omega, by go_num, by go_num, rfl, by omega, by omega, HK⟩
            case measure => simp [intOf]; omega
          · have e2 : ((k : Int) / 13 == (z : Int) / 13) = false := beq_eq_false_iff_ne.2 (by omega)
            have HK : Hid (cnt f (k + 1) = ks ∧ ks + (rs + 1) = cnt own (k + 1)) := by
              constructor
              · show cnt f k + (f.testBit k).toNat = ks
                rw [hft, HC.out.1, decide_eq_false hs]; rfl
              · show _ = cnt own k + (own.testBit k).toNat
                rw [ho, ← HC.out.2]; show _ = ks + rs + 1; omega
            clear ho hft hcs hs
            go_wp2_with fail
            go_round
            case rel => exact ⟨k + 1, ks, rs + 1, by omega, by go_num, rfl, by go_num, by omega, by omega, HK⟩
            case measure => simp [intOf]; omega
      · obtain rfl : k = 52 := by omega
        by_cases hpos : 0 < ks
        · have hf0 : f ≠ 0 := (cnt_pos HL.out.1).1 (by have := HC.out.1; omega)
          obtain rfl : f = mm := by have := Hmm.out; rwa [if_pos hf0] at this
          have hO1 := fun W => c_OnesCount64 f (by have := HL.out.1; omega) W
          rw [cnt_64 HL.out.1, HC.out.1] at hO1
          have HO1 := Lib.hid hO1
          have e1 := w_sub HL.out.1 hown64 HF.out.2.2
          have hcs : cSuit z = z / 13 := by unfold cSuit; rw [if_pos hz52]
          have E3 : Hid _ := w_shape HL.out.1 (by have := HF.out.2.1; rwa [hcs] at this)
          clear hO1 hcs hf0
          go_wp2_with fail
          go_quiet ((go_at_call 29; exact quiet_same (HO1.out _)))
          rw [E3.out]
          go_wp2_with fail
          go_ret
          exact ⟨rfl, below_drewN B2 _⟩
        · have hks0 : ks = 0 := by omega
          have hf0 : ¬ f ≠ 0 := fun hh => by have := (cnt_pos HL.out.1).2 hh; have := HC.out.1; omega
          obtain rfl : own = mm := by have := Hmm.out; rwa [if_neg hf0] at this
          have hO1 := fun W => c_OnesCount64 own hown64 W
          have hrs : cnt own 52 = rs := by have := HC.out.2; omega
          rw [cnt_64 HL.out.2, hrs] at hO1
          have HO1 := Lib.hid hO1
          clear hO1 hrs hf0 hpos
          subst hks0
          go_wp2_with (go_at_call 29; refine (HO1.out _).mono ?_; rintro e w' ⟨rfl, rfl⟩)
          go_ret
          exact ⟨rfl, B2⟩
end Go.Proofs.Ytabejgcpihacpaa
