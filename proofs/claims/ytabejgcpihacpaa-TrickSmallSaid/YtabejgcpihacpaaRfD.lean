/- Contracts of the reference of layer 11: Playable, Winners, Cover. -/
import Derived.Test.YtabejgcpihacpaaRfC
import Derived.Test.YtabejgcpihacpaaTkD
namespace Go.Proofs.Ytabejgcpihacpaa
open Go.RowKit

theorem clrTo_testBit {h : Nat} {l : List Nat} (hh : h < 2 ^ 64) (h64 : ∀ x ∈ l, x < 64) (i : Nat) : ∀ k, k ≤ l.length → (clrTo h l k).testBit i = (h.testBit i && !has (l.take k) i)
  | 0, _ => by unfold clrTo has; simp
  | k + 1, hk => by
    have ih := clrTo_testBit hh h64 i k (by omega)
    have hx : l[k]? = some l[k] := List.getElem?_eq_getElem (by omega)
    have hx64 := h64 _ (List.getElem_mem (h := (by omega : k < l.length)))
    show (clr (clrTo h l k) (l[k]?.getD 0)).testBit i = _
    rw [hx, Option.getD_some, clr_testBit (Nat.lt_of_le_of_lt (clrTo_le _ _ _) hh) hx64, ih]
    have : has (l.take (k + 1)) i = (has (l.take k) i || decide (l[k] = i)) := by
      unfold has
      rw [List.take_succ_eq_append_getElem (by omega), ← Bool.decide_or]
      simp only [List.mem_append, List.mem_singleton, eq_comm]
    rw [this]
    cases h.testBit i <;> cases has (l.take k) i <;> cases decide (l[k] = i) <;> rfl
theorem own_testBit {h : Nat} {l : List Nat} (hh : h < 2 ^ 64) (h64 : ∀ x ∈ l, x < 64) (i : Nat) : (clrTo h l l.length).testBit i = (h.testBit i && !has l i) := by
  have := clrTo_testBit hh h64 i l.length (Nat.le_refl _)
  rwa [List.take_length] at this
theorem suitMask_testBit {s c : Nat} (hs : s ≤ 3) (hc : c < 52) : (suitMask s).testBit c = decide (c / 13 = s) := by
  have : ∀ s < 4, ∀ c < 52, (suitMask s).testBit c = decide (c / 13 = s) := by decide +kernel
  exact this s (by omega) c hc
theorem mod_step_yes {x c : Nat} (h : x.testBit c = true) : x % 2 ^ (c + 1) = x % 2 ^ c + 2 ^ c := by
  rw [Nat.testBit_eq_decide_div_mod_eq] at h
  rw [Nat.mod_pow_succ, of_decide_eq_true h, Nat.mul_one]
theorem mod_step_no {x c : Nat} (h : x.testBit c = false) : x % 2 ^ (c + 1) = x % 2 ^ c := by
  rw [Nat.testBit_eq_decide_div_mod_eq] at h
  have h0 : x / 2 ^ c % 2 = 0 := by have := of_decide_eq_false h; omega
  rw [Nat.mod_pow_succ, h0, Nat.mul_zero, Nat.add_zero]
theorem w_addbit {a c : Nat} (ha : a < 2 ^ c) (hc : c < 52) : IntKind.u64.wrap ((a : Int) + IntKind.u64.wrap (2 ^ c)) = ((a + 2 ^ c : Nat) : Int) := by
  have h1 := wrap_shl1 c
  rw [Nat.min_eq_left (by omega), bitOf_pow (by omega)] at h1
  rw [h1, IntKind.wrap_u64]
  have h2 : (2 : Nat) ^ c < 2 ^ 52 := Nat.pow_lt_pow_right (by omega) hc
  generalize (2 : Nat) ^ c = p at *
  omega
/-- What follows, of a trick that has begun. -/
def folR (h : Nat) (l : List Nat) : Nat := if l.length = 0 then 0 else follow h l
theorem tPlay_ref {h : Nat} {l : List Nat} (hE : tPlayE h l = 0) : tPlay h l = if 0 < folR h l then folR h l else clrTo h l l.length := by
  unfold tPlay folR
  rw [if_neg (fun hh => hh hE)]
  by_cases h0 : l.length = 0
  · rw [if_pos h0, if_pos h0, if_neg (by omega), h0]; rfl
  · rw [if_neg h0, if_neg h0]
    by_cases h1 : follow h l = 0
    · rw [if_neg (fun hh => hh h1), if_neg (by omega)]
    · rw [if_pos h1, if_pos (by omega)]

set_option maxRecDepth 100000 in
set_option maxHeartbeats 1000000 in
theorem c_rPlayable (A : Option Addr) (n cap : Nat) (hd : Nat) (l : List Nat) (w : World) (hn : n = l.length) (hl : l.length ≤ 2^47) (hh : hd < 2^64) (h8 : ∀ x ∈ l, x < 256) (h : SlAt w A (l.map u8)) :
    Calls Try.prog 31 #[.int .u64 hd, .slice A n cap] w (Qt (.tuple #[.int .u64 (tPlay hd l : Nat), .int .i64 (tPlayE hd l : Nat)]) w) := by
  subst hn
  by_cases hbig : 2 ^ 52 ≤ hd
  · have e2 : tPlayE hd l = 2 := by unfold tPlayE; rw [if_pos hbig]
    have e1 : tPlay hd l = 0 := by unfold tPlay; rw [e2]; rfl
    rw [e1, e2]; clear e1 e2
    have hbI : (4503599627370496 : Int) ≤ (hd : Int) := by omega
    clear hbig hh
    go_enter Try.func31, Try.ntmps31
    go_wp2_with fail
    go_ret2
    exact ⟨rfl, 0, rfl⟩
  · have hlo : hd < 2 ^ 52 := by omega
    have hbI : decide ((4503599627370496 : Int) ≤ (hd : Int)) = false := decide_eq_false (by omega)
    clear hbig
    have HR := Lib.hid (c_rRight A l.length cap l w rfl hl h)
    by_cases hbad : 0 < l.length ∧ tRight l = false
    · have e2 : tPlayE hd l = 110 := by unfold tPlayE; rw [if_neg (by omega), if_pos hbad]
      have e1 : tPlay hd l = 0 := by unfold tPlay; rw [e2]; rfl
      rw [e1, e2]; clear e1 e2
      obtain ⟨h0, hR⟩ := hbad
      rw [hR] at HR
      clear hlo hh
      go_enter Try.func31, Try.ntmps31
      go_wp2_with (go_at_call 42; refine HR.out.mono ?_; rintro e w' ⟨rfl, q0, rfl⟩)
      go_ret2
      exact ⟨rfl, q0, rfl⟩
    · by_cases h4 : l.length = 4
      · have e2 : tPlayE hd l = 111 := by unfold tPlayE; rw [if_neg (by omega), if_neg hbad, if_pos h4]
        have e1 : tPlay hd l = 0 := by unfold tPlay; rw [e2]; rfl
        rw [e1, e2]; clear e1 e2
        have hR : tRight l = true := by
          cases hR : tRight l with
          | true => rfl
          | false => exact absurd ⟨by omega, hR⟩ hbad
        rw [hR] at HR
        have h4' : ((l.length : Int) == 4) = true := beq_iff_eq.2 (by omega)
        have h0' : (0 : Int) < (l.length : Int) := by omega
        have H4 := Lib.hid h4
        clear h4 hlo hh
        go_enter Try.func31, Try.ntmps31
        go_wp2_with (go_at_call 42; refine HR.out.mono ?_; rintro e w' ⟨rfl, q0, rfl⟩)
        go_ret2
        exact ⟨rfl, q0, rfl⟩
      · have e2 : tPlayE hd l = 0 := by unfold tPlayE; rw [if_neg (by omega), if_neg hbad, if_neg h4]
        have e1 := tPlay_ref e2
        have h64 : ∀ x ∈ l, x < 64 := by
          intro x hx
          have h0 : 0 < l.length := List.length_pos_of_mem hx
          have hR : tRight l = true := by
            cases hR : tRight l with
            | true => rfl
            | false => exact absurd ⟨h0, hR⟩ hbad
          have := tRight_mem hR hx
          omega
        have hob := own_testBit (h := hd) (l := l) (by omega) h64
        have hole : clrTo hd l l.length < 2 ^ 52 := Nat.lt_of_le_of_lt (clrTo_le _ _ _) hlo
        have hfle : folR hd l < 2 ^ 52 := by
          unfold folR
          split
          · omega
          · exact Nat.lt_of_le_of_lt Nat.and_le_left hole
        have h4' : ((l.length : Int) == 4) = false := beq_eq_false_iff_ne.2 (by omega)
        -- the first card, if there is one
        obtain ⟨z, hz⟩ : ∃ z, z = l[0]?.getD 0 := ⟨_, rfl⟩
        have hfb : ∀ c, c < 52 → (folR hd l).testBit c = ((clrTo hd l l.length).testBit c && (decide (0 < l.length) && decide (c / 13 = z / 13))) := by
          intro c hc
          unfold folR
          by_cases h0 : l.length = 0
          · rw [if_pos h0, decide_eq_false (by omega)]; simp
          · have hR : tRight l = true := by
              cases hR : tRight l with
              | true => rfl
              | false => exact absurd ⟨by omega, hR⟩ hbad
            have hz52 : z < 52 := by
              rw [hz, List.getElem?_eq_getElem (by omega)]
              exact tRight_mem hR (List.getElem_mem _)
            rw [if_neg h0, decide_eq_true (by omega : 0 < l.length), Bool.true_and]
            unfold follow
            rw [← hz, Nat.testBit_and, suitMask_testBit (cSuit_le z) hc]
            unfold cSuit
            rw [if_pos hz52]
        rw [e1, e2]
        generalize clrTo hd l l.length = own at *
        generalize folR hd l = fol at *
        clear e1 e2 h64
        have Hob := Lib.hid hob
        have Hfb := Lib.hid hfb
        clear hob hfb
        have HR2 : Hid (0 < l.length → Calls Try.prog 42 #[.slice A l.length cap] w (Qt (.bool true) w)) := by
          intro h0
          have hR : tRight l = true := by
            cases hR : tRight l with
            | true => rfl
            | false => exact absurd ⟨h0, hR⟩ hbad
          have := HR.out
          rwa [hR] at this
        have Hhl : Hid (0 < l.length → ∃ b o, A = some ⟨b, o, none⟩ ∧ b < w.heap.size ∧ w.cell? ⟨b, o, none⟩ = some (.int .u8 (z : Nat)) ∧ z < 256) := by
          intro h0
          obtain ⟨b, o, x, hA, hb, hx, hc⟩ := h.u8_at h0
          rw [Nat.add_zero] at hc
          rw [hx] at hz
          have hzx : z = x := hz
          subst hzx
          exact ⟨b, o, hA, hb, hc, h8 _ (List.mem_of_getElem? hx)⟩
        clear hbad HR hz h4
        have Hhas := Lib.hid (fun (k : Nat) (W : World) => c_rHas hd k hh W)
        have Hlo := Lib.hid hlo
        have Hole := Lib.hid hole
        have Hfle := Lib.hid hfle
        have Hown : Hid (own % 2 ^ 52 = own) := Nat.mod_eq_of_lt hole
        have Hfol : Hid (fol % 2 ^ 52 = fol) := Nat.mod_eq_of_lt hfle
        clear hlo hole hfle hh
        by_cases h0 : 0 < l.length
        · obtain ⟨b, o, rfl, hb, hc, hz8⟩ := Hhl.out h0
          have HR3 := Lib.hid (HR2.out h0)
          have Ham := Lib.hid (fun (k : Nat) (W : World) hS => c_rAmong (some ⟨b, o, none⟩) l.length cap l k W rfl hl hS)
          have Hh := Lib.hid h
          clear HR2 Hhl h
          generalize hres : (if 0 < fol then fol else own) = res
          have Hres := Lib.hid hres
          clear hres
          go_enter Try.func31, Try.ntmps31
          go_wp2_with (go_at_call 42; refine HR3.out.mono ?_; rintro e w' ⟨rfl, q0, rfl⟩)
          go_loop [6, 7, 8] (fun al fo c => ∃ k : Nat, k ≤ 52 ∧ c = .int .u8 k ∧ al = .int .u64 (own % 2 ^ k : Nat) ∧ fo = .int .u64 (fol % 2 ^ k : Nat)) (fun _ _ c => 52 - (intOf c).toNat)
          case atStart => exact ⟨0, by omega, rfl, by rw [Nat.pow_zero, Nat.mod_one]; rfl, by rw [Nat.pow_zero, Nat.mod_one]; rfl⟩
          case round =>
            obtain ⟨k, hk, rfl, rfl, rfl⟩ := hrel
            by_cases hlt : k < 52
            · have ha : own % 2 ^ k < 2 ^ k := Nat.mod_lt _ (Nat.pow_pos (by omega))
              have hf : fol % 2 ^ k < 2 ^ k := Nat.mod_lt _ (Nat.pow_pos (by omega))
              have Hwa := Lib.hid (w_addbit ha hlt)
              have Hwf := Lib.hid (w_addbit hf hlt)
              have Ha1 := Lib.hid (fun h => mod_step_yes (x := own) (c := k) h)
              have Ha0 := Lib.hid (fun h => mod_step_no (x := own) (c := k) h)
              have Hf1 := Lib.hid (fun h => mod_step_yes (x := fol) (c := k) h)
              have Hf0 := Lib.hid (fun h => mod_step_no (x := fol) (c := k) h)
              have hob := Hob.out k
              have hfb := Hfb.out k hlt
              have Hk := Hhas.out k
              have Hm := Ham.out k
              rw [decide_eq_true h0, Bool.true_and] at hfb
              clear ha hf
              generalize own % 2 ^ k = a at *
              generalize fol % 2 ^ k = f at *
              cases h1 : hd.testBit k with
              | false =>
                rw [h1, Bool.false_and] at hob
                rw [hob, Bool.false_and] at hfb
                rw [h1] at Hk
                have HK := Lib.hid Hk
                have Hx := Lib.hid hob
                have Hy := Lib.hid hfb
                clear h1 Hk Hm hob hfb
                go_wp2_with (go_at_call 50; refine (HK.out _).mono ?_; rintro e w' ⟨rfl, rfl⟩)
                go_round
                case rel => exact ⟨k + 1, by omega, by go_num, by rw [Ha0.out Hx.out], by rw [Hf0.out Hy.out]⟩
                case measure => simp [intOf]; omega
              | true =>
                cases h2 : has l k with
                | true =>
                  rw [h1, h2] at hob
                  rw [hob] at hfb
                  rw [h1] at Hk
                  rw [h2] at Hm
                  have HK := Lib.hid Hk
                  have HM := Lib.hid Hm
                  have Hx : Hid (own.testBit k = false) := hob
                  have Hy : Hid (fol.testBit k = false) := hfb
                  clear h1 h2 Hk Hm hob hfb
                  go_wp2_with (first
                    | (go_at_call 50; refine (HK.out _).mono ?_; rintro e w' ⟨rfl, rfl⟩)
                    | (go_at_call 51; refine (HM.out _ (Hh.out.drewN q0)).mono ?_; rintro e w' ⟨rfl, rfl⟩))
                  go_round
                  case rel => exact ⟨k + 1, by omega, by go_num, by rw [Ha0.out Hx.out], by rw [Hf0.out Hy.out]⟩
                  case measure => simp [intOf]; omega
                | false =>
                  rw [h1, h2] at hob
                  rw [hob] at hfb
                  rw [h1] at Hk
                  rw [h2] at Hm
                  have HK := Lib.hid Hk
                  have HM := Lib.hid Hm
                  have Hx : Hid (own.testBit k = true) := hob
                  have Hy : Hid (fol.testBit k = decide (k / 13 = z / 13)) := hfb
                  clear h1 h2 Hk Hm hob hfb
                  by_cases h3 : k / 13 = z / 13
                  · have e3 : ((k : Int) / 13 == (z : Int) / 13) = true := beq_iff_eq.2 (by omega)
                    have Hy2 : Hid (fol.testBit k = true) := by have := Hy.out; rwa [decide_eq_true h3] at this
                    clear h3
                    go_wp2_with (first
                      | (go_at_call 50; refine (HK.out _).mono ?_; rintro e w' ⟨rfl, rfl⟩)
                      | (go_at_call 51; refine (HM.out _ (Hh.out.drewN q0)).mono ?_; rintro e w' ⟨rfl, rfl⟩))
                    go_round
                    case rel => exact ⟨k + 1, by omega, by go_num, by rw [Ha1.out Hx.out, Hwa.out], by rw [Hf1.out Hy2.out, Hwf.out]⟩
                    case measure => simp [intOf]; omega
                  · have e3 : ((k : Int) / 13 == (z : Int) / 13) = false := beq_eq_false_iff_ne.2 (by omega)
                    have Hy2 : Hid (fol.testBit k = false) := by have := Hy.out; rwa [decide_eq_false h3] at this
                    clear h3
                    go_wp2_with (first
                      | (go_at_call 50; refine (HK.out _).mono ?_; rintro e w' ⟨rfl, rfl⟩)
                      | (go_at_call 51; refine (HM.out _ (Hh.out.drewN q0)).mono ?_; rintro e w' ⟨rfl, rfl⟩))
                    go_round
                    case rel => exact ⟨k + 1, by omega, by go_num, by rw [Ha1.out Hx.out, Hwa.out], by rw [Hf0.out Hy2.out]⟩
                    case measure => simp [intOf]; omega
            · obtain rfl : k = 52 := by omega
              rw [Hown.out, Hfol.out]
              by_cases hf0 : 0 < fol
              · have hr : res = fol := by rw [← Hres.out, if_pos hf0]
                subst hr
                go_wp2_with fail
                go_ret2
                exact ⟨rfl, q0, rfl⟩
              · have hr : res = own := by rw [← Hres.out, if_neg hf0]
                subst hr
                go_wp2_with fail
                go_ret2
                exact ⟨rfl, q0, rfl⟩
        · have hl0 : l.length = 0 := by omega
          have Hl0 := Lib.hid hl0
          have h0' : ((l.length : Int) == 0) = true := beq_iff_eq.2 (by omega)
          have h0'' : ¬ (0 : Int) < (l.length : Int) := by omega
          clear hl0
          have Ham := Lib.hid (fun (k : Nat) (W : World) hS => c_rAmong A l.length cap l k W rfl hl hS)
          have Hh := Lib.hid h
          clear HR2 Hhl h
          generalize hres : (if 0 < fol then fol else own) = res
          have Hres := Lib.hid hres
          clear hres
          go_enter Try.func31, Try.ntmps31
          go_wp2_with fail
          go_loop [6, 7, 8] (fun al fo c => ∃ k : Nat, k ≤ 52 ∧ c = .int .u8 k ∧ al = .int .u64 (own % 2 ^ k : Nat) ∧ fo = .int .u64 (fol % 2 ^ k : Nat)) (fun _ _ c => 52 - (intOf c).toNat)
          case atStart => exact ⟨0, by omega, rfl, by rw [Nat.pow_zero, Nat.mod_one]; rfl, by rw [Nat.pow_zero, Nat.mod_one]; rfl⟩
          case round =>
            obtain ⟨k, hk, rfl, rfl, rfl⟩ := hrel
            by_cases hlt : k < 52
            · have ha : own % 2 ^ k < 2 ^ k := Nat.mod_lt _ (Nat.pow_pos (by omega))
              have hf : fol % 2 ^ k < 2 ^ k := Nat.mod_lt _ (Nat.pow_pos (by omega))
              have Hwa := Lib.hid (w_addbit ha hlt)
              have Hwf := Lib.hid (w_addbit hf hlt)
              have Ha1 := Lib.hid (fun h => mod_step_yes (x := own) (c := k) h)
              have Ha0 := Lib.hid (fun h => mod_step_no (x := own) (c := k) h)
              have Hf1 := Lib.hid (fun h => mod_step_yes (x := fol) (c := k) h)
              have Hf0 := Lib.hid (fun h => mod_step_no (x := fol) (c := k) h)
              have hob := Hob.out k
              have hfb := Hfb.out k hlt
              have Hk := Hhas.out k
              have Hm := Ham.out k
              rw [decide_eq_false h0, Bool.false_and, Bool.and_false] at hfb
              clear ha hf
              generalize own % 2 ^ k = a at *
              generalize fol % 2 ^ k = f at *
              cases h1 : hd.testBit k with
              | false =>
                rw [h1, Bool.false_and] at hob
                rw [h1] at Hk
                have HK := Lib.hid Hk
                have Hx := Lib.hid hob
                have Hy := Lib.hid hfb
                clear h1 Hk Hm hob hfb
                go_wp2_with (go_at_call 50; refine (HK.out _).mono ?_; rintro e w' ⟨rfl, rfl⟩)
                go_round
                case rel => exact ⟨k + 1, by omega, by go_num, by rw [Ha0.out Hx.out], by rw [Hf0.out Hy.out]⟩
                case measure => simp [intOf]; omega
              | true =>
                cases h2 : has l k with
                | true =>
                  rw [h1, h2] at hob
                  rw [h1] at Hk
                  rw [h2] at Hm
                  have HK := Lib.hid Hk
                  have HM := Lib.hid Hm
                  have Hx : Hid (own.testBit k = false) := hob
                  have Hy : Hid (fol.testBit k = false) := hfb
                  clear h1 h2 Hk Hm hob hfb
                  go_wp2_with (first
                    | (go_at_call 50; refine (HK.out _).mono ?_; rintro e w' ⟨rfl, rfl⟩)
                    | (go_at_call 51; refine (HM.out _ (Hh.out)).mono ?_; rintro e w' ⟨rfl, rfl⟩))
                  go_round
                  case rel => exact ⟨k + 1, by omega, by go_num, by rw [Ha0.out Hx.out], by rw [Hf0.out Hy.out]⟩
                  case measure => simp [intOf]; omega
                | false =>
                  rw [h1, h2] at hob
                  rw [h1] at Hk
                  rw [h2] at Hm
                  have HK := Lib.hid Hk
                  have HM := Lib.hid Hm
                  have Hx : Hid (own.testBit k = true) := hob
                  have Hy : Hid (fol.testBit k = false) := hfb
                  clear h1 h2 Hk Hm hob hfb
                  go_wp2_with (first
                    | (go_at_call 50; refine (HK.out _).mono ?_; rintro e w' ⟨rfl, rfl⟩)
                    | (go_at_call 51; refine (HM.out _ Hh.out).mono ?_; rintro e w' ⟨rfl, rfl⟩))
                  go_round
                  case rel => exact ⟨k + 1, by omega, by go_num, by rw [Ha1.out Hx.out, Hwa.out], by rw [Hf0.out Hy.out]⟩
                  case measure => simp [intOf]; omega
            · obtain rfl : k = 52 := by omega
              rw [Hown.out, Hfol.out]
              by_cases hf0 : 0 < fol
              · have hr : res = fol := by rw [← Hres.out, if_pos hf0]
                subst hr
                go_wp2_with fail
                go_ret2
                exact ⟨rfl, 0, rfl⟩
              · have hr : res = own := by rw [← Hres.out, if_neg hf0]
                subst hr
                go_wp2_with fail
                go_ret2
                exact ⟨rfl, 0, rfl⟩
end Go.Proofs.Ytabejgcpihacpaa
