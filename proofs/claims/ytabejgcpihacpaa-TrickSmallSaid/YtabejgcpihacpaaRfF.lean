/- Contract of the reference of layer 11: Cover. -/
import Derived.Test.YtabejgcpihacpaaRfE
namespace Go.Proofs.Ytabejgcpihacpaa
open Go.RowKit

/-- The best card of a list. -/
def cOut (g : Nat → Int) (cs : List Nat) : Nat := cs[bestOf g cs]?.getD 0
theorem cOut_snoc (g : Nat → Int) (cs : List Nat) (k : Nat) : cOut g (cs ++ [k]) = if 0 < cs.length then (if g (cOut g cs) < g k then k else cOut g cs) else k := by
  unfold cOut bestOf
  by_cases h0 : 0 < cs.length
  · rw [if_pos h0, List.length_append, List.length_singleton]
    have hb := bestTo_lt g cs cs.length h0
    have e : bestTo g (cs ++ [k]) (cs.length + 1) = if g (cs[bestTo g cs cs.length]?.getD 0) < g k then cs.length else bestTo g cs cs.length := by
      show (if _ < _ then _ else _) = _
      rw [bestTo_append _ cs [k] cs.length (Nat.le_refl _), List.getElem?_append_left hb, List.getElem?_append_right (Nat.le_refl _), Nat.sub_self]
      rfl
    rw [e]
    split
    · rw [List.getElem?_append_right (Nat.le_refl _), Nat.sub_self]; rfl
    · rw [List.getElem?_append_left hb]
  · have : cs = [] := List.eq_nil_of_length_eq_zero (by omega)
    subst this
    rw [if_neg h0]
    have : bestTo g ([] ++ [k]) ([] ++ [k]).length = 0 := by
      show (if _ < _ then 0 else bestTo g [k] 0) = 0
      split <;> rfl
    rw [this]; rfl
theorem bestTo_const (cs : List Nat) : ∀ k, bestTo (fun _ => 0) cs k = 0
  | 0 => rfl
  | k + 1 => by unfold bestTo; rw [if_neg (by omega)]; exact bestTo_const cs k

theorem cOut_mem (g : Nat → Int) {cs : List Nat} (h : 0 < cs.length) : cOut g cs ∈ cs := by
  unfold cOut
  have hb := bestTo_lt g cs cs.length h
  unfold bestOf
  rw [List.getElem?_eq_getElem hb]
  exact List.getElem_mem _

set_option maxRecDepth 100000 in
set_option maxHeartbeats 1000000 in
theorem c_rCover (A : Option Addr) (n cap : Nat) (t hd : Nat) (l : List Nat) (w : World) (hn : n = l.length) (hl : l.length ≤ 2^47) (hh : hd < 2^64) (h8 : ∀ x ∈ l, x < 256) (h : SlAt w A (l.map u8)) :
    Calls Try.prog 33 #[.int .u8 t, .int .u64 hd, .slice A n cap] w (Frm (.tuple #[.int .u8 (tCover t hd l : Nat), .bool (tCoverIs t hd l)]) w) := by
  subst hn
  have hW := c_rWinners A l.length cap t hd l w rfl hl hh h8 h
  clear hh
  by_cases hE : tWinsE t hd l = 0
  · have hm := tWins_lt hE
    rw [hE] at hW
    by_cases hz : tWins t hd l = 0
    · have e1 : tCoverIs t hd l = false := by unfold tCoverIs; exact decide_eq_false (fun hx => hx.2 hz)
      have e2 : tCover t hd l = 0 := by unfold tCover; rw [if_pos e1]
      rw [e1, e2]
      rw [hz] at hW
      have HW := Lib.hid hW
      clear hW e1 e2 hE hz hm
      go_enter Try.func33, Try.ntmps33
      go_wp2_with (go_at_call 32; refine HW.out.mono ?_; rintro e w1 ⟨rfl, hb1⟩)
      go_ret2
      exact ⟨rfl, hb1⟩
    · have e1 : tCoverIs t hd l = true := by unfold tCoverIs; exact decide_eq_true ⟨hE, hz⟩
      have hPE := tPlayE_len (tWinsE_zero hE).1
      have ht4 := (tWinsE_zero hE).2
      obtain ⟨z, hzl⟩ : ∃ z, z = l[0]?.getD 0 := ⟨_, rfl⟩
      have hz256 : z < 256 := by
        rw [hzl]
        rcases Nat.eq_zero_or_pos l.length with h0 | h0
        · rw [List.getElem?_eq_none (by omega)]; decide
        · rw [List.getElem?_eq_getElem h0]; exact h8 _ (List.getElem_mem _)
      -- the order by which the reference goes
      obtain ⟨g, hg1, hg0⟩ : ∃ g : Nat → Int, (0 < l.length → ∀ c, g c = -(tStrength t (z / 13) c : Int)) ∧ (l.length = 0 → ∀ c, g c = 0) := by
        by_cases h0 : l.length = 0
        · exact ⟨fun _ => 0, fun h => absurd h (by omega), fun _ _ => rfl⟩
        · exact ⟨fun c => -(tStrength t (z / 13) c : Int), fun _ _ => rfl, fun h => absurd h h0⟩
      have e2 : tCover t hd l = cOut g (cardsOf (tWins t hd l)) := by
        unfold tCover
        rw [if_neg (by rw [e1]; exact Bool.noConfusion)]
        by_cases h0 : l.length = 0
        · rw [if_pos h0]
          have : g = fun _ => 0 := funext (hg0 h0)
          unfold cOut bestOf
          rw [this, bestTo_const]
        · rw [if_neg h0]
          unfold coverAt cOut
          have hR := hPE.2.2 (by omega)
          have hz52 : z < 52 := by
            rw [hzl, List.getElem?_eq_getElem (by omega)]
            exact tRight_mem hR (List.getElem_mem _)
          have : bestOf g (cardsOf (tWins t hd l)) = bestOf (fun c => -(stren t (cSuit (l[0]?.getD 0)) c : Int)) (cardsOf (tWins t hd l)) := by
            refine bestOf_congr fun c hc => ?_
            have hc52 := cardsOf_lt hc
            rw [hg1 (by omega), ← hzl]
            unfold tStrength
            rw [if_pos (by omega)]
            unfold cSuit
            rw [if_pos hz52]
          rw [this]
      rw [e1, e2]
      have HW := Lib.hid hW
      have Hpos := Lib.hid (cardsOf_pos hz hm)
      have Hhas := Lib.hid (fun (k : Nat) (W : World) => c_rHas (tWins t hd l) k (by omega) W)
      have Hmem := Lib.hid (fun k => fun (hlt : 0 < (cardsTo (tWins t hd l) k).length) => (mem_cardsTo.1 (cOut_mem g hlt)).1)
      have Hm52 : Hid (tWins t hd l < 2 ^ 52) := hm
      have Hm0 : Hid (0 < tWins t hd l) := by show 0 < _; omega
      clear hW e1 e2 hE hz hm
      have Hstr := Lib.hid (fun c (hc : c < 256) (W : World) => c_rStrength t (z / 13) c hc W)
      generalize tWins t hd l = m at *
      have hmI : ((m : Int) == 0) = false := beq_eq_false_iff_ne.2 (by have := Hm0.out; omega)
      have Hh := Lib.hid h
      have HG1 := Lib.hid hg1
      have HG0 := Lib.hid hg0
      clear hg1 hg0 h
      have Hzc : Hid (0 < l.length → ∃ b o, A = some ⟨b, o, none⟩ ∧ b < w.heap.size ∧ w.cell? ⟨b, o, none⟩ = some (.int .u8 (z : Nat))) := by
        intro h0
        obtain ⟨b, o, x, hA, hb, hx, hc⟩ := Hh.out.u8_at h0
        rw [Nat.add_zero] at hc
        rw [hx] at hzl
        have hzx : z = x := hzl
        subst hzx
        exact ⟨b, o, hA, hb, hc⟩
      clear hzl hPE
      go_enter Try.func33, Try.ntmps33
      go_wp2_with (go_at_call 32; refine HW.out.mono ?_; rintro e w1 ⟨rfl, hb1⟩)
      go_loopw [10, 11, 12] (fun ou fo c wr => ∃ k : Nat, k ≤ 52 ∧ c = .int .u8 k ∧ ou = .int .u8 (cOut g (cardsTo m k) : Nat) ∧ fo = .bool (decide (0 < (cardsTo m k).length)) ∧ Below w.heap.size w wr) (fun _ _ c _ => 52 - (intOf c).toNat)
      case atStart => exact ⟨0, by omega, rfl, rfl, rfl, hb1⟩
      case round =>
        obtain ⟨k, hk, rfl, rfl, rfl, hbw⟩ := hrel
        by_cases hlt : k < 52
        · have Hk := Hhas.out k
          have Hmk := Hmem.out k
          have Hyes := Lib.hid (fun h => cardsTo_yes (h := m) (k := k) h)
          have Hno := Lib.hid (fun h => cardsTo_no (h := m) (k := k) h)
          have Hsn := Lib.hid (cOut_snoc g (cardsTo m k) k)
          generalize cardsTo m k = cs at *
          generalize ho : cOut g cs = out at *
          have Ho := Lib.hid ho
          clear ho
          cases h1 : m.testBit k with
          | false =>
            rw [h1] at Hk
            have HK := Lib.hid Hk
            have Hx := Lib.hid h1
            clear h1 Hk Hmk
            generalize hfd : decide (0 < cs.length) = fd at *
            have Hfd := Lib.hid hfd
            clear hfd
            go_wp2_with (go_at_call 50; refine (HK.out _).mono ?_; rintro e w' ⟨rfl, rfl⟩)
            go_roundw
            case rel => exact ⟨k + 1, by omega, by go_num, by rw [Hno.out Hx.out, Ho.out], by rw [Hno.out Hx.out, Hfd.out], hbw⟩
            case measure => simp [intOf]; omega
          | true =>
            rw [h1] at Hk
            have HK := Lib.hid Hk
            have Hx := Lib.hid h1
            clear h1 Hk
            have Hft : Hid (decide (0 < (cs ++ [k]).length) = true) := decide_eq_true (by simp)
            by_cases hcs : 0 < cs.length
            · have hout := Hmk hcs
              have hlt2 : (if 0 < cs.length then (if g out < g k then k else out) else k) = if g out < g k then k else out := if_pos hcs
              have Hsn2 : Hid (cOut g (cs ++ [k]) = if g out < g k then k else out) := by
                have := Hsn.out
                rw [hlt2] at this
                exact this
              rw [decide_eq_true hcs]
              clear Hmk hlt2 hcs
              by_cases h0 : 0 < l.length
              · obtain ⟨b, o, rfl, hb, hc⟩ := Hzc.out h0
                have hcz := (hbw.cell (p := ⟨b, o, none⟩) hb).trans hc
                have b1 : (0 : Int) < (l.length : Int) := by omega
                have hdl : decide ((0 : Int) < (l.length : Int)) = true := decide_eq_true b1
                have S1 := Lib.hid (fun n => Hstr.out k (by omega) (wr.drewN n))
                have S2 := Lib.hid (fun n => Hstr.out out (by omega) (wr.drewN n))
                have G1 := HG1.out h0 k
                have G2 := HG1.out h0 out
                have Hsn3 : Hid (cOut g (cs ++ [k]) = if tStrength t (z / 13) k < tStrength t (z / 13) out then k else out) := by
                  have := Hsn2.out
                  rw [G1, G2] at this
                  have e : (-(tStrength t (z / 13) out : Int) < -(tStrength t (z / 13) k : Int)) ↔ tStrength t (z / 13) k < tStrength t (z / 13) out := by omega
                  simp only [e] at this
                  exact this
                clear hc G1 G2
                generalize tStrength t (z / 13) k = s1 at *
                generalize tStrength t (z / 13) out = s2 at *
                by_cases hss : s1 < s2
                all_goals
                  go_wp2_with (go_at_call 50; refine (HK.out _).mono ?_; rintro e w' ⟨rfl, rfl⟩)
                  go_quiet (first
                    | (go_at_call_of 43 (Value.int IntKind.u8 (k : Int)); exact quiet_same (S1.out _))
                    | (go_at_call_of 43 (Value.int IntKind.u8 (out : Int)); exact quiet_same (S2.out _)))
                  go_wp2_with fail
                  go_roundw
                  case measure => simp [intOf]; omega
                · case rel => exact ⟨k + 1, by omega, by go_num, by rw [Hyes.out Hx.out, Hsn3.out, if_pos hss], by rw [Hyes.out Hx.out, Hft.out], below_drewN hbw _⟩
                · case rel => exact ⟨k + 1, by omega, by go_num, by rw [Hyes.out Hx.out, Hsn3.out, if_neg (by omega)], by rw [Hyes.out Hx.out, Hft.out], below_drewN hbw _⟩
              · have hdl : decide ((0 : Int) < (l.length : Int)) = false := decide_eq_false (by omega)
                have G1 := HG0.out (by omega) k
                have G2 := HG0.out (by omega) out
                have Hsn3 : Hid (cOut g (cs ++ [k]) = out) := by
                  have := Hsn2.out
                  rw [G1, G2, if_neg (by omega)] at this
                  exact this
                clear G1 G2
                go_wp2_with (go_at_call 50; refine (HK.out _).mono ?_; rintro e w' ⟨rfl, rfl⟩)
                go_quiet (fail)
                go_wp2_with fail
                go_roundw
                case measure => simp [intOf]; omega
                case rel => exact ⟨k + 1, by omega, by go_num, by rw [Hyes.out Hx.out, Hsn3.out], by rw [Hyes.out Hx.out, Hft.out], below_drewN hbw _⟩
            · have Hsn3 : Hid (cOut g (cs ++ [k]) = k) := by
                have := Hsn.out
                rw [if_neg hcs] at this
                exact this
              rw [decide_eq_false hcs]
              clear Hmk hcs
              go_wp2_with (go_at_call 50; refine (HK.out _).mono ?_; rintro e w' ⟨rfl, rfl⟩)
              go_quiet (fail)
              go_wp2_with fail
              go_roundw
              case measure => simp [intOf]; omega
              case rel => exact ⟨k + 1, by omega, by go_num, by rw [Hyes.out Hx.out, Hsn3.out], by rw [Hyes.out Hx.out, Hft.out], below_drewN hbw _⟩
        · obtain rfl : k = 52 := by omega
          have Hpc : Hid (0 < (cardsTo m 52).length) := Hpos.out
          generalize ho : cOut g (cardsTo m 52) = out at *
          have Ho := Lib.hid ho
          clear ho
          generalize decide (0 < (cardsTo m 52).length) = fd at *
          go_wp2_with fail
          go_ret2
          exact ⟨ret_two (int_eq (by rw [← Ho.out]; rfl)) rfl, hbw⟩
  · have e1 : tCoverIs t hd l = false := by unfold tCoverIs; exact decide_eq_false (fun hx => hE hx.1)
    have e2 : tCover t hd l = 0 := by unfold tCover; rw [if_pos e1]
    have hle : tWinsE t hd l ≤ 111 := by
      have := tPlayE_le hd l
      unfold tWinsE; split <;> omega
    have hw0 : tWins t hd l = 0 := by unfold tWins; rw [if_pos hE]
    rw [e1, e2]
    rw [hw0] at hW
    have HW := Lib.hid hW
    clear hW e1 e2 hw0
    generalize tWinsE t hd l = er at *
    have h0' : 0 < er := by omega
    clear hE
    go_enter Try.func33, Try.ntmps33
    go_wp2_with (go_at_call 32; refine HW.out.mono ?_; rintro e w1 ⟨rfl, hb1⟩)
    go_ret2
    exact ⟨rfl, hb1⟩
end Go.Proofs.Ytabejgcpihacpaa
