/- Contract of trick.Cover. -/
import Derived.Test.YtabejgcpihacpaaTkIt
import Derived.Test.YtabejgcpihacpaaCollect8
import Derived.Laws.EntriesVeiled
namespace Go.Proofs.Ytabejgcpihacpaa
open Go.RowKit Go.Shelf

set_option maxHeartbeats 400000 in
theorem c_cover1 (r p q t d c : Nat) (hc : c < 256) (w : World) (h : strCells w p q t d) (hr : Box w r 62 (.func (.func 53) #[] #[.pointer (some ⟨p, 0, none⟩), .pointer (some ⟨q, 0, none⟩)])) :
    Calls Try.prog 46 #[.int .u8 c, .pointer (some ⟨r, 0, none⟩)] w (Same (.int .i64 (-(stren t d c : Int))) w) := by
  have hcell := hr.cell
  have hb : stren t d c ≤ 26 := by
    have := cRank_le c
    unfold stren
    split <;> (try split) <;> omega
  have H := Lib.hid (c_strength1 p q t d c hc w h)
  clear hr h
  generalize stren t d c = s at *
  go_enter Try.func46, Try.ntmps46
  go_wp2_with (go_at_call 53; refine H.out.mono ?_; rintro e w' ⟨rfl, rfl⟩)
  go_ret
  exact ⟨rfl, rfl⟩

theorem byteFn_cover1 (w : World) (r p q t d : Nat) (h : strCells w p q t d) (hr : Box w r 62 (.func (.func 53) #[] #[.pointer (some ⟨p, 0, none⟩), .pointer (some ⟨q, 0, none⟩)])) :
    ByteFn Try.prog w 46 #[.pointer (some ⟨r, 0, none⟩)] (fun c => -(stren t d c : Int)) := by
  intro c hc W hb
  exact (c_cover1 r p q t d c hc W (h.below hb) (hr.later hb)).mono fun _ _ hh => hh.qt

theorem enters_cover1 : ∀ args w, (callFunc 46 args).run Try.prog w = .ok (.enter 46 args) w :=
  enters_of Try.func46 (by kernel_rfl) rfl

def tCoverIs (t h : Nat) (l : List Nat) : Bool := decide (tWinsE t h l = 0 ∧ tWins t h l ≠ 0)
def coverAt (t : Nat) (l : List Nat) (m : Nat) : Nat := bestOf (fun c => -(stren t (cSuit (l[0]?.getD 0)) c : Int)) (cardsOf m)
def tCover (t h : Nat) (l : List Nat) : Nat :=
  if tCoverIs t h l = false then 0 else if l.length = 0 then (cardsOf (tWins t h l))[0]?.getD 0 else (cardsOf (tWins t h l))[coverAt t l (tWins t h l)]?.getD 0

theorem cardsOf_pos {m : Nat} (h0 : m ≠ 0) (h : m < 2 ^ 52) : 0 < (cardsOf m).length := by
  obtain ⟨i, hi⟩ := Nat.exists_testBit_of_ne_zero h0
  have hlt : i < 52 := by
    rcases Nat.lt_or_ge i 52 with h1 | h1
    · exact h1
    · rw [Nat.testBit_lt_two_pow (Nat.lt_of_lt_of_le h (Nat.pow_le_pow_right (by omega) h1))] at hi
      cases hi
  have : i ∈ cardsOf m := mem_cardsTo.2 ⟨hlt, hi⟩
  exact List.length_pos_of_mem this
theorem cardsOf_lt {m c : Nat} (h : c ∈ cardsOf m) : c < 52 := (mem_cardsTo.1 h).1
theorem tWinsE_zero {t h : Nat} {l : List Nat} (hE : tWinsE t h l = 0) : tPlayE h l = 0 ∧ t ≤ 4 := by
  unfold tWinsE at hE
  by_cases h4 : 4 < t
  · rw [if_pos h4] at hE; cases hE
  · rw [if_neg h4] at hE; exact ⟨hE, by omega⟩
theorem tPlayE_len {h : Nat} {l : List Nat} (hE : tPlayE h l = 0) : h < 2 ^ 52 ∧ l.length < 4 ∧ (0 < l.length → tRight l = true) := by
  unfold tPlayE at hE
  by_cases h1 : 2 ^ 52 ≤ h
  · rw [if_pos h1] at hE; cases hE
  · rw [if_neg h1] at hE
    by_cases h2 : 0 < l.length ∧ tRight l = false
    · rw [if_pos h2] at hE; cases hE
    · rw [if_neg h2] at hE
      by_cases h3 : l.length = 4
      · rw [if_pos h3] at hE; cases hE
      · refine ⟨by omega, ?_, fun h0 => ?_⟩
        · rcases Nat.eq_zero_or_pos l.length with h0 | h0
          · omega
          · have : tRight l = true := by
              cases hR : tRight l with
              | true => rfl
              | false => exact absurd ⟨h0, hR⟩ h2
            have := tRight_len this
            omega
        · cases hR : tRight l with
          | true => rfl
          | false => exact absurd ⟨h0, hR⟩ h2
theorem tWins_lt {t h : Nat} {l : List Nat} (hE : tWinsE t h l = 0) : tWins t h l < 2 ^ 52 := by
  have hp := tPlay_lt (tWinsE_zero hE).1
  unfold tWins
  rw [if_neg (fun hh => hh hE)]
  split
  · exact hp
  · exact Nat.lt_of_le_of_lt (winFold_le _ _ _ _) hp

theorem c_collectCards (p m : Nat) (w : World) (hm : m < 2 ^ 64) (hp : Box w p 22 (.int .u64 (m : Nat))) :
    Calls Try.prog 45 #[.func (.func 55) #[] #[.pointer (some ⟨p, 0, none⟩)]] w fun e w' => ∃ A c, e = .returned (.slice A (cardsOf m).length c) ∧ (cardsOf m).length ≤ c ∧ SlAt w' A ((cardsOf m).map u8) ∧ Below w.heap.size w w' := by
  refine (c_collect8 55 _ p (fun c : CardOf m => c.1) (fun ys => ys.map (·.1) = cardsOf m) 52 w (by omega) hp.lt enters_cards1 (c_cards1 p m w hm hp)).mono ?_
  rintro e w3 ⟨v, ys, rfl, hys, hrow, hb3⟩
  obtain ⟨A, c, rfl, hc, hs, hn⟩ := own_sl hrow
  have hl : ys.length = (cardsOf m).length := by rw [← hys, List.length_map]
  refine ⟨A, c, by rw [hl], by omega, ?_, hb3⟩
  rw [← hys, List.map_map]
  exact hs

set_option maxHeartbeats 1000000 in
theorem c_tCover (A : Option Addr) (n cap : Nat) (t hd : Nat) (l : List Nat) (w : World) (hn : n = l.length) (hcap : n ≤ cap) (hl : l.length ≤ 2^47) (hh : hd < 2^64) (ht : t < 256) (h8 : ∀ x ∈ l, x < 256) (h : SlAt w A (l.map u8)) :
    Calls Try.prog 21 #[.int .u8 t, .int .u64 hd, .slice A n cap] w (Frm (.tuple #[.int .u8 (tCover t hd l : Nat), .bool (tCoverIs t hd l)]) w) := by
  subst hn
  have hW := c_tWinners A l.length cap t hd l w rfl hcap hl hh ht h8 h
  by_cases hE : tWinsE t hd l = 0
  · have hm := tWins_lt hE
    rw [hE] at hW
    by_cases hz : tWins t hd l = 0
    · have e1 : tCoverIs t hd l = false := by unfold tCoverIs; exact decide_eq_false (fun hx => hx.2 hz)
      have e2 : tCover t hd l = 0 := by unfold tCover; rw [if_pos e1]
      rw [e1, e2]
      rw [hz] at hW
      have HW := Lib.hid hW
      clear hW e1 e2 hE hz hm
      go_enter Try.func21, Try.ntmps21
      go_wp2_with (go_at_call 20; refine HW.out.mono ?_; rintro e w1 ⟨rfl, hb1⟩)
      go_ret2
      exact ⟨rfl, hb1⟩
    · have e1 : tCoverIs t hd l = true := by unfold tCoverIs; exact decide_eq_true ⟨hE, hz⟩
      have hlen := (tPlayE_len (tWinsE_zero hE).1).2.1
      rw [e1]
      have hpos := cardsOf_pos hz hm
      have hc52 : ∀ c ∈ cardsOf (tWins t hd l), c < 52 := fun c hc => cardsOf_lt hc
      have hclen : (cardsOf (tWins t hd l)).length ≤ 52 := cardsTo_len _ _
      by_cases h0 : l.length = 0
      · have e2 : tCover t hd l = (cardsOf (tWins t hd l))[0]?.getD 0 := by unfold tCover; rw [if_neg (by rw [e1]; exact Bool.noConfusion), if_pos h0]
        rw [e2]
        have HW := Lib.hid hW
        clear hW e1 e2 hE
        have h0'' : ((l.length : Int) == 0) = true := beq_iff_eq.2 (by omega)
        generalize tWins t hd l = m at *
        have hm0 : 0 < m := by omega
        have hm64 : m < 2 ^ 64 := by omega
        have HC := fun p W hp => c_collectCards p m W hm64 hp
        generalize cardsOf m = cs at *
        obtain ⟨x, hx⟩ := get_some hpos
        rw [hx]
        have Hx := Lib.hid hx
        have HC2 := Lib.hid HC
        clear h0 hx hz HC hc52
        go_enter Try.func21, Try.ntmps21
        go_wp2_with (first
          | (go_at_call 20; refine HW.out.mono ?_; rintro e w1 ⟨rfl, hb1⟩)
          | (go_at_call 44; refine (c_cards _ _).mono ?_; rintro e w2 ⟨p, rfl, hb2, hp, hcp⟩)
          | (go_at_call 45; refine (HC2.out _ _ hcp).mono ?_; rintro e w3 ⟨A3, c3, rfl, hc3, hs3, hb3⟩; obtain ⟨b3, o3, rfl, hb3', hc3'⟩ := hs3.u8_all hpos; have hcx := hc3' 0 x Hx.out; rw [Nat.add_zero] at hcx; clear hc3'))
        go_ret2
        exact ⟨rfl, below_step (below_step hb1 hb2) hb3⟩
      · have e2 : tCover t hd l = (cardsOf (tWins t hd l))[coverAt t l (tWins t hd l)]?.getD 0 := by unfold tCover; rw [if_neg (by rw [e1]; exact Bool.noConfusion), if_neg h0]
        rw [e2]
        have HW := Lib.hid hW
        clear hW e1 e2 hE
        have h0'' : ((l.length : Int) == 0) = false := beq_eq_false_iff_ne.2 (by omega)
        obtain ⟨b, o, z, rfl, hb, hz0, hcz⟩ := h.u8_at (k := 0) (by omega)
        rw [Nat.add_zero] at hcz
        have hz8 := h8 z (List.mem_of_getElem? hz0)
        have hat : coverAt t l (tWins t hd l) = bestOf (fun c => -(stren t (cSuit z) c : Int)) (cardsOf (tWins t hd l)) := by unfold coverAt; rw [hz0]; rfl
        have hlt : coverAt t l (tWins t hd l) < (cardsOf (tWins t hd l)).length := bestTo_lt _ _ _ hpos
        generalize coverAt t l (tWins t hd l) = at_ at *
        generalize tWins t hd l = m at *
        have hm0 : 0 < m := by omega
        have hm64 : m < 2 ^ 64 := by omega
        have HC := fun p W hp => c_collectCards p m W hm64 hp
        generalize cardsOf m = cs at *
        obtain ⟨x, hx⟩ := get_some hlt
        rw [hx]
        have Hx := Lib.hid hx
        have HC2 := Lib.hid HC
        have HB0 : ∀ (W : World) (A3 : Option Addr) (c3 r p q : Nat), SlAt W A3 (cs.map u8) → strCells W p q t (cSuit z) → Box W r 62 (.func (.func 53) #[] #[.pointer (some ⟨p, 0, none⟩), .pointer (some ⟨q, 0, none⟩)]) →
            Calls Try.prog 36 #[.slice A3 cs.length c3, .func (.func 46) #[] #[.pointer (some ⟨r, 0, none⟩)]] W (Qt (.int .i64 (at_ : Nat)) W) := by
          intro W A3 c3 r p q h1 h2 h3
          rw [hat]
          exact c_best _ _ _ A3 _ c3 cs W rfl (by omega) (fun x hx => Nat.lt_trans (hc52 x hx) (by omega)) enters_cover1 h1 (byteFn_cover1 _ _ _ _ _ _ h2 h3)
        have HB := Lib.hid HB0
        have hl0 : 0 < l.length := by omega
        clear HB0
        have Hcz := Lib.hid hcz
        clear h0 hx hz HC hc52 hat hz0 hcz
        go_enter Try.func21, Try.ntmps21
        go_wp2_with (first
          | (go_at_call 20; refine HW.out.mono ?_; rintro e w1 ⟨rfl, hb1⟩)
          | (go_at_call 44; refine (c_cards _ _).mono ?_; rintro e w2 ⟨p, rfl, hb2, hp, hcp⟩)
          | (go_at_call 45; refine (HC2.out _ _ hcp).mono ?_; rintro e w3 ⟨A3, c3, rfl, hc3, hs3, hb3⟩; obtain ⟨b3, o3, rfl, hb3', hc3'⟩ := hs3.u8_all hpos; have hcx := hc3' at_ x Hx.out; clear hc3'; have hb13 := below_step (below_step hb1 hb2) hb3; have hcz3 := (hb13.cell (p := ⟨b, o, none⟩) hb).trans Hcz.out)
          | (go_at_call 38; refine (c_cardSuit _ hz8 _).mono ?_; rintro e w' ⟨rfl, rfl⟩)
          | (go_at_call 37; refine (c_strengths _ _ _).mono ?_; rintro e w4 ⟨p4, q4, rfl, hb4, hs4⟩)
          | (go_at_call 36; refine (HB.out _ _ _ _ _ _ ((hs3.below hb4).alloc _) (hs4.below ((Below.refl _ _).alloc (Nat.le_refl _) _)) (Box.new _ _ _)).mono ?_; rintro e w5 ⟨rfl, q5, rfl⟩; have hbz := below_drewN (hb4.alloc hb4.size (Obj.cells #[Value.func (Fn.func 53) #[] #[Value.pointer (some ⟨p4, 0, none⟩), Value.pointer (some ⟨q4, 0, none⟩)]] 62)) q5; have hcx5 := (hbz.cell (p := ⟨b3, o3 + at_, none⟩) hb3').trans hcx))
        go_ret2
        exact ⟨rfl, below_step hb13 hbz⟩
  · have e1 : tCoverIs t hd l = false := by unfold tCoverIs; exact decide_eq_false (fun hx => hE hx.1)
    have e2 : tCover t hd l = 0 := by unfold tCover; rw [if_pos e1]
    have hle : tWinsE t hd l ≤ 111 := by
      have := tPlayE_le hd l
      unfold tWinsE; split <;> omega
    have hw0 : tWins t hd l = 0 := by unfold tWins; rw [if_pos hE]
    rw [e1, e2]
    rw [hw0] at hW
    have HW := Lib.hid hW
    clear hW e1 e2 hw0
    generalize tWinsE t hd l = er at *
    have h0' : 0 < er := by omega
    clear hE
    go_enter Try.func21, Try.ntmps21
    go_wp2_with (go_at_call 20; refine HW.out.mono ?_; rintro e w1 ⟨rfl, hb1⟩)
    go_ret2
    exact ⟨rfl, hb1⟩
end Go.Proofs.Ytabejgcpihacpaa
