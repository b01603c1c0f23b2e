/- The statement TrickWinner of layer 11. -/
import Derived.Test.YtabejgcpihacpaaOut11
import Derived.Test.YtabejgcpihacpaaPred8
namespace Go.Proofs.Ytabejgcpihacpaa
open Go.RowKit

theorem stren_52 {t d c : Nat} (hc : c < 52) : stren t d c = if c / 13 = t then 14 + c % 13 else if c / 13 = d then 1 + c % 13 else 0 := by
  unfold stren cSuit cRank
  rw [if_pos hc, if_pos hc]
theorem tWin_max {t z : Nat} {p : List Nat} (hz : p[0]? = some z) {c x : Nat} (hc : c ∈ p) (hx : p[tWin t p]? = some x) : stren t (cSuit z) c ≤ stren t (cSuit z) x := by
  obtain ⟨j, hj, rfl⟩ := List.getElem_of_mem hc
  have h := (bestTo_spec (fun c => (stren t (cSuit (p[0]?.getD 0)) c : Int)) p p.length).1 j hj
  have hw : bestTo (fun c => (stren t (cSuit (p[0]?.getD 0)) c : Int)) p p.length = tWin t p := rfl
  rw [hw, hx, List.getElem?_eq_getElem hj, hz] at h
  simp only [Option.getD_some] at h
  omega
def winSuit (t z : Nat) (p : List Nat) : Nat := if (p.any fun c => c / 13 == t) = true then t else z / 13
/-- The winning card is the greatest of its suit; the suit is trumps if there are any, else the suit led. -/
theorem win_suit {t z x : Nat} {p : List Nat} (hD : ∀ c ∈ p, c < 52) (hz : p[0]? = some z) (hx : p[tWin t p]? = some x) :
    x / 13 = winSuit t z p ∧ ∀ c ∈ p, c / 13 = winSuit t z p → c ≤ x := by
  have hzm := List.mem_of_getElem? hz
  have hz52 := hD z hzm
  have hx52 := hD x (List.mem_of_getElem? hx)
  have hs : cSuit z = z / 13 := by unfold cSuit; rw [if_pos hz52]
  have hm : ∀ c ∈ p, stren t (z / 13) c ≤ stren t (z / 13) x := fun c hc => by have := tWin_max hz hc hx; rwa [hs] at this
  rw [stren_52 hx52] at hm
  unfold winSuit
  split
  · rename_i ha
    obtain ⟨c0, hc0, he⟩ := List.any_eq_true.1 ha
    have he' : c0 / 13 = t := by simpa using he
    have h0 := hm c0 hc0
    rw [stren_52 (hD c0 hc0), if_pos he'] at h0
    have hxt : x / 13 = t := by
      by_cases e : x / 13 = t
      · exact e
      · rw [if_neg e] at h0
        split at h0 <;> omega
    refine ⟨hxt, fun c hc hct => ?_⟩
    have h1 := hm c hc
    rw [stren_52 (hD c hc), if_pos hct, if_pos hxt] at h1
    omega
  · rename_i ha
    have hno : ∀ c ∈ p, ¬ c / 13 = t := fun c hc e => ha (List.any_eq_true.2 ⟨c, hc, by simpa using e⟩)
    have hxn := hno x (List.mem_of_getElem? hx)
    rw [if_neg hxn] at hm
    have h0 := hm z hzm
    rw [stren_52 hz52, if_neg (hno z hzm), if_pos rfl] at h0
    have hxt : x / 13 = z / 13 := by
      by_cases e : x / 13 = z / 13
      · exact e
      · rw [if_neg e] at h0; omega
    refine ⟨hxt, fun c hc hct => ?_⟩
    have h1 := hm c hc
    rw [stren_52 (hD c hc), if_neg (hno c hc), if_pos hct, if_pos hxt] at h1
    omega
theorem tWinE_ok {t : Nat} {p : List Nat} (ht : t ≤ 4) (hR : tRight p = true) : tWinE t p = 0 := by
  unfold tWinE
  rw [if_neg (by omega), if_neg (by rw [hR]; exact Bool.noConfusion)]
theorem tSeat_ok {t ld : Nat} {p : List Nat} (ht : t ≤ 4) (hl : ld ≤ 3) (hR : tRight p = true) : tSeatE t ld p = 0 ∧ tSeat t ld p = (ld + tWin t p) % 4 := by
  have e : tSeatE t ld p = 0 := by
    unfold tSeatE
    rw [if_neg (by omega)]
    exact tWinE_ok ht hR
  refine ⟨e, ?_⟩
  unfold tSeat
  rw [if_pos e]
theorem tBeats_ok {t c : Nat} {p : List Nat} (ht : t ≤ 4) (hR : tRight p = true) (h4 : p.length ≠ 4) (hc : c < 52) (hn : c ∉ p) :
    tBeatsE t p c = 0 ∧ (tBeats t p c = true ↔ tWin t (p ++ [c]) = p.length) ∧ (tBeats t p c = false → tWin t (p ++ [c]) = tWin t p) := by
  have h0 := (tRight_len hR).1
  have e : tBeatsE t p c = 0 := by
    unfold tBeatsE
    rw [if_neg (fun h => h (tWinE_ok ht hR)), if_neg h4, if_neg]
    rintro (h | h)
    · unfold cRight at h; rw [decide_eq_true hc] at h; cases h
    · unfold has at h; exact hn (of_decide_eq_true h)
  have hs := tWin_snoc (t := t) (c := c) h0
  have hlt : tWin t p < p.length := bestTo_lt _ _ _ h0
  refine ⟨e, ?_, ?_⟩
  · unfold tBeats
    rw [if_pos e, hs, decide_eq_true_iff]
    constructor
    · intro h; rw [if_pos h]
    · intro h
      split at h
      · assumption
      · omega
  · unfold tBeats
    rw [if_pos e, hs, decide_eq_false_iff_not]
    intro h
    rw [if_neg h]

set_option maxHeartbeats 400000 in
theorem c_winner1 (p t c : Nat) (hc : c < 256) (w : World) (hp : Box w p 5 (.int .u8 t)) :
    Calls Try.prog 26 #[.int .u8 c, .pointer (some ⟨p, 0, none⟩)] w (Same (.bool (c / 13 == t)) w) := by
  have hcell := hp.cell
  clear hp
  go_enter Try.func26, Try.ntmps26
  go_wp2_with fail
  go_ret
  refine ⟨ret_bool ?_, rfl⟩
  rw [Bool.eq_iff_iff, beq_iff_eq, beq_iff_eq]
  omega
theorem enters_winner1 : ∀ args w, (callFunc 26 args).run Try.prog w = .ok (.enter 26 args) w :=
  enters_of Try.func26 (by kernel_rfl) rfl
theorem pred_winner1 (w : World) (p t : Nat) (hp : Box w p 5 (.int .u8 t)) : BytePred Try.prog w 26 #[.pointer (some ⟨p, 0, none⟩)] (fun c => c / 13 == t) :=
  fun c hc W hb => (c_winner1 p t c hc W (hp.later hb)).mono fun _ _ hh => hh.qt
end Go.Proofs.Ytabejgcpihacpaa
