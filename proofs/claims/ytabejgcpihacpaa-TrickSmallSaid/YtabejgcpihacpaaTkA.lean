/- Contracts of packages card and trick: Right, Suit, Rank, the order of strengths, best, Winner, Seat, Beats. -/
import Derived.Test.YtabejgcpihacpaaBase
import Derived.Test.YtabejgcpihacpaaTkPlain
namespace Go.Proofs.Ytabejgcpihacpaa
open Go.RowKit

theorem c_cardRight (c : Nat) (w : World) :
    Calls Try.prog 47 #[.int .u8 c] w (Same (.bool (cRight c)) w) := by
  go_enter Try.func47, Try.ntmps47
  go_wp2_with fail
  go_ret
  exact ⟨ret_bool (by unfold cRight; simp; omega), rfl⟩

theorem c_cardSuit (c : Nat) (h1 : c < 256) (w : World) :
    Calls Try.prog 38 #[.int .u8 c] w (Same (.int .u8 (cSuit c : Nat)) w) := by
  go_enter Try.func38, Try.ntmps38
  go_wp2_with (go_at_call 47; refine (c_cardRight _ _).mono ?_; rintro e w' ⟨rfl, rfl⟩)
  all_goals go_ret
  all_goals refine ⟨ret_int ?_, rfl⟩
  all_goals simp_all [cRight, cSuit]
  rw [if_neg (by omega)]; rfl

theorem c_cardRank (c : Nat) (h1 : c < 256) (w : World) :
    Calls Try.prog 54 #[.int .u8 c] w (Same (.int .u8 (cRank c : Nat)) w) := by
  go_enter Try.func54, Try.ntmps54
  go_wp2_with (go_at_call 47; refine (c_cardRight _ _).mono ?_; rintro e w' ⟨rfl, rfl⟩)
  all_goals go_ret
  all_goals refine ⟨ret_int ?_, rfl⟩
  all_goals simp_all [cRight, cRank]
  rw [if_neg (by omega)]; rfl

theorem c_slIndex (A : Option Addr) (n cap : Nat) (l : List Nat) (v : Nat) (w : World) (hn : n = l.length) (hl : l.length ≤ 2^47) (h : SlAt w A (l.map u8)) :
    Calls Try.prog 52 #[.slice A n cap, .int .u8 v] w (Same (.int .i64 (idx l v)) w) := by
  subst hn
  go_enter Try.func52, Try.ntmps52
  go_wp2_with fail
  go_loop [5, 8] (fun _ i => ∃ k : Nat, k ≤ l.length ∧ i = .int .i64 k ∧ v ∉ l.take k) (fun _ i => l.length - (intOf i).toNat)
  case atStart => exact ⟨0, Nat.zero_le _, rfl, by simp⟩
  case round =>
    obtain ⟨k, hk, rfl, hv⟩ := hrel
    have Hv := Lib.hid hv
    clear hv
    by_cases hlt : k < l.length
    · obtain ⟨b, o, x, rfl, hb, hx, hc⟩ := h.u8_at hlt
      have Hx := Lib.hid hx
      clear hx
      by_cases he : v = x
      · have e1 : ((v : Int) == (x : Int)) = true := by simp [he]
        have He := Lib.hid he
        clear he
        go_wp2_with fail
        go_ret
        exact ⟨ret_int (idx_hit Hv.out (by rw [Hx.out, He.out])).symm, rfl⟩
      · have e1 : ((v : Int) == (x : Int)) = false := by simp; omega
        have He := Lib.hid he
        clear he
        go_wp2_with fail
        go_round
        case rel => exact ⟨k + 1, by omega, by go_num, notin_snoc Hx.out Hv.out He.out⟩
        case measure => simp [intOf]; omega
    · go_wp2_with fail
      go_ret
      exact ⟨ret_int (idx_miss (by have := Hv.out; rwa [List.take_of_length_le (by omega)] at this)).symm, rfl⟩

theorem c_slContains (A : Option Addr) (n cap : Nat) (l : List Nat) (v : Nat) (w : World) (hn : n = l.length) (hl : l.length ≤ 2^47) (h : SlAt w A (l.map u8)) :
    Calls Try.prog 35 #[.slice A n cap, .int .u8 v] w (Same (.bool (has l v)) w) := by
  subst hn
  go_enter Try.func35, Try.ntmps35
  go_wp2_with (go_at_call 52; refine (c_slIndex _ _ _ l v _ rfl hl h).mono ?_; rintro e w' ⟨rfl, rfl⟩)
  go_ret
  exact ⟨ret_bool (has_idx l v).symm, rfl⟩

theorem okTo_all {l : List Nat} (h : okTo l l.length) (h1 : 0 < l.length) (h4 : l.length ≤ 4) : tRight l = true := by
  unfold tRight; exact decide_eq_true ⟨h1, h4, h⟩
theorem tRight_bad {l : List Nat} {k x : Nat} (hx : l[k]? = some x) (h : ¬ (x < 52 ∧ x ∉ l.take k)) : tRight l = false := by
  unfold tRight
  obtain ⟨hk, rfl⟩ := List.getElem?_eq_some_iff.1 hx
  exact decide_eq_false (fun ⟨_, _, hh⟩ => h (by have := hh k hk; rwa [hx] at this))
theorem tRight_short {l : List Nat} (h : l.length < 1 ∨ 4 < l.length) : tRight l = false := by
  unfold tRight; exact decide_eq_false (fun ⟨_, _, _⟩ => by omega)
theorem okTo_succ {l : List Nat} {k x : Nat} (hx : l[k]? = some x) (h : okTo l k) (h1 : x < 52) (h2 : x ∉ l.take k) : okTo l (k + 1) := by
  intro j hj
  by_cases e : j = k
  · subst e; rw [hx]; exact ⟨h1, h2⟩
  · exact h j (by omega)

set_option maxHeartbeats 400000 in
theorem c_tRight (A : Option Addr) (n cap : Nat) (l : List Nat) (w : World) (hn : n = l.length) (hcap : n ≤ cap) (hl : l.length ≤ 2^47) (h : SlAt w A (l.map u8)) :
    Calls Try.prog 23 #[.slice A n cap] w (Same (.bool (tRight l)) w) := by
  subst hn
  by_cases hbad : l.length < 1 ∨ 4 < l.length
  · have hb := tRight_short hbad
    rcases hbad with h1 | h1
    · have h1' : (l.length : Int) < 1 := by omega
      rw [hb]; clear hb
      go_enter Try.func23, Try.ntmps23
      go_wp2_with fail
      go_ret
      exact ⟨rfl, rfl⟩
    · have h0' : ¬ (l.length : Int) < 1 := by omega
      have h1' : (4 : Int) < (l.length : Int) := by omega
      rw [hb]; clear hb
      go_enter Try.func23, Try.ntmps23
      go_wp2_with fail
      go_ret
      exact ⟨rfl, rfl⟩
  · have h0' : ¬ (l.length : Int) < 1 := by omega
    have h1' : ¬ (4 : Int) < (l.length : Int) := by omega
    have h0 : 0 < l.length := by omega
    have h4 : l.length ≤ 4 := by omega
    clear hbad
    obtain ⟨b, o, rfl, hb, hc⟩ := h.u8_all h0
    go_enter Try.func23, Try.ntmps23
    go_wp2_with fail
    go_loop [3, 4, 15] (fun _ _ i => ∃ k : Nat, k ≤ l.length ∧ i = .int .i64 k ∧ okTo l k) (fun _ _ i => l.length - (intOf i).toNat)
    case atStart => exact ⟨0, Nat.zero_le _, rfl, fun j hj => absurd hj (by omega)⟩
    case round =>
      obtain ⟨k, hk, rfl, hok⟩ := hrel
      by_cases hlt : k < l.length
      · obtain ⟨x, hx⟩ := get_some hlt
        have hck := hc k x hx
        have Hx := Lib.hid hx
        have Hok := Lib.hid hok
        have hlen : (l.take k).length = k := by simp; omega
        have Hlen := Lib.hid hlen
        have ht := h.take k
        rw [← List.map_take] at ht
        have Ht := Lib.hid ht
        clear hc hx hok hlen ht
        cases h52 : cRight x with
        | false =>
          go_wp2_with (go_at_call 47; refine (c_cardRight _ _).mono ?_; rintro e w' ⟨rfl, rfl⟩)
          go_ret
          refine ⟨ret_bool (tRight_bad Hx.out ?_).symm, rfl⟩
          unfold cRight at h52
          simp at h52
          omega
        | true =>
          cases hin : has (l.take k) x with
          | true =>
            go_wp2_with (first
              | (go_at_call 47; refine (c_cardRight _ _).mono ?_; rintro e w' ⟨rfl, rfl⟩)
              | (go_at_call 35; refine (c_slContains _ _ _ (l.take k) _ _ Hlen.out.symm (by have := Hlen.out; omega) Ht.out).mono ?_; rintro e w' ⟨rfl, rfl⟩))
            go_ret
            refine ⟨ret_bool (tRight_bad Hx.out ?_).symm, rfl⟩
            unfold has at hin
            intro hh
            exact hh.2 (of_decide_eq_true hin)
          | false =>
            go_wp2_with (first
              | (go_at_call 47; refine (c_cardRight _ _).mono ?_; rintro e w' ⟨rfl, rfl⟩)
              | (go_at_call 35; refine (c_slContains _ _ _ (l.take k) _ _ Hlen.out.symm (by have := Hlen.out; omega) Ht.out).mono ?_; rintro e w' ⟨rfl, rfl⟩))
            go_round
            case rel => exact ⟨k + 1, by omega, by go_num, okTo_succ Hx.out Hok.out (by unfold cRight at h52; simpa using h52) (by unfold has at hin; simpa using hin)⟩
            case measure => simp [intOf]; omega
      · go_wp2_with fail
        go_ret
        exact ⟨ret_bool (okTo_all (by have : k = l.length := by omega
                                      rwa [this] at hok) h0 h4).symm, rfl⟩

/-- The order of strengths, as a function value. -/
def strCells (w : World) (p q : Nat) (t d : Nat) : Prop :=
  p < w.heap.size ∧ q < w.heap.size ∧ w.cell? ⟨p, 0, none⟩ = some (.int .u8 t) ∧ w.cell? ⟨q, 0, none⟩ = some (.int .u8 d)
theorem strCells.below {w w' : World} {p q t d : Nat} (h : strCells w p q t d) (hb : Below w.heap.size w w') : strCells w' p q t d :=
  ⟨Nat.lt_of_lt_of_le h.1 hb.size, Nat.lt_of_lt_of_le h.2.1 hb.size, (hb.cell (p := ⟨p, 0, none⟩) h.1).trans h.2.2.1, (hb.cell (p := ⟨q, 0, none⟩) h.2.1).trans h.2.2.2⟩

set_option maxHeartbeats 400000 in
theorem c_strengths (t d : Nat) (w : World) :
    Calls Try.prog 37 #[.int .u8 t, .int .u8 d] w fun e w' => ∃ p q, e = .returned (.func (.func 53) #[] #[.pointer (some ⟨p, 0, none⟩), .pointer (some ⟨q, 0, none⟩)]) ∧
      Below w.heap.size w w' ∧ strCells w' p q t d := by
  go_enter Try.func37, Try.ntmps37
  go_wp2_with fail
  go_ret
  refine ⟨w.heap.size, w.heap.size + 1, rfl, ((Below.refl _ _).alloc (Nat.le_refl _) _).alloc (by simp) _, by simp; omega, by simp, ?_, ?_⟩
  · exact (Below.cell (w := w.alloc _) ((Below.refl _ _).alloc (Nat.le_refl _) _) (p := ⟨w.heap.size, 0, none⟩) (by simp)).trans (new_cell _ _ _)
  · simp

set_option maxHeartbeats 400000 in
theorem c_strength1 (p q t d c : Nat) (hc : c < 256) (w : World) (h : strCells w p q t d) :
    Calls Try.prog 53 #[.int .u8 c, .pointer (some ⟨p, 0, none⟩), .pointer (some ⟨q, 0, none⟩)] w (Same (.int .i64 (stren t d c : Nat)) w) := by
  obtain ⟨_, _, h1, h2⟩ := h
  have b1 := cRank_le c
  go_enter Try.func53, Try.ntmps53
  go_wp2_with (first
    | (go_at_call 38; refine (c_cardSuit _ hc _).mono ?_; rintro e w' ⟨rfl, rfl⟩)
    | (go_at_call 54; refine (c_cardRank _ hc _).mono ?_; rintro e w' ⟨rfl, rfl⟩))
  all_goals go_ret
  all_goals refine ⟨ret_int ?_, rfl⟩
  all_goals unfold stren
  · rw [if_pos (by have : ((cSuit c : Int) == (t : Int)) = true := by assumption
                   simp at this; omega)]
    omega
  · rw [if_neg (by have : ((cSuit c : Int) == (t : Int)) = false := by assumption
                   simp at this; omega), if_pos (by have : ((cSuit c : Int) == (d : Int)) = true := by assumption
                                                    simp at this; omega)]
    omega
  · rw [if_neg (by have : ((cSuit c : Int) == (t : Int)) = false := by assumption
                   simp at this; omega), if_neg (by have : ((cSuit c : Int) == (d : Int)) = false := by assumption
                                                    simp at this; omega)]
    rfl

theorem byteFn_strength (w : World) (p q t d : Nat) (h : strCells w p q t d) :
    ByteFn Try.prog w 53 #[.pointer (some ⟨p, 0, none⟩), .pointer (some ⟨q, 0, none⟩)] (fun c => (stren t d c : Int)) := by
  intro c hc W hb
  exact (c_strength1 p q t d c hc W (h.below hb)).mono fun _ _ hh => hh.qt

set_option maxHeartbeats 400000 in
theorem c_best (g : Nat) (lb : Array Value) (f : Nat → Int) (A : Option Addr) (n cap : Nat) (l : List Nat) (w : World) (hn : n = l.length) (hl : l.length ≤ 2^47) (h8 : ∀ x ∈ l, x < 256)
    (eg : ∀ args w, (callFunc g args).run Try.prog w = .ok (.enter g args) w) (h : SlAt w A (l.map u8)) (hf : ByteFn Try.prog w g lb f) :
    Calls Try.prog 36 #[.slice A n cap, .func (.func g) #[] lb] w (Qt (.int .i64 (bestOf f l : Nat)) w) := by
  subst hn
  go_enter Try.func36, Try.ntmps36
  go_wp2_with fail
  go_loopw [5, 6, 7, 10] (fun at_ _ _ i wr => ∃ k : Nat, k ≤ l.length ∧ i = .int .i64 k ∧ at_ = .int .i64 (bestTo f l k : Nat) ∧ Hid (∃ q, wr = w.drewN q)) (fun _ _ _ i _ => l.length - (intOf i).toNat)
  case atStart => exact ⟨0, Nat.zero_le _, rfl, rfl, 0, rfl⟩
  case round =>
    obtain ⟨k, hk, rfl, rfl, HQ⟩ := hrel
    have hb : Below w.heap.size w wr := by
      obtain ⟨q, rfl⟩ := HQ.out
      exact below_drewN (Below.refl _ _) q
    have hr := h.below hb
    by_cases hlt : k < l.length
    · obtain ⟨b, o, rfl, hb1, hc⟩ := hr.u8_all (by omega)
      have hbl : bestTo f l k < l.length := by
        rcases Nat.eq_zero_or_pos k with h0 | h0
        · subst h0; exact hlt
        · have := bestTo_lt f l k h0; omega
      obtain ⟨x, hx⟩ := get_some hlt
      obtain ⟨y, hy⟩ := get_some hbl
      have hck := hc k x hx
      have hcb := hc (bestTo f l k) y hy
      have H1 : ∀ n, Calls Try.prog g (#[Value.int .u8 (x : Int)] ++ lb) (wr.drewN n) (Qt (.int .i64 (f x)) (wr.drewN n)) := fun n => hf x (h8 _ (List.mem_of_getElem? hx)) _ (below_drewN hb n)
      have H2 : ∀ n, Calls Try.prog g (#[Value.int .u8 (y : Int)] ++ lb) (wr.drewN n) (Qt (.int .i64 (f y)) (wr.drewN n)) := fun n => hf y (h8 _ (List.mem_of_getElem? hy)) _ (below_drewN hb n)
      have hs : bestTo f l (k + 1) = if f y < f x then k else bestTo f l k := by
        show (if f (l[bestTo f l k]?.getD 0) < f (l[k]?.getD 0) then k else bestTo f l k) = _
        rw [hx, hy]; rfl
      have Hs := Lib.hid hs
      clear hc hf hs hx hy hb hr h
      generalize f x = fx at *
      generalize f y = fy at *
      generalize bestTo f l k = bt at *
      by_cases hlf : fy < fx
      all_goals
        go_wp2_with fail
        go_quiet (first | (go_at_fn g; exact quiet_qt (H1 _)) | (go_at_fn g; exact quiet_qt (H2 _)))
        go_wp2_with fail
        go_roundw
        case measure => simp [intOf]; omega
      · case rel => exact ⟨k + 1, by omega, by go_num, by rw [Hs.out, if_pos hlf], hq_drewN HQ _⟩
      · case rel => exact ⟨k + 1, by omega, by go_num, by rw [Hs.out, if_neg (Int.not_lt.2 hlf)], hq_drewN HQ _⟩
    · go_wp2_with fail
      go_ret
      exact ⟨ret_int (by unfold bestOf; rw [show k = l.length from by omega]), HQ.out⟩

end Go.Proofs.Ytabejgcpihacpaa
