/- The iterator over the cards of a mask: trick.cards and its closure; slices.Collect over it; Winners, Cover. -/
import Derived.Test.YtabejgcpihacpaaTkC
import Derived.Test.YtabejgcpihacpaaRange
namespace Go.Proofs.Ytabejgcpihacpaa
open Go.RowKit Go.Shelf
attribute [local go_sem] Oper.semAt_some


set_option maxHeartbeats 1000000 in
theorem c_cards1 (p h : Nat) (w : World) (hh : h < 2 ^ 64) (hc : Box w p 22 (.int .u64 (h : Nat))) :
    ItSeq Try.prog 55 #[.pointer (some ⟨p, 0, none⟩)] p (fun c : CardOf h => Value.int .u8 (c.1 : Nat)) (fun ys => ys.map (·.1) = cardsOf h) 52 w := by
  intro n hn l J Jx W hW _ _ hY h0
  have hcW := hc.later hW
  clear hc hW
  refine callsIn_of_wp Try.func55 rfl trivial ?_ rfl
  simp only [Try.ntmps55, List.size_toArray, List.length_cons, List.length_nil, Nat.reduceAdd, Nat.reduceSub, Array.replicate_succ, Array.replicate_zero, List.push_toArray, List.append_toArray, List.nil_append, List.cons_append]
  gi_wp2
  gi_loopw [3, 4] (fun _ i wr => ∃ (k : Nat) (pre : List (CardOf h)), k ≤ 52 ∧ i = .int .u8 k ∧ Hid (pre.map (·.1) = cardsTo h k) ∧ J pre wr ∧ KeepB p W wr) (fun _ i _ => 52 - (intOf i).toNat)
  case atStart => exact ⟨0, [], by omega, rfl, rfl, h0, KeepB.refl _ _⟩
  case round =>
    obtain ⟨k, pre, hk, rfl, HP, hJ, hB⟩ := hrel
    have hcr := (hB.box hcW).cell
    have HB := Lib.hid hB
    clear hB
    have hlen : pre.length ≤ k := by
      have h1 := congrArg List.length HP.out
      have h2 := cardsTo_len h k
      simp at h1
      omega
    clear hcW
    by_cases hlt : k < 52
    · cases ht : h.testBit k with
      | false =>
        have e1 : (bits BinOp.and IntKind.u64 ((h : Int) / 2 ^ k) 1 == 1) = false := by rw [w_bit_lt hh (by omega), ht]
        have Ht := Lib.hid ht
        clear ht hY
        gi_wp2
        refine ⟨fun _ h => (by cases h), ?_⟩
        gi_wp2
        go_roundw
        case rel => exact ⟨k + 1, pre, by omega, by go_num, (by rw [cardsTo_no Ht.out]; exact HP.out), hJ, HB.out⟩
        case measure => simp [intOf]; omega
      | true =>
        have e1 : (bits BinOp.and IntKind.u64 ((h : Int) / 2 ^ k) 1 == 1) = true := by rw [w_bit_lt hh (by omega), ht]
        obtain ⟨fn, tmps, assign, body, hy, hR⟩ := hY pre ⟨k, hlt, ht⟩ wr hJ (by omega)
        have Ht := Lib.hid ht
        clear hY
        have hy' : (Instr.yield l #[Value.int .u8 (k : Int)]).run Try.prog wr = .ok (.round l fn tmps assign body) wr := hy
        clear hy
        gi_wp2
        refine hR.mono ?_
        rintro e W3 (⟨rfl, hJ3, hk3⟩ | ⟨rfl, hJx3⟩)
        · gi_wp2
          go_roundw
          case rel => exact ⟨k + 1, pre ++ [⟨k, hlt, Ht.out⟩], by omega, by go_num, (by rw [cardsTo_yes Ht.out, List.map_append, HP.out]; rfl), hJ3, HB.out.trans hk3⟩
          case measure => simp [intOf]; omega
        · gi_wp2
          refine bodyPost_ret (results_none rfl _ _ _) rfl ?_
          exact ⟨⟨_, rfl⟩, .inr ⟨pre ++ [⟨k, hlt, Ht.out⟩], trivial, hJx3⟩⟩
    · obtain rfl : k = 52 := by omega
      clear hY
      gi_wp2
      go_end0
      exact ⟨⟨_, rfl⟩, .inl ⟨pre, HP.out, hJ⟩⟩

theorem enters_cards1 : ∀ args w, (callFunc 55 args).run Try.prog w = .ok (.enter 55 args) w :=
  enters_of Try.func55 (by kernel_rfl) rfl

theorem c_cards (m : Nat) (w : World) :
    Calls Try.prog 44 #[.int .u64 m] w fun e w' => ∃ p, e = .returned (.func (.func 55) #[] #[.pointer (some ⟨p, 0, none⟩)]) ∧
      Below w.heap.size w w' ∧ w.heap.size ≤ p ∧ Box w' p 22 (.int .u64 (m : Nat)) := by
  go_enter Try.func44, Try.ntmps44
  go_wp2_with fail
  go_ret
  exact ⟨w.heap.size, rfl, (Below.refl _ _).alloc (Nat.le_refl _) _, Nat.le_refl _, Box.new _ _ _⟩

/-- Of the cards cs those that do not win are taken out of m. -/
def winFold (t : Nat) (l : List Nat) (m : Nat) (cs : List Nat) : Nat := cs.foldl (fun m c => if tBeats t l c then m else clr m c) m
theorem winFold_snoc (t : Nat) (l : List Nat) (m : Nat) (cs : List Nat) (c : Nat) : winFold t l m (cs ++ [c]) = if tBeats t l c then winFold t l m cs else clr (winFold t l m cs) c := by
  unfold winFold; rw [List.foldl_append]; rfl
theorem winFold_le (t : Nat) (l : List Nat) (cs : List Nat) : ∀ m, winFold t l m cs ≤ m := by
  induction cs with
  | nil => intro m; exact Nat.le_refl _
  | cons c cs ih =>
    intro m
    show winFold t l (if tBeats t l c then m else clr m c) cs ≤ m
    refine Nat.le_trans (ih _) ?_
    split
    · exact Nat.le_refl _
    · exact clr_le _ _
def tWinsE (t h : Nat) (l : List Nat) : Nat := if 4 < t then 2 else tPlayE h l
def tWins (t h : Nat) (l : List Nat) : Nat := if tWinsE t h l ≠ 0 then 0 else if l.length = 0 then tPlay h l else winFold t l (tPlay h l) (cardsOf (tPlay h l))
theorem tPlay_lt {h : Nat} {l : List Nat} (hE : tPlayE h l = 0) : tPlay h l < 2 ^ 52 := by
  have hlo : h < 2 ^ 52 := by
    unfold tPlayE at hE
    by_cases hb : 2 ^ 52 ≤ h
    · rw [if_pos hb] at hE; cases hE
    · omega
  unfold tPlay
  have h1 := clrTo_le h l l.length
  have h2 : follow h l ≤ clrTo h l l.length := Nat.and_le_left
  split
  · omega
  · split
    · exact hlo
    · split <;> omega
theorem tPlay_zero {h : Nat} {l : List Nat} (hE : tPlayE h l ≠ 0) : tPlay h l = 0 := by unfold tPlay; rw [if_pos hE]
theorem tPlayE_le (h : Nat) (l : List Nat) : tPlayE h l ≤ 111 := by unfold tPlayE; split <;> (try split) <;> (try split) <;> omega

set_option maxHeartbeats 1000000 in
theorem c_tWinners_loop (A : Option Addr) (n cap : Nat) (t hd : Nat) (l : List Nat) (w : World) (hn : n = l.length) (hcap : n ≤ cap) (hl : l.length ≤ 2^47) (hh : hd < 2^64) (ht : t < 256) (h8 : ∀ x ∈ l, x < 256) (h : SlAt w A (l.map u8))
    (h4 : ¬ 4 < t) (hE : tPlayE hd l = 0) (h0 : 0 < l.length) :
    Calls Try.prog 20 #[.int .u8 t, .int .u64 hd, .slice A n cap] w (Frm (.tuple #[.int .u64 (winFold t l (tPlay hd l) (cardsOf (tPlay hd l)) : Nat), .int .i64 0]) w) := by
  subst hn
  have hP := fun W (hS : SlAt W A (l.map u8)) => c_tPlayable A l.length cap hd l W rfl hcap hl hh h8 hS
  have hm := tPlay_lt hE
  simp only [hE] at hP
  generalize tPlay hd l = m0 at *
  have h0'' : ((l.length : Int) == 0) = false := beq_eq_false_iff_ne.2 (by omega)
  clear hE
  have hfn : ∀ f, Fence.wide.fn f := fun _ => trivial
  refine (callsIn_wide (n := 10)).1 ?_
  refine callsIn_of_wp_marks (n := 10) Try.func20 rfl trivial ?_ rfl
  simp only [Try.ntmps20, List.size_toArray, List.length_cons, List.length_nil, Nat.reduceAdd, Nat.reduceSub, Array.replicate_succ, Array.replicate_zero, List.push_toArray, List.append_toArray, List.nil_append, List.cons_append]
  gi_wp2_with (first
    | (gi_at_call 17; refine (callsIn_wide.2 (hP _ ((h.alloc _).alloc _))).mono ?_; rintro e w' ⟨rfl, rfl⟩)
    | (gi_at_call 44; refine (callsIn_wide.2 (c_cards _ _)).mono ?_; rintro e w1 ⟨p, rfl, hb1, hp, hcp⟩))
  have b0 : Box w1 w.heap.size 5 (.int .u8 t) := (((Box.new w _ _).alloc _).alloc _).later hb1
  have b1 : Box w1 (w.heap.size + 1) 23 (.slice A l.length cap) := by
    have := ((Box.new (w.alloc (.cells #[Value.int .u8 (t : Int)] 5)) 23 (.slice A l.length cap)).alloc (.cells #[Value.int .u64 (m0 : Int)] 22)).later hb1
    simpa using this
  have b2 : Box w1 (w.heap.size + 1 + 1) 22 (.int .u64 m0) := by
    have := (Box.new ((w.alloc (.cells #[Value.int .u8 (t : Int)] 5)).alloc (.cells #[Value.slice A l.length cap] 23)) 22 (.int .u64 (m0 : Int))).later hb1
    simpa using this
  have hBw : Below w.heap.size w w1 := ((((Below.refl _ w).alloc (Nat.le_refl _) _).alloc (by simp) _).alloc (by simp; omega) _).trans (hb1.mono (by simp; omega))
  have hp3 : w.heap.size + 3 ≤ p := by simp at hp; omega
  have hsz : p < w1.heap.size := hcp.lt
  clear hb1 hp
  refine wpIn_range_all (s := 10) rfl enters_cards1 (c_cards1 p m0 w1 (by omega) hcp) (Below.refl _ _) hsz
    (fun pre W => Box W w.heap.size 5 (.int .u8 t) ∧ Box W (w.heap.size + 1) 23 (.slice A l.length cap) ∧ Box W (w.heap.size + 1 + 1) 22 (.int .u64 (winFold t l m0 (pre.map (·.1)) : Nat)) ∧ Below w.heap.size w W ∧ p < W.heap.size)
    ?hI ⟨b0, b1, b2, hBw, hsz⟩ ?assign ?body ?done
  case hI =>
    intro s W W' row ⟨i0, i1, i2, i3, i4⟩ hg hr
    exact ⟨i0.kept hg (fun r e => (hr r e).2), i1.kept hg (fun r e => (hr r e).2), i2.kept hg (fun r e => (hr r e).2), i3.grown hg i3.size (fun k e => Nat.le_trans hBw.size (hr k e).1), Nat.lt_of_lt_of_le i4 hg.size⟩
  case assign =>
    intro l v W K hK
    simp only [List.setIfInBounds_toArray, List.set_cons_succ, List.set_cons_zero] at hK ⊢
    gi_wp2
    exact hK
  case body =>
    rintro ll pre ⟨c, hc52, hcb⟩ W ⟨i0, i1, i2, i3, i4⟩ _
    simp only [List.setIfInBounds_toArray, List.set_cons_succ, List.set_cons_zero]
    have hmm := winFold_le t l (pre.map (·.1)) m0
    have hs := winFold_snoc t l m0 (pre.map (·.1)) c
    have HS : Hid (winFold t l m0 ((pre ++ [(⟨c, hc52, hcb⟩ : CardOf m0)]).map (·.1)) = if tBeats t l c then winFold t l m0 (pre.map (·.1)) else clr (winFold t l m0 (pre.map (·.1))) c) := by
      rw [List.map_append]; exact hs
    clear hs
    have k0 := i0.cell
    have k1 := i1.cell
    have k2 := i2.cell
    have hS := h.below i3
    generalize winFold t l m0 (pre.map (·.1)) = mm at *
    have hm64 : mm < 2 ^ 64 := by omega
    cases hb : tBeats t l c with
    | true =>
      have hB := fun W (hS : SlAt W A (l.map u8)) => c_tBeats A l.length cap t l c W rfl hcap hl ht (by omega) h8 hS
      simp only [hb] at hB HS
      rw [if_pos trivial] at HS
      have HB := Lib.hid (hB W hS)
      clear hB hb hS
      gi_wp2_with (gi_at_call 27; refine (CallsIn.inRound ll (callsIn_wide.2 HB.out)).mono ?_; rintro e W2 ⟨rfl, hb2⟩)
      exact ⟨keepsFrom_below hb2, KeepB.below hb2 i4, i0.later hb2, i1.later hb2, by rw [HS.out]; exact i2.later hb2, below_step2 i3 hb2, Nat.lt_of_lt_of_le i4 hb2.size⟩
    | false =>
      have hB := fun W (hS : SlAt W A (l.map u8)) => c_tBeats A l.length cap t l c W rfl hcap hl ht (by omega) h8 hS
      simp only [hb] at hB HS
      rw [if_neg Bool.noConfusion] at HS
      have HB := Lib.hid (hB W hS)
      clear hB hb hS
      gi_wp2_with (gi_at_call 27; refine (CallsIn.inRound ll (callsIn_wide.2 HB.out)).mono ?_; rintro e W2 ⟨rfl, hb2⟩; have c2 := (i2.later hb2).cell; have f2 := (i2.later hb2).frozen)
      refine ⟨(keepsFrom_below hb2).trans ((KeepsOthers.setCell _ _ _).from _), (KeepB.below hb2 i4).trans (KeepB.setCell _ (by dsimp only; omega) _), (i0.later hb2).other (by dsimp only; omega) _, (i1.later hb2).other (by dsimp only; omega) _, ?_, (below_step2 i3 hb2).setCell (by dsimp only; omega) _, by simpa [World.setCell] using Nat.lt_of_lt_of_le i4 hb2.size⟩
      rw [HS.out, ← w_clr_lt hm64 (show c < 64 by omega)]
      exact (i2.later hb2).set _
  case done =>
    rintro D ys W hD hys ⟨i0, i1, i2, i3, i4⟩ hK
    have k2 := i2.cell
    rw [hys] at k2
    clear i2 hys
    gi_wp2
    refine ⟨by simp, .inl ⟨_, _, rfl, run_takeDeferred hK, ?_⟩⟩
    exact ⟨_, results_tmp2 rfl _ _ _, rfl, i3.trans (belowK_b (w := w) (Nat.le_refl _) W D _ _ (Nat.le_trans hBw.size hD) hK rfl rfl)⟩

set_option maxHeartbeats 400000 in
theorem c_tWinners (A : Option Addr) (n cap : Nat) (t hd : Nat) (l : List Nat) (w : World) (hn : n = l.length) (hcap : n ≤ cap) (hl : l.length ≤ 2^47) (hh : hd < 2^64) (ht : t < 256) (h8 : ∀ x ∈ l, x < 256) (h : SlAt w A (l.map u8)) :
    Calls Try.prog 20 #[.int .u8 t, .int .u64 hd, .slice A n cap] w (Frm (.tuple #[.int .u64 (tWins t hd l : Nat), .int .i64 (tWinsE t hd l : Nat)]) w) := by
  subst hn
  by_cases h4 : 4 < t
  · have e2 : tWinsE t hd l = 2 := by unfold tWinsE; rw [if_pos h4]
    have e1 : tWins t hd l = 0 := by unfold tWins; rw [e2]; rfl
    rw [e1, e2]; clear e1 e2
    go_enter Try.func20, Try.ntmps20
    go_wp2_with fail
    go_ret2
    exact ⟨rfl, ((Below.refl _ _).alloc (Nat.le_refl _) _).alloc (by simp) _⟩
  · have e2 : tWinsE t hd l = tPlayE hd l := by unfold tWinsE; rw [if_neg h4]
    by_cases hE : tPlayE hd l = 0
    · by_cases h0 : l.length = 0
      · have e1 : tWins t hd l = tPlay hd l := by unfold tWins; rw [e2, if_neg (fun hh => hh hE), if_pos h0]
        have hP := fun W (hS : SlAt W A (l.map u8)) => c_tPlayable A l.length cap hd l W rfl hcap hl hh h8 hS
        rw [e1, e2, hE]
        simp only [hE] at hP
        clear e1 e2 hE
        generalize tPlay hd l = m0 at *
        have h0'' : ((l.length : Int) == 0) = true := beq_iff_eq.2 (by omega)
        clear h0
        go_enter Try.func20, Try.ntmps20
        go_wp2_with (go_at_call 17; refine (hP _ ((h.alloc _).alloc _)).mono ?_; rintro e w' ⟨rfl, rfl⟩)
        go_ret2
        exact ⟨rfl, (((Below.refl _ _).alloc (Nat.le_refl _) _).alloc (by simp) _).alloc (by simp; omega) _⟩
      · have e1 : tWins t hd l = winFold t l (tPlay hd l) (cardsOf (tPlay hd l)) := by unfold tWins; rw [e2, if_neg (fun hh => hh hE), if_neg h0]
        rw [e1, e2, hE]
        exact c_tWinners_loop A l.length cap t hd l w rfl hcap hl hh ht h8 h h4 hE (by omega)
    · have e1 : tWins t hd l = 0 := by unfold tWins; rw [e2, if_pos hE]
      have hP := fun W (hS : SlAt W A (l.map u8)) => c_tPlayable A l.length cap hd l W rfl hcap hl hh h8 hS
      have hle := tPlayE_le hd l
      rw [tPlay_zero hE] at hP
      rw [e1, e2]
      clear e1 e2
      generalize tPlayE hd l = er at *
      have h0' : 0 < er := by omega
      clear hE
      go_enter Try.func20, Try.ntmps20
      go_wp2_with (go_at_call 17; refine (hP _ ((h.alloc _).alloc _)).mono ?_; rintro e w' ⟨rfl, rfl⟩)
      go_ret2
      exact ⟨rfl, (((Below.refl _ _).alloc (Nat.le_refl _) _).alloc (by simp) _).alloc (by simp; omega) _⟩
end Go.Proofs.Ytabejgcpihacpaa
