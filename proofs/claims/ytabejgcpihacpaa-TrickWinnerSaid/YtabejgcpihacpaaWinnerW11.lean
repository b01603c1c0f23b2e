/- The statement TrickWinner of layer 11: the walk. -/
import Derived.Test.YtabejgcpihacpaaWinner11
namespace Go.Proofs.Ytabejgcpihacpaa
open Go.RowKit

theorem cell_of_block {w w' : World} {p : Addr} (h : w'.heap[p.block]? = w.heap[p.block]?) : w'.cell? p = w.cell? p := by
  unfold World.cell?
  rw [h]
theorem SlAt.setOther {w : World} {b o : Nat} {xs : List Value} (h : SlAt w (some ⟨b, o, none⟩) xs) {p : Addr} (hp : b ≠ p.block) (v : Value) : SlAt (w.setCell p v) (some ⟨b, o, none⟩) xs := by
  intro hl
  obtain ⟨b', o', e, hlt, hc⟩ := h hl
  cases e
  refine ⟨b, o, rfl, by simpa [World.setCell] using hlt, fun i u hu => ?_⟩
  rw [cell_of_block (Below.heap_setCell w p v b hp)]
  exact hc i u hu

set_option maxRecDepth 100000 in
set_option maxHeartbeats 2000000 in
theorem c_TrickWinner (A : Option Addr) (n cap : Nat) (l : List Nat) (t ld : Nat) (w : World) (hn : n = l.length) (hcap : n ≤ cap) (hc : cap ≤ 9223372036854775807) (h : SlAt w A (l.map u8)) (h8 : ∀ x ∈ l, x < 256) (ht : t < 256) (hld : ld < 256) :
    Calls Try.prog 8 #[.slice A n cap, .int .u8 t, .int .u8 ld] w (Frm (.bool true) w) := by
  have HM := Lib.hid (fun W (hb : Below w.heap.size w W) => c_Made A n cap l 4 W hn hcap hc (by omega) h8 (h.below hb))
  clear h h8 hn hcap hc
  have B0 := (Below.refl w.heap.size w).alloc (Nat.le_refl _) (.cells #[Value.int .u8 (t : Int)] 5)
  have X0 := Box.new w 5 (Value.int .u8 (t : Int))
  go_enter Try.func8, Try.ntmps8
  go_wp2_with (first
    | (go_at_call 12; refine (c_awake _).mono ?_; rintro e w1 ⟨rfl, hb1⟩; have B1 := below_step2 B0 hb1 (by simp); have X1 := X0.later hb1)
    | (go_at_call 13; refine (HM.out _ B1).mono ?_; rintro e w2 ⟨v, r, rfl, hown, hlen, hD, hb2⟩; have B2 := below_step2 B1 hb2 B1.size; have X2 := X1.later hb2; have c2' := X2.cell; have f2' := X2.frozen; have HOwn := Lib.hid hown; have HD0 := Lib.hid hD; have HLen := Lib.hid hlen; clear hown hD hlen HM))
  have hown := HOwn.out
  have hD := HD0.out
  have hlen := HLen.out
  have hbase := own_base hown
  obtain ⟨A2, c2, rfl, hc2, hs2, hn2⟩ := own_sl hown
  clear hn2 hown HOwn HD0 HLen
  have X3 := X2.set (Value.int .u8 ((t : Int) % 5))
  have B3 := B2.setCell (p := ⟨w.heap.size, 0, none⟩) (Nat.le_refl _) (Value.int .u8 ((t : Int) % 5))
  have hgw := X1.lt
  have hr4 : r.length ≤ 4 := by omega
  have hs3 : SlAt (w2.setCell ⟨w.heap.size, 0, none⟩ (Value.int .u8 ((t : Int) % 5))) A2 (r.map u8) := by
    rcases A2 with _ | ⟨b, o, pth⟩
    · intro hl; obtain ⟨b, o, e, _⟩ := hs2 hl; cases e
    · intro hl
      obtain ⟨b', o', e, _⟩ := hs2 hl
      cases e
      have := hbase b rfl
      exact SlAt.setOther hs2 (by dsimp only; omega) _ hl
  generalize w2.setCell ⟨w.heap.size, 0, none⟩ (Value.int .u8 ((t : Int) % 5)) = w3 at *
  generalize hg : w.heap.size = g at *
  have Hg := Lib.hid hg
  clear hbase X2 X1 B1 B2 X0 c2' f2' hs2 hb1 hb2 B0 hg hlen hgw
  obtain ⟨t', et, ht'⟩ : ∃ t' : Nat, (t : Int) % 5 = (t' : Int) ∧ t' ≤ 4 := ⟨t % 5, by omega, by omega⟩
  obtain ⟨d', ed, hd'⟩ : ∃ d' : Nat, (ld : Int) % 4 = (d' : Int) ∧ d' ≤ 3 := ⟨ld % 4, by omega, by omega⟩
  rw [et] at X3 ⊢
  rw [ed]
  clear et ed
  by_cases h0 : r.length = 0
  · have h0' : ((r.length : Int) == 0) = true := beq_iff_eq.2 (by omega)
    have hR := c_tRight A2 r.length c2 r w3 rfl hc2 (by omega) hs3
    rw [tRight_short (by omega)] at hR
    have HR := Lib.hid hR
    clear hR h0 hD hs3 X3
    go_simp
    go_wp2_with (go_at_call 23; refine HR.out.mono ?_; rintro e w' ⟨rfl, rfl⟩)
    go_ret
    exact ⟨rfl, by rw [Hg.out]; exact B3⟩
  · have h0' : ((r.length : Int) == 0) = false := beq_eq_false_iff_ne.2 (by omega)
    obtain ⟨b, o, rfl, hb, hcs⟩ := hs3.u8_all (by omega)
    obtain ⟨z, hz⟩ := get_some (l := r) (k := 0) (by omega)
    have hz52 := hD.1 z (List.mem_of_getElem? hz)
    have HS3 := Lib.hid hs3
    have HD := Lib.hid hD
    have Hz := Lib.hid hz
    have Hcs := Lib.hid hcs
    have X4 := X3
    clear h0 hs3 hz hD hcs
    go_simp
    go_wp2_with fail
    go_loopw [8, 9] (fun won i wr => ∃ k wn : Nat, 1 ≤ k ∧ k ≤ r.length + 1 ∧ i = .int .i64 k ∧ won = .int .i64 wn ∧ wn < 4 ∧ Hid (1 < k → wn = tWin t' (r.take (k - 1))) ∧ Box wr g 5 (.int .u8 t') ∧ Below g w wr ∧ Below w3.heap.size w3 wr) (fun _ i _ => r.length + 1 - (intOf i).toNat)
    case atStart => exact ⟨1, 0, by omega, by omega, rfl, rfl, by omega, fun hh => absurd hh (by omega), X4, B3, Below.refl _ _⟩
    case round =>
      obtain ⟨k, wn, hk1, hk, rfl, rfl, hwn, HWn, XB, BW, B4⟩ := hrel
      by_cases hlt : k ≤ r.length
      · obtain ⟨wo, rfl⟩ : ∃ wo : World, wo = wr := ⟨_, rfl⟩
        have hDk := HD.out.take k
        have hlk : (r.take k).length = k := by rw [List.length_take]; omega
        have hRk := hDk.right (by omega) (by omega)
        have hSk : ∀ W, Below w3.heap.size w3 W → SlAt W (some ⟨b, o, none⟩) ((r.take k).map u8) := fun W hb => by
          rw [List.map_take]; exact (HS3.out.below hb).take k
        have hat : tWin t' (r.take k) < k := by have := bestTo_lt (fun c => (stren t' (cSuit ((r.take k)[0]?.getD 0)) c : Int)) (r.take k) (r.take k).length (by omega); unfold tWin bestOf; omega
        have hzk : (r.take k)[0]? = some z := by rw [List.getElem?_take, if_pos (by omega)]; exact Hz.out
        obtain ⟨x, hx⟩ := get_some (l := r) (k := tWin t' (r.take k)) (by omega)
        have hxk : (r.take k)[tWin t' (r.take k)]? = some x := by rw [List.getElem?_take, if_pos hat]; exact hx
        obtain ⟨hxs, hxm⟩ := win_suit hDk.1 hzk hxk
        have hx52 := HD.out.1 x (List.mem_of_getElem? hx)
        have HW := Lib.hid (fun W hS => c_tWinner (some ⟨b, o, none⟩) k c2 t' (r.take k) W hlk.symm (by omega) (by omega) (by omega) hDk.lt256 hS)
        rw [tWinner_ok (tWinE_ok ht' hRk), tWinE_ok ht' hRk] at HW
        have HSe := Lib.hid (fun W hS => c_tSeat (some ⟨b, o, none⟩) k c2 t' d' (r.take k) W hlk.symm (by omega) (by omega) (by omega) (by omega) hDk.lt256 hS)
        rw [(tSeat_ok ht' hd' hRk).1, (tSeat_ok ht' hd' hRk).2] at HSe
        have HR := Lib.hid (fun W hS => c_tRight (some ⟨b, o, none⟩) k c2 (r.take k) W hlk.symm (by omega) (by omega) hS)
        rw [hRk] at HR
        have HCF := Lib.hid (fun W hS hX => c_containsFunc8 26 #[.pointer (some ⟨g, 0, none⟩)] (fun c => c / 13 == t') (some ⟨b, o, none⟩) k c2 (r.take k) W hlk.symm (by omega) hDk.lt256 enters_winner1 hS (pred_winner1 W g t' hX))
        have hws : winSuit t' z (r.take k) = if (r.take k).any (fun c => c / 13 == t') = true then t' else z / 13 := rfl
        have hnext : tWin t' (r.take k) = tWin t' (r.take (k + 1 - 1)) := rfl
        rw [hws] at hxs hxm
        generalize (r.take k).any (fun c => c / 13 == t') = any at *
        have hmem : ∀ j y, j < k → r[j]? = some y → y ∈ r.take k := fun j y hj hy => by
          refine List.mem_of_getElem? (i := j) ?_
          rw [List.getElem?_take, if_pos hj]; exact hy
        have Hat : Hid (tWin t' (r.take k) = tWin t' (r.take (k + 1 - 1))) := rfl
        have HBt : 1 < k → ∃ (bt : Bool) (c : Nat), r[k - 1]? = some c ∧ c < 52 ∧ (bt = true ↔ tWin t' (r.take k) = k - 1) ∧ (bt = false → tWin t' (r.take k) = wn) ∧
            ∀ W, SlAt W (some ⟨b, o, none⟩) ((r.take (k - 1)).map u8) → Calls Try.prog 27 #[.int .u8 t', .slice (some ⟨b, o, none⟩) (k - 1) c2, .int .u8 c] W (Frm (.tuple #[.bool bt, .int .i64 0]) W) := by
          intro h1
          obtain ⟨c, hc⟩ := get_some (l := r) (k := k - 1) (by omega)
          have hck := HD.out.1 c (List.mem_of_getElem? hc)
          have hDp := HD.out.take (k - 1)
          have hlp : (r.take (k - 1)).length = k - 1 := by rw [List.length_take]; omega
          have hRp := hDp.right (by omega) (by omega)
          have hcut : r.take k = r.take (k - 1) ++ [c] := by
            have := List.take_succ_eq_append_getElem (i := k - 1) (l := r) (by omega)
            rw [show k - 1 + 1 = k from by omega] at this
            rw [this]
            congr 2
            rw [List.getElem?_eq_getElem (by omega)] at hc
            exact Option.some.inj hc
          have hnc : c ∉ r.take (k - 1) := by
            have := hDk.2
            rw [hcut, List.nodup_append] at this
            exact fun hm => this.2.2 c hm c (by simp) rfl
          obtain ⟨q1, q2, q3⟩ := tBeats_ok (t := t') ht' hRp (by omega) hck hnc
          rw [← hcut, hlp] at q2
          rw [← hcut] at q3
          refine ⟨tBeats t' (r.take (k - 1)) c, c, hc, hck, q2, fun hh => (q3 hh).trans (HWn.out h1).symm, fun W hS => ?_⟩
          have := c_tBeats (some ⟨b, o, none⟩) (k - 1) c2 t' (r.take (k - 1)) c W hlp.symm (by omega) (by omega) (by omega) (by omega) hDp.lt256 hS
          rw [q1] at this
          exact this
        have HBt := Lib.hid HBt
        have HSk := Lib.hid hSk
        have HX := Lib.hid hx
        have HXS := Lib.hid (And.intro hxs hxm)
        have HMem := Lib.hid hmem
        clear hDk hlk hRk hSk hzk hxk hxs hxm hws hnext hx hmem HWn
        generalize tWin t' (r.take k) = at_ at *
        have hbx := XB.cell
        have b1 : (0 : Int) ≤ (k : Int) := by omega
        have b2 : (k : Int) ≤ (c2 : Int) := by omega
        go_wp2_with fail
        go_region_held3 (fun W => W.cell? ⟨g, 0, none⟩ = some (Value.int .u8 (t' : Int))) (assumption) ((go_at_call 16; refine (HW.out _ (by exact HSk.out _ B4.drew)).mono ?_; rintro e w4 ⟨rfl, hb4⟩; have B5 := below_step2 B4.drew hb4 (by have := B4.size; simpa using this); have BW5 := below_step2 BW.drew hb4 (by have := BW.size; rw [Hg.out] at this; simpa using this); have X5 : Box w4 g 5 (.int .u8 t') := Box.later (w := wo.drew) XB hb4; have c5 := X5.cell; clear hb4))
        go_wp2_with fail
        go_region_held3 (fun W => W.cell? ⟨g, 0, none⟩ = some (Value.int .u8 (t' : Int))) (assumption) ((go_at_call 24; refine (HSe.out _ (by exact HSk.out _ B5.drew)).mono ?_; rintro e w5 ⟨rfl, hb5⟩; have B6 := below_step2 B5.drew hb5 (by have := B5.size; simpa using this); have BW6 := below_step2 BW5.drew hb5 (by have := BW5.size; rw [Hg.out] at this; simpa using this); have X6 : Box w5 g 5 (.int .u8 t') := Box.later (w := w4.drew) X5 hb5; have c6 := X6.cell; clear hb5))
        have cz5 := (B6.cell (p := ⟨b, o, none⟩) hb).trans (Hcs.out 0 z Hz.out)
        cases any with
        | true =>
          replace HXS : Hid (x / 13 = t' ∧ ∀ c ∈ r.take k, c / 13 = t' → c ≤ x) := HXS.out
          go_wp2_with (first
            | (go_at_call 23; refine (HR.out _ (HSk.out _ B6)).mono ?_; rintro e w' ⟨rfl, rfl⟩)
            | (go_at_call 25; refine Calls.mono (Calls.mono (HCF.out _ (HSk.out _ B6) X6) fun _ _ hh => Qt.frm hh) ?_; rintro e w6 ⟨rfl, hb6⟩; have B7 := below_step2 B6 hb6 B6.size; have BW7 := below_step2 BW6 hb6 (by have := BW6.size; rwa [Hg.out] at this); have X7 := X6.later hb6; have c7 := X7.cell; clear hb6))
          have cx7 := (B7.cell (p := ⟨b, o + at_, none⟩) hb).trans (Hcs.out at_ x HX.out)
          go_loop [90] (fun i => ∃ j : Nat, j ≤ k ∧ i = .int .i64 j) (fun i => k - (intOf i).toNat)
          case atStart => exact ⟨0, Nat.zero_le _, rfl⟩
          case round =>
            obtain ⟨j, hj, rfl⟩ := hrel
            by_cases hjk : j < k
            · obtain ⟨y, hy⟩ := get_some (l := r) (k := j) (by omega)
              have cy7 := (B7.cell (p := ⟨b, o + j, none⟩) hb).trans (Hcs.out j y hy)
              have hy52 := HD.out.1 y (List.mem_of_getElem? hy)
              have hyx := HXS.out.2 y (HMem.out j y hjk hy)
              clear hy
              by_cases hys : y / 13 = t'
              · have hle := hyx hys
                have e1 : ((y : Int) / 13 == (t' : Int)) = true := beq_iff_eq.2 (by omega)
                clear hyx hys
                go_wp2_with fail
                go_round
                case rel => exact ⟨j + 1, by omega, by go_num⟩
                case measure => simp [intOf]; omega
              · have e1 : ((y : Int) / 13 == (t' : Int)) = false := beq_eq_false_iff_ne.2 (by omega)
                clear hyx hys
                go_wp2_with fail
                go_round
                case rel => exact ⟨j + 1, by omega, by go_num⟩
                case measure => simp [intOf]; omega
            · obtain rfl : j = k := by omega
              clear hjk
              have e2 : ((x : Int) / 13 == (t' : Int)) = true := beq_iff_eq.2 (by have := HXS.out.1; omega)
              by_cases h1 : 1 < j
              · obtain ⟨i, rfl⟩ : ∃ i, j = i + 1 := ⟨j - 1, by omega⟩
                obtain ⟨bt, c, hc, hc52, q1, q2, HBC⟩ := HBt.out h1
                rw [Nat.add_sub_cancel] at hc q1
                have hcI := (B7.cell (p := ⟨b, o + i, none⟩) hb).trans (Hcs.out i c hc)
                have b5 : (0 : Int) ≤ (i : Int) := by omega
                have b8 : IntKind.i64.wrap (i : Int) = (i : Int) := by rw [IntKind.wrap_i64]; omega
                have b6 : (i : Int) ≤ (c2 : Int) := by omega
                have b7 : (i : Int) < (r.length : Int) := by omega
                clear hc
                cases bt with
                | true =>
                  have hat1 := q1.1 rfl
                  have e3 : ((at_ : Int) == (i : Int)) = true := beq_iff_eq.2 (by omega)
                  clear q1 q2 hat1
                  go_wp2_with fail
                  go_region_held3 (fun W => W.cell? ⟨g, 0, none⟩ = some (Value.int .u8 (t' : Int)) ∧ W.cell? ⟨b, o + i, none⟩ = some (Value.int .u8 (c : Int))) (exact ⟨by assumption, by assumption⟩) ((go_at_call 27; refine (HBC _ (by rw [List.map_take]; exact (HS3.out.below B7.drew).take _)).mono ?_; rintro e w8 ⟨rfl, hb8⟩; have B8 := below_step2 B7.drew hb8 (by have := B7.size; simpa using this); have BW8 := below_step2 BW7.drew hb8 (by have := BW7.size; rw [Hg.out] at this; simpa using this); have X8 : Box w8 g 5 (.int .u8 t') := Box.later (w := w6.drew) X7 hb8; have c8 := X8.cell; have cc8 := (hb8.cell (p := ⟨b, o + i, none⟩) (Nat.lt_of_lt_of_le hb B7.size)).trans hcI; clear hb8))
                  go_wp2_with fail
                  go_roundw
                  case rel => exact ⟨i + 1 + 1, at_, by omega, by omega, by go_num, rfl, by omega, fun _ => Hat.out, X8, BW8, B8⟩
                  case measure => simp [intOf]; omega
                | false =>
                  have hat1 : ¬ at_ = i := fun hh => by have := q1.2 hh; cases this
                  obtain rfl := q2 rfl
                  have e3 : ((at_ : Int) == (i : Int)) = false := beq_eq_false_iff_ne.2 (by omega)
                  clear q1 q2 hat1
                  go_wp2_with fail
                  go_region_held3 (fun W => W.cell? ⟨g, 0, none⟩ = some (Value.int .u8 (t' : Int)) ∧ W.cell? ⟨b, o + i, none⟩ = some (Value.int .u8 (c : Int))) (exact ⟨by assumption, by assumption⟩) ((go_at_call 27; refine (HBC _ (by rw [List.map_take]; exact (HS3.out.below B7.drew).take _)).mono ?_; rintro e w8 ⟨rfl, hb8⟩; have B8 := below_step2 B7.drew hb8 (by have := B7.size; simpa using this); have BW8 := below_step2 BW7.drew hb8 (by have := BW7.size; rw [Hg.out] at this; simpa using this); have X8 : Box w8 g 5 (.int .u8 t') := Box.later (w := w6.drew) X7 hb8; have c8 := X8.cell; have cc8 := (hb8.cell (p := ⟨b, o + i, none⟩) (Nat.lt_of_lt_of_le hb B7.size)).trans hcI; clear hb8))
                  go_wp2_with fail
                  go_roundw
                  case rel => exact ⟨i + 1 + 1, at_, by omega, by omega, by go_num, rfl, by omega, fun _ => Hat.out, X8, BW8, B8⟩
                  case measure => simp [intOf]; omega
              · obtain rfl : j = 1 := by omega
                go_wp2_with fail
                go_roundw
                case rel => exact ⟨2, at_, by omega, by omega, by go_num, rfl, by omega, fun _ => Hat.out, X7, BW7, B7⟩
                case measure => simp [intOf]; omega
        | false =>
          replace HXS : Hid (x / 13 = z / 13 ∧ ∀ c ∈ r.take k, c / 13 = z / 13 → c ≤ x) := HXS.out
          go_wp2_with (first
            | (go_at_call 23; refine (HR.out _ (HSk.out _ B6)).mono ?_; rintro e w' ⟨rfl, rfl⟩)
            | (go_at_call 25; refine Calls.mono (Calls.mono (HCF.out _ (HSk.out _ B6) X6) fun _ _ hh => Qt.frm hh) ?_; rintro e w6 ⟨rfl, hb6⟩; have B7 := below_step2 B6 hb6 B6.size; have BW7 := below_step2 BW6 hb6 (by have := BW6.size; rwa [Hg.out] at this); have X7 := X6.later hb6; have c7 := X7.cell; clear hb6))
          have cx7 := (B7.cell (p := ⟨b, o + at_, none⟩) hb).trans (Hcs.out at_ x HX.out)
          go_loop [90] (fun i => ∃ j : Nat, j ≤ k ∧ i = .int .i64 j) (fun i => k - (intOf i).toNat)
          case atStart => exact ⟨0, Nat.zero_le _, rfl⟩
          case round =>
            obtain ⟨j, hj, rfl⟩ := hrel
            by_cases hjk : j < k
            · obtain ⟨y, hy⟩ := get_some (l := r) (k := j) (by omega)
              have cy7 := (B7.cell (p := ⟨b, o + j, none⟩) hb).trans (Hcs.out j y hy)
              have hy52 := HD.out.1 y (List.mem_of_getElem? hy)
              have hyx := HXS.out.2 y (HMem.out j y hjk hy)
              clear hy
              by_cases hys : y / 13 = z / 13
              · have hle := hyx hys
                have e1 : ((y : Int) / 13 == (z : Int) / 13) = true := beq_iff_eq.2 (by omega)
                clear hyx hys
                go_wp2_with fail
                go_round
                case rel => exact ⟨j + 1, by omega, by go_num⟩
                case measure => simp [intOf]; omega
              · have e1 : ((y : Int) / 13 == (z : Int) / 13) = false := beq_eq_false_iff_ne.2 (by omega)
                clear hyx hys
                go_wp2_with fail
                go_round
                case rel => exact ⟨j + 1, by omega, by go_num⟩
                case measure => simp [intOf]; omega
            · obtain rfl : j = k := by omega
              clear hjk
              have e2 : ((x : Int) / 13 == (z : Int) / 13) = true := beq_iff_eq.2 (by have := HXS.out.1; omega)
              by_cases h1 : 1 < j
              · obtain ⟨i, rfl⟩ : ∃ i, j = i + 1 := ⟨j - 1, by omega⟩
                obtain ⟨bt, c, hc, hc52, q1, q2, HBC⟩ := HBt.out h1
                rw [Nat.add_sub_cancel] at hc q1
                have hcI := (B7.cell (p := ⟨b, o + i, none⟩) hb).trans (Hcs.out i c hc)
                have b5 : (0 : Int) ≤ (i : Int) := by omega
                have b8 : IntKind.i64.wrap (i : Int) = (i : Int) := by rw [IntKind.wrap_i64]; omega
                have b6 : (i : Int) ≤ (c2 : Int) := by omega
                have b7 : (i : Int) < (r.length : Int) := by omega
                clear hc
                cases bt with
                | true =>
                  have hat1 := q1.1 rfl
                  have e3 : ((at_ : Int) == (i : Int)) = true := beq_iff_eq.2 (by omega)
                  clear q1 q2 hat1
                  go_wp2_with fail
                  go_region_held3 (fun W => W.cell? ⟨g, 0, none⟩ = some (Value.int .u8 (t' : Int)) ∧ W.cell? ⟨b, o + i, none⟩ = some (Value.int .u8 (c : Int))) (exact ⟨by assumption, by assumption⟩) ((go_at_call 27; refine (HBC _ (by rw [List.map_take]; exact (HS3.out.below B7.drew).take _)).mono ?_; rintro e w8 ⟨rfl, hb8⟩; have B8 := below_step2 B7.drew hb8 (by have := B7.size; simpa using this); have BW8 := below_step2 BW7.drew hb8 (by have := BW7.size; rw [Hg.out] at this; simpa using this); have X8 : Box w8 g 5 (.int .u8 t') := Box.later (w := w6.drew) X7 hb8; have c8 := X8.cell; have cc8 := (hb8.cell (p := ⟨b, o + i, none⟩) (Nat.lt_of_lt_of_le hb B7.size)).trans hcI; clear hb8))
                  go_wp2_with fail
                  go_roundw
                  case rel => exact ⟨i + 1 + 1, at_, by omega, by omega, by go_num, rfl, by omega, fun _ => Hat.out, X8, BW8, B8⟩
                  case measure => simp [intOf]; omega
                | false =>
                  have hat1 : ¬ at_ = i := fun hh => by have := q1.2 hh; cases this
                  obtain rfl := q2 rfl
                  have e3 : ((at_ : Int) == (i : Int)) = false := beq_eq_false_iff_ne.2 (by omega)
                  clear q1 q2 hat1
                  go_wp2_with fail
                  go_region_held3 (fun W => W.cell? ⟨g, 0, none⟩ = some (Value.int .u8 (t' : Int)) ∧ W.cell? ⟨b, o + i, none⟩ = some (Value.int .u8 (c : Int))) (exact ⟨by assumption, by assumption⟩) ((go_at_call 27; refine (HBC _ (by rw [List.map_take]; exact (HS3.out.below B7.drew).take _)).mono ?_; rintro e w8 ⟨rfl, hb8⟩; have B8 := below_step2 B7.drew hb8 (by have := B7.size; simpa using this); have BW8 := below_step2 BW7.drew hb8 (by have := BW7.size; rw [Hg.out] at this; simpa using this); have X8 : Box w8 g 5 (.int .u8 t') := Box.later (w := w6.drew) X7 hb8; have c8 := X8.cell; have cc8 := (hb8.cell (p := ⟨b, o + i, none⟩) (Nat.lt_of_lt_of_le hb B7.size)).trans hcI; clear hb8))
                  go_wp2_with fail
                  go_roundw
                  case rel => exact ⟨i + 1 + 1, at_, by omega, by omega, by go_num, rfl, by omega, fun _ => Hat.out, X8, BW8, B8⟩
                  case measure => simp [intOf]; omega
              · obtain rfl : j = 1 := by omega
                go_wp2_with fail
                go_roundw
                case rel => exact ⟨2, at_, by omega, by omega, by go_num, rfl, by omega, fun _ => Hat.out, X7, BW7, B7⟩
                case measure => simp [intOf]; omega
      · obtain rfl : k = r.length + 1 := by omega
        go_wp2_with fail
        go_ret
        exact ⟨rfl, by rw [Hg.out]; exact BW⟩
end Go.Proofs.Ytabejgcpihacpaa
