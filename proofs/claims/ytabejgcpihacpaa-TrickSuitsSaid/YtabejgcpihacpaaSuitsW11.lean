/- The statement TrickSuits of layer 11: the walk. -/
import Derived.Test.YtabejgcpihacpaaSuitsA11
namespace Go.Proofs.Ytabejgcpihacpaa
open Go.RowKit

set_option maxRecDepth 100000 in
set_option maxHeartbeats 4000000 in
theorem c_TrickSuits (A : Option Addr) (n cap : Nat) (l : List Nat) (hd t b : Nat) (w : World) (hn : n = l.length) (hcap : n ≤ cap) (hc : cap ≤ 9223372036854775807) (h : SlAt w A (l.map u8)) (h8 : ∀ x ∈ l, x < 256) (hh : hd < 2 ^ 64) (ht : t < 256) (hb : b < 256) :
    Calls Try.prog 4 #[.slice A n cap, .int .u64 hd, .int .u8 t, .int .u8 b] w (Frm (.bool true) w) := by
  obtain ⟨i0, hi, hz0, hz1, hz2⟩ := info_parts info_u8
  have HM := Lib.hid (fun W (hb : Below w.heap.size w W) => c_Made A n cap l 4 W hn hcap hc (by omega) h8 (h.below hb))
  have HW := Lib.hid (w_hand hh)
  have hm52 : Hid (hd % 2 ^ 52 < 2 ^ 52) := Nat.mod_lt _ (by omega)
  generalize hd % 2 ^ 52 = m at *
  clear h h8 hn hcap hc hh
  have B0 := (Below.refl w.heap.size w).alloc (Nat.le_refl _) (.cells #[Value.int .u8 (b : Int)] 5)
  have X0 := Box.new w 5 (Value.int .u8 (b : Int))
  go_enter Try.func4, Try.ntmps4
  go_wp2_with (first
    | (go_at_call 12; refine (c_awake _).mono ?_; rintro e w1 ⟨rfl, hb1⟩; have B1 := below_step2 B0 hb1 (by simp); have X1 := X0.later hb1)
    | (go_at_call 13; refine (HM.out _ B1).mono ?_; rintro e w2 ⟨v, r, rfl, hown, hlen, hD, hb2⟩; have B2 := below_step2 B1 hb2 B1.size; have X2 := X1.later hb2; have HOwn := Lib.hid hown; have HD0 := Lib.hid hD; have HLen := Lib.hid hlen; clear hown hD hlen HM))
  have hown := HOwn.out
  have hD := HD0.out
  have hlen := HLen.out
  have hbase := own_base hown
  obtain ⟨A2, c2, rfl, hc2, hs2, hn2⟩ := own_sl hown
  have hr4 : r.length ≤ 4 := by omega
  clear hn2 hown HOwn HD0 HLen hlen hbase X1 B1 B0 X0 hb1
  have hgw := X2.lt
  have Xa := X2.alloc (.cells #[Value.func (.func 14) #[] #[.pointer (some ⟨w.heap.size, 0, none⟩)]] 27)
  have Na := Box.new w2 27 (Value.func (.func 14) #[] #[.pointer (some ⟨w.heap.size, 0, none⟩)])
  have Ba := B2.alloc B2.size (.cells #[Value.func (.func 14) #[] #[.pointer (some ⟨w.heap.size, 0, none⟩)]] 27)
  have hsa := hs2.alloc (.cells #[Value.func (.func 14) #[] #[.pointer (some ⟨w.heap.size, 0, none⟩)]] 27)
  have hsz : w2.heap.size + 1 = (w2.alloc (.cells #[Value.func (.func 14) #[] #[.pointer (some ⟨w.heap.size, 0, none⟩)]] 27)).heap.size := by simp
  rw [hsz]
  generalize w2.alloc (.cells #[Value.func (.func 14) #[] #[.pointer (some ⟨w.heap.size, 0, none⟩)]] 27) = wa at *
  generalize hq : w2.heap.size = q at *
  generalize hg : w.heap.size = g at *
  have Hg := Lib.hid hg
  clear hg hq hs2 X2 B2 hb2 hgw hsz
  obtain ⟨t', et, ht'⟩ : ∃ t' : Nat, (t : Int) % 5 = (t' : Int) ∧ t' ≤ 4 := ⟨t % 5, by omega, by omega⟩
  rw [et, HW.out]
  clear et
  go_simp
  go_wp2_with fail
  have Hsa := Lib.hid hsa
  have HD := Lib.hid hD
  clear hsa hD
  have hsum : ∀ W : World, Below wa.heap.size wa W → Hid (Box W g 5 (.int .u8 b) ∧ Box W q 27 (.func (.func 14) #[] #[.pointer (some ⟨g, 0, none⟩)])) := fun W hW => ⟨Xa.later hW, Na.later hW⟩
  have HX := Lib.hid hsum
  clear hsum
  go_loopw [11, 37] (fun other i wr => ∃ k : Nat, k ≤ r.length ∧ i = .int .i64 k ∧ wr.ownsRow wa.heap.size 5 1 other k (((r.map (nc b)).take k).map u8) ∧ Below wa.heap.size wa wr) (fun _ i _ => r.length - (intOf i).toNat)
  case atStart => exact ⟨0, Nat.zero_le _, rfl, own_empty _ (Nat.le_refl _), (Below.refl _ _).alloc (Nat.le_refl _) _⟩
  case round =>
    obtain ⟨k, hk, rfl, hown, B4⟩ := hrel
    have X4 := (HX.out _ B4).out.1
    have N4 := (HX.out _ B4).out.2
    have nc4 := N4.cell
    have hsz4 := B4.size
    by_cases hlt : k < r.length
    · obtain ⟨bb, o, x, rfl, hbb, hx, hcx⟩ := (Hsa.out.below B4).u8_at (k := k) hlt
      have hx52 := HD.out.1 x (List.mem_of_getElem? hx)
      have HN := Lib.hid (c_suits1 g b (x / 13) hb (by omega) wr X4)
      have hsn : nm b (x / 13) ≤ 3 := nm_le (by omega)
      have hnx : nc b x = 13 * nm b (x / 13) + x % 13 := rfl
      have hstep : ((r.map (nc b)).take (k + 1)).map u8 = ((r.map (nc b)).take k).map u8 ++ [Value.int .u8 ((13 * nm b (x / 13) + x % 13 : Nat) : Int)] := by
        have hlt' : k < (r.map (nc b)).length := by rw [List.length_map]; exact hlt
        rw [List.take_succ_eq_append_getElem hlt', List.map_append]
        congr 1
        have := List.getElem?_eq_getElem hlt'
        rw [List.getElem?_map, hx] at this
        have e : (r.map (nc b))[k] = nc b x := (Option.some.inj this).symm
        rw [e, hnx]
        rfl
      generalize nm b (x / 13) = u at *
      have Hstep := Lib.hid hstep
      have HOwn := Lib.hid hown
      clear hstep hown hx hnx
      have hr4' := hr4
      go_wp2_with (first
        | (go_at_call 14; refine HN.out.mono ?_; rintro e w' ⟨rfl, rfl⟩)
        | (at_builtin; go_must (refine wpList_append_sl rfl (.tmp 41) (.tmp 50) 23 rfl wa.heap.size 5 i0 (.int .u8 0) 1 Try.underlying23 hi hz0 hz1 hz2 rfl _ k _ rfl (HOwn.out.alloc _) (some ⟨wr.heap.size, 0, none⟩) 1 1 [.int .u8 ((13 * u + x % 13 : Nat) : Int)] rfl rfl (sl_one _ _ _) (by simp [Value.oneCell']) (by unfold maxLen; omega) (by omega) (by simp; omega) ?_); intro v2 w2 hown2 hg2 _))
      go_roundw
      case rel => exact ⟨k + 1, by omega, by go_num, by rw [Hstep.out]; exact hown2, (B4.alloc B4.size _).grown hg2 (by simp; omega) (own_base HOwn.out)⟩
      case measure => simp [intOf]; omega
    · obtain rfl : k = r.length := by omega
      have htk : (r.map (nc b)).take r.length = r.map (nc b) := List.take_of_length_le (by rw [List.length_map]; exact Nat.le_refl _)
      rw [htk] at hown
      obtain ⟨A3, c3, rfl, hc3, hs3, hn3⟩ := own_sl hown
      clear hn3 hown htk
      have hs4 := Hsa.out.below B4
      have hm := hm52.out
      have hD := HD.out
      have hDn := nc_distinct (b := b) hD
      have HRn := Lib.hid (fun x (hx : x < 2 ^ 64) W (hW : Below wr.heap.size wr W) => c_suits2 q g b x hb hx W (N4.later hW) (X4.later hW))
      have HNt := Lib.hid (fun W (hW : Below wr.heap.size wr W) => c_suits1 g b t' hb (by omega) W (X4.later hW))
      have Hs3 := Lib.hid hs3
      have Hs4 := Lib.hid hs4
      clear hs3 hs4
      obtain ⟨nn, hnn⟩ : ∃ nn, nn = min r.length 3 := ⟨_, rfl⟩
      have hnn3 : nn ≤ 3 := by omega
      have hnnl : nn ≤ r.length := by omega
      have hlk : (r.take nn).length = nn := by rw [List.length_take]; omega
      have hDt := hD.take nn
      have hmap : (r.map (nc b)).take nn = (r.take nn).map (nc b) := by rw [List.map_take]
      have hren := ren_play (b := b) (m := m) (p := r.take nn) hm hDt (by omega)
      have hpl := tPlay_lt (tPlayE_ok hm hDt (by omega))
      have hrl := ren_lt b m
      have HP1 := Lib.hid (fun W (hW : Below wr.heap.size wr W) => c_tPlayable A2 nn c2 m (r.take nn) W hlk.symm (by omega) (by omega) (by omega) hDt.lt256 (by rw [List.map_take]; exact (Hs4.out.below hW).take _))
      rw [tPlayE_ok hm hDt (by omega), show ((0 : Nat) : Int) = 0 from rfl] at HP1
      have HP2 := Lib.hid (fun W (hW : Below wr.heap.size wr W) => c_tPlayable A3 nn c3 (ren b m) ((r.take nn).map (nc b)) W (by rw [List.length_map]; exact hlk.symm) (by omega) (by rw [List.length_map]; omega) (by omega) (nc_distinct (b := b) hDt).lt256 (by rw [← hmap, List.map_take]; exact (Hs3.out.below hW).take _))
      rw [hren, tPlayE_ok hrl (nc_distinct (b := b) hDt) (by rw [List.length_map]; omega), show ((0 : Nat) : Int) = 0 from rfl] at HP2
      generalize tPlay m (r.take nn) = pl at *
      have hb1 : (0 : Int) ≤ (nn : Int) := by omega
      have hb2' : (nn : Int) ≤ (c2 : Int) := by omega
      have hb3 : (nn : Int) ≤ (c3 : Int) := by omega
      have HPl := Lib.hid hpl
      have HRl := Lib.hid hrl
      clear hlk hDt hmap hren hpl hrl
      by_cases h0 : r.length = 0
      · have e0 : ¬ (0 : Int) < (r.length : Int) := by omega
        obtain rfl : nn = r.length := by omega
        clear hnn h0 hD hDn hm
        go_wp2_with fail
        refine (HRn.out m (by have := hm52.out; omega) _ (Below.refl _ _)).mono ?_
        rintro e w' ⟨rfl, rfl⟩
        go_wp2_with fail
        refine (HP1.out _ (Below.refl _ _)).mono ?_
        rintro e w' ⟨rfl, rfl⟩
        go_wp2_with fail
        refine (HP2.out _ (Below.refl _ _)).mono ?_
        rintro e w' ⟨rfl, rfl⟩
        go_wp2_with fail
        refine (HRn.out pl (by have := HPl.out; omega) _ (Below.refl _ _)).mono ?_
        rintro e w' ⟨rfl, rfl⟩
        go_wp2_with fail
        go_ret
        refine ⟨rfl, ?_⟩
        rw [Hg.out]
        exact below_step2 Ba B4 (by have := Ba.size; have := Hg.out; omega)
      · have e0 : (0 : Int) < (r.length : Int) := by omega
        have HRr := hD.right (by omega) hr4
        have HRr2 := hDn.right (by rw [List.length_map]; omega) (by rw [List.length_map]; exact hr4)
        have HW1 := Lib.hid (fun W (hW : Below wr.heap.size wr W) => c_tWinner A2 r.length c2 t' r W rfl (by omega) (by omega) (by omega) hD.lt256 (Hs4.out.below hW))
        rw [tWinner_ok (tWinE_ok ht' HRr), tWinE_ok ht' HRr, show ((0 : Nat) : Int) = 0 from rfl] at HW1
        have hnt : nm b t' ≤ 4 := by
          rcases Nat.lt_or_ge 3 t' with h4 | h4
          · unfold nm; rw [if_pos h4]; exact ht'
          · have := nm_le (b := b) h4; omega
        have HW2 := Lib.hid (fun W (hW : Below wr.heap.size wr W) => c_tWinner A3 r.length c3 (nm b t') (r.map (nc b)) W (List.length_map ..).symm (by omega) (by rw [List.length_map]; omega) (by omega) hDn.lt256 (Hs3.out.below hW))
        rw [tWinner_ok (tWinE_ok hnt HRr2), tWinE_ok hnt HRr2, nc_win ht' hD (by omega), show ((0 : Nat) : Int) = 0 from rfl] at HW2
        generalize tWin t' r = at_ at *
        generalize nm b t' = u at *
        have hX4 := X4; have Hnn := Lib.hid hnn; clear hnn
        clear h0 hD hDn HRr HRr2 hm
        rcases (by have := Hnn.out; omega : nn = r.length ∧ (r.length : Int) ≤ 3 ∨ nn = 3 ∧ ¬ (r.length : Int) ≤ 3) with ⟨rfl, h3⟩ | ⟨rfl, h3⟩
        all_goals
          go_wp2_with fail
          refine (HRn.out m (by have := hm52.out; omega) _ (Below.refl _ _)).mono ?_
          rintro e w' ⟨rfl, rfl⟩
          go_wp2_with fail
          refine (HW1.out _ (Below.refl _ _)).mono ?_
          rintro e w5 ⟨rfl, hb5⟩
          have n5 := (N4.later hb5).cell
          go_wp2_with fail
          refine (HNt.out _ hb5).mono ?_
          rintro e w' ⟨rfl, rfl⟩
          go_wp2_with fail
          refine (HW2.out _ hb5).mono ?_
          rintro e w6 ⟨rfl, hb6⟩
          have B6 := below_step2 hb5 hb6 hb5.size
          have BT := below_step2 (below_step2 Ba B4 (by have := Ba.size; have := Hg.out; omega)) B6 (by have := Ba.size; have := Hg.out; have := B4.size; omega)
          clear hb6 hb5 n5
          go_wp2_with fail
          refine (HP1.out _ B6).mono ?_
          rintro e w' ⟨rfl, rfl⟩
          go_wp2_with fail
          refine (HP2.out _ B6).mono ?_
          rintro e w' ⟨rfl, rfl⟩
          go_wp2_with fail
          refine (HRn.out pl (by have := HPl.out; omega) _ B6).mono ?_
          rintro e w' ⟨rfl, rfl⟩
          go_wp2_with fail
          go_ret
          refine ⟨rfl, ?_⟩
          rw [Hg.out]
          exact BT
end Go.Proofs.Ytabejgcpihacpaa
