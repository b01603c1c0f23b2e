/- PairingBack: the walk. -/
import Derived.Test.YtiedecekbdaohaaBack36
import Derived.Test.YtiedecekbdaohaaCleanW36
import Derived.Test.YtiedecekbdaohaaBeforeW36
import Derived.Test.YtiedecekbdaohaaNamedW36
namespace Go.Proofs.Ytiedecekbdaohaa
open Go.RowKit

set_option maxRecDepth 100000 in
set_option maxHeartbeats 4000000 in
theorem c_PairingBack (A : Option Addr) (n cap : Nat) (l : List Nat) (bt : Nat) (w : World) (hn : n = l.length) (hcap : n ≤ cap) (hc : cap ≤ 9223372036854775807) (hA : SlAt w A (l.map u8)) (h8 : ∀ x ∈ l, x < 256) (hbt : bt < 2 ^ 64) :
    Calls Try.prog 6 #[.slice A n cap, .int .u64 bt] w (Frm (.bool true) w) := by
  obtain ⟨i0, hi, hz0, hz1, hz2⟩ := info_parts info_i64
  obtain ⟨j0, ji, jz0, jz1, jz2⟩ := info_parts info_pr
  have HMd := Lib.hid (c_Made A n cap l bt 8 w hn (by omega) h8 hbt (by omega) hA)
  clear hA h8 hn
  go_enter Try.func6, Try.ntmps6
  go_wp2_with fail
  refine HMd.out.mono ?_
  rintro e w1 ⟨tv, mv, t, ps, rfl, hown, hownP, hT, htl, hM, hpl, k1⟩
  obtain ⟨A1, c1, rfl, hc1, _, hs1⟩ := own_slI hown
  obtain ⟨A2, c2, rfl, hc2, _, hs2⟩ := own_slP hownP
  obtain ⟨T, hTe⟩ : ∃ T, T = t.take (t.length / 2 * 2) := ⟨_, rfl⟩
  have hTl : T.length = t.length / 2 * 2 := by rw [hTe, List.length_take]; omega
  have HT : Hid (TeamsOk T) := by rw [hTe]; exact teams_sub hT (List.take_sublist ..)
  have HM := Lib.hid (numOk_of hT hM)
  have HS1 : Hid (SlAt w1 A1 (T.map i64)) := by rw [hTe, List.map_take]; exact hs1.take _
  have HS2 := Lib.hid hs2
  have hTc : T.length ≤ c1 := by omega
  have hT8 : T.length ≤ 8 := by omega
  have hTv : T.length % 2 = 0 := by omega
  have HAw := Lib.hid (fun W => c_awake W)
  have q1 : (t.length : Int) / 2 * 2 = (T.length : Int) := by omega
  have q2 : t.length / 2 * 2 = T.length := by omega
  clear hown hownP hT hM hs1 hs2 HMd hTe hTl
  obtain ⟨f1, f2, f3, f4, f5, f6⟩ := back HT.out HM.out hT8 hTv
  have HC := Lib.hid (fun W (hb : Below w1.heap.size w1 W) => c_Count A1 T.length c1 T A2 ps.length c2 ps W rfl hTc (by omega) rfl (by omega) (HS1.out.below hb) (HS2.out.below hb))
  have HN := Lib.hid (fun (k : Int) W (hb : Below w1.heap.size w1 W) => c_Nth A1 T.length c1 T A2 ps.length c2 ps k W rfl hTc (by omega) rfl (by omega) (HS1.out.below hb) (HS2.out.below hb))
  have HU := Lib.hid (fun D nd cd dr W (hb : Below w1.heap.size w1 W) (h1 : nd = dr.length) (h2 : dr.length ≤ 2 ^ 47) (h3 : SlAt W D (prs dr)) => c_Number A1 T.length c1 T A2 ps.length c2 ps D nd cd dr W rfl hTc (by omega) rfl (by omega) h1 h2 (HS1.out.below hb) (HS2.out.below hb) h3)
  have HCl := Lib.hid (fun D nd cd dr W (hb : Below w1.heap.size w1 W) (h1 : nd = dr.length) (h2 : dr.length ≤ 2 ^ 47) (h4 : ∀ p ∈ dr, (1 ≤ p.1 ∧ p.1 ≤ 64) ∧ 1 ≤ p.2 ∧ p.2 ≤ 64) (h3 : SlAt W D (prs dr)) => c_clean A1 T.length c1 T A2 ps.length c2 ps D nd cd dr W rfl rfl h1 (by omega) (by omega) h2 HT.out.2 h4 (HS1.out.below hb) (HS2.out.below hb) h3)
  have HBe := Lib.hid (fun Da na ca a Db nb cb b W (hb : Below w1.heap.size w1 W) (h1 : na = a.length) (h2 : nb = b.length) (h3 : a.length ≤ 2 ^ 47) (h4 : b.length ≤ 2 ^ 47) (h5 : a.length = b.length) (h6 : SlAt W Da (prs a)) (h7 : SlAt W Db (prs b)) => (show Calls Try.prog 26 #[.slice A1 T.length c1, .slice Da na ca, .slice Db nb cb] W (Frm (.bool (pBefore T a b)) W) from (c_before A1 T.length c1 T Da na ca a Db nb cb b W rfl h1 h2 (by omega) h3 h4 h5 (HS1.out.below hb) h6 h7).mono fun _ _ hh => Qt.frm hh))
  rw [f1] at HC
  generalize hpc : pCount T ps = pc at *
  have F3 := Lib.hid f3
  have F4 := Lib.hid f4
  have F5 := Lib.hid f5
  have F6 := Lib.hid f6
  clear f1 f3 f4 f5 f6 hpc
  go_wp2_with fail
  refine (HC.out _ (Below.refl _ _)).mono ?_
  rintro e w2 ⟨rfl, k2⟩
  clear HC
  have p1 : decide ((pc : Int) < 0) = false := decide_eq_false (by omega)
  have p2 : decide ((pc : Int) > 105) = false := decide_eq_false (by omega)
  have p3 : decide ((105 : Int) < (pc : Int)) = false := decide_eq_false (by omega)
  go_wp2_with fail
  go_loopw [9, 10, 11, 12, 13, 14, 48] (fun lv _ _ _ _ _ iv wr => ∃ k : Nat, k ≤ pc ∧ iv = .int .i64 k ∧ Below w1.heap.size w1 wr ∧ (∃ A n c, lv = .slice A n c ∧ (0 < k → n = (pNthR T ps ((k - 1 : Nat) : Int)).length ∧ SlAt wr A (prs (pNthR T ps ((k - 1 : Nat) : Int)))))) (fun _ _ _ _ _ _ iv _ => pc - (intOf iv).toNat)
  case atStart => exact ⟨0, Nat.zero_le _, rfl, k2, ⟨none, 0, 0, rfl, fun h => absurd h (by omega)⟩⟩
  case round =>
    obtain ⟨k, hk, rfl, B3, A9, n9, c9, rfl, hlast⟩ := hrel
    by_cases hlt : k < pc
    · have HNk := Lib.hid (HN.out (k : Int) wr B3)
      have HF := Lib.hid (F3.out k hlt)
      have HG := Lib.hid (fun j (hj : k = j + 1) => F4.out j (by omega))
      rw [HF.out.e] at HNk
      generalize hdr : pNthR T ps (k : Int) = dr at *
      have Hdr := Lib.hid hdr
      have hdl : dr.length ≤ 4 := by have := HF.out.len; omega
      clear hdr
      go_wp2_with fail
      refine HNk.out.mono ?_
      rintro e w3 ⟨v3, rfl, hown3, k3⟩
      obtain ⟨A3, c3, rfl, hc3, _, hs3⟩ := own_slP hown3
      have HS3 := Lib.hid hs3
      have B4 := below_step B3 k3
      have HUk := Lib.hid (HU.out A3 dr.length c3 dr w3 B4 rfl (by omega) hs3)
      rw [HF.out.num] at HUk
      clear hown3 hs3 HNk
      go_wp2_with fail
      refine HUk.out.mono ?_
      rintro e w4 ⟨rfl, k4⟩
      have B5 := below_step B4 k4
      have HS4 := Lib.hid (HS3.out.below k4)
      have HClk := Lib.hid (HCl.out A3 dr.length c3 dr w4 B5 rfl (by omega) HF.out.n64 HS4.out)
      rw [HF.out.clean] at HClk
      have g1 : ((k : Int) != (k : Int)) = false := by simp
      have K4 := below_step k3 k4
      clear HUk k3 k4 HS3 B4
      by_cases h0 : 0 < k
      · have g2 : decide ((0 : Int) < (k : Int)) = true := decide_eq_true (by omega)
        obtain ⟨hl1, hl2⟩ := hlast h0
        obtain ⟨j, hj⟩ : ∃ j, k = j + 1 := ⟨k - 1, by omega⟩
        have hG := HG.out j hj
        have hle : (pNthR T ps ((k - 1 : Nat) : Int)).length = dr.length := by
          have h1 := (F3.out (k - 1) (by omega)).len
          have h2 := HF.out.len
          omega
        rw [show ((j + 1 : Nat) : Int) = (k : Int) from by rw [hj], Hdr.out, show j = k - 1 from by omega] at hG
        generalize pNthR T ps ((k - 1 : Nat) : Int) = dl at *
        subst hl1
        have HS9 := Lib.hid (hl2.below K4)
        have HBk := Lib.hid (fun W (hb : Below w4.heap.size w4 W) => HBe.out A9 dl.length c9 dl A3 dr.length c3 dr W (below_step B5 hb) rfl rfl (by omega) (by omega) hle (HS9.out.below hb) (HS4.out.below hb))
        rw [hG] at HBk
        clear hl2 hj hG hlast HG hle
        go_wp2_with fail
        refine HClk.out.mono ?_
        rintro e w5 ⟨rfl, k5⟩
        go_wp2_with fail
        refine (HBk.out _ k5).mono ?_
        rintro e w6 ⟨rfl, k6⟩
        go_wp2_with fail
        have B7 := below_step B5 (k5.trans (k6.mono k5.size))
        have HS7 := Lib.hid (HS4.out.below (k5.trans (k6.mono k5.size)))
        go_roundw
        case rel => exact ⟨k + 1, by omega, by go_num, B7, _, _, _, rfl, fun _ => by rw [show k + 1 - 1 = k from rfl, Hdr.out]; exact ⟨rfl, HS7.out⟩⟩
        case measure => simp [intOf]; omega
      · have g2 : decide ((0 : Int) < (k : Int)) = false := decide_eq_false (by omega)
        clear hlast HG
        go_wp2_with fail
        refine HClk.out.mono ?_
        rintro e w5 ⟨rfl, k5⟩
        have B7 := below_step B5 k5
        have HS7 := Lib.hid (HS4.out.below k5)
        go_wp2_with fail
        go_roundw
        case rel => exact ⟨k + 1, by omega, by go_num, B7, _, _, _, rfl, fun _ => by rw [show k + 1 - 1 = k from rfl, Hdr.out]; exact ⟨rfl, HS7.out⟩⟩
        case measure => simp [intOf]; omega
    · obtain rfl : k = pc := by omega
      have HN1 := Lib.hid (HN.out (k : Int) wr B3)
      rw [F5.out] at HN1
      go_wp2_with fail
      refine HN1.out.mono ?_
      rintro e w3 ⟨v3, rfl, hown3, k3⟩
      have B4 := below_step B3 k3
      have HN2 := Lib.hid (HN.out (-1) w3 B4)
      rw [F6.out] at HN2
      clear hown3
      go_wp2_with fail
      refine HN2.out.mono ?_
      rintro e w4 ⟨v4, rfl, hown4, k4⟩
      have B5 := below_step B4 k4
      clear hown4
      have g3 : (((6 : Nat) : Int) == 6) = true := rfl
      have g4 : (((6 : Nat) : Int) == ((6 : Nat) : Int)) = true := rfl
      go_wp2_with fail
      refine (HAw.out _).mono ?_
      rintro e w5 ⟨rfl, k5⟩
      go_wp2_with fail
      go_ret
      exact ⟨rfl, below_step k1 (below_step B5 k5)⟩
end Go.Proofs.Ytiedecekbdaohaa
