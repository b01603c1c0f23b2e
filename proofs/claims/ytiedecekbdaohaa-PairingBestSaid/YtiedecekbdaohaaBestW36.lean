/- PairingBest: the walk. -/
import Derived.Test.YtiedecekbdaohaaBest36
import Derived.Test.YtiedecekbdaohaaCleanW36
import Derived.Test.YtiedecekbdaohaaNamedW36
import Derived.Test.YtiedecekbdaohaaAppendS
namespace Go.Proofs.Ytiedecekbdaohaa
open Go.RowKit

structure LeftOk (T : List Int) (ps d : List Pr) (j : Nat) (A : Option Addr) (L : List Int) (w : World) : Prop where
  at_ : SlAt w A (L.map i64)
  sub : L.Sublist T
  even : L.length % 2 = 0
  first : (draws ps L)[0]? = some (d.drop j)
theorem drop_at {d : List Pr} {j : Nat} {p : Pr} {r : List Pr} (h : d.drop j = p :: r) : d[j]? = some p ∧ d.drop (j + 1) = r := by
  constructor
  · have : (d.drop j)[0]? = some p := by rw [h]; rfl
    rwa [List.getElem?_drop] at this
  · have : (d.drop j).drop 1 = r := by rw [h]; rfl
    rwa [List.drop_drop] at this

set_option maxRecDepth 100000 in
set_option maxHeartbeats 4000000 in
theorem c_PairingBest (A : Option Addr) (n cap : Nat) (l : List Nat) (bt : Nat) (w : World) (hn : n = l.length) (hcap : n ≤ cap) (hc : cap ≤ 9223372036854775807) (hA : SlAt w A (l.map u8)) (h8 : ∀ x ∈ l, x < 256) (hbt : bt < 2 ^ 64) :
    Calls Try.prog 7 #[.slice A n cap, .int .u64 bt] w (Frm (.bool true) w) := by
  obtain ⟨i0, hi, hz0, hz1, hz2⟩ := info_parts info_i64
  obtain ⟨j0, ji, jz0, jz1, jz2⟩ := info_parts info_pr
  have HMd := Lib.hid (c_Made A n cap l bt 12 w hn (by omega) h8 hbt (by omega) hA)
  clear hA h8 hn
  go_enter Try.func7, Try.ntmps7
  go_wp2_with fail
  refine HMd.out.mono ?_
  rintro e w1 ⟨tv, mv, t, ps, rfl, hown, hownP, hT, htl, hM, hpl, k1⟩
  obtain ⟨A1, c1, rfl, hc1, _, hs1⟩ := own_slI hown
  obtain ⟨A2, c2, rfl, hc2, _, hs2⟩ := own_slP hownP
  obtain ⟨T, hTe⟩ : ∃ T, T = t.take (t.length / 2 * 2) := ⟨_, rfl⟩
  have hTl : T.length = t.length / 2 * 2 := by rw [hTe, List.length_take]; omega
  have HT : Hid (TeamsOk T) := by rw [hTe]; exact teams_sub hT (List.take_sublist ..)
  have HM := Lib.hid (numOk_of hT hM)
  have HS1 : Hid (SlAt w1 A1 (T.map i64)) := by rw [hTe, List.map_take]; exact hs1.take _
  have HS2 := Lib.hid hs2
  have hTc : T.length ≤ c1 := by omega
  have hT12 : T.length ≤ 12 := by omega
  have hTv : T.length % 2 = 0 := by omega
  have HAw := Lib.hid (fun W => c_awake W)
  have q1 : (t.length : Int) / 2 * 2 = (T.length : Int) := by omega
  have q2 : t.length / 2 * 2 = T.length := by omega
  clear hown hownP hT hM hs1 hs2 HMd hTe hTl
  obtain ⟨f1, f2, f3, f4⟩ := best HT.out HM.out (by omega) hTv T
  have HD := Lib.hid (fun W (hb : Below w1.heap.size w1 W) => c_Draw A1 T.length c1 T A2 ps.length c2 ps A1 T.length c1 T W rfl hTc (by omega) rfl (by omega) rfl (by omega) (HS1.out.below hb) (HS2.out.below hb) (HS1.out.below hb))
  have HC := Lib.hid (fun W (hb : Below w1.heap.size w1 W) => c_Count A1 T.length c1 T A2 ps.length c2 ps W rfl hTc (by omega) rfl (by omega) (HS1.out.below hb) (HS2.out.below hb))
  have HU := Lib.hid (fun D nd cd dr W (hb : Below w1.heap.size w1 W) (h1 : nd = dr.length) (h2 : dr.length ≤ 2 ^ 47) (h3 : SlAt W D (prs dr)) => c_Number A1 T.length c1 T A2 ps.length c2 ps D nd cd dr W rfl hTc (by omega) rfl (by omega) h1 h2 (HS1.out.below hb) (HS2.out.below hb) h3)
  have HCl := Lib.hid (fun D nd cd dr W (hb : Below w1.heap.size w1 W) (h1 : nd = dr.length) (h2 : dr.length ≤ 2 ^ 47) (h4 : ∀ p ∈ dr, (1 ≤ p.1 ∧ p.1 ≤ 64) ∧ 1 ≤ p.2 ∧ p.2 ≤ 64) (h3 : SlAt W D (prs dr)) => c_clean A1 T.length c1 T A2 ps.length c2 ps D nd cd dr W rfl rfl h1 (by omega) (by omega) h2 HT.out.2 h4 (HS1.out.below hb) (HS2.out.below hb) h3)
  have HCR := Lib.hid (fun D nd cd (r : List Int) W (hb : Below w1.heap.size w1 W) (h1 : nd = r.length) (h2 : nd ≤ cd) (h4 : r.length ≤ 12) (h3 : SlAt W D (r.map i64)) => c_Count D nd cd r A2 ps.length c2 ps W h1 h2 (by omega) rfl (by omega) h3 (HS2.out.below hb))
  rw [f1] at HD
  rw [f2, f3] at HC
  have hcn := cnt_16 (m := ps) (l := T) (by omega)
  by_cases h0 : cnt ps T = 0
  · obtain ⟨g1, g2⟩ := nth0_no h0
    rw [g1, g2] at HD
    rw [h0] at HC
    clear g1 g2 h0 f1 f2 f3 f4 hcn
    go_wp2_with fail
    refine (HD.out _ (Below.refl _ _)).mono ?_
    rintro e w2 ⟨v2, rfl, hown2, k2⟩
    dsimp only at hown2 ⊢
    obtain ⟨A3, c3, rfl, hc3, _, hs3⟩ := own_slP hown2
    clear hown2 hs3
    go_wp2_with fail
    refine (HC.out _ k2).mono ?_
    rintro e w3 ⟨rfl, k3⟩
    have B3 := below_step k2 k3
    go_wp2_with fail
    refine (HAw.out _).mono ?_
    rintro e w4 ⟨rfl, k4⟩
    go_wp2_with fail
    go_ret
    exact ⟨rfl, below_step k1 (below_step B3 k4)⟩
  · have hpos : 0 < cnt ps T := by omega
    have HB := Lib.hid (f4 hpos)
    rw [(nth0_yes hpos).2] at HD
    generalize nthR ps T 0 = d at *
    generalize cnt ps T = cn at *
    clear f1 f2 f3 f4 h0
    have hdl : d.length ≤ 6 := by have := HB.out.len; omega
    go_wp2_with fail
    refine (HD.out _ (Below.refl _ _)).mono ?_
    rintro e w2 ⟨v2, rfl, hown2, k2⟩
    dsimp only at hown2 ⊢
    obtain ⟨A3, c3, rfl, hc3, _, hs3⟩ := own_slP hown2
    have HS3 := Lib.hid hs3
    clear hown2 hs3
    go_wp2_with fail
    refine (HC.out _ k2).mono ?_
    rintro e w3 ⟨rfl, k3⟩
    have B3 := below_step k2 k3
    have p1 : decide ((cn : Int) > 0) = true := decide_eq_true (by omega)
    have p2 : decide ((0 : Int) < (cn : Int)) = true := decide_eq_true (by omega)
    have HU3 := Lib.hid (HU.out A3 d.length c3 d w3 B3 rfl (by omega) (HS3.out.below k3))
    rw [HB.out.num] at HU3
    go_wp2_with fail
    refine HU3.out.mono ?_
    rintro e w4 ⟨rfl, k4⟩
    have B4 := below_step B3 k4
    have K4 := below_step k3 k4
    have HC4 := Lib.hid (HCl.out A3 d.length c3 d w4 B4 rfl (by omega) HB.out.n64 (HS3.out.below K4))
    rw [HB.out.clean] at HC4
    go_wp2_with fail
    refine HC4.out.mono ?_
    rintro e w5 ⟨rfl, k5⟩
    have B5 := below_step B4 k5
    have HS5 := Lib.hid (HS3.out.below (K4.trans (k5.mono K4.size)))
    clear HU3 HC4 k3 k4 K4 k5 B3 B4 HU HCl HC HD HS3
    have h1c : ∀ u ∈ T.map i64, u.oneCell' = true := by
      intro u hu
      obtain ⟨x, _, rfl⟩ := List.mem_map.1 hu
      rfl
    have H1c := Lib.hid h1c
    clear h1c
    go_wp2_with (at_builtin; go_must (refine wpList_append_sl rfl (.tmp 97) (.tmp 98) 22 rfl w5.heap.size 3 i0 (.int .i64 0) 8 Try.underlying22 hi hz0 hz1 hz2 rfl _ 0 [] rfl (own_empty _ (Nat.le_refl _)) A1 T.length c1 (T.map i64) rfl (by simp) ((HS1.out.below B5).alloc _) H1c.out (by unfold maxLen; omega) (by omega) (by simp) ?_); intro v6 w6 hown6 hg6 _)
    rw [List.nil_append, Nat.zero_add] at hown6
    have B6' := ((Below.refl w5.heap.size w5).alloc (Nat.le_refl _) (.cells #[] 3)).grown hg6 (by simp) (own_block (Nat.le_refl _))
    obtain ⟨A6, c6, rfl, hc6, _, hs6⟩ := own_slI hown6
    have B6 := below_step B5 B6'
    have HS6 := Lib.hid (HS5.out.below B6')
    have HT6 := Lib.hid hs6
    clear hown6 hg6 hs6 H1c B6' HS5
    have HL0 := Lib.hid (LeftOk.mk HT6.out (List.Sublist.refl _) hTv (by rw [HB.out.first]; rfl) : LeftOk T ps d 0 A6 T w6)
    clear HT6 k2
    go_loopw [14, 16, 17, 18, 19, 20, 21, 102] (fun lv _ _ _ _ _ _ iv wr => ∃ (j : Nat) (A : Option Addr) (L : List Int) (c : Nat), j ≤ d.length ∧ iv = .int .i64 j ∧ lv = .slice A L.length c ∧ L.length ≤ c ∧ c ≤ 9223372036854775807 ∧ Hid (LeftOk T ps d j A L wr) ∧ Below w6.heap.size w6 wr) (fun _ _ _ _ _ _ _ iv _ => d.length - (intOf iv).toNat)
    case atStart => exact ⟨0, _, T, c6, Nat.zero_le _, rfl, rfl, hc6, by assumption, HL0, Below.refl _ _⟩
    case round =>
      obtain ⟨j, A7, L, c7, hj, rfl, rfl, hc7, hc7', HL, B7⟩ := hrel
      obtain ⟨wo, rfl⟩ : ∃ wo, wo = wr := ⟨_, rfl⟩
      by_cases hlt : j < d.length
      · obtain ⟨bd, od, pa, pb, rfl, hbd, hx, hca, hcb⟩ := (HS6.out.below B7).pr_at hlt
        cases L with
        | nil =>
          exfalso
          have h := HL.out.first
          rw [draws_nil] at h
          have h2 : d.drop j = [] := by simpa using h.symm
          have h3 := congrArg List.length h2
          rw [List.length_drop] at h3
          simp at h3
          omega
        | cons x R =>
          obtain ⟨i1, y, d', hi1, hd', hy, hmy, hfd, hmin⟩ := first_cons HL.out.first
          obtain ⟨hd1, hd2⟩ := drop_at hd'
          rw [hx] at hd1
          obtain ⟨rfl, rfl⟩ : pa = x ∧ pb = y := by injection hd1 with h; injection h with h1 h2; exact ⟨h1, h2⟩
          have hLl : (pa :: R).length = R.length + 1 := rfl
          have hR12 : R.length ≤ 11 := by have := HL.out.sub.length_le; simp only [List.length_cons] at this; omega
          obtain ⟨L, hL⟩ : ∃ L, L = pa :: R := ⟨_, rfl⟩
          rw [← hL] at hLl hc7 HL ⊢
          have HLe := Lib.hid hL
          have HLl := Lib.hid hLl
          have hL12 : L.length ≤ 12 := by omega
          have hL1 : 1 ≤ L.length := by omega
          clear hLl
          have Hdrop := Lib.hid hd2
          have Hy := Lib.hid hy
          have Hmy := Lib.hid hmy
          have Hfd := Lib.hid hfd
          have Hmin := Lib.hid hmin
          clear hd1 hd' hx hL hd2 hy hmy hfd hmin
          go_wp2_with fail
          have Bb := (Below.refl wo.heap.size wo).alloc (Nat.le_refl _) (.cells #[Value.int .i64 pa, Value.int .i64 pb] 39)
          have g7 : (wo.alloc (.cells #[Value.int .i64 pa, Value.int .i64 pb] 39)).cell? ⟨wo.heap.size, 0, none⟩ = some (.int .i64 pa) := (cell_of_row _ wo.heap.size 0 #[Value.int .i64 pa, Value.int .i64 pb] 39 (0, 0) (heap_alloc_new wo _)).trans rfl
          have g8 : (wo.alloc (.cells #[Value.int .i64 pa, Value.int .i64 pb] 39)).cell? ⟨wo.heap.size, 1, none⟩ = some (.int .i64 pb) := (cell_of_row _ wo.heap.size 1 #[Value.int .i64 pa, Value.int .i64 pb] 39 (0, 0) (heap_alloc_new wo _)).trans rfl
          have hgp : wo.heap.size < (wo.alloc (.cells #[Value.int .i64 pa, Value.int .i64 pb] 39)).heap.size := by simp
          have B8 := below_step B7 Bb
          have HLb := Lib.hid (HL.out.at_.below Bb)
          generalize wo.alloc (.cells #[Value.int .i64 pa, Value.int .i64 pb] 39) = wb at *
          generalize wo.heap.size = gp at *
          clear hca hcb Bb
          go_loopw [14, 17, 18, 19, 20, 21] (fun lv iv _ _ _ _ wr => ∃ i : Nat, 1 ≤ i ∧ i ≤ i1 + 1 ∧ iv = .int .i64 i ∧ lv = .slice A7 L.length c7 ∧ Below wb.heap.size wb wr) (fun _ iv _ _ _ _ _ => i1 + 1 - (intOf iv).toNat)
          case atStart => exact ⟨1, by omega, by omega, rfl, rfl, Below.refl _ _⟩
          case round =>
            obtain ⟨i, hi1', hi2, rfl, rfl, C1⟩ := hrel
            obtain ⟨wi, rfl⟩ : ∃ wi, wi = wr := ⟨_, rfl⟩
            have hiL : i < L.length := by have := HLl.out; omega
            have hszi := C1.size
            have B9 := below_step B8 C1
            go_wp2_with fail
            go_loopw [18, 19] (fun rv kv wr => ∃ k : Nat, 1 ≤ k ∧ k ≤ L.length ∧ kv = .int .i64 k ∧ wr.ownsRow wi.heap.size 3 1 rv ((R.take (k - 1)).eraseIdx (i - 1)).length (((R.take (k - 1)).eraseIdx (i - 1)).map i64) ∧ Below wi.heap.size wi wr) (fun _ kv _ => L.length - (intOf kv).toNat)
            case atStart => exact ⟨1, by omega, by omega, rfl, own_nil _ _, Below.refl _ _⟩
            case round =>
              obtain ⟨k, hk1, hk2, rfl, hown, D1⟩ := hrel
              have hszk := D1.size
              by_cases hkl : k < L.length
              · obtain ⟨bL, oL, z, rfl, hbL, hz, hzc⟩ := (HLb.out.below (C1.trans (D1.mono hszi))).i64_at hkl
                have hzR : R[k - 1]? = some z := by
                  rw [HLe.out, List.getElem?_cons, if_neg (by omega)] at hz
                  exact hz
                have HO := Lib.hid hown
                have Hk := Lib.hid (show k - 1 + 1 = k + 1 - 1 by omega)
                have hrl : ((R.take (k - 1)).eraseIdx (i - 1)).length ≤ 11 := Nat.le_trans (List.length_eraseIdx_le ..) (by rw [List.length_take]; omega)
                clear hown hz
                by_cases hki : k = i
                · have e1 : ((k : Int) != (i : Int)) = false := by simp [hki]
                  have Hst : Hid ((R.take (k + 1 - 1)).eraseIdx (i - 1) = (R.take (k - 1)).eraseIdx (i - 1)) := by
                    rw [← Hk.out, hki]; exact erase_take_skip
                  clear hki hzR
                  generalize (R.take (k - 1)).eraseIdx (i - 1) = r0 at *
                  go_wp2_with fail
                  go_roundw
                  case rel => exact ⟨k + 1, by omega, by omega, by go_num, by rw [Hst.out]; exact HO.out, D1⟩
                  case measure => simp [intOf]; omega
                · have e1 : ((k : Int) != (i : Int)) = true := by simp; omega
                  have Hst : Hid ((R.take (k + 1 - 1)).eraseIdx (i - 1) = (R.take (k - 1)).eraseIdx (i - 1) ++ [z]) := by
                    rw [← Hk.out]; exact erase_take_next hzR (by omega)
                  clear hki hzR
                  generalize (R.take (k - 1)).eraseIdx (i - 1) = r0 at *
                  go_wp2_with (at_builtin; go_must (refine wpList_append_sl rfl (.tmp 121) (.tmp 126) 22 rfl wi.heap.size 3 i0 (.int .i64 0) 8 Try.underlying22 hi hz0 hz1 hz2 rfl _ r0.length _ rfl (HO.out.alloc _) (some ⟨wr.heap.size, 0, none⟩) 1 1 [.int .i64 z] rfl rfl (sl_one _ _ _) (by simp [Value.oneCell']) (by unfold maxLen; omega) (by omega) (by simp; omega) ?_); intro v8 w8 hown8 hg8 _)
                  go_roundw
                  case rel => exact ⟨k + 1, by omega, by omega, by go_num, by rw [Hst.out, List.length_append, List.map_append]; exact hown8, (D1.alloc D1.size _).grown hg8 (by simp; omega) (own_base HO.out)⟩
                  case measure => simp [intOf]; omega
              · obtain rfl : k = L.length := by omega
                have hLe : L.length - 1 = R.length := by have := HLl.out; omega
                rw [hLe, List.take_of_length_le (Nat.le_refl _)] at hown
                obtain ⟨z, hz⟩ := getI_some (l := R) (k := i - 1) (by have := HLl.out; omega)
                have hrs : (R.eraseIdx (i - 1)).Sublist T := ((List.eraseIdx_sublist ..).trans (by rw [HLe.out]; exact List.sublist_cons_self ..)).trans HL.out.sub
                have hrl : (R.eraseIdx (i - 1)).length + 2 = L.length := by rw [List.length_eraseIdx_of_lt (by have := HLl.out; omega)]; have := HLl.out; omega
                have hrv : (R.eraseIdx (i - 1)).length % 2 = 0 := by have := HL.out.even; omega
                obtain ⟨o1, o2⟩ := odd_num (teams_sub HT.out hrs) HM.out (by omega) hrv
                have hndR : R.Nodup := (HT.out.1.sublist HL.out.sub).sublist (by rw [HLe.out]; exact List.sublist_cons_self ..)
                have hcr16 := cnt_16 (m := ps) (l := R.eraseIdx (i - 1)) (by omega)
                obtain ⟨bL, oL, rfl, hbL, hcL⟩ := (HLb.out.below (C1.trans (D1.mono hszi))).i64_all hL1
                have hL0 : L[0]? = some pa := by rw [HLe.out]; rfl
                have hLi : L[i]? = some z := by rw [HLe.out, List.getElem?_cons, if_neg (by omega)]; exact hz
                have cL0 := hcL 0 pa hL0
                have cLi := hcL i z hLi
                rw [Nat.add_zero] at cL0
                have K9 := C1.trans (D1.mono hszi)
                have cA := (K9.cell (p := ⟨gp, 0, none⟩) hgp).trans g7
                have cB := (K9.cell (p := ⟨gp, 1, none⟩) hgp).trans g8
                have B10 := below_step B9 D1
                obtain ⟨A9, c9, rfl, hc9, hc9', hs9⟩ := own_slI hown
                have HCr := Lib.hid (HCR.out A9 _ c9 _ wr (below_step B6 B10) rfl hc9 (by omega) hs9)
                rw [o1, o2] at HCr
                have HMz := Lib.hid (fun W (hb : Below w1.heap.size w1 W) => c_Met A2 ps.length c2 ps pa z W rfl (by omega) (HS2.out.below hb))
                have Hz := Lib.hid hz
                have Hrs := Lib.hid hrs
                have Hrv := Lib.hid hrv
                have Hnd := Lib.hid hndR
                have HSr := Lib.hid hs9
                have hr10 : (R.eraseIdx (i - 1)).length ≤ 10 := by omega
                have hK : Hid (i - 1 < i1 ∧ (pMet ps pa z = true ∨ cnt ps (R.eraseIdx (i - 1)) = 0) ∧ z ≠ pb ∨ i = i1 + 1 ∧ z = pb ∧ 0 < cnt ps (R.eraseIdx (i - 1)) ∧ (draws ps (R.eraseIdx (i - 1)))[0]? = some d') := by
                  by_cases h : i - 1 < i1
                  · refine .inl ⟨h, Hmin.out _ z h hz, fun e => ?_⟩
                    have := nodup_idx hndR hz Hy.out e
                    omega
                  · have hie : i = i1 + 1 := by omega
                    have h2 : i - 1 = i1 := by omega
                    rw [h2] at hz ⊢
                    have hz2 := hz
                    rw [Hy.out] at hz2
                    refine .inr ⟨hie, by injection hz2 with h; exact h.symm, ?_, Hfd.out⟩
                    have := (List.getElem?_eq_some_iff.1 Hfd.out).1
                    exact this
                clear hown hs9 hz hrs hrv hndR o1 o2 hrl hLe hcL hL0 hLi
                generalize R.eraseIdx (i - 1) = r at *
                generalize cnt ps r = cr at *
                go_wp2_with fail
                refine HCr.out.mono ?_
                rintro e w9 ⟨rfl, k9⟩
                have dA := (k9.cell (p := ⟨gp, 0, none⟩) (World.block_lt_of_cell? _ _ cA)).trans cA
                have dB := (k9.cell (p := ⟨gp, 1, none⟩) (World.block_lt_of_cell? _ _ cB)).trans cB
                have dL := (k9.cell (p := ⟨bL, oL, none⟩) hbL).trans cL0
                have dI := (k9.cell (p := ⟨bL, oL + i, none⟩) hbL).trans cLi
                have B11 := below_step B10 k9
                have K11 := K9.trans (k9.mono K9.size)
                have HS11 := Lib.hid (HSr.out.below k9)
                have s1 : (0 : Int) ≤ (i : Int) := by omega
                have s2 : (i : Int) < (L.length : Int) := by omega
                have s3 : (0 : Int) < (L.length : Int) := by omega
                have s4 : 0 < L.length := by omega
                have g1 : (pa != pa) = false := by simp
                clear cA cB cL0 cLi k9 HSr K9 B10 HCr
                go_wp2_with fail
                go_quiet (fail)
                go_wp2_with fail
                rcases hK.out with ⟨h1, h2, h3⟩ | ⟨h1, rfl, h3, h4⟩
                · have e1 : (z == pb) = false := beq_eq_false_iff_ne.2 h3
                  clear hK
                  go_quiet (fail)
                  go_wp2_with fail
                  by_cases hc0 : 0 < cr
                  · have hm1 : pMet ps pa z = true := by rcases h2 with h | h; exact h; omega
                    have p3 : decide ((0 : Int) < (cr : Int)) = true := decide_eq_true (by omega)
                    rw [hm1] at HMz
                    have hgA : gp < w9.heap.size := World.block_lt_of_cell? _ _ dA
                    have hgL : bL < w9.heap.size := World.block_lt_of_cell? _ _ dI
                    go_region_held3 (fun W => W.cell? ⟨gp, 0, none⟩ = some (.int .i64 pa) ∧ W.cell? ⟨bL, oL + i, none⟩ = some (.int .i64 z)) (first | exact ⟨dA, dI⟩ | exact ⟨eA, eI⟩)
                      ((go_at_call 27; refine (HMz.out _ (below_dr (below_drewN (below_step B6 B11) _))).mono ?_; rintro e w10 ⟨rfl, k10⟩; have eA := (k10.cell (p := ⟨gp, 0, none⟩) hgA).trans dA; have eI := (k10.cell (p := ⟨bL, oL + i, none⟩) hgL).trans dI))
                    go_wp2_with fail
                    go_roundw
                    case rel => exact ⟨i + 1, by omega, by omega, by go_num, rfl, (below_dr (below_drewN K11 _)).trans (k10.mono K11.size)⟩
                    case measure => simp [intOf]; omega
                  · have p3 : decide ((0 : Int) < (cr : Int)) = false := decide_eq_false (by omega)
                    rw [show ((cr : Nat) : Int) = 0 from by omega]
                    clear h2 hc0 p3
                    refine wp_region_noPanic ?_
                    refine wp_region_held_drew (S := fun _ => True) (by kernel_rfl) trivial (fun _ => ?_)
                    refine wpAnyH_take (i := 0) (v := ?_) rfl (by kernel_rfl) (by kernel_rfl) (by kernel_rfl) (fun _ _ _ h => h) (Or.inl ⟨by kernel_rfl, ?_⟩) trivial ?_
                    rotate_left
                    · (intro w _; go_simp; try with_reducible rfl)
                    (try simp only [Act.put, List.getElem_toArray, List.getElem_cons_zero, List.getElem_cons_succ, List.setIfInBounds_toArray, List.set_cons_zero, List.set_cons_succ])
                    refine wpAnyH_take (i := 1) (v := ?_) rfl (by kernel_rfl) (by kernel_rfl) (by kernel_rfl) (fun _ _ _ h => h) (Or.inl ⟨by kernel_rfl, ?_⟩) trivial ?_
                    rotate_left
                    · (intro w _; go_simp; try with_reducible rfl)
                    (try simp only [Act.put, List.getElem_toArray, List.getElem_cons_zero, List.getElem_cons_succ, List.setIfInBounds_toArray, List.set_cons_zero, List.set_cons_succ])
                    refine wpAnyH_take (i := 2) (v := ?_) rfl (by kernel_rfl) (by kernel_rfl) (by kernel_rfl) (fun _ _ _ h => h) (Or.inl ⟨by kernel_rfl, ?_⟩) trivial ?_
                    rotate_left
                    · (intro w _; go_simp; try with_reducible rfl)
                    (try simp only [Act.put, List.getElem_toArray, List.getElem_cons_zero, List.getElem_cons_succ, List.setIfInBounds_toArray, List.set_cons_zero, List.set_cons_succ])
                    refine wpAnyH_take (i := 3) (v := undef) rfl (by kernel_rfl) (by kernel_rfl) (by kernel_rfl) (fun _ _ _ h => h) (Or.inr ⟨by kernel_rfl, rfl⟩) trivial ?_
                    refine wpAnyH_take (i := 4) (v := undef) rfl (by kernel_rfl) (by kernel_rfl) (by kernel_rfl) (fun _ _ _ h => h) (Or.inr ⟨by kernel_rfl, rfl⟩) trivial ?_
                    refine wpAnyH_take (i := 5) (v := undef) rfl (by kernel_rfl) (by kernel_rfl) (by kernel_rfl) (fun _ _ _ h => h) (Or.inr ⟨by kernel_rfl, rfl⟩) trivial ?_
                    refine wpAnyH_take (i := 6) (v := undef) rfl (by kernel_rfl) (by kernel_rfl) (by kernel_rfl) (fun _ _ _ h => h) (Or.inr ⟨by kernel_rfl, rfl⟩) trivial ?_
                    refine wpAnyH_take (i := 7) (v := undef) rfl (by kernel_rfl) (by kernel_rfl) (by kernel_rfl) (fun _ _ _ h => h) (Or.inr ⟨by kernel_rfl, rfl⟩) trivial ?_
                    refine wpAnyH_take (i := 8) (v := undef) rfl (by kernel_rfl) (by kernel_rfl) (by kernel_rfl) (fun _ _ _ h => h) (Or.inr ⟨by kernel_rfl, rfl⟩) trivial ?_
                    refine wpAnyH_take (i := 9) (v := undef) rfl (by kernel_rfl) (by kernel_rfl) (by kernel_rfl) (fun _ _ _ h => h) (Or.inr ⟨by kernel_rfl, rfl⟩) trivial ?_
                    refine wpAnyH_take (i := 10) (v := undef) rfl (by kernel_rfl) (by kernel_rfl) (by kernel_rfl) (fun _ _ _ h => h) (Or.inr ⟨by kernel_rfl, rfl⟩) trivial ?_
                    refine wpAnyH_take (i := 11) (v := undef) rfl (by kernel_rfl) (by kernel_rfl) (by kernel_rfl) (fun _ _ _ h => h) (Or.inr ⟨by kernel_rfl, rfl⟩) trivial ?_
                    (try simp only [Act.put, List.getElem_toArray, List.getElem_cons_zero, List.getElem_cons_succ, List.setIfInBounds_toArray, List.set_cons_zero, List.set_cons_succ])
                    refine wpAnyH_take (i := 12) (v := ?_) rfl (by kernel_rfl) (by kernel_rfl) (by kernel_rfl) (fun _ _ _ h => h) (Or.inl ⟨by kernel_rfl, ?_⟩) trivial ?_
                    rotate_left
                    · (intro w _; go_simp; try with_reducible rfl)
                    (try simp only [Act.put, List.getElem_toArray, List.getElem_cons_zero, List.getElem_cons_succ, List.setIfInBounds_toArray, List.set_cons_zero, List.set_cons_succ])
                    refine wpAnyH_done (by kernel_rfl) ?_ _
                    refine NoPanic.normal ?_
                    go_wp2_with fail
                    go_roundw
                    case rel => exact ⟨i + 1, by omega, by omega, by go_num, rfl, below_drewN K11 _⟩
                    case measure => simp [intOf]; omega
                · have e1 : (z == z) = true := by simp
                  have e2 : ((cr : Int) == 0) = false := beq_eq_false_iff_ne.2 (by omega)
                  have Hie := Lib.hid h1
                  clear hK h1 h3
                  go_quiet (fail)
                  go_wp2_with fail
                  go_roundw
                  case rel =>
                    refine ⟨j + 1, _, r, c9, by omega, by go_num, rfl, hc9, hc9', ?_, below_drewN B11 _⟩
                    exact ⟨HS11.out, Hrs.out, Hrv.out, by rw [Hdrop.out]; exact h4⟩
                  case measure => simp [intOf]; omega
      · obtain rfl : j = d.length := by omega
        have hnil : L = [] := by
          have h := HL.out.first
          rw [List.drop_eq_nil_of_le (Nat.le_refl _)] at h
          cases L with
          | nil => rfl
          | cons x R =>
            obtain ⟨i1, y, d', _, hd', _⟩ := first_cons h
            cases hd'
        subst hnil
        go_wp2_with fail
        refine (HAw.out _).mono ?_
        rintro e w9 ⟨rfl, k9⟩
        go_wp2_with fail
        go_ret
        exact ⟨rfl, below_step k1 (below_step B6 (below_step B7 k9))⟩
end Go.Proofs.Ytiedecekbdaohaa
