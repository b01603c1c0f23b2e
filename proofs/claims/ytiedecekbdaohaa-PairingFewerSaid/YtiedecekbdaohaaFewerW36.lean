/- PairingFewer: the walk. -/
import Derived.Test.YtiedecekbdaohaaFewer36
import Derived.Test.YtiedecekbdaohaaNamedW36
import Derived.Test.YtiedecekbdaohaaAppendS
namespace Go.Proofs.Ytiedecekbdaohaa
open Go.RowKit

set_option maxRecDepth 100000 in
set_option maxHeartbeats 4000000 in
theorem c_PairingFewer (A : Option Addr) (n cap : Nat) (l : List Nat) (bt y z : Nat) (w : World) (hn : n = l.length) (hcap : n ≤ cap) (hc : cap ≤ 9223372036854775807) (hA : SlAt w A (l.map u8)) (h8 : ∀ x ∈ l, x < 256) (hbt : bt < 2 ^ 64) (hy : y < 256) (hz : z < 256) :
    Calls Try.prog 8 #[.slice A n cap, .int .u64 bt, .int .u8 y, .int .u8 z] w (Frm (.bool true) w) := by
  obtain ⟨i0, hi, hz0, hz1, hz2⟩ := info_parts info_i64
  obtain ⟨j0, ji, jz0, jz1, jz2⟩ := info_parts info_pr
  have HMd := Lib.hid (c_Made A n cap l bt 8 w hn (by omega) h8 hbt (by omega) hA)
  clear hA h8 hn
  go_enter Try.func8, Try.ntmps8
  go_wp2_with fail
  refine HMd.out.mono ?_
  rintro e w1 ⟨tv, mv, t, ps, rfl, hown, hownP, hT, htl, hM, hpl, k1⟩
  obtain ⟨A1, c1, rfl, hc1, _, hs1⟩ := own_slI hown
  obtain ⟨A2, c2, rfl, hc2, _, hs2⟩ := own_slP hownP
  obtain ⟨T, hTe⟩ : ∃ T, T = t.take (t.length / 2 * 2) := ⟨_, rfl⟩
  have hTl : T.length = t.length / 2 * 2 := by rw [hTe, List.length_take]; omega
  have HT : Hid (TeamsOk T) := by rw [hTe]; exact teams_sub hT (List.take_sublist ..)
  have HM := Lib.hid (numOk_of hT hM)
  have HS1 : Hid (SlAt w1 A1 (T.map i64)) := by rw [hTe, List.map_take]; exact hs1.take _
  have HS2 := Lib.hid hs2
  have hTc : T.length ≤ c1 := by omega
  have hT8 : T.length ≤ 8 := by omega
  have hTv : T.length % 2 = 0 := by omega
  have HAw := Lib.hid (fun W => c_awake W)
  have q1 : (t.length : Int) / 2 * 2 = (T.length : Int) := by omega
  have q2 : t.length / 2 * 2 = T.length := by omega
  clear hown hownP hT hM hs1 hs2 HMd hTe hTl
  go_wp2_with fail
  next =>
    refine (HAw.out _).mono ?_
    rintro e w8 ⟨rfl, k8⟩
    go_wp2_with fail
    go_ret
    exact ⟨rfl, below_step k1 k8⟩
  have q3 : 2 ≤ T.length := by omega
  have q4 : ((T.length : Int) == 0) = false := beq_eq_false_iff_ne.2 (by omega)
  have q5 : ¬ (T.length : Int) = 0 := by omega
  obtain ⟨iy, hiy⟩ : ∃ iy, iy = y % T.length := ⟨_, rfl⟩
  obtain ⟨iz, hiz⟩ : ∃ iz, iz = z % T.length := ⟨_, rfl⟩
  have q6 : (y : Int) % (T.length : Int) = (iy : Int) := by rw [hiy]; omega
  have q7 : (z : Int) % (T.length : Int) = (iz : Int) := by rw [hiz]; omega
  have hyT : iy < T.length := by rw [hiy]; exact Nat.mod_lt _ (by omega)
  have hzT : iz < T.length := by rw [hiz]; exact Nat.mod_lt _ (by omega)
  clear hiy hiz q1 q2
  go_quiet (fail)
  go_wp2_with fail
  next =>
    refine (HAw.out _).mono ?_
    rintro e w8 ⟨rfl, k8⟩
    go_wp2_with fail
    go_ret
    exact ⟨rfl, below_step (below_drewN k1 _) k8⟩
  have qne : iy ≠ iz := fun e => by
    have h : ((iy : Int) == (iz : Int)) = false := by assumption
    rw [e] at h
    simp at h
  obtain ⟨W0, hW0⟩ : ∃ W0, W0 = w1.drewN nq := ⟨_, rfl⟩
  have K0 : Below w1.heap.size w1 W0 := by rw [hW0]; exact below_drewN (Below.refl _ _) nq
  rw [← hW0]
  clear hW0
  obtain ⟨b1, o1, rfl, hb1, hcs⟩ := HS1.out.i64_all (by omega)
  obtain ⟨ta, hta⟩ : ∃ x, T[iy]? = some x := ⟨_, List.getElem?_eq_getElem hyT⟩
  obtain ⟨tb, htb⟩ : ∃ x, T[iz]? = some x := ⟨_, List.getElem?_eq_getElem hzT⟩
  have ca := hcs iy ta hta
  have cb := hcs iz tb htb
  have S0 : Below w1.heap.size w1 W0 ∧ W0.cell? ⟨b1, o1 + iy, none⟩ = some (.int .i64 ta) ∧ W0.cell? ⟨b1, o1 + iz, none⟩ = some (.int .i64 tb) := ⟨K0, (K0.cell (p := ⟨b1, o1 + iy, none⟩) hb1).trans ca, (K0.cell (p := ⟨b1, o1 + iz, none⟩) hb1).trans cb⟩
  have SD : Below w1.heap.size w1 W0.drew ∧ W0.drew.cell? ⟨b1, o1 + iy, none⟩ = some (.int .i64 ta) ∧ W0.drew.cell? ⟨b1, o1 + iz, none⟩ = some (.int .i64 tb) := ⟨below_dr K0, S0.2.1, S0.2.2⟩

  have Hta := Lib.hid hta
  have Htb := Lib.hid htb
  have qy0 : (0 : Int) ≤ (iy : Int) := by omega
  have qz0 : (0 : Int) ≤ (iz : Int) := by omega
  have qy1 : (iy : Int) < (T.length : Int) := by omega
  have qz1 : (iz : Int) < (T.length : Int) := by omega
  clear hcs hta htb ca cb
  rw [q6, q7]
  have hz0' : w1.heap.size ≤ W0.heap.size := K0.size
  have xa : True := trivial
  have xb : True := trivial
  go_region_held3 (fun W => Below w1.heap.size w1 W ∧ W.cell? ⟨b1, o1 + iy, none⟩ = some (.int .i64 ta) ∧ W.cell? ⟨b1, o1 + iz, none⟩ = some (.int .i64 tb)) (first | assumption | exact keepS _ (by assumption))
    ((first
      | (have _t := xa; refine step_append_slS (by rfl) (.tmp 58) (.tmp 59) 23 (by rfl) w1.heap.size 39 j0 _ 2 16 Try.underlying23 ji jz0 jz1 jz2 (by rfl) (by omega) (.slice (some ⟨_, 0, none⟩) 0 0) 0 [] (by rfl) ?_ A2 ps.length c2 (prs ps) (by rfl) ?_ ?_ ?_ ?_ ?_ ?_ ?_;
          (first | exact (own_emptyG _ 2 (by simp) (by omega)).drew | exact ((own_emptyG _ 2 (by simp) (by omega)).alloc _).drew); (rw [prs_len, Nat.mul_comm]); (first | exact HS2.out.below (below_dr (K0.alloc hz0' _)) | exact HS2.out.below (below_dr ((K0.alloc hz0' _).alloc (by simp; omega) _))); (exact prs_one); (unfold maxLen; omega); (omega); (simp; omega); intro v6 w6 hown6 hg6 _;
          have S6 := keepS_grown (by assumption) hg6 (own_block (by omega)) hb1 hb1;
          (try (have hs6 : SlAt w6 (some ⟨W0.heap.size + 1, 0, none⟩) (prs [(ta, tb)]) := SlAt.keptRow (w := ((W0.alloc (.cells #[] 39)).alloc (.cells #[.int .i64 ta, .int .i64 tb] 39)).drew) (sl_litG _ _ _ [.int .i64 ta, .int .i64 tb] (by simp)) hg6 (by intro b o h; cases h; simp [Value.ownBlock])));
          (try (have hs6 : SlAt w6 (some ⟨W0.heap.size, 0, none⟩) (prs [(ta, tb)]) := SlAt.keptRow (w := ((W0.alloc (.cells #[.int .i64 ta, .int .i64 tb] 39)).alloc (.cells #[] 39)).drew) ((sl_litG W0 _ _ [.int .i64 ta, .int .i64 tb] rfl).alloc _) hg6 (by intro b o h; cases h; simp [Value.ownBlock])));
          clear xa _t)
      | (have _t := xb; refine step_append_slS (by rfl) (.tmp 60) (.tmp 70) 23 (by rfl) w1.heap.size 39 j0 _ 2 16 Try.underlying23 ji jz0 jz1 jz2 (by rfl) (by omega) v6 (0 + ps.length) ([] ++ prs ps) (by rfl) ?_ (some ⟨_, 0, none⟩) 1 1 (prs [(ta, tb)]) (by rfl) ?_ ?_ ?_ ?_ ?_ ?_ ?_;
          (first | exact hown6 | exact (hown6.alloc _).drew); (rfl); (first | assumption | exact (sl_litN _ _ [.int .i64 ta, .int .i64 tb]).drew); (exact prs_one); (unfold maxLen; omega); (omega); (have := S6.1.size; simp; omega); intro v7 w7 hown7 hg7 _;
          have S7 := keepS_grown (by assumption) hg7 (own_base hown6) hb1 hb1; clear xb _t)))
  all_goals
    obtain ⟨A7, c7, rfl, hc7, hc7', hs7⟩ := own_slP hown7
    rw [List.nil_append, ← prs_append] at hs7
    have hl7 : 0 + ps.length + 1 = (ps ++ [(ta, tb)]).length := by rw [List.length_append]; simp
    rw [hl7] at hc7 ⊢
    clear hl7
    obtain ⟨mo, hmo⟩ : ∃ mo, mo = ps ++ [(ta, tb)] := ⟨_, rfl⟩
    have hmol : mo.length ≤ 401 := by rw [hmo, List.length_append]; simp; omega
    rw [← hmo] at hs7 hc7 ⊢
    have Hmo := Lib.hid hmo
    clear hmo
    have HS7 := Lib.hid hs7
    have K7 := S7.1
    have cA := S7.2.1
    have cB := S7.2.2
    have hb17 : b1 < w7.heap.size := by have := K7.size; omega
    have HS17 := Lib.hid (HS1.out.below K7)
    have HS27 := Lib.hid (HS2.out.below K7)
    clear S7 hs7 hg7 hown7 S6 hg6 hown6 S0 SD
    try clear hs6
    go_wp2_with fail
    go_loopw [14, 15, 16, 74] (fun ov _ _ iv wr => ∃ k : Nat, k ≤ T.length ∧ iv = .int .i64 k ∧ wr.ownsRow w7.heap.size 3 1 ov ((T.take k).filter fun y => y != ta && y != tb).length (((T.take k).filter fun y => y != ta && y != tb).map i64) ∧ Below w7.heap.size w7 wr) (fun _ _ _ iv _ => T.length - (intOf iv).toNat)
    case atStart => exact ⟨0, Nat.zero_le _, rfl, own_nil _ _, Below.refl _ _⟩
    case round =>
      obtain ⟨k, hk, rfl, hown, B2⟩ := hrel
      have hsz := B2.size
      by_cases hlt : k < T.length
      · obtain ⟨b, o, x, hA1, hb, hx, hcx⟩ := (HS17.out.below B2).i64_at hlt
        injection hA1 with hA1
        injection hA1 with hA1 hA2
        subst hA1 hA2
        have hf := filter_take_step (p := fun y => y != ta && y != tb) hx
        rw [sel_eq HT.out.1 Hta.out Htb.out hx] at hf
        have hrl : ((T.take k).filter fun y => y != ta && y != tb).length ≤ 8 := Nat.le_trans (List.length_filter_le ..) (by rw [List.length_take]; omega)
        generalize ((T.take k).filter fun y => y != ta && y != tb) = r0 at *
        have HO := Lib.hid hown
        clear hown
        by_cases hki : k = iy
        · have e1 : ((k : Int) != (iy : Int)) = false := by simp [hki]
          have Hf := Lib.hid (hf.trans (show _ = r0 from by simp [hki]))
          clear hf hki
          go_wp2_with fail
          go_roundw
          case rel => exact ⟨k + 1, by omega, by go_num, by rw [Hf.out]; exact HO.out, B2⟩
          case measure => simp [intOf]; omega
        · by_cases hkz : k = iz
          · have e1 : ((k : Int) != (iy : Int)) = true := by simp; omega
            have e2 : ((k : Int) != (iz : Int)) = false := by simp [hkz]
            have Hf := Lib.hid (hf.trans (show _ = r0 from by simp [hkz]))
            clear hf hki hkz
            go_wp2_with fail
            go_roundw
            case rel => exact ⟨k + 1, by omega, by go_num, by rw [Hf.out]; exact HO.out, B2⟩
            case measure => simp [intOf]; omega
          · have e1 : ((k : Int) != (iy : Int)) = true := by simp; omega
            have e2 : ((k : Int) != (iz : Int)) = true := by simp; omega
            have Hf := Lib.hid (hf.trans (show _ = r0 ++ [x] from by simp [hki, hkz]))
            clear hf hki hkz
            go_wp2_with (at_builtin; go_must (refine wpList_append_sl rfl (.tmp 87) (.tmp 89) 22 rfl w7.heap.size 3 i0 (.int .i64 0) 8 Try.underlying22 hi hz0 hz1 hz2 rfl _ r0.length _ rfl (HO.out.alloc _) (some ⟨wr.heap.size, 0, none⟩) 1 1 [.int .i64 x] rfl rfl (sl_one _ _ _) (by simp [Value.oneCell']) (by unfold maxLen; omega) (by omega) (by simp; omega) ?_); intro v2 w2 hown2 hg2 _)
            go_roundw
            case rel => exact ⟨k + 1, by omega, by go_num, by rw [Hf.out, List.length_append, List.map_append]; exact hown2, (B2.alloc B2.size _).grown hg2 (by simp; omega) (own_base HO.out)⟩
            case measure => simp [intOf]; omega
      · obtain rfl : k = T.length := by omega
        rw [List.take_of_length_le (Nat.le_refl _)] at hown
        obtain ⟨A8, c8, rfl, hc8, _, hs8⟩ := own_slI hown
        obtain ⟨w8, rfl⟩ : ∃ w8 : World, w8 = wr := ⟨_, rfl⟩
        have hab : ta ≠ tb := fun e => qne (nodup_idx HT.out.1 Hta.out Htb.out e)
        have hma := List.mem_of_getElem? Hta.out
        have hmb := List.mem_of_getElem? Htb.out
        obtain ⟨f1, f2, f3, f4⟩ := fewer HT.out HM.out (by omega) hTv hma hmb hab
        have HE := Lib.hid (fun k hk => fewer_each (k := k) HT.out HM.out (by omega) hTv hma hmb hab hk)
        rw [← Hmo.out] at f2 f4 HE
        have hrl8 : (T.filter fun y => y != ta && y != tb).length ≤ 8 := Nat.le_trans (List.length_filter_le ..) hT8
        generalize (T.filter fun y => y != ta && y != tb) = r8 at *
        have HC1 := Lib.hid (fun W (hb : Below w7.heap.size w7 W) => c_Count (some ⟨b1, o1, none⟩) T.length c1 T A2 ps.length c2 ps W rfl hTc (by omega) rfl (by omega) (HS17.out.below hb) (HS27.out.below hb))
        have HC2 := Lib.hid (fun W (hb : Below w7.heap.size w7 W) => c_Count (some ⟨b1, o1, none⟩) T.length c1 T A7 mo.length c7 mo W rfl hTc (by omega) rfl (by omega) (HS17.out.below hb) (HS7.out.below hb))
        have HC3 := Lib.hid (fun W (hb : Below w7.heap.size w7 W) (hb8 : Below w8.heap.size w8 W) => c_Count A8 r8.length c8 r8 A2 ps.length c2 ps W rfl hc8 (by omega) rfl (by omega) (hs8.below hb8) (HS27.out.below hb))
        have HMt := Lib.hid (fun W (hb : Below w7.heap.size w7 W) => c_Met A2 ps.length c2 ps ta tb W rfl (by omega) (HS27.out.below hb))
        have l1 := pCount_16 (t := T) (m := ps) (by omega)
        have l2 := pCount_16 (t := T) (m := mo) (by omega)
        have l3 := pCount_16 (t := r8) (m := ps) (by omega)
        rw [f1] at HC1
        rw [f2] at HC2
        rw [f3] at HC3
        generalize pCount T ps = p1 at *
        generalize pCount T mo = p2 at *
        generalize pCount r8 ps = p3 at *
        have F4 := Lib.hid f4
        have hsz8 := B2.size
        clear f1 f2 f3 f4 hown hs8 hma hmb
        go_wp2_with fail
        refine (HC1.out _ B2).mono ?_
        rintro e w9 ⟨rfl, k9⟩
        have B3 := below_step B2 k9
        go_wp2_with fail
        refine (HC2.out _ B3).mono ?_
        rintro e w10 ⟨rfl, k10⟩
        have B4 := below_step B3 k10
        have k10' := below_step k9 k10
        go_wp2_with fail
        refine (HC3.out _ B4 k10').mono ?_
        rintro e w11 ⟨rfl, k11⟩
        have B5 := below_step B4 k11
        clear B3 B4 k9 k10 k10' k11 HC1 HC2 HC3 B2
        go_wp2_with fail
        have cA11 := (B5.cell (p := ⟨b1, o1 + iy, none⟩) hb17).trans cA
        have cB11 := (B5.cell (p := ⟨b1, o1 + iz, none⟩) hb17).trans cB
        go_region_held3 (fun W => W.cell? ⟨b1, o1 + iy, none⟩ = some (.int .i64 ta) ∧ W.cell? ⟨b1, o1 + iz, none⟩ = some (.int .i64 tb)) (first | exact ⟨by assumption, by assumption⟩ | go_keep)
          ((go_at_call 27; refine (HMt.out _ (below_dr B5)).mono ?_; rintro e w12 ⟨rfl, k12⟩; have B6 := below_step (below_dr B5) k12; have cA12 := (B6.cell (p := ⟨b1, o1 + iy, none⟩) hb17).trans cA; have cB12 := (B6.cell (p := ⟨b1, o1 + iz, none⟩) hb17).trans cB))
        clear k12 cA12 cB12 cA11 cB11 B5
        have f4 := F4.out
        clear F4
        generalize pMet ps ta tb = mt at *
        have g0 : ((0 : Int) != 0) = false := rfl
        have g1 : ((p1 : Int) != (p1 : Int)) = false := by simp
        cases mt
        case' false =>
          rw [if_neg Bool.noConfusion] at f4
          have g3 : ((p1 : Int) != ((p2 : Int) + (p3 : Int))) = false := by simp; omega
        case' true =>
          rw [if_pos rfl] at f4
          have g3 : ((p1 : Int) != (p2 : Int)) = false := by simp; omega
        all_goals
          clear f4 HMt
          have HN := Lib.hid (fun (k : Nat) W (hb : Below w7.heap.size w7 W) => c_Nth (some ⟨b1, o1, none⟩) T.length c1 T A7 mo.length c7 mo k W rfl hTc (by omega) rfl (by omega) (HS17.out.below hb) (HS7.out.below hb))
          have HU := Lib.hid (fun D nd cd dr W (hb : Below w7.heap.size w7 W) (h1 : nd = dr.length) (h2 : dr.length ≤ 2 ^ 47) (h3 : SlAt W D (prs dr)) => c_Number (some ⟨b1, o1, none⟩) T.length c1 T A2 ps.length c2 ps D nd cd dr W rfl hTc (by omega) rfl (by omega) h1 h2 (HS17.out.below hb) (HS27.out.below hb) h3)
          go_wp2_with fail
          go_loopw [23, 24, 25, 26, 27, 134] (fun _ _ _ _ _ iv wr => ∃ k : Nat, k ≤ p2 ∧ iv = .int .i64 k ∧ Below w7.heap.size w7 wr) (fun _ _ _ _ _ iv _ => p2 - (intOf iv).toNat)
          case atStart => exact ⟨0, Nat.zero_le _, rfl, B6⟩
          case round =>
            obtain ⟨k, hk, rfl, B7⟩ := hrel
            by_cases hlt : k < p2
            · have HNk := Lib.hid (HN.out k wr B7)
              obtain ⟨e1, e2, e3⟩ := HE.out k hlt
              rw [e1] at HNk
              generalize pNthR T mo (k : Int) = dr at *
              clear e1
              go_wp2_with fail
              refine HNk.out.mono ?_
              rintro e w13 ⟨v13, rfl, hown13, k13⟩
              obtain ⟨A13, c13, rfl, hc13, _, hs13⟩ := own_slP hown13
              have B8 := below_step B7 k13
              have HUk := Lib.hid (HU.out A13 dr.length c13 dr w13 B8 rfl (by omega) hs13)
              rw [e2] at HUk
              generalize (pNum T ps dr).1 = pn at *
              clear hown13 hs13 k13 e2 HNk
              go_wp2_with fail
              refine HUk.out.mono ?_
              rintro e w14 ⟨rfl, k14⟩
              have B9 := below_step B8 k14
              clear k14 HUk
              go_wp2_with fail
              go_roundw
              case rel => exact ⟨k + 1, by omega, by go_num, B9⟩
              case measure => simp [intOf]; omega
            · obtain rfl : k = p2 := by omega
              go_wp2_with fail
              refine (HAw.out _).mono ?_
              rintro e w15 ⟨rfl, k15⟩
              go_wp2_with fail
              go_ret
              exact ⟨rfl, below_step k1 (below_step K7 (below_step B7 k15))⟩
end Go.Proofs.Ytiedecekbdaohaa
