/- PairingSmall: the walk. -/
import Derived.Test.YtiedecekbdaohaaTellsW36
import Derived.Test.YtiedecekbdaohaaSmallA36
namespace Go.Proofs.Ytiedecekbdaohaa
open Go.RowKit

def smT : List Int := [64, 2, 33, 1, 9]
/-- The pairs of team i with the first k ones; of all teams ahead of i. -/
def smRow (i : Nat) : Nat → List Pr
  | 0 => []
  | k + 1 => smRow i k ++ [(smT[i]?.getD 0, smT[k]?.getD 0)]
def smAll : Nat → List Pr
  | 0 => []
  | i + 1 => smAll i ++ smRow i i
theorem smRow_len : ∀ i k, (smRow i k).length = k
  | _, 0 => rfl
  | i, k + 1 => by unfold smRow; rw [List.length_append, smRow_len i k]; rfl
theorem sl_takeI {w : World} {A : Option Addr} {l : List Int} (k : Nat) (h : SlAt w A (l.map i64)) : SlAt w A ((l.take k).map i64) := by rw [List.map_take]; exact h.take k
theorem smAll_len : ∀ i, i ≤ 5 → (smAll i).length ≤ 10 := by decide
set_option maxRecDepth 100000 in
set_option maxHeartbeats 4000000 in
theorem c_PairingSmall (w : World) : Calls Try.prog 5 #[] w (Frm (.bool true) w) := by
  obtain ⟨i0, hi, hz0, hz1, hz2⟩ := info_parts info_i64
  obtain ⟨j0, ji, jz0, jz1, jz2⟩ := info_parts info_pr
  have HAw := Lib.hid (fun W => c_awake W)
  go_enter Try.func5, Try.ntmps5
  go_wp2_with fail
  have hT : SlAt (w.alloc (.cells #[.int .i64 64, .int .i64 2, .int .i64 33, .int .i64 1, .int .i64 9] 3)) (some ⟨w.heap.size, 0, none⟩) (smT.map i64) := sl_litN w 3 [.int .i64 64, .int .i64 2, .int .i64 33, .int .i64 1, .int .i64 9]
  have B0 := (Below.refl w.heap.size w).alloc (Nat.le_refl _) (.cells #[.int .i64 64, .int .i64 2, .int .i64 33, .int .i64 1, .int .i64 9] 3)
  have hg0 : w.heap.size < (w.alloc (.cells #[.int .i64 64, .int .i64 2, .int .i64 33, .int .i64 1, .int .i64 9] 3)).heap.size := by simp
  generalize w.alloc (.cells #[.int .i64 64, .int .i64 2, .int .i64 33, .int .i64 1, .int .i64 9] 3) = w0 at *
  have HT := Lib.hid hT
  clear hT
  generalize hgw : w.heap.size = gw at *
  have Hgw := Lib.hid hgw
  clear hgw
  go_loopw [2, 3, 4, 33] (fun pv _ _ iv wr => ∃ i : Nat, i ≤ 5 ∧ iv = .int .i64 i ∧ Hid (wr.ownsRow w0.heap.size 39 2 pv (smAll i).length (prs (smAll i))) ∧ Below w0.heap.size w0 wr) (fun _ _ _ iv _ => 5 - (intOf iv).toNat)
  case atStart => exact ⟨0, by omega, rfl, own_nil _ _, Below.refl _ _⟩
  case round =>
    obtain ⟨i, hi5, rfl, HO, B1⟩ := hrel
    obtain ⟨wi, rfl⟩ : ∃ wi, wi = wr := ⟨_, rfl⟩
    by_cases hlt : i < 5
    · have q1 : (i : Int) < 5 := by omega
      go_wp2_with fail
      go_loopw [2, 4, 37] (fun pv _ kv wr => ∃ k : Nat, k ≤ i ∧ kv = .int .i64 k ∧ Hid (wr.ownsRow w0.heap.size 39 2 pv (smAll i ++ smRow i k).length (prs (smAll i ++ smRow i k))) ∧ Below w0.heap.size w0 wr) (fun _ _ kv _ => i - (intOf kv).toNat)
      case atStart => exact ⟨0, Nat.zero_le _, rfl, by simpa [smRow] using HO, B1⟩
      case round =>
        obtain ⟨k, hk, rfl, HO2, B2⟩ := hrel
        by_cases hki : k < i
        · obtain ⟨b1, o1, x1, e1, hb1, hx1, hc1⟩ := (HT.out.below B2).i64_at (k := i) (by show i < 5; omega)
          obtain ⟨b2, o2, x2, e2, hb2, hx2, hc2⟩ := (HT.out.below B2).i64_at (k := k) (by show k < 5; omega)
          injection e1 with e1
          injection e1 with e11 e12
          subst e11 e12
          injection e2 with e2
          injection e2 with e21 e22
          subst e21 e22
          rw [Nat.zero_add] at hc1 hc2
          have S0 : wr.drew.cell? ⟨gw, i, none⟩ = some (.int .i64 x1) ∧ wr.drew.cell? ⟨gw, k, none⟩ = some (.int .i64 x2) := ⟨hc1, hc2⟩
          have hst : (smAll i ++ smRow i k) ++ [(x1, x2)] = smAll i ++ smRow i (k + 1) := by
            show _ = smAll i ++ (smRow i k ++ [(smT[i]?.getD 0, smT[k]?.getD 0)])
            rw [hx1, hx2, List.append_assoc]
            rfl
          have Hst := Lib.hid hst
          have hlen : (smAll i ++ smRow i k).length ≤ 20 := by rw [List.length_append, smRow_len]; have := smAll_len i hi5; omega
          have hz2 := B2.size
          have r1 : (0 : Int) ≤ (i : Int) := by omega
          have r2 : (0 : Int) ≤ (k : Int) := by omega
          have r3 : (k : Int) < 5 := by omega
          have r4 : (k : Int) < (i : Int) := by omega
          clear hst hx1 hx2 hc1 hc2 hb2
          generalize smAll i ++ smRow i k = P0 at *
          go_wp2_with fail
          go_region_held3 (fun W => W.cell? ⟨gw, i, none⟩ = some (.int .i64 x1) ∧ W.cell? ⟨gw, k, none⟩ = some (.int .i64 x2)) (first | exact S0 | exact ⟨cell_keep_alloc _ S0.1, cell_keep_alloc _ S0.2⟩ | exact ⟨n1, n2⟩)
            ((refine step_append_slS (by rfl) (.tmp 40) (.tmp 50) 23 (by rfl) w0.heap.size 39 j0 _ 2 16 Try.underlying23 ji jz0 jz1 jz2 (by rfl) (by omega) _ P0.length (prs P0) (by rfl) ?_ (some ⟨_, 0, none⟩) 1 1 [.int .i64 x1, .int .i64 x2] (by rfl) ?_ ?_ ?_ ?_ ?_ ?_ ?_;
              (exact (HO2.out.alloc _).drew); (rfl); (exact (sl_litN wr _ [.int .i64 x1, .int .i64 x2]).drew); (simp [Value.oneCell']); (unfold maxLen; omega); (omega); (simp; omega); intro v8 w8 hown8 hg8 _;
              have n1 := hg8.cell (a := ⟨gw, i, none⟩) (cell_keep_alloc _ S0.1) (fun h => absurd (own_base HO2.out _ h.symm) (Nat.not_le.2 hg0)); have n2 := hg8.cell (a := ⟨gw, k, none⟩) (cell_keep_alloc _ S0.2) (fun h => absurd (own_base HO2.out _ h.symm) (Nat.not_le.2 hg0))))
          have hl8 : P0.length + 1 = (P0 ++ [(x1, x2)]).length := by rw [List.length_append]; rfl
          have HO8 : Hid (w8.ownsRow w0.heap.size 39 2 v8 (P0 ++ [(x1, x2)]).length (prs (P0 ++ [(x1, x2)]))) := by
            show w8.ownsRow _ _ _ _ _ _
            rw [← hl8, prs_append]
            exact hown8
          rw [Hst.out] at HO8
          have B8 := (below_dr (B2.alloc hz2 (.cells #[.int .i64 x1, .int .i64 x2] 39))).grown hg8 (by simp; omega) (own_base HO2.out)
          clear hown8 hg8 hl8 n1 n2
          go_wp2_with fail
          go_roundw
          case rel => exact ⟨k + 1, by omega, by go_num, HO8, B8⟩
          case measure => simp [intOf]; omega
        · obtain rfl : k = i := by omega
          go_wp2_with fail
          go_roundw
          case rel => exact ⟨k + 1, by omega, by go_num, HO2, B2⟩
          case measure => simp [intOf]; omega
    · obtain rfl : i = 5 := by omega
      obtain ⟨A2, c2, rfl, hc2, _, hs2⟩ := own_slP HO.out
      have hl10 : (smAll 5).length = 10 := by decide
      rw [hl10] at hc2 ⊢
      have HP := Lib.hid hs2
      clear hs2 HO hl10
      rw [show ((5 : Nat) : Int) = 5 from rfl]
      go_wp2_with fail
      have HTi := Lib.hid (HT.out.below B1)
      have BB := B1
      have hz1i := B1.size
      have hgi : gw < wi.heap.size := Nat.lt_of_lt_of_le hg0 hz1i
      clear B1
      go_loopw [5, 6, 7, 8, 9, 10, 11, 12, 13, 14, 15, 16, 57] (fun _ _ _ _ _ _ _ _ _ _ _ _ mv wr => ∃ m : Nat, m ≤ 1024 ∧ mv = .int .i64 m ∧ Below wi.heap.size wi wr) (fun _ _ _ _ _ _ _ _ _ _ _ _ mv _ => 1024 - (intOf mv).toNat)
      case atStart => exact ⟨0, by omega, rfl, Below.refl _ _⟩
      case round =>
        obtain ⟨m, hm, rfl, Bm⟩ := hrel
        obtain ⟨wm, rfl⟩ : ∃ wm, wm = wr := ⟨_, rfl⟩
        by_cases hlm : m < 1024
        · have qm : (m : Int) < 1024 := by omega
          go_wp2_with fail
          go_loopw [6, 7, 8, 62] (fun mv _ _ kv wr => ∃ (k : Nat) (M : List Pr), k ≤ 10 ∧ M.length ≤ k ∧ kv = .int .i64 k ∧ Hid (wr.ownsRow wm.heap.size 39 2 mv M.length (prs M)) ∧ Below wm.heap.size wm wr) (fun _ _ _ kv _ => 10 - (intOf kv).toNat)
          case atStart => exact ⟨0, [], by omega, by simp, rfl, own_nil _ _, Below.refl _ _⟩
          case round =>
            obtain ⟨k, M, hk, hM, rfl, HO, B⟩ := hrel
            by_cases hlk : k < 10
            · obtain ⟨bA, oA, x1, x2, eA, hbA, hx, hc1, hc2⟩ := ((HP.out.below Bm).below B).pr_at (k := k) (by show k < (smAll 5).length; exact hlk)
              subst eA
              have hzk := B.size
              have qk : (k : Int) < 10 := by omega
              clear hx
              go_wp2_with (at_builtin; go_must (refine wpList_append_slS rfl (.tmp 72) (.tmp 74) 23 rfl wm.heap.size 39 j0 _ 2 16 Try.underlying23 ji jz0 jz1 jz2 rfl (by omega) _ M.length (prs M) rfl ((HO.out.alloc _).alloc _) (some ⟨wr.heap.size + 1, 0, none⟩) 1 1 [.int .i64 x1, .int .i64 x2] rfl rfl (sl_litG _ _ _ [.int .i64 x1, .int .i64 x2] (by simp)) (by simp [Value.oneCell']) (by unfold maxLen; omega) (by omega) (by simp; omega) ?_); intro v2 w2 hown2 hg2 _)
              · go_roundw
                case rel => exact ⟨k + 1, M ++ [(x1, x2)], by omega, by rw [List.length_append]; simp; omega, by go_num, by rw [List.length_append, prs_append]; exact hown2, ((B.alloc B.size _).alloc (by simp; omega) _).grown hg2 (by simp; omega) (own_base HO.out)⟩
                case measure => simp [intOf]; omega
              · go_roundw
                case rel => exact ⟨k + 1, M, by omega, by omega, by go_num, HO.out.alloc _, B.alloc B.size _⟩
                case measure => simp [intOf]; omega
            · obtain rfl : k = 10 := by omega
              obtain ⟨AM, cM, rfl, hcM, _, hsM⟩ := own_slP HO.out
              have HM := Lib.hid hsM
              have BM := Bm.trans (B.mono Bm.size)
              clear hsM HO B Bm
              obtain ⟨wd, rfl⟩ : ∃ wd, wd = wr := ⟨_, rfl⟩
              rw [show ((10 : Nat) : Int) = 10 from rfl]
              by_cases h5 : 5 < M.length
              · have q5 : (5 : Int) < (M.length : Int) := by omega
                go_wp2_with fail
                go_roundw
                case rel => exact ⟨m + 1, by omega, by go_num, BM⟩
                case measure => simp [intOf]; omega
              · have q5 : ¬ (5 : Int) < (M.length : Int) := by omega
                obtain ⟨b, hb⟩ : ∃ b, m % 3 = b := ⟨_, rfl⟩
                have hb3 : b < 3 := by omega
                have hbI : (m : Int) % 3 = (b : Nat) := by omega
                clear hb
                go_wp2_with fail
                go_loopw [9, 10, 11, 12, 13, 14, 15, 16] (fun nv _ _ _ _ _ _ _ wr => ∃ n : Nat, 3 ≤ n ∧ n ≤ 6 ∧ nv = .int .i64 n ∧ Below wd.heap.size wd wr) (fun nv _ _ _ _ _ _ _ _ => 6 - (intOf nv).toNat)
                case atStart => exact ⟨3, by omega, by omega, rfl, Below.refl _ _⟩
                case round =>
                  obtain ⟨n, hn3, hn6, rfl, B⟩ := hrel
                  obtain ⟨wn, rfl⟩ : ∃ wn, wn = wr := ⟨_, rfl⟩
                  have K0 := BM.trans (B.mono BM.size)
                  by_cases hn5 : n ≤ 5
                  · have q6 : (n : Int) ≤ 5 := by omega
                    have hsn : (smT.take n).length = n := by rw [List.length_take]; show min n 5 = n; omega
                    have hsb : (smT.take b).length = b := by rw [List.length_take]; show min b 5 = b; omega
                    have HTn := Lib.hid (fun W (hb : Below wn.heap.size wn W) => sl_takeI n ((HTi.out.below K0).below hb))
                    have HTb := Lib.hid (fun W (hb : Below wn.heap.size wn W) => sl_takeI b ((HTi.out.below K0).below hb))
                    have HMn := Lib.hid (fun W (hb : Below wn.heap.size wn W) => (HM.out.below B).below hb)
                    have hdl := pDraw_len (t := smT.take n) (m := M) (b := smT.take b)
                    have HD := Lib.hid (fun W (hb : Below wn.heap.size wn W) => c_Draw (some ⟨gw, 0, none⟩) n 5 (smT.take n) AM M.length cM M (some ⟨gw, 0, none⟩) b 5 (smT.take b) W hsn.symm (by omega) (by omega) rfl (by omega) hsb.symm (by omega) (HTn.out _ hb) (HMn.out _ hb) (HTb.out _ hb))
                    have HRD := Lib.hid (fun D nd cd W (hb : Below wn.heap.size wn W) (h1 : nd = M.length) (h3 : SlAt W D (prs M)) => c_rDraw (some ⟨gw, 0, none⟩) n 5 (smT.take n) D nd cd M (some ⟨gw, 0, none⟩) b 5 (smT.take b) W hsn.symm (by omega) (by omega) h1 (by omega) hsb.symm (by omega) (HTn.out _ hb) h3 (HTb.out _ hb))
                    have HTh := Lib.hid (fun W (hb : Below wn.heap.size wn W) => c_theirs AM M.length cM M W rfl (by omega) (HMn.out _ hb))
                    rw [hsn] at hdl
                    clear hsn hsb
                    generalize pDraw (smT.take n) M (smT.take b) = r at *
                    obtain ⟨d, bb, er⟩ := r
                    dsimp only at hdl
                    go_wp2_with fail
                    refine (HD.out _ (Below.refl _ _)).mono ?_
                    rintro e w9 ⟨v9, rfl, hown9, k9⟩
                    dsimp only at hown9 ⊢
                    obtain ⟨A9, c9, rfl, hc9, _, hs9⟩ := own_slP hown9
                    have HS9 := Lib.hid hs9
                    clear hown9 hs9 HD hc9
                    have HTh9 := Lib.hid (fun q => HTh.out (w9.drewN q) (below_drewN k9 q))
                    go_wp2_with fail
                    go_region_held3 (fun W => True) (exact trivial)
                      ((first
                        | (go_at_call 17; refine (HTh9.out _).mono ?_; rintro e w10 ⟨v10, rfl, hown10, k10⟩; obtain ⟨A10, c10, rfl, hc10, _, hs10⟩ := own_slP hown10; have HS10 := Lib.hid hs10; have k9q := below_step (below_drewN k9 _) k10; clear hown10 hs10)
                        | (go_at_call 16; refine (HRD.out A10 M.length c10 _ ?_ rfl ?_).mono ?_; (first | exact k9q | exact below_dr k9q | exact below_drewN k9q _ | exact below_dr (below_drewN k9q _)); (exact HS10.out); rintro e w11 ⟨v11, rfl, hown11, k11⟩; dsimp only at hown11 ⊢)))
                    obtain ⟨A11, c11, rfl, hc11, _, hs11⟩ := own_slP hown11
                    have J11 := below_step k9q k11
                    have HO := Lib.hid (c_ours A11 d.length c11 d w11 rfl (by omega) hs11)
                    have j11 := (below_step k10 k11)
                    have g1 : (bb != bb) = false := by simp
                    have g2 : ((er : Int) != (er : Int)) = false := by simp
                    have hd1 : decide (d = d) = true := decide_eq_true rfl
                    have HI := Lib.hid (fun (A : Option Addr) (c : Nat) (W : World) (h9 : SlAt W A9 (prs d)) (h : SlAt W A (prs d)) => (show Calls Try.prog 18 #[.slice A9 d.length c9, .slice A d.length c] W (Frm (.bool true) W) from (c_is A9 d.length c9 d A d.length c d W rfl rfl (by omega) (by omega) h9 h).mono (fun _ _ hh => by rw [hd1] at hh; exact Qt.frm hh)))
                    clear hown11 hs11 hd1 HTh9 HTh HRD hc11 hc10
                    go_wp2_with fail
                    refine HO.out.mono ?_
                    rintro e w12 ⟨v12, rfl, hown12, k12⟩
                    obtain ⟨A12, c12, rfl, hc12, _, hs12⟩ := own_slP hown12
                    have HI2 := Lib.hid (HI.out A12 c12 w12 (((HS9.out.drewN _).below j11).below k12) hs12)
                    have J12 := below_step J11 k12
                    clear hown12 hs12 HO HI hc12
                    go_wp2_with fail
                    refine HI2.out.mono ?_
                    rintro e w13 ⟨rfl, k13⟩
                    have J13 := below_step J12 k13
                    clear HI2 k13 J12
                    go_wp2_with fail
                    go_roundw
                    case rel => exact ⟨n + 1, by omega, by omega, by go_num, B.trans (J13.mono B.size)⟩
                    case measure => simp [intOf]; omega
                  · obtain rfl : n = 6 := by omega
                    rw [show ((6 : Nat) : Int) = 6 from rfl]
                    go_wp2_with fail
                    have bA := (Below.refl wn.heap.size wn).alloc (Nat.le_refl _) (.cells #[.int .i64 64, .int .i64 33, .int .i64 2, .int .i64 1] 39)
                    refine (c_tells (some ⟨gw, 0, none⟩) 4 5 (smT.take 4) AM M.length cM M (some ⟨wn.heap.size, 0, none⟩) 2 2 [(64, 33), (2, 1)] 2 64 ((m : Int) % 4 - 1) _ rfl (by omega) (by decide) (sl_takeI 4 ((HTi.out.below K0).below bA)) rfl (by omega) ((HM.out.below B).below bA) rfl (by decide) (sl_litG wn _ _ [.int .i64 64, .int .i64 33, .int .i64 2, .int .i64 1] rfl)).mono ?_
                    rintro e w9 ⟨rfl, k9⟩
                    have b9 := bA.trans (k9.mono (by simp))
                    go_wp2_with fail
                    go_roundw
                    case rel => exact ⟨m + 1, by omega, by go_num, BM.trans ((B.trans (b9.mono B.size)).mono BM.size)⟩
                    case measure => simp [intOf]; omega
        · obtain rfl : m = 1024 := by omega
          rw [show ((1024 : Nat) : Int) = 1024 from rfl]
          have hzm := Bm.size
          have Bw := B0.trans (((show Below w0.heap.size w0 wi from BB).trans (Bm.mono hz1i)).mono (Nat.le_of_lt hg0))
          obtain ⟨wf, rfl⟩ : ∃ wf, wf = wm := ⟨_, rfl⟩
          clear HTi HP HT Bm
          go_wp2_with fail
          go_loopw [17, 18, 136] (fun mv _ kv wr => ∃ k : Nat, k ≤ 17 ∧ kv = .int .i64 k ∧ Hid (wr.ownsRow wf.heap.size 3 1 mv (smM k).length ((smM k).map i64)) ∧ Below wf.heap.size wf wr) (fun _ _ kv _ => 17 - (intOf kv).toNat)
          case atStart => exact ⟨0, by omega, rfl, own_nil _ _, Below.refl _ _⟩
          case round =>
            obtain ⟨k, hk, rfl, HO, B⟩ := hrel
            by_cases hlk : k < 17
            · have qk : (k : Int) < 17 := by omega
              have hzk := B.size
              have hml := smM_len k
              have Hst := Lib.hid (show smM (k + 1) = smM k ++ [64 - (k : Int)] from rfl)
              generalize smM k = M0 at *
              have hml2 : M0.length ≤ 20 := by omega
              clear hml
              go_wp2_with (at_builtin; go_must (refine wpList_append_sl rfl (.tmp 139) (.tmp 142) 22 rfl wf.heap.size 3 i0 (.int .i64 0) 8 Try.underlying22 hi hz0 hz1 hz2 rfl _ M0.length _ rfl (HO.out.alloc _) (some ⟨wr.heap.size, 0, none⟩) 1 1 [.int .i64 (64 - (k : Int))] rfl rfl (sl_one _ _ _) (by simp [Value.oneCell']) (by unfold maxLen; omega) (by omega) (by simp; omega) ?_); intro v2 w2 hown2 hg2 _)
              go_roundw
              case rel => exact ⟨k + 1, by omega, by go_num, by rw [Hst.out, List.length_append, List.map_append]; exact hown2, (B.alloc B.size _).grown hg2 (by simp; omega) (own_base HO.out)⟩
              case measure => simp [intOf]; omega
            · obtain rfl : k = 17 := by omega
              obtain ⟨AM, cM, rfl, hcM, _, hsM⟩ := own_slI HO.out
              rw [smM_len] at hcM ⊢
              have HM := Lib.hid hsM
              clear hsM HO
              rw [show ((17 : Nat) : Int) = 17 from rfl]
              have HK := Lib.hid (show (2027025 : Int) = ((2027025 : Nat) : Int) from rfl)
              obtain ⟨wo, rfl⟩ : ∃ wo, wo = wr := ⟨_, rfl⟩
              have C1 := Lib.hid (c_Count AM 16 cM ((smM 17).take 16) none 0 0 [] wo sm16_len.symm (by omega) (by rw [sm16_len]; omega) rfl (by simp) (sl_takeI 16 HM.out) SlAt.nil_)
              have C2 := Lib.hid (fun W (hb : Below wo.heap.size wo W) => c_Count AM 17 cM (smM 17) none 0 0 [] W (smM_len 17).symm (by omega) (by rw [smM_len]; omega) rfl (by simp) (HM.out.below hb) SlAt.nil_)
              have C3 := Lib.hid (fun W (hb : Below wo.heap.size wo W) => c_Number AM 17 cM (smM 17) none 0 0 [] none 0 0 [] W (smM_len 17).symm (by omega) (by rw [smM_len]; omega) rfl (by simp) rfl (by simp) (HM.out.below hb) SlAt.nil_ SlAt.nil_)
              have C4 := Lib.hid (fun W (hb : Below wo.heap.size wo W) => c_Nth AM 17 cM (smM 17) none 0 0 [] 0 W (smM_len 17).symm (by omega) (by rw [smM_len]; omega) rfl (by simp) (HM.out.below hb) SlAt.nil_)
              have C5 := Lib.hid (fun W (hb : Below wo.heap.size wo W) => c_Draw AM 17 cM (smM 17) none 0 0 [] none 0 0 [] W (smM_len 17).symm (by omega) (by rw [smM_len]; omega) rfl (by simp) rfl (by simp) (HM.out.below hb) SlAt.nil_ SlAt.nil_)
              rw [sm16_odd, sm16_count] at C1
              rw [sm17_odd, sm17_count] at C2
              rw [sm17_num] at C3
              rw [sm17_nth.1, sm17_nth.2] at C4
              rw [sm17_draw] at C5
              dsimp only at C3 C5
              clear HM
              go_wp2_with fail
              refine C1.out.mono ?_
              rintro e w1 ⟨rfl, k1⟩
              rw [show ((0 : Nat) : Int) = 0 from rfl, show ((2027025 : Nat) : Int) = 2027025 from rfl]
              go_wp2_with fail
              refine (C2.out _ k1).mono ?_
              rintro e w2 ⟨rfl, k2⟩
              have J2 := below_step k1 k2
              rw [show ((0 : Nat) : Int) = 0 from rfl, show ((5 : Nat) : Int) = 5 from rfl]
              go_wp2_with fail
              refine (C3.out _ J2).mono ?_
              rintro e w3 ⟨rfl, k3⟩
              have J3 := below_step J2 k3
              rw [show ((0 : Nat) : Int) = 0 from rfl, show ((5 : Nat) : Int) = 5 from rfl]
              go_wp2_with fail
              refine (C4.out _ J3).mono ?_
              rintro e w4 ⟨v4, rfl, _, k4⟩
              have J4 := below_step J3 k4
              rw [show ((5 : Nat) : Int) = 5 from rfl]
              go_wp2_with fail
              refine (C5.out _ J4).mono ?_
              rintro e w5 ⟨v5, rfl, _, k5⟩
              have J5 := below_step J4 k5
              dsimp only
              rw [show ((5 : Nat) : Int) = 5 from rfl]
              go_wp2_with fail
              refine (HAw.out _).mono ?_
              rintro e w6 ⟨rfl, k6⟩
              have J6 := below_step J5 k6
              go_wp2_with fail
              go_ret
              exact ⟨rfl, by rw [Hgw.out]; exact Bw.trans ((B.trans (J6.mono B.size)).mono (by omega))⟩
end Go.Proofs.Ytiedecekbdaohaa
