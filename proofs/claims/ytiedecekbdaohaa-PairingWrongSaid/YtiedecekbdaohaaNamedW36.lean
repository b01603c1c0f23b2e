/- PairingNamed: the walk. -/
import Derived.Test.YtiedecekbdaohaaNamed36
namespace Go.Proofs.Ytiedecekbdaohaa
open Go.RowKit

set_option maxHeartbeats 400000 in
theorem c_turn (g y : Nat) (x : Int) (hx : 1 ≤ x ∧ x ≤ 64) (hy : y < 256) (w : World) (hb : Box w g 5 (.int .u8 y)) :
    Calls Try.prog 28 #[.int .i64 x, .pointer (some ⟨g, 0, none⟩)] w (Same (.int .i64 (tn y x)) w) := by
  have hc := hb.cell
  obtain ⟨h1, h2⟩ := hx
  clear hb
  go_enter Try.func28, Try.ntmps28
  go_wp2_with fail
  go_ret
  exact ⟨ret_int (by unfold tn; omega), rfl⟩

set_option maxRecDepth 100000 in
set_option maxHeartbeats 4000000 in
theorem c_PairingNamed (A : Option Addr) (n cap : Nat) (l : List Nat) (bt y : Nat) (w : World) (hn : n = l.length) (hcap : n ≤ cap) (hc : cap ≤ 9223372036854775807) (hA : SlAt w A (l.map u8)) (h8 : ∀ x ∈ l, x < 256) (hbt : bt < 2 ^ 64) (hy : y < 256) :
    Calls Try.prog 10 #[.slice A n cap, .int .u64 bt, .int .u8 y] w (Frm (.bool true) w) := by
  obtain ⟨i0, hi, hz0, hz1, hz2⟩ := info_parts info_i64
  obtain ⟨j0, ji, jz0, jz1, jz2⟩ := info_parts info_pr
  have HMd := Lib.hid (c_Made A n cap l bt 10 (w.alloc (.cells #[Value.int .u8 (y : Int)] 5)) hn (by omega) h8 hbt (by omega) (hA.alloc _))
  have X0 := Box.new w 5 (Value.int .u8 (y : Int))
  have B0 := (Below.refl w.heap.size w).alloc (Nat.le_refl _) (.cells #[Value.int .u8 (y : Int)] 5)
  have hg0 : w.heap.size < (w.alloc (.cells #[Value.int .u8 (y : Int)] 5)).heap.size := by simp
  clear hA h8 hn
  go_enter Try.func10, Try.ntmps10
  go_wp2_with fail
  refine HMd.out.mono ?_
  rintro e w1 ⟨tv, mv, t, ps, rfl, hown, hownP, hT, htl, hM, hpl, k1⟩
  obtain ⟨A1, c1, rfl, hc1, _, hs1⟩ := own_slI hown
  obtain ⟨A2, c2, rfl, hc2, _, hs2⟩ := own_slP hownP
  have X1 := X0.later k1
  have B1 : Below w.heap.size w w1 := B0.trans (k1.mono (by omega))
  have hg1 : w.heap.size < w1.heap.size := by have := k1.size; omega
  have HT := Lib.hid hT
  have HM := Lib.hid hM
  have HS1 := Lib.hid hs1
  have HS2 := Lib.hid hs2
  have HX1 := Lib.hid X1
  generalize hgw : w.heap.size = gw at *
  have Hgw := Lib.hid hgw
  clear hown hownP hT hM hs1 hs2 X1 X0 B0 k1 hg0 hgw HMd
  go_wp2_with fail
  go_loopw [10, 13, 37] (fun ov _ iv wr => ∃ k : Nat, k ≤ t.length ∧ iv = .int .i64 k ∧ wr.ownsRow w1.heap.size 3 1 ov k (((t.map (tn y)).take k).map i64) ∧ Below w1.heap.size w1 wr) (fun _ _ iv _ => t.length - (intOf iv).toNat)
  case atStart => exact ⟨0, Nat.zero_le _, rfl, own_nil _ _, Below.refl _ _⟩
  case round =>
    obtain ⟨k, hk, rfl, hown, B2⟩ := hrel
    have hsz := B2.size
    by_cases hlt : k < t.length
    · obtain ⟨b, o, x, rfl, hb, hx, hcx⟩ := (HS1.out.below B2).i64_at hlt
      have HC := Lib.hid (c_turn gw y x (HT.out.2 x (List.mem_of_getElem? hx)) hy wr (HX1.out.later B2))
      have hstep : ((t.map (tn y)).take (k + 1)).map i64 = ((t.map (tn y)).take k).map i64 ++ [Value.int .i64 (tn y x)] := by
        have h1 : (t.map (tn y))[k]? = some (tn y x) := by rw [List.getElem?_map, hx]; rfl
        obtain ⟨h2, h3⟩ := List.getElem?_eq_some_iff.1 h1
        rw [List.take_succ_eq_append_getElem h2, List.map_append, h3]
        rfl
      generalize tn y x = z at *
      have Hstep := Lib.hid hstep
      have HO := Lib.hid hown
      clear hstep hown hx
      go_wp2_with (first
        | (go_at_call 28; refine HC.out.mono ?_; rintro e w' ⟨rfl, rfl⟩)
        | (at_builtin; go_must (refine wpList_append_sl rfl (.tmp 41) (.tmp 45) 22 rfl w1.heap.size 3 i0 (.int .i64 0) 8 Try.underlying22 hi hz0 hz1 hz2 rfl _ k _ rfl (HO.out.alloc _) (some ⟨wr.heap.size, 0, none⟩) 1 1 [.int .i64 z] rfl rfl (sl_one _ _ _) (by simp [Value.oneCell']) (by unfold maxLen; omega) (by omega) (by simp; omega) ?_); intro v2 w2 hown2 hg2 _))
      go_roundw
      case rel => exact ⟨k + 1, by omega, by go_num, by rw [Hstep.out]; exact hown2, (B2.alloc B2.size _).grown hg2 (by simp; omega) (own_base HO.out)⟩
      case measure => simp [intOf]; omega
    · obtain rfl : k = t.length := by omega
      rw [List.take_of_length_le (by rw [List.length_map]; exact Nat.le_refl _)] at hown
      obtain ⟨A3, c3, rfl, hc3, _, hs3⟩ := own_slI hown
      obtain ⟨w2, rfl⟩ : ∃ w2 : World, w2 = wr := ⟨_, rfl⟩
      have HS3 := Lib.hid hs3
      clear hown hs3
      go_wp2_with fail
      go_loopw [11, 15, 50] (fun ov _ iv wr => ∃ k : Nat, k ≤ ps.length ∧ iv = .int .i64 k ∧ wr.ownsRow w2.heap.size 39 2 ov k (prs ((ps.map (tnP y)).take k)) ∧ Below w2.heap.size w2 wr) (fun _ _ iv _ => ps.length - (intOf iv).toNat)
      case atStart => exact ⟨0, Nat.zero_le _, rfl, own_nil _ _, Below.refl _ _⟩
      case round =>
        obtain ⟨k, hk, rfl, hown, B3⟩ := hrel
        have hsz3 := B3.size
        by_cases hlt : k < ps.length
        · obtain ⟨b, o, pa, pb, rfl, hb, hx, hca, hcb⟩ := (HS2.out.below (below_step B2 B3)).pr_at hlt
          have hpm := HM.out _ (List.mem_of_getElem? hx)
          have hra := HT.out.2 _ hpm.1
          have hrb := HT.out.2 _ hpm.2.1
          have HCt := Lib.hid (fun x hx W hW => c_turn gw y x hx hy W hW)
          have HX3 := Lib.hid (HX1.out.later (below_step B2 B3))
          have hstep : prs ((ps.map (tnP y)).take (k + 1)) = prs ((ps.map (tnP y)).take k) ++ [Value.int .i64 (tn y pa), .int .i64 (tn y pb)] := by
            have h1 : (ps.map (tnP y))[k]? = some (tn y pa, tn y pb) := by rw [List.getElem?_map, hx]; rfl
            obtain ⟨h2, h3⟩ := List.getElem?_eq_some_iff.1 h1
            rw [List.take_succ_eq_append_getElem h2, prs_append, h3]
            rfl
          have Hstep := Lib.hid hstep
          have HO := Lib.hid hown
          clear hstep hown hx hpm
          go_wp2_with fail
          have Bb := (Below.refl wr.heap.size wr).alloc (Nat.le_refl _) (.cells #[Value.int .i64 pa, Value.int .i64 pb] 39)
          have g0 : (wr.alloc (.cells #[Value.int .i64 pa, Value.int .i64 pb] 39)).cell? ⟨wr.heap.size, 0, none⟩ = some (.int .i64 pa) := (cell_of_row _ wr.heap.size 0 #[Value.int .i64 pa, Value.int .i64 pb] 39 (0, 0) (heap_alloc_new wr _)).trans rfl
          have g1 : (wr.alloc (.cells #[Value.int .i64 pa, Value.int .i64 pb] 39)).cell? ⟨wr.heap.size, 1, none⟩ = some (.int .i64 pb) := (cell_of_row _ wr.heap.size 1 #[Value.int .i64 pa, Value.int .i64 pb] 39 (0, 0) (heap_alloc_new wr _)).trans rfl
          have HOb := Lib.hid (HO.out.alloc (.cells #[Value.int .i64 pa, Value.int .i64 pb] 39))
          have HXb := Lib.hid (HX3.out.later Bb)
          have hob : ∀ j, u11.ownBlock = some j → j < wr.heap.size := fun j hj => (HO.out.lt j hj).2
          have Hob := Lib.hid hob
          have hgb : wr.heap.size < (wr.alloc (.cells #[Value.int .i64 pa, Value.int .i64 pb] 39)).heap.size := by simp
          have B4 := below_step B3 Bb
          generalize wr.alloc (.cells #[Value.int .i64 pa, Value.int .i64 pb] 39) = wb at *
          generalize wr.heap.size = gp at *
          clear hca hcb hob Bb HX3
          have HCa := Lib.hid (HCt.out pa hra)
          have HCb := Lib.hid (HCt.out pb hrb)
          clear HCt
          generalize tn y pa = za at *
          generalize tn y pb = zb at *
          have ta : True := trivial
          have tb : True := trivial
          go_region_held3 (fun W => W.cell? ⟨gp, 0, none⟩ = some (.int .i64 pa) ∧ W.cell? ⟨gp, 1, none⟩ = some (.int .i64 pb)) (first | exact ⟨by assumption, by assumption⟩ | go_keep)
            ((first
              | (have _t := ta; go_at_call 28; refine (HCa.out _ ?_).mono ?_; (exact HXb.out); rintro e w' ⟨rfl, rfl⟩; clear ta _t)
              | (have _t := tb; go_at_call 28; refine (HCb.out _ ?_).mono ?_; (exact HXb.out); rintro e w' ⟨rfl, rfl⟩; clear tb _t)
              | (refine step_append_lies _ (by rfl) (.tmp 54) (.tmp 64) _ (by rfl) w2.heap.size 39 j0 _ 2 16 Try.underlying23 ji jz0 jz1 jz2 rfl (by omega) u11 k _ (by rfl) ((HOb.out.alloc _).drew) ⟨wb.heap.size, 0, none⟩ 1 1 [.int .i64 za, .int .i64 zb] (by rfl) (by rfl) (World.news_of_block (cs := #[.int .i64 za, .int .i64 zb]) (t := 39) (fr := (0, 0)) (heap_alloc_new wb _)) (by simp [Value.oneCell']) (by omega) (by unfold maxLen; omega) (by omega) (by have := B4.size; simp; omega) (wb.heap.size + 1) (by simp) ?_; intro g8 c8 w8 hown8 hg8 _ _; have g08 := hg8.cell (a := ⟨gp, 0, none⟩) (cell_keep_alloc _ g0) (fun h => absurd (Hob.out _ h.symm) (Nat.lt_irrefl _)); have g18 := hg8.cell (a := ⟨gp, 1, none⟩) (cell_keep_alloc _ g1) (fun h => absurd (Hob.out _ h.symm) (Nat.lt_irrefl _)))))
          go_wp2_with fail
          go_roundw
          case rel =>
            refine ⟨k + 1, by omega, by go_num, ?_, (below_dr (B4.alloc B4.size _)).grown hg8 (by have := B4.size; simp; omega) (own_base HOb.out)⟩
            rw [Hstep.out]; exact hown8
          case measure => simp [intOf]; omega
        · obtain rfl : k = ps.length := by omega
          rw [List.take_of_length_le (by rw [List.length_map]; exact Nat.le_refl _)] at hown
          obtain ⟨A4, c4, rfl, hc4, _, hs4⟩ := own_slP hown
          obtain ⟨w3, rfl⟩ : ∃ w3 : World, w3 = wr := ⟨_, rfl⟩
          have HS4 := Lib.hid hs4
          clear hown hs4
          have B13 := below_step B2 B3
          have ht16 : t.length ≤ 16 := by omega
          obtain ⟨f1, f2, f3⟩ := draw_tn (y := y) HT.out HM.out ht16
          obtain ⟨f4, f5⟩ := draw_nums HT.out HM.out ht16
          obtain ⟨f6, f7⟩ := count_tn (y := y) HT.out HM.out ht16
          have HD1 := Lib.hid (fun W (hb : Below w1.heap.size w1 W) => c_Draw A1 t.length c1 t A2 ps.length c2 ps none 0 0 [] W rfl hc1 (by omega) rfl (by omega) rfl (by simp) (HS1.out.below hb) (HS2.out.below hb) SlAt.nil_)
          have HD2 := Lib.hid (fun W (hb : Below w3.heap.size w3 W) => c_Draw A3 t.length c3 (t.map (tn y)) A4 ps.length c4 (ps.map (tnP y)) none 0 0 [] W (List.length_map ..).symm (by omega) (by rw [List.length_map]; omega) (List.length_map ..).symm (by rw [List.length_map]; omega) rfl (by simp) ((HS3.out.below B3).below hb) (HS4.out.below hb) SlAt.nil_)
          have HK1 := Lib.hid (fun W (hb : Below w1.heap.size w1 W) => c_Count A1 t.length c1 t A2 ps.length c2 ps W rfl hc1 (by omega) rfl (by omega) (HS1.out.below hb) (HS2.out.below hb))
          have HK2 := Lib.hid (fun W (hb : Below w3.heap.size w3 W) => c_Count A3 t.length c3 (t.map (tn y)) A4 ps.length c4 (ps.map (tnP y)) W (List.length_map ..).symm (by omega) (by rw [List.length_map]; omega) (List.length_map ..).symm (by rw [List.length_map]; omega) ((HS3.out.below B3).below hb) (HS4.out.below hb))
          rw [f6, f7] at HK2
          clear f6 f7
          generalize pDraw (t.map (tn y)) (ps.map (tnP y)) [] = r2 at *
          generalize pDraw t ps [] = r1 at *
          generalize pCount t ps = pc at *
          generalize pOdd t ps = po at *
          obtain ⟨d, by1, er⟩ := r1
          obtain ⟨d2, by2, er2⟩ := r2
          dsimp only at f1 f2 f3 f4 f5
          subst f1 f2
          have HCt := Lib.hid (fun x hx W hW => c_turn gw y x hx hy W hW)
          have F4 := Lib.hid f4
          have F3 := Lib.hid f3
          have F5 := Lib.hid f5
          clear f3 f4 f5
          go_wp2_with fail
          refine (HD1.out _ B13).mono ?_
          rintro e w4 ⟨v4, rfl, hown4, k4⟩
          dsimp only at hown4 ⊢
          obtain ⟨A5, c5, rfl, hc5, hc5', hs5⟩ := own_slP hown4
          have HS5 := Lib.hid hs5
          have B14 := below_step B13 k4
          clear hown4 hs5 HD1
          go_wp2_with fail
          refine (HD2.out _ k4).mono ?_
          rintro e w5 ⟨v5, rfl, hown5, k5⟩
          dsimp only at hown5 ⊢
          obtain ⟨A6, c6, rfl, hc6, _, hs6⟩ := own_slP hown5
          have HS6 := Lib.hid hs6
          have B15 := below_step B14 k5
          have B35 := below_step k4 k5
          clear hown5 hs6 HD2
          rw [List.length_map] at hc6 ⊢
          have g1 : ((er2 : Int) != (er2 : Int)) = false := by simp
          have g2 : ((d.length : Int) != (d.length : Int)) = false := by simp
          have f3 := F3.out
          have f5 := F5.out
          clear F3 F5
          rcases f3 with ⟨rfl, rfl⟩ | ⟨hb1, hb2, rfl⟩
          case' inl => go_wp2_with fail
          case' inr =>
            have HCb := Lib.hid (HCt.out by1 (by omega) w5 (HX1.out.later B15))
            have g3 : (by1 == 0) = false := by simp [hb1]
            have g4 : (tn y by1 == 0) = false := by simp [hb2]
            have g5 : (tn y by1 != tn y by1) = false := by simp
            generalize tn y by1 = z at *
            clear hb2 f5
            go_wp2_with (go_at_call 28; refine HCb.out.mono ?_; rintro e w' ⟨rfl, rfl⟩)
            all_goals try (exact absurd (by assumption) hb1)
          all_goals
            go_loopw [22, 23, 111] (fun _ _ iv wr => ∃ k : Nat, k ≤ d.length ∧ iv = .int .i64 k ∧ Below w5.heap.size w5 wr) (fun _ _ iv _ => d.length - (intOf iv).toNat)
            case atStart => exact ⟨0, Nat.zero_le _, rfl, Below.refl _ _⟩
            case round =>
              obtain ⟨k, hk, rfl, B6⟩ := hrel
              have hsz6 := B6.size
              by_cases hlt : k < d.length
              · obtain ⟨b5, o5, pa, pb, rfl, hb5, hx, hca, hcb⟩ := (HS5.out.below (below_step k5 B6)).pr_at hlt
                obtain ⟨b6, o6, qa, qb, rfl, hb6, hx6, hda, hdb⟩ := (HS6.out.below B6).pr_at (k := k) (by rw [List.length_map]; exact hlt)
                obtain ⟨rfl, rfl⟩ : tn y pa = qa ∧ tn y pb = qb := by
                  rw [List.getElem?_map, hx] at hx6
                  injection hx6 with h
                  injection h with h1 h2
                  exact ⟨h1, h2⟩
                have hpm := F4.out _ (List.mem_of_getElem? hx)
                have hra := hpm.1
                have hrb := hpm.2
                have HX6 := Lib.hid (HX1.out.later (below_step B15 B6))
                clear hx hx6 hpm
                go_wp2_with fail
                have Bb := (Below.refl wr.heap.size wr).alloc (Nat.le_refl _) (.cells #[Value.int .i64 pa, Value.int .i64 pb] 39)
                have g7 : (wr.alloc (.cells #[Value.int .i64 pa, Value.int .i64 pb] 39)).cell? ⟨wr.heap.size, 0, none⟩ = some (.int .i64 pa) := (cell_of_row _ wr.heap.size 0 #[Value.int .i64 pa, Value.int .i64 pb] 39 (0, 0) (heap_alloc_new wr _)).trans rfl
                have g8 : (wr.alloc (.cells #[Value.int .i64 pa, Value.int .i64 pb] 39)).cell? ⟨wr.heap.size, 1, none⟩ = some (.int .i64 pb) := (cell_of_row _ wr.heap.size 1 #[Value.int .i64 pa, Value.int .i64 pb] 39 (0, 0) (heap_alloc_new wr _)).trans rfl
                have g9 := cell_keep_alloc (.cells #[Value.int .i64 pa, Value.int .i64 pb] 39) hda
                have g10 := cell_keep_alloc (.cells #[Value.int .i64 pa, Value.int .i64 pb] 39) hdb
                have HXb := Lib.hid (HX6.out.later Bb)
                have B7 := below_step B6 Bb
                generalize wr.alloc (.cells #[Value.int .i64 pa, Value.int .i64 pb] 39) = wb at *
                generalize wr.heap.size = gp at *
                clear hca hcb hda hdb Bb HX6
                have HCa := Lib.hid (HCt.out pa hra)
                have HCb := Lib.hid (HCt.out pb hrb)
                have e1 : (tn y pa != tn y pa) = false := by simp
                have e2 : (tn y pb != tn y pb) = false := by simp
                generalize tn y pa = za at *
                generalize tn y pb = zb at *
                have ta : True := trivial
                have tb : True := trivial
                go_region_held3 (fun W => W.cell? ⟨gp, 0, none⟩ = some (.int .i64 pa) ∧ W.cell? ⟨gp, 1, none⟩ = some (.int .i64 pb) ∧ W.cell? ⟨b6, o6 + k * 2, none⟩ = some (.int .i64 za) ∧ W.cell? ⟨b6, o6 + k * 2 + 1, none⟩ = some (.int .i64 zb)) (first | exact ⟨by assumption, by assumption, by assumption, by assumption⟩ | go_keep)
                  ((first
                    | (have _t := ta; go_at_call 28; refine (HCa.out _ ?_).mono ?_; (exact HXb.out); rintro e w' ⟨rfl, rfl⟩; clear ta _t)
                    | (have _t := tb; go_at_call 28; refine (HCb.out _ ?_).mono ?_; (exact HXb.out); rintro e w' ⟨rfl, rfl⟩; clear tb _t)))
                go_wp2_with fail
                go_roundw
                case rel => exact ⟨k + 1, by omega, by go_num, below_dr B7⟩
                case measure => simp [intOf]; omega
              · obtain rfl : k = d.length := by omega
                go_wp2_with fail
                refine (HK1.out _ (below_step B15 B6)).mono ?_
                rintro e w6 ⟨rfl, k6⟩
                go_wp2_with fail
                refine (HK2.out _ (below_step B35 (below_step B6 k6))).mono ?_
                rintro e w7 ⟨rfl, k7⟩
                have e1 : ((pc : Int) == (pc : Int)) = true := by simp
                have e2 : ((po : Int) == (po : Int)) = true := by simp
                have HB := Lib.hid (below_step (below_step (below_step B15 B6) k6) k7)
                have HAw := Lib.hid (c_awake w7)
                go_wp2_with fail
                refine HAw.out.mono ?_
                rintro e w8 ⟨rfl, k8⟩
                go_wp2_with fail
                go_ret
                refine ⟨rfl, ?_⟩
                rw [Hgw.out]
                exact B1.trans ((below_step HB.out k8).mono (by omega))
end Go.Proofs.Ytiedecekbdaohaa
