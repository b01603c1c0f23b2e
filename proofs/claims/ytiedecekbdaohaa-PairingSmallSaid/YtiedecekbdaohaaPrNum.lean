/- Contract of pairing.Number. -/
import Derived.Test.YtiedecekbdaohaaPrNthW
namespace Go.Proofs.Ytiedecekbdaohaa
open Go.RowKit

/-- The number of a draw of what is left; none if the list is no draw of it. -/
def numF (m : List Pr) : List Pr → List Int → Option Nat
  | [], _ => some 0
  | _ :: _, [] => none
  | p :: d, t0 :: rest =>
    if t0 = p.1 ∧ 1 ≤ idxI (t0 :: rest) p.2 ∧ pMet m p.1 p.2 = false then
      match numF m d (rest.eraseIdx (idxI (t0 :: rest) p.2 - 1).toNat) with
      | some q => some (cntTo m t0 rest (idxI (t0 :: rest) p.2 - 1).toNat + q)
      | none => none
    else none
def pNum (t : List Int) (m : List Pr) (d : List Pr) : Nat × Nat :=
  if pOdd t m ≠ 0 then (0, pOdd t m) else if 2 * d.length ≠ t.length then (0, 6) else match numF m d t with
    | some q => (q, 0)
    | none => (0, 6)

set_option maxRecDepth 100000 in
set_option maxHeartbeats 4000000 in
theorem c_Number_ok (A : Option Addr) (n cap : Nat) (t : List Int) (B : Option Addr) (m c : Nat) (l : List Pr) (D : Option Addr) (nd cd : Nat) (dr : List Pr) (w : World) (hn : n = t.length) (hcap : n ≤ cap) (h16 : t.length ≤ 16) (hnd : t.Nodup) (hm : m = l.length) (hl : l.length ≤ 2^47) (hd : nd = dr.length) (h2 : 2 * dr.length = t.length) (hw : pWrong t l = 0) (ho : ¬ t.length % 2 = 1) (hA : SlAt w A (t.map i64)) (hB : SlAt w B (prs l)) (hD : SlAt w D (prs dr)) :
    Calls Try.prog 22 #[.slice A n cap, .slice B m c, .slice D nd cd] w (Frm (.tuple #[.int .i64 ((pNum t l dr).1 : Nat), .int .i64 ((pNum t l dr).2 : Nat)]) w) := by
  have H := Lib.hid (c_wrong A n cap t B m c l w hn hcap (by omega) hm hl hA hB)
  rw [hw] at H
  have e1 : pNum t l dr = match numF l dr t with | some q => (q, 0) | none => (0, 6) := by unfold pNum; rw [if_neg (fun h => h (pOdd_ok hw ho).1), if_neg (fun h => h h2)]
  have HE1 := Lib.hid e1
  have HA := Lib.hid hA
  have HB := Lib.hid hB
  have HD := Lib.hid hD
  have Hn := Lib.hid hn
  have Hm := Lib.hid hm
  have q1 : (((n : Int) % 2) == 1) = false := beq_eq_false_iff_ne.2 (by omega)
  have q2 : ((2 * (nd : Int)) != (n : Int)) = false := by simp; omega
  have H2 := Lib.hid h2
  have hdl : dr.length ≤ 8 := by omega
  clear e1 hA hB hD hw ho h2 hn hm
  subst hd
  go_enter Try.func22, Try.ntmps22
  go_wp2_with fail
  refine H.out.mono ?_
  rintro e w1 ⟨rfl, k1⟩
  have HC0 := Lib.hid (c_counter A n cap t B m c l w1 Hn.out Hm.out (HA.out.below k1) (HB.out.below k1))
  go_wp2_with fail
  refine HC0.out.mono ?_
  rintro e w2 ⟨pt, pk, pm, pc, mb, rfl, hE, hM, hmb, k2⟩
  have HE := Lib.hid hE
  have HM := Lib.hid hM
  have HCl := Lib.hid (c_cloneI A n cap t w2 Hn.out (by omega) hE.hA)
  have hmw : w.heap.size ≤ mb := by have := k1.size; omega
  clear hE hM HC0
  go_wp2_with fail
  refine HCl.out.mono ?_
  rintro e w3 ⟨v, rfl, hown, k3⟩
  obtain ⟨A3, c3, rfl, hc3, _, hs3⟩ := own_slI hown
  have B3 := below_step (below_step k1 k2) k3
  have hst : Hid (NSt w w3 pt pk pm pc mb A n cap t B m c l (.slice none 0 0) [] A3 t w3 0 (fun _ => none)) := by
    show NSt w w3 pt pk pm pc mb A n cap t B m c l (.slice none 0 0) [] A3 t w3 0 (fun _ => none)
    exact ⟨HE.out.grown HM.out.block (grown_below k3 _), (HM.out.later k3).block, World.grownBy.refl _ _, HM.out.later k3, Memo.none t l, hs3, own_nil _ _, (fun _ _ _ => by simp [Value.ownBlock]), B3, hmw⟩
  have HD3 := Lib.hid (HD.out.below B3)
  clear hown HE HM HCl hs3 k1 k2 k3
  go_wp2_with fail
  go_loopw [10, 11, 39] (fun nv lv iv wr => ∃ (q k : Nat) (left : List Int) (A4 : Option Addr) (c4 nb : Nat) (g : Int → Option Int), nv = .int .i64 q ∧ lv = .slice A4 left.length c4 ∧ iv = .int .i64 k ∧ k ≤ dr.length ∧ left.length ≤ c4 ∧ Hid (NSt w w3 pt pk pm pc mb A n cap t B m c l (.slice none 0 0) [] A4 left wr nb g) ∧ Hid (left.Sublist t) ∧ left.length + 2 * k = t.length ∧ nb + left.length * 160000000 ≤ 3000000000 ∧ q ≤ k * 32432400 ∧ Hid (numF l dr t = match numF l (dr.drop k) left with | some z => some (q + z) | none => none)) (fun _ _ iv _ => dr.length - (intOf iv).toNat)
  case atStart => exact ⟨0, 0, t, A3, c3, 0, _, rfl, rfl, rfl, Nat.zero_le _, hc3, hst, List.Sublist.refl _, by omega, by omega, by omega, by rw [List.drop_zero]; show _ = _; cases numF l dr t <;> simp⟩
  case round =>
    obtain ⟨q, k, left, A4, c4, nb, g, rfl, rfl, rfl, hk, hc4, HSt, Hsub, hlk, hnb, hq, HNum⟩ := hrel
    by_cases hlt : k < dr.length
    · obtain ⟨bD, oD, pa, pb, rfl, hbD, hx, hca, hcb⟩ := (HD3.out.kept HSt.out.hm3 HSt.out.hG).pr_at hlt
      obtain ⟨t0, rest, rfl⟩ : ∃ t0 rest, left = t0 :: rest := by
        cases left with
        | nil => have := H2.out; simp at hlk; omega
        | cons t0 rest => exact ⟨t0, rest, rfl⟩
      have hdrop : dr.drop k = (pa, pb) :: dr.drop (k + 1) := by
        rw [List.drop_eq_getElem_cons hlt]
        rw [List.getElem?_eq_getElem hlt] at hx
        rw [Option.some.inj hx]
      have hnum := HNum.out
      rw [hdrop] at hnum
      have HNum2 := Lib.hid hnum
      have Hlr : Hid ((t0 :: rest).length = rest.length + 1) := rfl
      have hl0 : 0 < (t0 :: rest).length := by simp
      clear hx hdrop hnum
      generalize hLL : t0 :: rest = left at *
      have HLL := Lib.hid hLL
      clear hLL
      have HIx := Lib.hid (fun W' (hb : Below wr.heap.size wr W') => c_index A4 left.length c4 left pb W' rfl (by omega) (HSt.out.hS.below hb))
      obtain ⟨hi1, hi2⟩ := idxI_lt left pb
      generalize hat : idxI left pb = at_ at *
      have Hat := Lib.hid hat
      clear hat
      obtain ⟨b4, o4, rfl, hb4, hcs⟩ := HSt.out.hS.i64_all hl0
      have c0r : wr.cell? ⟨b4, o4, none⟩ = some (.int .i64 t0) := hcs 0 t0 (by rw [← HLL.out]; rfl)
      have Hcs := Lib.hid hcs
      clear hcs
      have ca := hca
      have cb := hcb
      go_wp2_with fail
      refine (HIx.out _ ((Below.refl _ _).alloc (Nat.le_refl _) _)).mono ?_
      rintro e w' ⟨rfl, rfl⟩
      have Ba := (Below.refl wr.heap.size wr).alloc (Nat.le_refl _) (.cells #[Value.int .i64 pa, Value.int .i64 pb] 39)
      have g0 : (wr.alloc (.cells #[Value.int .i64 pa, Value.int .i64 pb] 39)).cell? ⟨wr.heap.size, 0, none⟩ = some (.int .i64 pa) := (cell_of_row _ wr.heap.size 0 #[Value.int .i64 pa, Value.int .i64 pb] 39 (0, 0) (heap_alloc_new wr _)).trans rfl
      have g1 : (wr.alloc (.cells #[Value.int .i64 pa, Value.int .i64 pb] 39)).cell? ⟨wr.heap.size, 1, none⟩ = some (.int .i64 pb) := (cell_of_row _ wr.heap.size 1 #[Value.int .i64 pa, Value.int .i64 pb] 39 (0, 0) (heap_alloc_new wr _)).trans rfl
      have hgw : wr.heap.size < (wr.alloc (.cells #[Value.int .i64 pa, Value.int .i64 pb] 39)).heap.size := by simp
      have c0 := (Ba.cell (p := ⟨b4, o4, none⟩) hb4).trans c0r
      have HSa := Lib.hid (HSt.out.below Ba)
      have Hca := Lib.hid (fun j x (h : left[j]? = some x) => (Ba.cell (p := ⟨b4, o4 + j, none⟩) hb4).trans (Hcs.out j x h))
      generalize wr.alloc (.cells #[Value.int .i64 pa, Value.int .i64 pb] 39) = wa at *
      generalize hgg : wr.heap.size = gp at *
      have Hgg := Lib.hid hgg
      have p3 : 0 < left.length := hl0
      clear hca hcb ca cb hgg c0r HIx
      have hbad : ¬ (t0 = pa ∧ 1 ≤ at_ ∧ pMet l pa pb = false) → pNum t l dr = (0, 6) := by
        intro hno
        rw [HE1.out, HNum2.out, ← HLL.out]
        unfold numF
        rw [HLL.out, Hat.out, if_neg hno]
      have HBad := Lib.hid hbad
      clear hbad
      by_cases ht0 : t0 = pa
      · subst ht0
        have e5 : (t0 != t0) = false := by simp
        by_cases hat1 : at_ < 1
        · have e6 : decide (at_ < 1) = true := decide_eq_true hat1
          have Hb := Lib.hid (HBad.out (fun h => by omega))
          clear HBad
          go_wp2_with fail
          go_quiet (fail)
          go_wp2_with fail
          go_ret2
          rw [Hb.out]
          exact ⟨rfl, below_drewN HSa.out.hB _⟩
        · have e6 : decide (at_ < 1) = false := decide_eq_false hat1
          obtain ⟨ja, rfl⟩ : ∃ ja : Nat, at_ = (ja : Int) + 1 := ⟨(at_ - 1).toNat, by omega⟩
          have HMet := Lib.hid (fun y W' (hb : Below wa.heap.size wa W') => c_Met B m c l t0 y W' HSa.out.hE.hm hl (HSa.out.hE.hB.below hb))
          have HM1 := Lib.hid (HMet.out pb)
          have hgm : gp ≠ mb := by have := HSt.out.hm3.lt; have := HSt.out.hG.size; have := Hgg.out; omega
          have Hgm := Lib.hid hgm
          have hjl : ja < rest.length := by have := Hlr.out; omega
          have Hjl := Lib.hid hjl
          clear hgm hjl
          cases hmp : pMet l t0 pb with
          | true =>
            rw [hmp] at HM1
            have Hb := Lib.hid (HBad.out (fun h => by rw [hmp] at h; cases h.2.2))
            clear HBad hmp
            go_wp2_with fail
            go_region_held3 (fun W => W.cell? ⟨b4, o4, none⟩ = some (.int .i64 t0) ∧ W.cell? ⟨gp, 0, none⟩ = some (.int .i64 t0) ∧ W.cell? ⟨gp, 1, none⟩ = some (.int .i64 pb)) (first | exact ⟨by assumption, by assumption, by assumption⟩ | go_keep)
              ((go_at_call 27; refine (HM1.out _ (below_drewN (Below.refl _ _) 1)).mono ?_; rintro e w5 ⟨rfl, k5⟩; have c05 := (k5.cell (p := ⟨b4, o4, none⟩) (World.block_lt_of_cell? _ _ c0)).trans c0; have g05 := (k5.cell (p := ⟨gp, 0, none⟩) (World.block_lt_of_cell? _ _ g0)).trans g0; have g15 := (k5.cell (p := ⟨gp, 1, none⟩) (World.block_lt_of_cell? _ _ g1)).trans g1))
            have B5 := below_step (below_drewN (Below.refl wa.heap.size wa) 1) k5
            go_wp2_with fail
            go_ret2
            rw [Hb.out]
            exact ⟨rfl, (HSa.out.below B5).hB⟩
          | false =>
            rw [hmp] at HM1
            have hgood : numF l ((t0, pb) :: dr.drop (k + 1)) (t0 :: rest) = match numF l (dr.drop (k + 1)) (rest.eraseIdx ja) with | some z => some (cntTo l t0 rest ja + z) | none => none := by
              conv => lhs; unfold numF
              rw [HLL.out, Hat.out, if_pos ⟨rfl, by omega, hmp⟩, show ((ja : Int) + 1 - 1).toNat = ja from by omega]
            have HGood := Lib.hid hgood
            have e7 : (1 : Int) ≤ (ja : Int) + 1 := by omega
            clear HBad hmp hgood
            go_wp2_with fail
            go_region_held3 (fun W => W.cell? ⟨b4, o4, none⟩ = some (.int .i64 t0) ∧ W.cell? ⟨gp, 0, none⟩ = some (.int .i64 t0) ∧ W.cell? ⟨gp, 1, none⟩ = some (.int .i64 pb)) (first | exact ⟨by assumption, by assumption, by assumption⟩ | go_keep)
              ((go_at_call 27; refine (HM1.out _ (below_drewN (Below.refl _ _) 1)).mono ?_; rintro e w5 ⟨rfl, k5⟩; have c05 := (k5.cell (p := ⟨b4, o4, none⟩) (World.block_lt_of_cell? _ _ c0)).trans c0; have g05 := (k5.cell (p := ⟨gp, 0, none⟩) (World.block_lt_of_cell? _ _ g0)).trans g0; have g15 := (k5.cell (p := ⟨gp, 1, none⟩) (World.block_lt_of_cell? _ _ g1)).trans g1))
            have B5 := below_step (below_drewN (Below.refl wa.heap.size wa) 1) k5
            clear c05 g05 g15 k5 HM1
            go_wp2_with fail
            go_loopw [10, 15] (fun nv iv wq => ∃ (ki nb2 : Nat) (g2 : Int → Option Int), nv = .int .i64 ((q + cntTo l t0 rest (ki - 1) : Nat)) ∧ iv = .int .i64 ki ∧ 1 ≤ ki ∧ ki ≤ ja + 1 ∧ wa.grownBy wq (some mb) ∧ Hid (NSt w w3 pt pk pm pc mb A n cap t B m c l (.slice none 0 0) [] (some ⟨b4, o4, none⟩) left wq nb2 g2) ∧ nb2 ≤ nb + (ki - 1) * 10000000) (fun _ iv _ => ja + 1 - (intOf iv).toNat)
            case atStart => exact ⟨1, nb, g, rfl, rfl, by omega, by omega, grown_below B5 _, HSa.out.below B5, by omega⟩
            case round =>
              obtain ⟨ki, nb2, g2, rfl, rfl, hk1, hki, hGq, HS2, hnb2⟩ := hrel
              by_cases hlt2 : ki < ja + 1
              · obtain ⟨j, hj⟩ : ∃ j, ki = j + 1 := ⟨ki - 1, by omega⟩
                obtain ⟨x, hx⟩ := getI_some (l := rest) (k := j) (by have := Hjl.out; omega)
                have hxl : left[ki]? = some x := by rw [← HLL.out, hj]; simpa using hx
                obtain ⟨b5, o5, e5', hb5, hcs5⟩ := HS2.out.hS.i64_all hl0
                cases e5'
                have cx : wr.cell? ⟨b4, o4 + ki, none⟩ = some (.int .i64 x) := hcs5 ki x hxl
                have gq0 : wr.cell? ⟨gp, 0, none⟩ = some (.int .i64 t0) := hGq.cell g0 (by simpa using Hgm.out)
                have hS2 := HS2.out
                have HMq := Lib.hid (fun W' (hb : Below wr.heap.size wr W') => c_Met B m c l t0 x W' hS2.hE.hm hl (hS2.hE.hB.below hb))
                have p1 : (0 : Int) ≤ (ki : Int) := by omega
                have p2 : (ki : Int) < (left.length : Int) := by have := Hlr.out; have := Hjl.out; omega
                have p4 : (ki : Int) < (ja : Int) + 1 := by omega
                have hjr : j < rest.length := (List.getElem?_eq_some_iff.1 hx).1
                have hk1' : ki - 1 = j := by omega
                have hct := cntTo_16 (m := l) (t := t0) (rest := rest) (k := j) (by omega) (by have := Hlr.out; omega)
                rw [hk1'] at hnb2 ⊢
                have Hx := Lib.hid hx
                have Hj := Lib.hid hj
                have Hjr := Lib.hid hjr
                clear hx hj hxl hjr hk1' hcs5 hS2
                generalize hab : cntTo l t0 rest j = ct at *
                have Hab := Lib.hid hab
                clear hab
                cases hmt : pMet l t0 x with
                | true =>
                  rw [hmt] at HMq
                  have Hs := Lib.hid (cntTo_yes Hx.out hmt)
                  clear hmt
                  go_wp2_with fail
                  go_region_held3 (fun W => W.cell? ⟨gp, 0, none⟩ = some (.int .i64 t0) ∧ W.cell? ⟨b4, o4 + ki, none⟩ = some (.int .i64 x)) (first | exact ⟨by assumption, by assumption⟩ | go_keep)
                    ((go_at_call 27; refine (HMq.out _ (below_drewN (Below.refl _ _) 1)).mono ?_; rintro e w6 ⟨rfl, k6⟩; have cq6 := (k6.cell (p := ⟨gp, 0, none⟩) (World.block_lt_of_cell? _ _ gq0)).trans gq0; have cx6 := (k6.cell (p := ⟨b4, o4 + ki, none⟩) (World.block_lt_of_cell? _ _ cx)).trans cx))
                  have B6 := below_step (below_drewN (Below.refl wr.heap.size wr) 1) k6
                  go_wp2_with fail
                  go_roundw
                  case rel =>
                    refine ⟨ki + 1, nb2, g2, int_eq ?_, by go_num, by omega, by omega, hGq.trans (grown_below B6 _), HS2.out.below B6, ?_⟩
                    · rw [show ki + 1 - 1 = j + 1 from by have := Hj.out; omega, Hs.out, Hab.out]; omega
                    · exact nb_step hnb2 Hj.out
                  case measure => simp [intOf]; omega
                | false =>
                  rw [hmt] at HMq
                  have Hs := Lib.hid (cntTo_no Hx.out hmt)
                  clear hmt
                  go_wp2_with fail
                  go_region_held3 (fun W => W.cell? ⟨gp, 0, none⟩ = some (.int .i64 t0) ∧ W.cell? ⟨b4, o4 + ki, none⟩ = some (.int .i64 x)) (first | exact ⟨by assumption, by assumption⟩ | go_keep)
                    ((go_at_call 27; refine (HMq.out _ (below_drewN (Below.refl _ _) 1)).mono ?_; rintro e w6 ⟨rfl, k6⟩; have cq6 := (k6.cell (p := ⟨gp, 0, none⟩) (World.block_lt_of_cell? _ _ gq0)).trans gq0; have cx6 := (k6.cell (p := ⟨b4, o4 + ki, none⟩) (World.block_lt_of_cell? _ _ cx)).trans cx))
                  have B6 := below_step (below_drewN (Below.refl wr.heap.size wr) 1) k6
                  have HS6 := Lib.hid (HS2.out.below B6)
                  clear k6 HMq cq6 cx6
                  have ebs : wo left [0, (ki : Int)] = rest.eraseIdx j := by rw [← HLL.out, Hj.out]; exact wo_zero_i
                  have hel : (rest.eraseIdx j).length = rest.length - 1 := List.length_eraseIdx_of_lt Hjr.out
                  have hes : (rest.eraseIdx j).Sublist t := (List.eraseIdx_sublist ..).trans ((List.sublist_cons_self t0 rest).trans (by rw [HLL.out]; exact Hsub.out))
                  have hrl : rest.length ≤ 15 := by have := Hlr.out; omega
                  have hecb := cnt_16 (m := l) (l := rest.eraseIdx j) (by omega)
                  have hst16 := stT_16 (rest.eraseIdx j).length (by omega)
                  have HWo := Lib.hid (c_without (some ⟨b4, o4, none⟩) left.length c4 left (some ⟨w6.heap.size, 0, none⟩) 2 2 [0, (ki : Int)] (w6.alloc (.cells #[Value.int .i64 0, Value.int .i64 (ki : Int)] 3)) rfl (by omega) rfl (by simp) (HS6.out.hS.alloc _) (sl_lit2 w6 _ _ _))
                  rw [ebs] at HWo
                  have B7a := (Below.refl w6.heap.size w6).alloc (Nat.le_refl _) (.cells #[Value.int .i64 0, Value.int .i64 (ki : Int)] 3)
                  clear ebs hel
                  go_wp2_with fail
                  refine HWo.out.mono ?_
                  rintro e w7 ⟨v7, rfl, hown7, k7⟩
                  obtain ⟨A7, c7, rfl, hc7, _, hs7⟩ := own_slI hown7
                  have B7 := below_step B7a k7
                  have HS7 := Lib.hid (HS6.out.below B7)
                  have HCo := Lib.hid (c_count pt pk pm pc mb A n cap t B m c l h16 hnd hl _ (rest.eraseIdx j) (Nat.le_refl _) hes w7 A7 _ c7 nb2 g2 rfl hc7 hs7 HS7.out.hE HS7.out.hM HS7.out.hMm (by have := Hjr.out; omega))
                  clear hown7 k7 hs7 HWo B7a hes
                  generalize hcb2 : cnt l (rest.eraseIdx j) = cb at *
                  have Hcb := Lib.hid hcb2
                  clear hcb2
                  go_wp2_with fail
                  refine HCo.out.mono ?_
                  rintro e w8 ⟨nb8, g8, he, hM8, hMm8, hnb8, hG8⟩
                  rw [Hcb.out] at he
                  subst he
                  have HS8 := Lib.hid (HS7.out.map hG8 hM8 hMm8)
                  clear HCo hM8 hMm8
                  go_wp2_with fail
                  go_roundw
                  case rel =>
                    refine ⟨ki + 1, nb8, g8, int_eq ?_, by go_num, by omega, by omega, (hGq.trans (grown_below (below_step B6 B7) _)).trans hG8, HS8.out, ?_⟩
                    · rw [show ki + 1 - 1 = j + 1 from by have := Hj.out; omega, Hs.out, Hab.out]; omega
                    · exact nb_step2 hnb2 hnb8 hst16 Hj.out
                  case measure => simp [intOf]; omega
              · obtain rfl : ki = ja + 1 := by omega
                rw [show ja + 1 - 1 = ja from rfl] at hnb2 ⊢
                have ebs : wo left [0, (ja : Int) + 1] = rest.eraseIdx ja := by rw [← HLL.out]; exact wo_zero_i
                have hel : (rest.eraseIdx ja).length = rest.length - 1 := List.length_eraseIdx_of_lt Hjl.out
                have HWo := Lib.hid (c_without (some ⟨b4, o4, none⟩) left.length c4 left (some ⟨wr.heap.size, 0, none⟩) 2 2 [0, (ja : Int) + 1] (wr.alloc (.cells #[Value.int .i64 0, Value.int .i64 ((ja : Int) + 1)] 3)) rfl (by omega) rfl (by simp) (HS2.out.hS.alloc _) (sl_lit2 wr _ _ _))
                rw [ebs] at HWo
                have B7a := (Below.refl wr.heap.size wr).alloc (Nat.le_refl _) (.cells #[Value.int .i64 0, Value.int .i64 ((ja : Int) + 1)] 3)
                have hes : (rest.eraseIdx ja).Sublist t := (List.eraseIdx_sublist ..).trans ((List.sublist_cons_self t0 rest).trans (by rw [HLL.out]; exact Hsub.out))
                have hct := cntTo_16 (m := l) (t := t0) (rest := rest) (k := ja) (by have := Hjl.out; omega) (by have := Hlr.out; omega)
                have Hes := Lib.hid hes
                have Hel := Lib.hid hel
                clear ebs hel hes
                generalize hab : cntTo l t0 rest ja = ct at *
                have Hab := Lib.hid hab
                clear hab
                go_wp2_with fail
                refine HWo.out.mono ?_
                rintro e w7 ⟨v7, rfl, hown7, k7⟩
                obtain ⟨A7, c7, rfl, hc7, _, hs7⟩ := own_slI hown7
                have B7 := below_step B7a k7
                have HS7 := Lib.hid (HS2.out.below B7)
                have Hs7 := Lib.hid hs7
                clear hown7 k7 hs7 HWo B7a
                go_wp2_with fail
                go_roundw
                case rel =>
                  refine ⟨q + ct, k + 1, rest.eraseIdx ja, A7, c7, nb2, g2, rfl, rfl, by go_num, by omega, hc7, ?_, Hes.out, ?_, ?_, by omega, ?_⟩
                  · have h7 := HS7.out
                    exact ⟨h7.hE3, h7.hm3, h7.hG, h7.hM, h7.hMm, Hs7.out, h7.hO, (fun _ _ _ => by simp [Value.ownBlock]), h7.hB3, h7.hwb⟩
                  · have := Hel.out; have := Hlr.out; have := Hjl.out; omega
                  · have h1 : rest.length ≤ 15 := by have := Hlr.out; omega
                    exact nb_step3 (d := 0) hnb2 (Nat.le_refl _) (by omega) Hjl.out h1 Hlr.out Hel.out hnb
                  · rw [HNum2.out, ← HLL.out, HGood.out]
                    cases numF l (List.drop (k + 1) dr) (rest.eraseIdx ja) with
                    | none => rfl
                    | some z => show some (q + (ct + z)) = some (q + ct + z); rw [Nat.add_assoc]
                case measure => simp [intOf]; omega
      · have e5 : (t0 != pa) = true := by simpa using ht0
        have Hb := Lib.hid (HBad.out (fun h => ht0 h.1))
        clear HBad ht0
        go_wp2_with fail
        go_quiet (fail)
        go_wp2_with fail
        go_ret2
        rw [Hb.out]
        exact ⟨rfl, below_drewN HSa.out.hB _⟩
    · obtain rfl : k = dr.length := by omega
      have hnum := HNum.out
      rw [List.drop_length] at hnum
      have ez : pNum t l dr = (q, 0) := by
        rw [HE1.out, hnum]
        rfl
      have HEz := Lib.hid ez
      clear hnum ez
      go_wp2_with fail
      go_ret2
      rw [HEz.out]
      exact ⟨rfl, HSt.out.hB⟩

set_option maxHeartbeats 1000000 in
theorem c_Number (A : Option Addr) (n cap : Nat) (t : List Int) (B : Option Addr) (m c : Nat) (l : List Pr) (D : Option Addr) (nd cd : Nat) (dr : List Pr) (w : World) (hn : n = t.length) (hcap : n ≤ cap) (ht : t.length ≤ 2^47) (hm : m = l.length) (hl : l.length ≤ 2^47) (hd : nd = dr.length) (hdl : dr.length ≤ 2^47) (hA : SlAt w A (t.map i64)) (hB : SlAt w B (prs l)) (hD : SlAt w D (prs dr)) :
    Calls Try.prog 22 #[.slice A n cap, .slice B m c, .slice D nd cd] w (Frm (.tuple #[.int .i64 ((pNum t l dr).1 : Nat), .int .i64 ((pNum t l dr).2 : Nat)]) w) := by
  by_cases hw : pWrong t l = 0
  · obtain ⟨hR, h16⟩ := pWrong_zero hw
    obtain ⟨hnd, _⟩ := pRight_nodup hR
    by_cases ho : t.length % 2 = 1
    · have H := Lib.hid (c_wrong A n cap t B m c l w hn hcap ht hm hl hA hB)
      rw [hw] at H
      have e1 : pNum t l dr = (0, 360) := by unfold pNum; rw [if_pos (by have := (pOdd_odd hw ho).1; omega), (pOdd_odd hw ho).1]
      rw [e1]
      have h1 : (((n : Int) % 2) == 1) = true := beq_iff_eq.2 (by omega)
      clear e1 hw hR hnd ho hn hm hA hB hD hd
      go_enter Try.func22, Try.ntmps22
      go_wp2_with (go_at_call 35; refine H.out.mono ?_; rintro e w1 ⟨rfl, k1⟩)
      go_ret2
      exact ⟨rfl, k1⟩
    · by_cases h2 : 2 * dr.length = t.length
      · exact c_Number_ok A n cap t B m c l D nd cd dr w hn hcap h16 hnd hm hl hd h2 hw ho hA hB hD
      · have H := Lib.hid (c_wrong A n cap t B m c l w hn hcap ht hm hl hA hB)
        rw [hw] at H
        have e1 : pNum t l dr = (0, 6) := by unfold pNum; rw [if_neg (fun h => h (pOdd_ok hw ho).1), if_pos h2]
        rw [e1]
        have h1 : (((n : Int) % 2) == 1) = false := beq_eq_false_iff_ne.2 (by omega)
        have q2 : ((2 * (nd : Int)) != (n : Int)) = true := by rw [bne_iff_ne]; omega
        have q3 : (nd : Int) ≤ 140737488355328 := by omega
        clear e1 hw hR hnd ho hn hm hA hB hD hd h2
        go_enter Try.func22, Try.ntmps22
        go_wp2_with (go_at_call 35; refine H.out.mono ?_; rintro e w1 ⟨rfl, k1⟩)
        go_ret2
        exact ⟨rfl, k1⟩
  · have H := Lib.hid (c_wrong A n cap t B m c l w hn hcap ht hm hl hA hB)
    have e0 := (pOdd_wrong hw).1
    have e1 : pNum t l dr = (0, pWrong t l) := by unfold pNum; rw [e0, if_pos hw]
    rw [e1]
    have hwl := pWrong_le t l
    clear e0 e1
    generalize pWrong t l = q at *
    have h1 : ((q : Int) != 0) = true := bne_iff_ne.2 (by omega)
    clear hw hn hm hA hB hD hd
    go_enter Try.func22, Try.ntmps22
    go_wp2_with (go_at_call 35; refine H.out.mono ?_; rintro e w1 ⟨rfl, k1⟩)
    go_ret2
    exact ⟨rfl, k1⟩
end Go.Proofs.Ytiedecekbdaohaa
