/- Contract of clean of the statements of layer 36. -/
import Derived.Test.YtiedecekbdaohaaClean36
import Derived.Test.YtiedecekbdaohaaCounter
import Derived.Test.YtiedecekbdaohaaFewer36
namespace Go.Proofs.Ytiedecekbdaohaa
open Go.RowKit

theorem clF_step {m d : List Pr} {g : Int → Option Int} {last : Int} {k : Nat} {x y : Int} (h : d[k]? = some (x, y)) :
    clF m g last (d.drop k) = if pl g x ≤ last ∨ pl g y ≤ pl g x ∨ pMet m x y = true then false else clF m (upd (upd g x 0) y 0) (pl g x) (d.drop (k + 1)) := by
  obtain ⟨h2, h3⟩ := List.getElem?_eq_some_iff.1 h
  have e1 : d.drop k = (x, y) :: d.drop (k + 1) := by rw [← h3, List.getElem_cons_drop]
  rw [e1]
  rfl

set_option maxHeartbeats 1000000 in
theorem c_clean (T : Option Addr) (nt ct : Nat) (t : List Int) (A : Option Addr) (n cap : Nat) (m : List Pr) (B : Option Addr) (nb c : Nat) (d : List Pr) (w : World) (ht : nt = t.length) (hn : n = m.length) (hm : nb = d.length) (hlt : t.length ≤ 16) (hl : m.length ≤ 2^47) (hlb : d.length ≤ 2^47) (h64 : ∀ x ∈ t, 1 ≤ x ∧ x ≤ 64) (hd64 : ∀ p ∈ d, (1 ≤ p.1 ∧ p.1 ≤ 64) ∧ 1 ≤ p.2 ∧ p.2 ≤ 64) (hT : SlAt w T (t.map i64)) (hA : SlAt w A (prs m)) (hB : SlAt w B (prs d)) :
    Calls Try.prog 25 #[.slice T nt ct, .slice A n cap, .slice B nb c] w (Frm (.bool (pClean t m d)) w) := by
  subst ht hn hm
  have HT := Lib.hid hT
  have HA := Lib.hid hA
  have HB := Lib.hid hB
  have H64 := Lib.hid h64
  have HD64 := Lib.hid hd64
  clear hT hA hB h64 hd64
  by_cases hlen : 2 * d.length = t.length
  · have g1 : ((2 : Int) * (d.length : Int) != (t.length : Int)) = false := by simp; omega
    have Hr : Hid (pClean t m d = clF m (placeTo t t.length) 0 d) := by unfold pClean; rw [if_pos hlen]; rfl
    have hd16 : d.length ≤ 8 := by omega
    clear hlen
    have hmm := @run_makeMap Try.prog
    go_enter Try.func25, Try.ntmps25
    go_wp2_with fail
    have hM0 := MapI.made w
    have B0 := (Below.refl w.heap.size w).alloc (Nat.le_refl _) (.map #[] 0)
    generalize w.alloc (.map #[] 0) = w0 at *
    generalize hmb : w.heap.size = mb at *
    have Hmb := Lib.hid hmb
    clear hmb hmm
    go_loopw [8, 9, 24] (fun _ _ i wr => ∃ k : Nat, k ≤ t.length ∧ i = .int .i64 k ∧ MapI wr mb k (placeTo t k) ∧ Below mb w wr) (fun _ _ i _ => t.length - (intOf i).toNat)
    case atStart => exact ⟨0, Nat.zero_le _, rfl, hM0, B0⟩
    case round =>
      obtain ⟨k, hk, rfl, hM, B1⟩ := hrel
      by_cases hlt2 : k < t.length
      · obtain ⟨bt, ot, z, rfl, _, hz, hz1⟩ := (HT.out.below (by rw [Hmb.out]; exact B1)).i64_at hlt2
        have hz64 := H64.out z (List.mem_of_getElem? hz)
        have Hin := Lib.hid (show inI z from by unfold inI; omega)
        have Hin2 := Lib.hid (show inI ((k : Int) + 1) from by unfold inI; omega)
        have hstep : placeTo t (k + 1) = upd (placeTo t k) z ((k : Int) + 1) := by
          show upd (placeTo t k) (t[k]?.getD 0) ((k + 1 : Nat) : Int) = _
          rw [hz]; rfl
        have Hstep := Lib.hid hstep
        clear hstep hz hz64
        go_wp2_with (at_mapUpdate; go_must (refine wpList_mapI_update rfl _ _ _ rfl hM (by omega) rfl (z : Int) ((k : Int) + 1) rfl rfl Hin.out Hin2.out ?_); intro w4 hM4 hG4)
        go_roundw
        case rel => exact ⟨k + 1, by omega, by go_num, by rw [Hstep.out]; exact hM4, B1.grown hG4 (by rw [← Hmb.out]; have := B1.size; omega) (fun j hj => by injection hj with hj; omega)⟩
        case measure => simp [intOf]; omega
      · obtain rfl : k = t.length := by omega
        obtain ⟨w1, rfl⟩ : ∃ w1 : World, w1 = wr := ⟨_, rfl⟩
        go_wp2_with fail
        have Hmb1 := Lib.hid hM.lt
        go_loopw [10, 12, 13, 14, 36] (fun lv _ _ _ i wr => ∃ (k : Nat) (g : Int → Option Int) (last : Int), k ≤ d.length ∧ i = .int .i64 k ∧ lv = .int .i64 last ∧ Hid (MapI wr mb (t.length + 2 * k) g) ∧ Hid (pClean t m d = clF m g last (d.drop k)) ∧ Below mb w wr) (fun _ _ _ _ i _ => d.length - (intOf i).toNat)
        case atStart => exact ⟨0, _, 0, Nat.zero_le _, rfl, rfl, hM, Hr.out, B1⟩
        case round =>
          obtain ⟨k, g, last, hk2, rfl, rfl, HMr, HV, B2⟩ := hrel
          have hszr : mb ≤ wr.heap.size := by have := B2.size; rw [Hmb.out] at this; exact this
          by_cases hltd : k < d.length
          · obtain ⟨bd, od, pa, pb, rfl, hbd, hx, hca, hcb⟩ := (HB.out.below (by rw [Hmb.out]; exact B2)).pr_at hltd
            have hpm := HD64.out _ (List.mem_of_getElem? hx)
            have HinA := Lib.hid (show inI pa from by have := hpm.1; unfold inI; omega)
            have HinB := Lib.hid (show inI pb from by have := hpm.2; unfold inI; omega)
            have Hin0 := Lib.hid (show inI 0 from by unfold inI; omega)
            have HC := Lib.hid (HV.out.trans (clF_step hx))
            have HMet := Lib.hid (fun W (hb : Below mb w W) => c_Met A m.length cap m pa pb W rfl (by omega) (HA.out.below (by rw [Hmb.out]; exact hb)))
            clear hpm hx
            go_wp2_with fail
            have Bb := (Below.refl wr.heap.size wr).alloc (Nat.le_refl _) (.cells #[Value.int .i64 pa, Value.int .i64 pb] 39)
            have g7 : (wr.alloc (.cells #[Value.int .i64 pa, Value.int .i64 pb] 39)).cell? ⟨wr.heap.size, 0, none⟩ = some (.int .i64 pa) := (cell_of_row _ wr.heap.size 0 #[Value.int .i64 pa, Value.int .i64 pb] 39 (0, 0) (heap_alloc_new wr _)).trans rfl
            have g8 : (wr.alloc (.cells #[Value.int .i64 pa, Value.int .i64 pb] 39)).cell? ⟨wr.heap.size, 1, none⟩ = some (.int .i64 pb) := (cell_of_row _ wr.heap.size 1 #[Value.int .i64 pa, Value.int .i64 pb] 39 (0, 0) (heap_alloc_new wr _)).trans rfl
            have B3 := B2.alloc hszr (.cells #[Value.int .i64 pa, Value.int .i64 pb] 39)
            have HMb := Lib.hid (HMr.out.alloc (.cells #[Value.int .i64 pa, Value.int .i64 pb] 39))
            have Hne := Lib.hid (Nat.ne_of_lt HMr.out.lt)
            generalize wr.alloc (.cells #[Value.int .i64 pa, Value.int .i64 pb] 39) = wb at *
            generalize wr.heap.size = gp at *
            clear hca hcb Bb HMr HV
            have lk1 := HMb.out.drew.look HinA.out
            have lk2 := HMb.out.drew.look HinB.out
            obtain ⟨ga, hga⟩ : ∃ ga, ga = pl g pa := ⟨_, rfl⟩
            obtain ⟨gb, hgb⟩ : ∃ gb, gb = pl g pb := ⟨_, rfl⟩
            rw [show (g pa).getD 0 = ga from hga.symm] at lk1
            rw [show (g pb).getD 0 = gb from hgb.symm] at lk2
            have HC2 := Lib.hid HC.out
            rw [← hga, ← hgb] at HC2
            clear hga hgb HC
            have g7d : wb.drew.cell? ⟨gp, 0, none⟩ = some (.int .i64 pa) := g7
            have g8d : wb.drew.cell? ⟨gp, 1, none⟩ = some (.int .i64 pb) := g8
            go_region_held3 (fun W => W.cell? ⟨gp, 0, none⟩ = some (.int .i64 pa) ∧ W.cell? ⟨gp, 1, none⟩ = some (.int .i64 pb) ∧ (Instr.lookup 76 (.map (some mb)) (.int .i64 pa) false).run Try.prog W = .ok (.int .i64 ga) W ∧ (Instr.lookup 76 (.map (some mb)) (.int .i64 pb) false).run Try.prog W = .ok (.int .i64 gb) W) (exact ⟨by assumption, by assumption, by assumption, by assumption⟩) (fail)
            all_goals
              clear lk1 lk2
              have hs4 : mb ≤ wb.drew.heap.size := by have := B3.size; rw [Hmb.out] at this; exact this
              by_cases hc1 : ga ≤ last
              · have Hres : Hid (pClean t m d = false) := by
                  have h := HC2.out
                  rw [if_pos (.inl hc1)] at h
                  exact h
                have e1 : decide (ga ≤ last) = true := decide_eq_true hc1
                go_wp2_with fail
                go_ret
                exact ⟨ret_bool Hres.out.symm, by rw [Hmb.out]; exact below_dr B3⟩
              by_cases hc2 : gb ≤ ga
              · have Hres : Hid (pClean t m d = false) := by
                  have h := HC2.out
                  rw [if_pos (.inr (.inl hc2))] at h
                  exact h
                have e1 : decide (ga ≤ last) = false := decide_eq_false hc1
                have e2 : decide (gb ≤ ga) = true := decide_eq_true hc2
                go_wp2_with fail
                go_ret
                exact ⟨ret_bool Hres.out.symm, by rw [Hmb.out]; exact below_dr B3⟩
              have e1 : decide (ga ≤ last) = false := decide_eq_false hc1
              have e2 : decide (gb ≤ ga) = false := decide_eq_false hc2
              have HMt := Lib.hid (HMet.out _ (below_dr B3))
              cases hmt : pMet m pa pb with
              | true =>
                have Hres : Hid (pClean t m d = false) := by
                  have h := HC2.out
                  rw [if_pos (.inr (.inr hmt))] at h
                  exact h
                rw [hmt] at HMt
                go_wp2_with (go_at_call 27; refine HMt.out.mono ?_; rintro e w4 ⟨rfl, k4⟩)
                go_ret
                exact ⟨ret_bool Hres.out.symm, by rw [Hmb.out]; exact (below_dr B3).trans (k4.mono hs4)⟩
              | false =>
                have Hres : Hid (pClean t m d = clF m (upd (upd g pa 0) pb 0) ga (d.drop (k + 1))) := by
                  have h := HC2.out
                  rw [if_neg (by rw [hmt]; rintro (h | h | h); exact hc1 h; exact hc2 h; exact Bool.noConfusion h)] at h
                  exact h
                rw [hmt] at HMt
                clear hc1 hc2 HC2 hmt
                go_wp2_with (go_at_call 27; refine HMt.out.mono ?_; rintro e w4 ⟨rfl, k4⟩)
                have B4 := (below_dr B3).trans (k4.mono hs4)
                have HM4 := Lib.hid (HMb.out.drew.later k4)
                have c4 := (k4.cell (p := ⟨gp, 0, none⟩) (World.block_lt_of_cell? _ _ g7d)).trans g7d
                have c5 := (k4.cell (p := ⟨gp, 1, none⟩) (World.block_lt_of_cell? _ _ g8d)).trans g8d
                have hmb4 : mb ≤ w4.heap.size := Nat.le_trans hs4 k4.size
                clear k4 g7 g8 g7d g8d HMt HMet hs4
                have c4' : w4.drew.cell? ⟨gp, 0, none⟩ = some (.int .i64 pa) := c4
                have c5' : w4.drew.cell? ⟨gp, 1, none⟩ = some (.int .i64 pb) := c5
                have hu : t.length + 2 * k + 1 < 1000000000000 := by omega
                have hu0 : t.length + 2 * k < 1000000000000 := by omega
                obtain ⟨w5, hr5, hM5, hG5⟩ := HM4.out.drew.update hu0 HinA.out Hin0.out
                obtain ⟨w6, hr6, hM6, hG6⟩ := hM5.update hu HinB.out Hin0.out
                have c6 := hG5.cell (a := ⟨gp, 0, none⟩) c4' (fun h => Hne.out (by injection h with h; exact h.symm))
                have c7 := hG5.cell (a := ⟨gp, 1, none⟩) c5' (fun h => Hne.out (by injection h with h; exact h.symm))
                have c8 := hG6.cell (a := ⟨gp, 0, none⟩) c6 (fun h => Hne.out (by injection h with h; exact h.symm))
                have c9 := hG6.cell (a := ⟨gp, 1, none⟩) c7 (fun h => Hne.out (by injection h with h; exact h.symm))
                have HM6 := Lib.hid hM6
                have HG5 := Lib.hid hG5
                have HG6 := Lib.hid hG6
                clear hM5 hM6 hG5 hG6
                go_region_held3 (fun W => W.cell? ⟨gp, 0, none⟩ = some (.int .i64 pa) ∧ W.cell? ⟨gp, 1, none⟩ = some (.int .i64 pb)) (exact ⟨by assumption, by assumption⟩) (fail)
                go_wp2_with fail
                go_roundw
                case rel =>
                  refine ⟨k + 1, _, ga, by omega, by go_num, rfl, HM6.out, Hres.out, ?_⟩
                  have h1 := (below_dr B4).grown HG5.out hmb4 (fun j hj => by injection hj with hj; omega)
                  exact h1.grown HG6.out (Nat.le_trans hmb4 HG5.out.size) (fun j hj => by injection hj with hj; omega)
                case measure => simp [intOf]; omega
          · obtain rfl : k = d.length := by omega
            have Hres : Hid (pClean t m d = true) := by
              have h := HV.out
              rw [List.drop_eq_nil_of_le (Nat.le_refl _)] at h
              exact h
            go_wp2_with fail
            go_ret
            exact ⟨ret_bool Hres.out.symm, by rw [Hmb.out]; exact B2⟩
  · have g1 : ((2 : Int) * (d.length : Int) != (t.length : Int)) = true := by rw [bne_iff_ne]; omega
    have Hr : Hid (pClean t m d = false) := by unfold pClean; rw [if_neg hlen]; rfl
    go_enter Try.func25, Try.ntmps25
    go_wp2_with fail
    go_ret
    exact ⟨ret_bool Hr.out.symm, Below.refl _ _⟩
end Go.Proofs.Ytiedecekbdaohaa
