/- Contract of pairing.nth. -/
import Derived.Test.YtiedecekbdaohaaPrNthA
namespace Go.Proofs.Ytiedecekbdaohaa
open Go.RowKit

theorem cell_keep_alloc {w : World} {a : Addr} {v : Value} (o : Obj) (h : w.cell? a = some v) : (w.alloc o).cell? a = some v :=
  (((Below.refl _ w).alloc (Nat.le_refl _) o).cell (p := a) (World.block_lt_of_cell? w _ h)).trans h
theorem nb_step {a b j ki : Nat} (h : a ≤ b + j * 10000000) (hk : ki = j + 1) : a ≤ b + (ki + 1 - 1) * 10000000 := Nat.le_trans h (Nat.add_le_add_left (Nat.mul_le_mul_right _ (by omega)) _)
theorem nb_step2 {a b c d j ki : Nat} (h : a ≤ b + j * 10000000) (h2 : c ≤ a + d) (h3 : d ≤ 10000000) (hk : ki = j + 1) : c ≤ b + (ki + 1 - 1) * 10000000 := by subst hk; omega
theorem nb_step3 {a b c d j r e L : Nat} (h : a ≤ b + j * 10000000) (h2 : c ≤ a + d) (h3 : d ≤ 10000000) (hj : j < r) (hr : r ≤ 15) (hL : L = r + 1) (he : e = r - 1) (h0 : b + L * 160000000 ≤ 3000000000) : c + e * 160000000 ≤ 3000000000 := by
  subst hL he
  obtain ⟨q, rfl⟩ : ∃ q, r = q + 1 := ⟨r - 1, by omega⟩
  rw [Nat.add_sub_cancel]
  omega
theorem grown_drew {a b : World} {row : Option Nat} (h : a.grownBy b row) : a.grownBy b.drew row := ⟨h.os, h.tape, h.output, h.size, h.block⟩
theorem ret_pair {a b c d : Value} (h : a = c) (k : b = d) : Ending.returned (.tuple #[a, b]) = .returned (.tuple #[c, d]) := by rw [h, k]
set_option maxRecDepth 100000 in
set_option maxHeartbeats 4000000 in
theorem c_nth (A : Option Addr) (n cap : Nat) (t : List Int) (B : Option Addr) (m c : Nat) (l : List Pr) (k : Int) (w : World) (hn : n = t.length) (hcap : n ≤ cap) (ht : t.length ≤ 16) (hnd : t.Nodup) (hm : m = l.length) (hl : l.length ≤ 2^47) (hA : SlAt w A (t.map i64)) (hB : SlAt w B (prs l)) :
    Calls Try.prog 36 #[.slice A n cap, .slice B m c, .int .i64 k] w (NthPost l t k w) := by
  obtain ⟨i0, hi, hz0, hz1, hz2⟩ := info_parts info_pr
  have HC0 := Lib.hid (c_counter A n cap t B m c l w hn hm hA hB)
  have hcb := cnt_16 (m := l) ht
  have Hn := Lib.hid hn
  clear hA hB hn hm
  by_cases hr : 0 ≤ k ∧ k < (cnt l t : Int)
  · have e1 : nthE l t k = 0 := by unfold nthE; rw [if_pos hr]
    obtain ⟨kn, rfl⟩ := Int.eq_ofNat_of_zero_le hr.1
    have hkc : kn < cnt l t := by omega
    have e2 : Hid (∃ d, (draws l t)[kn]? = some d ∧ nthR l t kn = [] ++ d) := by
      show Hid _
      refine ⟨(draws l t)[kn]'hkc, List.getElem?_eq_getElem hkc, ?_⟩
      unfold nthR
      rw [if_pos hr, Int.toNat_natCast, List.getElem?_eq_getElem hkc]
      rfl
    have HE1 := Lib.hid e1
    have q1 : decide ((kn : Int) < 0) = false := decide_eq_false (by omega)
    have q2 : ¬ (cnt l t : Int) ≤ (kn : Int) := by omega
    clear e1 hr hkc
    generalize hres : nthR l t kn = res at *
    have HRes := Lib.hid hres
    clear hres
    generalize hcn : cnt l t = cn at *
    have HCn := Lib.hid hcn
    clear hcn
    go_enter Try.func36, Try.ntmps36
    go_wp2_with fail
    refine HC0.out.mono ?_
    rintro e w1 ⟨pt, pk, pm, pc, mb, rfl, hE, hM, hmb, k1⟩
    have HC1 := Lib.hid (c_countAll (by omega) ht hnd hl hE hM)
    have HEn := Lib.hid hE
    have HMp := Lib.hid hM
    clear hE hM HC0
    go_wp2_with fail
    refine HC1.out.mono ?_
    rintro e w2 ⟨nb, g, he, hM2, hMm2, hnb, hG⟩
    rw [HCn.out] at he
    subst he
    have HE2 := Lib.hid (HEn.out.grown HMp.out.block hG)
    have HM2 := Lib.hid (And.intro hM2 (And.intro hMm2 hnb))
    have B2 := below_map k1 k1.size hmb hG
    have hmb2 := hM2.lt
    have HCl := Lib.hid (c_cloneI A n cap t w2 Hn.out (by omega) HE2.out.hA)
    clear hM2 hMm2 hnb HC1 HEn HMp hG k1
    go_wp2_with fail
    refine HCl.out.mono ?_
    rintro e w3 ⟨v, rfl, hown, k3⟩
    obtain ⟨A3, c3, rfl, hc3, _, hs3⟩ := own_slI hown
    have hst : Hid (NSt w w3 pt pk pm pc mb A n cap t B m c l (.slice none 0 0) [] A3 t w3 nb g) := by
      have hb3 := k3.size
      exact ⟨HE2.out.grown HM2.out.1.block (grown_below k3 _), (HM2.out.1.later k3).block, World.grownBy.refl _ _, HM2.out.1.later k3, HM2.out.2.1, hs3, own_nil _ _, (fun _ _ _ => by simp [Value.ownBlock]), below_step B2 k3, hmb⟩
    have hnb0 : nb ≤ 10000000 := by have := HM2.out.2.2; have := stT_16 t.length ht; omega
    clear hown HE2 HM2 HCl B2 hs3
    go_wp2_with fail
    go_loopw [2, 9, 10] (fun kv ov lv wr => ∃ (kk : Nat) (outl : List Pr) (left : List Int) (A3 : Option Addr) (c3 nb : Nat) (g : Int → Option Int), kv = .int .i64 kk ∧ lv = .slice A3 left.length c3 ∧ left.length ≤ c3 ∧ Hid (NSt w w3 pt pk pm pc mb A n cap t B m c l ov outl A3 left wr nb g) ∧ Hid (left.Sublist t) ∧ outl.length + left.length ≤ 16 ∧ nb + left.length * 160000000 ≤ 3000000000 ∧ kk ≤ 3000000 ∧ Hid (Rest l left kk outl res)) (fun _ _ lv _ => lenV lv)
    case atStart => exact ⟨kn, [], t, A3, c3, nb, g, rfl, rfl, hc3, hst, List.Sublist.refl _, by simpa using ht, by omega, by omega, e2⟩
    case round =>
      obtain ⟨kk, outl, left, A4, c4, nb4, g4, rfl, rfl, hc4, HSt, Hsub, hol, hnb4, hkk, HRest⟩ := hrel
      cases left with
      | nil =>
        have hR := HRest.out
        rw [show ([] : List Int).length = 0 from rfl]
        go_wp2_with fail
        go_ret2
        obtain ⟨d, hd, hrd⟩ := hR
        have hst2 := HSt.out
        have h1 : kk = 0 ∧ d = [] := by
          rw [draws_nil] at hd
          have h2 := (List.getElem?_eq_some_iff.1 hd).1
          have h3 : kk = 0 := by simpa using h2
          subst h3
          simp at hd
          exact ⟨rfl, hd⟩
        rw [h1.2, List.append_nil] at hrd
        refine ⟨_, ret_pair rfl (int_eq (by rw [HE1.out]; rfl)), ?_, hst2.hB⟩
        rw [HRes.out, hrd]
        exact own_mono hst2.hO hst2.hB3.size
      | cons t0 rest =>
        have Hlr : Hid ((t0 :: rest).length = rest.length + 1) := rfl
        have hl0 : 0 < (t0 :: rest).length := by simp
        generalize hLL : t0 :: rest = left at *
        have HLL := Lib.hid hLL
        clear hLL
        obtain ⟨wz, rfl⟩ : ∃ wz : World, wz = wr := ⟨_, rfl⟩
        go_wp2_with fail
        go_loopw [2, 9, 10, 11] (fun kv ov lv iv wr => ∃ (k2 ki nb2 : Nat) (g2 : Int → Option Int), kv = .int .i64 k2 ∧ ov = u9 ∧ lv = .slice A4 left.length c4 ∧ iv = .int .i64 ki ∧ 1 ≤ ki ∧ ki ≤ left.length ∧ Hid (NSt w w3 pt pk pm pc mb A n cap t B m c l u9 outl A4 left wr nb2 g2) ∧ nb2 ≤ nb4 + (ki - 1) * 10000000 ∧ k2 ≤ 3000000 ∧ Hid (Rest l left (cntTo l t0 rest (ki - 1) + k2) outl res)) (fun _ _ _ iv _ => left.length - (intOf iv).toNat)
        case atStart => exact ⟨kk, 1, nb4, g4, rfl, rfl, rfl, rfl, by omega, by omega, HSt, by omega, hkk, by have h0 : cntTo l t0 rest (1 - 1) = 0 := rfl; rw [h0, Nat.zero_add]; exact HRest⟩
        case round =>
          obtain ⟨k2, ki, nb2, g2, rfl, rfl, rfl, rfl, hk1, hki, HS2, hnb2, hk2, HR2⟩ := hrel
          by_cases hlt : ki < left.length
          · obtain ⟨j, hj⟩ : ∃ j, ki = j + 1 := ⟨ki - 1, by omega⟩
            obtain ⟨x, hx⟩ := getI_some (l := rest) (k := j) (by have := Hlr.out; omega)
            have hxl : left[ki]? = some x := by rw [← HLL.out, hj]; simpa using hx
            have h0l : left[0]? = some t0 := by rw [← HLL.out]; rfl
            obtain ⟨b4, o4, rfl, hb4, hcs⟩ := HS2.out.hS.i64_all hl0
            have c0 : wr.cell? ⟨b4, o4, none⟩ = some (.int .i64 t0) := hcs 0 t0 h0l
            have cx : wr.cell? ⟨b4, o4 + ki, none⟩ = some (.int .i64 x) := hcs ki x hxl
            have hS2 := HS2.out
            have HMet := Lib.hid (fun W' (hb : Below wr.heap.size wr W') => c_Met B m c l t0 x W' hS2.hE.hm hl (hS2.hE.hB.below hb))
            have p1 : (0 : Int) ≤ (ki : Int) := by omega
            have p2 : (ki : Int) < (left.length : Int) := by omega
            have hjr : j < rest.length := (List.getElem?_eq_some_iff.1 hx).1
            have hk1' : ki - 1 = j := by omega
            rw [hk1'] at HR2 hnb2
            have Hx := Lib.hid hx
            have Hj := Lib.hid hj
            have Hjr := Lib.hid hjr
            clear hx hj hxl h0l hjr hk1' hcs hS2
            cases hmt : pMet l t0 x with
            | true =>
              rw [hmt] at HMet
              have Hs := Lib.hid (cntTo_yes Hx.out hmt)
              clear hmt
              go_wp2_with fail
              go_region_held3 (fun W => W.cell? ⟨b4, o4, none⟩ = some (.int .i64 t0) ∧ W.cell? ⟨b4, o4 + ki, none⟩ = some (.int .i64 x)) (first | exact ⟨by assumption, by assumption⟩ | go_keep)
                ((go_at_call 27; refine (HMet.out _ (below_drewN (Below.refl _ _) 1)).mono ?_; rintro e w5 ⟨rfl, k5⟩; have c05 := (k5.cell (p := ⟨b4, o4, none⟩) (World.block_lt_of_cell? _ _ c0)).trans c0; have cx5 := (k5.cell (p := ⟨b4, o4 + ki, none⟩) (World.block_lt_of_cell? _ _ cx)).trans cx))
              have B5 := below_step (below_drewN (Below.refl wr.heap.size wr) 1) k5
              go_wp2_with fail
              go_roundw
              case rel =>
                refine ⟨k2, ki + 1, nb2, g2, rfl, rfl, rfl, by go_num, by omega, by omega, HS2.out.below B5, ?_, hk2, ?_⟩
                · exact nb_step hnb2 Hj.out
                · rw [show ki + 1 - 1 = j + 1 from by have := Hj.out; omega, Hs.out]; exact HR2
              case measure => simp [intOf]; omega
            | false =>
              rw [hmt] at HMet
              have HMt := Lib.hid hmt
              clear hmt
              go_wp2_with fail
              go_region_held3 (fun W => W.cell? ⟨b4, o4, none⟩ = some (.int .i64 t0) ∧ W.cell? ⟨b4, o4 + ki, none⟩ = some (.int .i64 x)) (first | exact ⟨by assumption, by assumption⟩ | go_keep)
                ((go_at_call 27; refine (HMet.out _ (below_drewN (Below.refl _ _) 1)).mono ?_; rintro e w5 ⟨rfl, k5⟩; have c05 := (k5.cell (p := ⟨b4, o4, none⟩) (World.block_lt_of_cell? _ _ c0)).trans c0; have cx5 := (k5.cell (p := ⟨b4, o4 + ki, none⟩) (World.block_lt_of_cell? _ _ cx)).trans cx))
              have B5 := below_step (below_drewN (Below.refl wr.heap.size wr) 1) k5
              have HS5 := Lib.hid (HS2.out.below B5)
              clear k5 HMet
              have ebs : wo left [0, (ki : Int)] = rest.eraseIdx j := by rw [← HLL.out, Hj.out]; exact wo_zero_i
              have hel : (rest.eraseIdx j).length = rest.length - 1 := List.length_eraseIdx_of_lt Hjr.out
              have hes : (rest.eraseIdx j).Sublist t := (List.eraseIdx_sublist ..).trans ((List.sublist_cons_self t0 rest).trans (by rw [HLL.out]; exact Hsub.out))
              have hrl : rest.length ≤ 15 := by have := Hlr.out; omega
              have hecb := cnt_16 (m := l) (l := rest.eraseIdx j) (by omega)
              have hst16 := stT_16 (rest.eraseIdx j).length (by omega)
              have HWo := Lib.hid (c_without (some ⟨b4, o4, none⟩) left.length c4 left (some ⟨w5.heap.size, 0, none⟩) 2 2 [0, (ki : Int)] (w5.alloc (.cells #[Value.int .i64 0, Value.int .i64 (ki : Int)] 3)) rfl (by omega) rfl (by simp) (HS5.out.hS.alloc _) (sl_lit2 w5 _ _ _))
              rw [ebs] at HWo
              have B6 := (Below.refl w5.heap.size w5).alloc (Nat.le_refl _) (.cells #[Value.int .i64 0, Value.int .i64 (ki : Int)] 3)
              go_wp2_with fail
              refine HWo.out.mono ?_
              rintro e w6 ⟨v6, rfl, hown6, k6⟩
              have hb6 := own_base hown6
              obtain ⟨A6, c6, rfl, hc6, _, hs6⟩ := own_slI hown6
              have B7 := below_step B6 k6
              have HS6 := Lib.hid (HS5.out.below B7)
              have hA6 : ∀ b o, A6 = some ⟨b, o, none⟩ → u9.ownBlock ≠ some b ∧ b < w6.heap.size := by
                rintro b o rfl
                have hlt6 := (hown6.lt b rfl).2
                refine ⟨fun he => ?_, hlt6⟩
                have h1 := (HS5.out.hO.lt b he).2
                have h2 := hb6 b rfl
                simp at h2
                omega
              have HA6 := Lib.hid hA6
              have HSl6 := Lib.hid hs6
              have HCo := Lib.hid (c_count pt pk pm pc mb A n cap t B m c l ht hnd hl _ (rest.eraseIdx j) (Nat.le_refl _) hes w6 A6 _ c6 nb2 g2 rfl hc6 hs6 HS6.out.hE HS6.out.hM HS6.out.hMm (by have := Hjr.out; omega))
              have Hel := Lib.hid hel
              have Hes := Lib.hid hes
              clear hown6 k6 hb6 hA6 hs6 HWo B6 ebs hel hes HS5 B5
              generalize hcb2 : cnt l (rest.eraseIdx j) = cb at *
              have Hcb := Lib.hid hcb2
              clear hcb2
              go_wp2_with fail
              refine HCo.out.mono ?_
              rintro e w7 ⟨nb7, g7, he, hM7, hMm7, hnb7, hG7⟩
              rw [Hcb.out] at he
              subst he
              have HS7 := Lib.hid (HS6.out.map hG7 hM7 hMm7)
              have HSl7 := Lib.hid (HSl6.out.kept HS6.out.hM.block hG7)
              clear HCo hM7 hMm7
              by_cases hkc : cb ≤ k2
              · have p3 : (cb : Int) ≤ (k2 : Int) := by omega
                go_wp2_with fail
                go_roundw
                case rel =>
                  have := Hj.out
                  refine ⟨k2 - cb, ki + 1, nb7, g7, int_eq (by omega), rfl, rfl, by go_num, by omega, by omega, ?_, ?_, by omega, ?_⟩
                  · have := HS7.out; exact this
                  · exact nb_step2 hnb2 hnb7 hst16 Hj.out
                  · rw [show ki + 1 - 1 = j + 1 from by omega, cntTo_no Hx.out HMt.out, Hcb.out, show cntTo l t0 rest j + cb + (k2 - cb) = cntTo l t0 rest j + k2 from by omega]
                    exact HR2
                case measure => simp [intOf]; omega
              · have p3 : ¬ (cb : Int) ≤ (k2 : Int) := by omega
                obtain ⟨d, hd, hrd⟩ := HR2.out
                rw [← HLL.out] at hd
                obtain ⟨d', hd', rfl⟩ := nth_take Hx.out HMt.out (by rw [Hcb.out]; omega) hd
                have HRn : Hid (Rest l (rest.eraseIdx j) k2 (outl ++ [(t0, x)]) res) := ⟨d', hd', by rw [hrd]; simp⟩
                obtain ⟨b4', o4', e4, hb4', hcs'⟩ := HS7.out.hS.i64_all hl0
                cases e4
                have c07 : w7.cell? ⟨b4, o4, none⟩ = some (.int .i64 t0) := hcs' 0 t0 (by rw [← HLL.out]; rfl)
                have cx7 : w7.cell? ⟨b4, o4 + ki, none⟩ = some (.int .i64 x) := hcs' ki x (by rw [← HLL.out, Hj.out]; simpa using Hx.out)
                have hap : u9.ownBlock ≠ some b4 := HS7.out.hA b4 o4 rfl
                have hO7 := HS7.out.hO
                have ho3 := HS7.out.hG.size
                have ho16 : outl.length + 1 ≤ 16 := by omega
                clear hd hd' hrd hcs' cx c0 c05 cx5
                go_wp2_with fail
                have HO7 := Lib.hid hO7
                have Hap := Lib.hid hap
                clear hO7 hap
                go_region_held3 (fun W => W.cell? ⟨b4, o4, none⟩ = some (.int .i64 t0) ∧ W.cell? ⟨b4, o4 + ki, none⟩ = some (.int .i64 x)) (first | exact ⟨by assumption, by assumption⟩ | go_keep)
                  ((refine step_append_lies _ (by rfl) (.tmp 59) (.tmp 68) _ (by rfl) w3.heap.size 39 i0 _ 2 16 Try.underlying23 hi hz0 hz1 hz2 rfl (by omega) u9 outl.length _ (by rfl) ((HO7.out.alloc _).drew) ⟨w7.heap.size, 0, none⟩ 1 1 [.int .i64 t0, .int .i64 x] (by rfl) (by rfl) (World.news_of_block (cs := #[.int .i64 t0, .int .i64 x]) (t := 39) (fr := (0, 0)) (heap_alloc_new w7 _)) (by simp [Value.oneCell']) (by omega) (by unfold maxLen; omega) (by omega) (by simp; omega) (w7.heap.size + 1) (by simp) ?_; intro g8 c8 w8 hown8 hg8 hat8 _; have c08 := hg8.cell (a := ⟨b4, o4, none⟩) (cell_keep_alloc _ c07) (fun h => Hap.out h.symm); have cx8 := hg8.cell (a := ⟨b4, o4 + ki, none⟩) (cell_keep_alloc _ cx7) (fun h => Hap.out h.symm)))
                clear c08 cx8 HO7
                go_wp2_with fail
                go_roundw
                case rel =>
                  refine ⟨k2, outl ++ [(t0, x)], rest.eraseIdx j, A6, c6, nb7, g7, rfl, rfl, hc6, ?_, Hes.out, ?_, ?_, hk2, HRn.out⟩
                  · refine HS7.out.put ((grown_drew (World.grownBy_alloc w7 (.cells #[Value.int .i64 t0, Value.int .i64 x] 39) _)).trans hg8) ?_ HSl7.out (fun b o h => (HA6.out b o h).1) ?_
                    · rw [List.length_append, prs_append]; exact hown8
                    · intro b o h he
                      have e8 : g8 = b := by simpa [Value.ownBlock] using he
                      obtain ⟨h1, h2⟩ := HA6.out b o h
                      rcases hat8 with h3 | h3
                      · exact h1 (by rw [h3, e8])
                      · have := hG7.size; omega
                  · rw [List.length_append]
                    have := Hel.out; have := Hlr.out
                    show outl.length + 1 + _ ≤ 16
                    omega
                  · exact nb_step3 hnb2 hnb7 hst16 Hjr.out hrl Hlr.out Hel.out hnb4
                case measure =>
                  show (rest.eraseIdx j).length < left.length
                  have := Hel.out; have := Hlr.out
                  omega
          · have e9 : ki = left.length := by omega
            obtain ⟨d, hd, _⟩ := HR2.out
            have e10 : ki - 1 = rest.length := by have := Hlr.out; omega
            rw [e10, ← HLL.out] at hd
            exact (nth_end hd).elim
  · have e1 : nthE l t k = 6 := by unfold nthE; rw [if_neg hr]
    have e2 : nthR l t k = [] := by unfold nthR; rw [if_neg hr]
    have HE1 := Lib.hid e1
    have HE2 := Lib.hid e2
    clear e1 e2
    by_cases hk0 : k < 0
    · have q1 : decide (k < 0) = true := decide_eq_true hk0
      clear hr
      go_enter Try.func36, Try.ntmps36
      go_wp2_with fail
      refine HC0.out.mono ?_
      rintro e w1 ⟨pt, pk, pm, pc, mb, rfl, _, _, _, k1⟩
      go_wp2_with fail
      go_ret2
      refine ⟨_, ret_pair rfl (int_eq (by rw [HE1.out]; rfl)), ?_, k1⟩
      rw [HE2.out]
      exact own_nil _ _
    · have q1 : decide (k < 0) = false := decide_eq_false hk0
      have q2 : (cnt l t : Int) ≤ k := by omega
      generalize hcn : cnt l t = cn at *
      have HCn := Lib.hid hcn
      clear hcn hr hk0
      go_enter Try.func36, Try.ntmps36
      go_wp2_with fail
      refine HC0.out.mono ?_
      rintro e w1 ⟨pt, pk, pm, pc, mb, rfl, hE, hM, hmb, k1⟩
      have HC1 := Lib.hid (c_countAll (by omega) ht hnd hl hE hM)
      clear hE hM HC0
      go_wp2_with fail
      refine HC1.out.mono ?_
      rintro e w2 ⟨nb, g, he, _, _, _, hG⟩
      rw [HCn.out] at he
      subst he
      go_wp2_with fail
      go_ret2
      refine ⟨_, ret_pair rfl (int_eq (by rw [HE1.out]; rfl)), ?_, below_map k1 k1.size hmb hG⟩
      rw [HE2.out]
      exact own_nil _ _
end Go.Proofs.Ytiedecekbdaohaa
