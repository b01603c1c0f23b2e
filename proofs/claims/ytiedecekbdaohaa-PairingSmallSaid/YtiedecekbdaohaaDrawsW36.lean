/- PairingDraws: the walk. -/
import Derived.Test.YtiedecekbdaohaaRDraw36
import Derived.Test.YtiedecekbdaohaaRounds36
namespace Go.Proofs.Ytiedecekbdaohaa
open Go.RowKit

theorem pDraw_len {t : List Int} {m : List Pr} {b : List Int} : (pDraw t m b).1.length ≤ t.length := by
  by_cases hw : pWrong t m = 0
  · rw [pDraw_ok hw]
    split
    · exact nthR_len
    · cases h : byeFrom m t b t.length with
      | none => exact Nat.zero_le _
      | some q =>
        obtain ⟨d, x⟩ := q
        obtain ⟨i, hi, _, _, _, hd⟩ := byeFrom_some _ d x (Nat.le_refl _) h
        show d.length ≤ t.length
        rw [hd]
        refine Nat.le_trans nthR_len (List.length_eraseIdx_le ..)
  · unfold pDraw
    rw [if_pos hw]
    exact Nat.zero_le _

set_option maxRecDepth 100000 in
set_option maxHeartbeats 4000000 in
theorem c_PairingDraws (A : Option Addr) (n cap : Nat) (t : List Int) (B : Option Addr) (m c : Nat) (l : List Pr) (C : Option Addr) (nb cb : Nat) (byes : List Int) (w : World) (hn : n = t.length) (hcap : n ≤ cap) (_ : cap ≤ 9223372036854775807) (hA : SlAt w A (t.map i64)) (hm : m = l.length) (_ : m ≤ c) (_ : c ≤ 9223372036854775807) (hB : SlAt w B (prs l)) (hb : nb = byes.length) (_ : nb ≤ cb) (_ : cb ≤ 9223372036854775807) (hC : SlAt w C (byes.map i64)) :
    Calls Try.prog 4 #[.slice A n cap, .slice B m c, .slice C nb cb] w (Frm (.bool true) w) := by
  obtain ⟨i0, hi, hz0, hz1, hz2⟩ := info_parts info_i64
  obtain ⟨j0, ji, jz0, jz1, jz2⟩ := info_parts info_pr
  have HA := Lib.hid hA
  have HB := Lib.hid hB
  have HC := Lib.hid hC
  have HAw := Lib.hid (fun W => c_awake W)
  have HF := Lib.hid (c_few A n cap B m c w)
  subst hn hm hb
  clear hA hB hC
  by_cases hf : pFew t.length l.length = true ∧ byes.length ≤ 20
  · obtain ⟨hf1, hf2⟩ := hf
    rw [hf1] at HF
    have ht70 : t.length < 70 := by
      unfold pFew at hf1
      simp at hf1
      omega
    have hl60 : l.length ≤ 60 := by
      unfold pFew at hf1
      simp at hf1
      omega
    have q1 : decide ((byes.length : Int) > 20) = false := decide_eq_false (by omega)
    have q2 : ¬ (20 : Int) < (byes.length : Int) := by omega
    clear hf1
    go_enter Try.func4, Try.ntmps4
    go_wp2_with fail
    refine HF.out.mono ?_
    rintro e w1 ⟨rfl, q, rfl⟩
    obtain ⟨w0, hw0⟩ : ∃ w0, w0 = w.drewN q := ⟨_, rfl⟩
    have K0 : Below w.heap.size w w0 := by rw [hw0]; exact below_drewN (Below.refl _ _) q
    rw [← hw0]
    clear hw0
    dsimp only
    have HIo := Lib.hid (i64_one t)
    have HIb := Lib.hid (i64_one byes)
    go_wp2_with (first
      | (at_builtin; refine wpList_append_sl rfl (.tmp 26) (.tmp 27) 22 rfl w0.heap.size 3 i0 (.int .i64 0) 8 Try.underlying22 hi hz0 hz1 hz2 rfl _ 0 [] rfl (own_empty _ (Nat.le_refl _)) A t.length cap (t.map i64) rfl (by simp) ((HA.out.below K0).alloc _) HIo.out (by unfold maxLen; omega) (by omega) (by simp) ?_; intro v6 w6 hown6 hg6 _; have B6 := ((Below.refl w0.heap.size w0).alloc (Nat.le_refl _) (.cells #[] 3)).grown hg6 (by simp) (own_block (Nat.le_refl _)); have K6 := below_step K0 B6)
      | (at_builtin; refine wpList_append_slS rfl (.tmp 29) (.tmp 30) 23 rfl w6.heap.size 39 j0 _ 2 16 Try.underlying23 ji jz0 jz1 jz2 rfl (by omega) _ 0 [] rfl (own_emptyS _ 2 (Nat.le_refl _)) B l.length c (prs l) rfl (by rw [prs_len, Nat.mul_comm]) ((HB.out.below K6).alloc _) prs_one (by unfold maxLen; omega) (by omega) (by simp) ?_; intro v7 w7 hown7 hg7 _; have B7 := ((Below.refl w6.heap.size w6).alloc (Nat.le_refl _) (.cells #[] 39)).grown hg7 (by simp) (own_block (Nat.le_refl _)); have K7 := below_step K6 B7)
      | (at_builtin; refine wpList_append_sl rfl (.tmp 32) (.tmp 33) 22 rfl w7.heap.size 3 i0 (.int .i64 0) 8 Try.underlying22 hi hz0 hz1 hz2 rfl _ 0 [] rfl (own_empty _ (Nat.le_refl _)) C byes.length cb (byes.map i64) rfl (by simp) ((HC.out.below K7).alloc _) HIb.out (by unfold maxLen; omega) (by omega) (by simp) ?_; intro v8 w8 hown8 hg8 _; have B8 := ((Below.refl w7.heap.size w7).alloc (Nat.le_refl _) (.cells #[] 3)).grown hg8 (by simp) (own_block (Nat.le_refl _)); have K8 := below_step K7 B8))
    rw [List.nil_append, Nat.zero_add] at hown6 hown7 hown8
    obtain ⟨A6, c6, rfl, hc6, _, hs6⟩ := own_slI hown6
    obtain ⟨A7, c7, rfl, hc7, _, hs7⟩ := own_slP hown7
    obtain ⟨A8, c8, rfl, hc8, _, hs8⟩ := own_slI hown8
    have HS6 := Lib.hid ((hs6.below B7).below B8)
    have HS7 := Lib.hid (hs7.below B8)
    have HS8 := Lib.hid hs8
    have hdl := pDraw_len (t := t) (m := l) (b := byes)
    have HD := Lib.hid (c_Draw A6 t.length c6 t A7 l.length c7 l A8 byes.length c8 byes w8 rfl hc6 (by omega) rfl (by omega) rfl (by omega) HS6.out HS7.out HS8.out)
    have HRD := Lib.hid (fun D nd cd W (hb : Below w.heap.size w W) (h1 : nd = l.length) (h3 : SlAt W D (prs l)) => c_rDraw A t.length cap t D nd cd l C byes.length cb byes W rfl hcap (by omega) h1 (by omega) rfl (by omega) (HA.out.below hb) h3 (HC.out.below hb))
    have HTh := Lib.hid (fun W (hb : Below w.heap.size w W) => c_theirs B l.length c l W rfl (by omega) (HB.out.below hb))
    have HK1 := Lib.hid (fun W (hb : Below w8.heap.size w8 W) => c_kept A6 t.length c6 A t.length cap t A7 l.length c7 B l.length c l W rfl rfl rfl rfl (by omega) (by omega) (HS6.out.below hb) (HA.out.below (below_step K8 hb)) (HS7.out.below hb) (HB.out.below (below_step K8 hb)))
    have HK2 := Lib.hid (fun W (hb : Below w8.heap.size w8 W) => c_kept A8 byes.length c8 C byes.length cb byes none 0 0 none 0 0 [] W rfl rfl rfl rfl (by omega) (by simp) (HS8.out.below hb) (HC.out.below (below_step K8 hb)) SlAt.nil_ SlAt.nil_)
    clear hown6 hown7 hown8 hg6 hg7 hg8 hs6 hs7 hs8 B6 B7 B8 K6 K7
    generalize pDraw t l byes = r at *
    obtain ⟨d, bb, er⟩ := r
    dsimp only at hdl
    refine HD.out.mono ?_
    rintro e w9 ⟨v9, rfl, hown9, k9⟩
    dsimp only at hown9 ⊢
    obtain ⟨A9, c9, rfl, hc9, _, hs9⟩ := own_slP hown9
    have HS9 := Lib.hid hs9
    have K9 := below_step K8 k9
    clear hown9 hs9 HD
    go_wp2_with fail
    refine (HTh.out _ K9).mono ?_
    rintro e w10 ⟨v10, rfl, hown10, k10⟩
    obtain ⟨A10, c10, rfl, hc10, _, hs10⟩ := own_slP hown10
    have K10 := below_step K9 k10
    have HRk := Lib.hid (HRD.out A10 l.length c10 w10 K10 rfl hs10)
    clear hown10 hs10 HTh HRD
    go_wp2_with fail
    refine HRk.out.mono ?_
    rintro e w11 ⟨v11, rfl, hown11, k11⟩
    dsimp only at hown11 ⊢
    obtain ⟨A11, c11, rfl, hc11, _, hs11⟩ := own_slP hown11
    have K11 := below_step K10 k11
    have J11 := below_step (below_step k9 k10) k11
    have H9 := below_step k10 k11
    have HO := Lib.hid (c_ours A11 d.length c11 d w11 rfl (by omega) hs11)
    have g1 : (bb == bb) = true := by simp
    have g2 : ((er : Int) == (er : Int)) = true := by simp
    clear hown11 hs11 HRk
    go_wp2_with fail
    refine HO.out.mono ?_
    rintro e w12 ⟨v12, rfl, hown12, k12⟩
    obtain ⟨A12, c12, rfl, hc12, _, hs12⟩ := own_slP hown12
    have H12 := below_step H9 k12
    have J12 := below_step J11 k12
    have hd1 : decide (d = d) = true := decide_eq_true rfl
    have HI := Lib.hid (show Calls Try.prog 18 #[.slice A9 d.length c9, .slice A12 d.length c12] w12 (Frm (.bool true) w12) from (c_is A9 d.length c9 d A12 d.length c12 d w12 rfl rfl (by omega) (by omega) (HS9.out.below H12) hs12).mono (fun _ _ hh => by rw [hd1] at hh; exact Qt.frm hh))
    clear hown12 hs12 HO hd1
    go_wp2_with fail
    refine HI.out.mono ?_
    rintro e w13 ⟨rfl, k13⟩
    have J13 := below_step J12 k13
    go_wp2_with fail
    refine (HK1.out _ J13).mono ?_
    rintro e w14 ⟨rfl, k14⟩
    have J14 := below_step J13 k14
    go_wp2_with fail
    refine (HK2.out _ J14).mono ?_
    rintro e w15 ⟨rfl, k15⟩
    have J15 := below_step J14 k15
    go_wp2_with fail
    refine (HAw.out _).mono ?_
    rintro e w16 ⟨rfl, k16⟩
    go_wp2_with fail
    go_ret
    exact ⟨rfl, below_step (below_step K8 J15) k16⟩
  · have hcase : pFew t.length l.length = false ∨ pFew t.length l.length = true ∧ 20 < byes.length := by
      cases h : pFew t.length l.length with
      | false => exact .inl rfl
      | true => exact .inr ⟨rfl, Nat.lt_of_not_le (fun h2 => hf ⟨h, h2⟩)⟩
    clear hf
    rcases hcase with h | ⟨h, h2⟩
    · rw [h] at HF
      clear h
      go_enter Try.func4, Try.ntmps4
      go_wp2_with fail
      refine HF.out.mono ?_
      rintro e w1 ⟨rfl, q, rfl⟩
      go_wp2_with fail
      refine (HAw.out _).mono ?_
      rintro e w2 ⟨rfl, k2⟩
      go_wp2_with fail
      go_ret
      exact ⟨rfl, below_step (below_drewN (Below.refl _ _) _) k2⟩
    · rw [h] at HF
      have q1 : decide ((byes.length : Int) > 20) = true := decide_eq_true (by omega)
      have q2 : (20 : Int) < (byes.length : Int) := by omega
      clear h
      go_enter Try.func4, Try.ntmps4
      go_wp2_with fail
      refine HF.out.mono ?_
      rintro e w1 ⟨rfl, q, rfl⟩
      go_wp2_with fail
      refine (HAw.out _).mono ?_
      rintro e w2 ⟨rfl, k2⟩
      go_wp2_with fail
      go_ret
      exact ⟨rfl, below_step (below_drewN (Below.refl _ _) _) k2⟩
end Go.Proofs.Ytiedecekbdaohaa
