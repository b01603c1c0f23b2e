/- tells and PairingTells: the walk. -/
import Derived.Test.YtiedecekbdaohaaRNum36
import Derived.Test.YtiedecekbdaohaaDrawsW36
namespace Go.Proofs.Ytiedecekbdaohaa
open Go.RowKit

set_option maxRecDepth 100000 in
set_option maxHeartbeats 4000000 in
theorem c_tells (A : Option Addr) (n cap : Nat) (t : List Int) (B : Option Addr) (m c : Nat) (l : List Pr) (E : Option Addr) (nd cd : Nat) (dr : List Pr) (a b k : Int) (w : World) (hn : n = t.length) (hcap : n ≤ cap) (ht : t.length < 70) (hA : SlAt w A (t.map i64)) (hm : m = l.length) (hl : l.length ≤ 60) (hB : SlAt w B (prs l)) (hd : nd = dr.length) (hdr : dr.length ≤ 10) (hE : SlAt w E (prs dr)) :
    Calls Try.prog 13 #[.slice A n cap, .slice B m c, .slice E nd cd, .int .i64 a, .int .i64 b, .int .i64 k] w (Frm (.bool true) w) := by
  obtain ⟨i0, hi, hz0, hz1, hz2⟩ := info_parts info_i64
  obtain ⟨j0, ji, jz0, jz1, jz2⟩ := info_parts info_pr
  have HA := Lib.hid hA
  have HB := Lib.hid hB
  have HE := Lib.hid hE
  subst hn hm hd
  clear hA hB hE
  have HIo := Lib.hid (i64_one t)
  go_enter Try.func13, Try.ntmps13
  go_wp2_with (first
    | (at_builtin; refine wpList_append_sl rfl _ _ 22 rfl w.heap.size 3 i0 (.int .i64 0) 8 Try.underlying22 hi hz0 hz1 hz2 rfl _ 0 [] rfl (own_empty _ (Nat.le_refl _)) A t.length cap (t.map i64) rfl (by simp) (HA.out.alloc _) HIo.out (by unfold maxLen; omega) (by omega) (by simp) ?_; intro v6 w6 hown6 hg6 _; have B6 := ((Below.refl w.heap.size w).alloc (Nat.le_refl _) (.cells #[] 3)).grown hg6 (by simp) (own_block (Nat.le_refl _)))
    | (at_builtin; refine wpList_append_slS rfl _ _ 23 rfl w6.heap.size 39 j0 _ 2 16 Try.underlying23 ji jz0 jz1 jz2 rfl (by omega) _ 0 [] rfl (own_emptyS _ 2 (Nat.le_refl _)) B l.length c (prs l) rfl (by rw [prs_len, Nat.mul_comm]) ((HB.out.below B6).alloc _) prs_one (by unfold maxLen; omega) (by omega) (by simp) ?_; intro v7 w7 hown7 hg7 _; have B7 := ((Below.refl w6.heap.size w6).alloc (Nat.le_refl _) (.cells #[] 39)).grown hg7 (by simp) (own_block (Nat.le_refl _)); have K7 := below_step B6 B7)
    | (at_builtin; refine wpList_append_slS rfl _ _ 23 rfl w7.heap.size 39 j0 _ 2 16 Try.underlying23 ji jz0 jz1 jz2 rfl (by omega) _ 0 [] rfl (own_emptyS _ 2 (Nat.le_refl _)) E dr.length cd (prs dr) rfl (by rw [prs_len, Nat.mul_comm]) ((HE.out.below K7).alloc _) prs_one (by unfold maxLen; omega) (by omega) (by simp) ?_; intro v8 w8 hown8 hg8 _; have B8 := ((Below.refl w7.heap.size w7).alloc (Nat.le_refl _) (.cells #[] 39)).grown hg8 (by simp) (own_block (Nat.le_refl _)); have K8 := below_step K7 B8))
  rw [List.nil_append, Nat.zero_add] at hown6 hown7 hown8
  obtain ⟨A6, c6, rfl, hc6, _, hs6⟩ := own_slI hown6
  obtain ⟨A7, c7, rfl, hc7, _, hs7⟩ := own_slP hown7
  obtain ⟨A8, c8, rfl, hc8, _, hs8⟩ := own_slP hown8
  have HS6 := Lib.hid ((hs6.below B7).below B8)
  have HS7 := Lib.hid (hs7.below B8)
  have HS8 := Lib.hid hs8
  have C1 := Lib.hid (c_Right A6 t.length c6 t A7 l.length c7 l w8 rfl hc6 (by omega) rfl (by omega) HS6.out HS7.out)
  have CT := Lib.hid (fun W (hb : Below w8.heap.size w8 W) => c_theirs B l.length c l W rfl (by omega) (HB.out.below (below_step K8 hb)))
  have CT2 := Lib.hid (fun W (hb : Below w8.heap.size w8 W) => c_theirs E dr.length cd dr W rfl (by omega) (HE.out.below (below_step K8 hb)))
  have C2 := Lib.hid (fun D nd cdd W (hb : Below w8.heap.size w8 W) (h1 : nd = l.length) (h3 : SlAt W D (prs l)) => c_rRight A t.length cap t D nd cdd l W rfl (by omega) h1 (by omega) (HA.out.below (below_step K8 hb)) h3)
  have C3 := Lib.hid (fun W (hb : Below w8.heap.size w8 W) => c_Met A7 l.length c7 l a b W rfl (by omega) (HS7.out.below hb))
  have C4 := Lib.hid (fun D nd cdd W (h1 : nd = l.length) (h3 : SlAt W D (prs l)) => c_rMet D nd cdd l a b W h1 (by omega) h3)
  have C5 := Lib.hid (fun W (hb : Below w8.heap.size w8 W) => c_Count A6 t.length c6 t A7 l.length c7 l W rfl hc6 (by omega) rfl (by omega) (HS6.out.below hb) (HS7.out.below hb))
  have C6 := Lib.hid (fun D nd cdd W (hb : Below w8.heap.size w8 W) (h1 : nd = l.length) (h3 : SlAt W D (prs l)) => c_rCount A t.length cap t D nd cdd l W rfl hcap (by omega) h1 (by omega) (HA.out.below (below_step K8 hb)) h3)
  have C7 := Lib.hid (fun W (hb : Below w8.heap.size w8 W) => c_Nth A6 t.length c6 t A7 l.length c7 l k W rfl hc6 (by omega) rfl (by omega) (HS6.out.below hb) (HS7.out.below hb))
  have C8 := Lib.hid (fun D nd cdd W (hb : Below w8.heap.size w8 W) (h1 : nd = l.length) (h3 : SlAt W D (prs l)) => c_rNth A t.length cap t D nd cdd l k W rfl hcap (by omega) h1 (by omega) (HA.out.below (below_step K8 hb)) h3)
  have C9 := Lib.hid (fun W (hb : Below w8.heap.size w8 W) => c_Number A6 t.length c6 t A7 l.length c7 l A8 dr.length c8 dr W rfl hc6 (by omega) rfl (by omega) rfl (by omega) (HS6.out.below hb) (HS7.out.below hb) (HS8.out.below hb))
  have C10 := Lib.hid (fun D nd cdd D2 nd2 cdd2 W (hb : Below w8.heap.size w8 W) (h1 : nd = l.length) (h3 : SlAt W D (prs l)) (h4 : nd2 = dr.length) (h5 : SlAt W D2 (prs dr)) => c_rNumber A t.length cap t D nd cdd l D2 nd2 cdd2 dr W rfl hcap (by omega) h1 (by omega) h4 (by omega) (HA.out.below (below_step K8 hb)) h3 h5)
  have HK1 := Lib.hid (fun W (hb : Below w8.heap.size w8 W) => c_kept A6 t.length c6 A t.length cap t A7 l.length c7 B l.length c l W rfl rfl rfl rfl (by omega) (by omega) (HS6.out.below hb) (HA.out.below (below_step K8 hb)) (HS7.out.below hb) (HB.out.below (below_step K8 hb)))
  have hd1 : decide (dr = dr) = true := decide_eq_true rfl
  have HI2 := Lib.hid (fun W (hb : Below w8.heap.size w8 W) => (show Calls Try.prog 18 #[.slice A8 dr.length c8, .slice E dr.length cd] W (Frm (.bool true) W) from (c_is A8 dr.length c8 dr E dr.length cd dr W rfl rfl (by omega) (by omega) (HS8.out.below hb) (HE.out.below (below_step K8 hb))).mono (fun _ _ hh => by rw [hd1] at hh; exact Qt.frm hh)))
  have hnl : (pNthR t l k).length ≤ 70 := by
    unfold pNthR nthR
    split
    · exact Nat.zero_le _
    · split
      · rename_i h
        cases hq : (draws l t)[k.toNat]? with
        | none => exact Nat.zero_le _
        | some d =>
          have := draws_len l _ t rfl d (List.mem_of_getElem? hq)
          show d.length ≤ 70
          omega
      · exact Nat.zero_le _
  clear hown6 hown7 hown8 hg6 hg7 hg8 hs6 hs7 hs8 B6 B7 B8 K7 hd1
  generalize pRight t l = x1 at *
  generalize pMet l a b = x2 at *
  generalize pCount t l = x3 at *
  generalize pOdd t l = x4 at *
  generalize pNthR t l k = x5 at *
  generalize pNthE t l k = x6 at *
  generalize pNum t l dr = x7 at *
  obtain ⟨x7, x8⟩ := x7
  have g1 : (x1 != x1) = false := by simp
  have g2 : (x2 != x2) = false := by simp
  have g3 : ((x3 : Int) == (x3 : Int)) = true := by simp
  have g4 : ((x4 : Int) == (x4 : Int)) = true := by simp
  have g6 : ((x6 : Int) == (x6 : Int)) = true := by simp
  have g7 : ((x7 : Int) == (x7 : Int)) = true := by simp
  have g8 : ((x8 : Int) == (x8 : Int)) = true := by simp
  refine C1.out.mono ?_
  rintro e w9 ⟨rfl, k9⟩
  go_wp2_with fail
  refine (CT.out _ k9).mono ?_
  rintro e w10 ⟨v10, rfl, hown10, k10⟩
  obtain ⟨A10, c10, rfl, _, _, hs10⟩ := own_slP hown10
  have J10 := below_step k9 k10
  have D2 := Lib.hid (C2.out A10 l.length c10 w10 J10 rfl hs10)
  clear hown10 hs10 k9 k10 C1 C2
  go_wp2_with fail
  refine D2.out.mono ?_
  rintro e w11 ⟨rfl, k11⟩
  have J11 := below_step J10 k11
  clear D2 k11 J10
  go_wp2_with fail
  refine (C3.out _ J11).mono ?_
  rintro e w12 ⟨rfl, k12⟩
  have J12 := below_step J11 k12
  clear C3 k12 J11
  go_wp2_with fail
  refine (CT.out _ J12).mono ?_
  rintro e w13 ⟨v13, rfl, hown13, k13⟩
  obtain ⟨A13, c13, rfl, _, _, hs13⟩ := own_slP hown13
  have J13 := below_step J12 k13
  have D4 := Lib.hid (C4.out A13 l.length c13 w13 rfl hs13)
  clear hown13 hs13 k13 C4 J12
  go_wp2_with fail
  refine D4.out.mono ?_
  rintro e w14 ⟨rfl, k14⟩
  have J14 := below_step J13 k14
  clear D4 k14 J13
  go_wp2_with fail
  refine (C5.out _ J14).mono ?_
  rintro e w15 ⟨rfl, k15⟩
  have J15 := below_step J14 k15
  clear C5 k15 J14
  go_wp2_with fail
  refine (CT.out _ J15).mono ?_
  rintro e w16 ⟨v16, rfl, hown16, k16⟩
  obtain ⟨A16, c16, rfl, _, _, hs16⟩ := own_slP hown16
  have J16 := below_step J15 k16
  have D6 := Lib.hid (C6.out A16 l.length c16 w16 J16 rfl hs16)
  clear hown16 hs16 k16 C6 J15
  go_wp2_with fail
  refine D6.out.mono ?_
  rintro e w17 ⟨rfl, k17⟩
  have J17 := below_step J16 k17
  clear D6 k17 J16
  go_wp2_with fail
  refine (C7.out _ J17).mono ?_
  rintro e w18 ⟨v18, rfl, hown18, k18⟩
  obtain ⟨A18, c18, rfl, _, _, hs18⟩ := own_slP hown18
  have HS18 := Lib.hid hs18
  have J18 := below_step J17 k18
  clear hown18 hs18 k18 C7 J17
  go_wp2_with fail
  refine (CT.out _ J18).mono ?_
  rintro e w19 ⟨v19, rfl, hown19, k19⟩
  obtain ⟨A19, c19, rfl, _, _, hs19⟩ := own_slP hown19
  have J19 := below_step J18 k19
  have D8 := Lib.hid (C8.out A19 l.length c19 w19 J19 rfl hs19)
  clear hown19 hs19 C8
  go_wp2_with fail
  refine D8.out.mono ?_
  rintro e w20 ⟨v20, rfl, hown20, k20⟩
  obtain ⟨A20, c20, rfl, _, _, hs20⟩ := own_slP hown20
  have HS20 := Lib.hid hs20
  have J20 := below_step J19 k20
  have P20 := below_step k19 k20
  clear hown20 hs20 D8 J18
  go_wp2_with fail
  refine (C9.out _ J20).mono ?_
  rintro e w21 ⟨rfl, k21⟩
  have J21 := below_step J20 k21
  clear C9
  go_wp2_with fail
  refine (CT.out _ J21).mono ?_
  rintro e w22 ⟨v22, rfl, hown22, k22⟩
  obtain ⟨A22, c22, rfl, _, _, hs22⟩ := own_slP hown22
  have HS22 := Lib.hid hs22
  have J22 := below_step J21 k22
  clear hown22 hs22
  go_wp2_with fail
  refine (CT2.out _ J22).mono ?_
  rintro e w23 ⟨v23, rfl, hown23, k23⟩
  obtain ⟨A23, c23, rfl, _, _, hs23⟩ := own_slP hown23
  have J23 := below_step J22 k23
  have D10 := Lib.hid (C10.out A22 l.length c22 A23 dr.length c23 w23 J23 rfl (HS22.out.below k23) rfl hs23)
  clear hown23 hs23 C10
  go_wp2_with fail
  refine D10.out.mono ?_
  rintro e w24 ⟨rfl, k24⟩
  have J24 := below_step J23 k24
  have Q24 := below_step (below_step (below_step k21 k22) k23) k24
  have P24 := below_step P20 Q24
  have HO := Lib.hid (c_ours A20 x5.length c20 x5 w24 rfl (by omega) (HS20.out.below Q24))
  clear D10
  go_wp2_with fail
  refine HO.out.mono ?_
  rintro e w25 ⟨v25, rfl, hown25, k25⟩
  obtain ⟨A25, c25, rfl, _, _, hs25⟩ := own_slP hown25
  have J25 := below_step J24 k25
  have P25 := below_step P24 k25
  have hd5 : decide (x5 = x5) = true := decide_eq_true rfl
  have HI := Lib.hid (show Calls Try.prog 18 #[.slice A18 x5.length c18, .slice A25 x5.length c25] w25 (Frm (.bool true) w25) from (c_is A18 x5.length c18 x5 A25 x5.length c25 x5 w25 rfl rfl (by omega) (by omega) (HS18.out.below P25) hs25).mono (fun _ _ hh => by rw [hd5] at hh; exact Qt.frm hh))
  clear hown25 hs25 HO hd5
  go_wp2_with fail
  refine HI.out.mono ?_
  rintro e w26 ⟨rfl, k26⟩
  have J26 := below_step J25 k26
  go_wp2_with fail
  refine (HK1.out _ J26).mono ?_
  rintro e w27 ⟨rfl, k27⟩
  have J27 := below_step J26 k27
  go_wp2_with fail
  refine (HI2.out _ J27).mono ?_
  rintro e w28 ⟨rfl, k28⟩
  go_wp2_with fail
  go_ret
  exact ⟨rfl, below_step K8 (below_step J27 k28)⟩
set_option maxRecDepth 100000 in
set_option maxHeartbeats 2000000 in
theorem c_PairingTells (A : Option Addr) (n cap : Nat) (t : List Int) (B : Option Addr) (m c : Nat) (l : List Pr) (E : Option Addr) (nd cd : Nat) (dr : List Pr) (a b k : Int) (w : World) (hn : n = t.length) (hcap : n ≤ cap) (_ : cap ≤ 9223372036854775807) (hA : SlAt w A (t.map i64)) (hm : m = l.length) (_ : m ≤ c) (_ : c ≤ 9223372036854775807) (hB : SlAt w B (prs l)) (hd : nd = dr.length) (_ : nd ≤ cd) (_ : cd ≤ 9223372036854775807) (hE : SlAt w E (prs dr))
    (_ : -9223372036854775808 ≤ a ∧ a ≤ 9223372036854775807) (_ : -9223372036854775808 ≤ b ∧ b ≤ 9223372036854775807) (_ : -9223372036854775808 ≤ k ∧ k ≤ 9223372036854775807) :
    Calls Try.prog 3 #[.slice A n cap, .slice B m c, .slice E nd cd, .int .i64 a, .int .i64 b, .int .i64 k] w (Frm (.bool true) w) := by
  have HAw := Lib.hid (fun W => c_awake W)
  have HF := Lib.hid (show Calls Try.prog 12 #[.slice A n cap, .slice B m c] w (Frm (.bool (pFew n m)) w) from (c_few A n cap B m c w).mono fun _ _ hh => Qt.frm hh)
  cases hf : pFew n m with
  | false =>
    rw [hf] at HF
    clear hf hn hm hd hA hB hE
    go_enter Try.func3, Try.ntmps3
    go_wp2_with fail
    refine HF.out.mono ?_
    rintro e w1 ⟨rfl, k1⟩
    dsimp only
    go_wp2_with fail
    refine (HAw.out _).mono ?_
    rintro e w2 ⟨rfl, k2⟩
    go_wp2_with fail
    go_ret
    exact ⟨rfl, below_step k1 k2⟩
  | true =>
    rw [hf] at HF
    by_cases hd10 : nd > 10
    · have q1 : decide ((nd : Int) > 10) = true := decide_eq_true (by omega)
      have q2 : (10 : Int) < (nd : Int) := by omega
      clear hf hn hm hd hA hB hE
      go_enter Try.func3, Try.ntmps3
      go_wp2_with fail
      refine HF.out.mono ?_
      rintro e w1 ⟨rfl, k1⟩
      dsimp only
      go_wp2_with fail
      refine (HAw.out _).mono ?_
      rintro e w2 ⟨rfl, k2⟩
      go_wp2_with fail
      go_ret
      exact ⟨rfl, below_step k1 k2⟩
    · have q1 : decide ((nd : Int) > 10) = false := decide_eq_false (by omega)
      have q2 : ¬ (10 : Int) < (nd : Int) := by omega
      have h70 : n < 70 := by
        unfold pFew at hf
        simp at hf
        omega
      have h60 : m ≤ 60 := by
        unfold pFew at hf
        simp at hf
        omega
      have HT := Lib.hid (fun W (hb : Below w.heap.size w W) => c_tells A n cap t B m c l E nd cd dr a b k W hn hcap (by omega) (hA.below hb) hm (by omega) (hB.below hb) hd (by omega) (hE.below hb))
      clear hf hn hm hd hA hB hE
      go_enter Try.func3, Try.ntmps3
      go_wp2_with fail
      refine HF.out.mono ?_
      rintro e w1 ⟨rfl, k1⟩
      dsimp only
      go_wp2_with fail
      refine (HT.out _ k1).mono ?_
      rintro e w2 ⟨rfl, k2⟩
      go_wp2_with fail
      refine (HAw.out _).mono ?_
      rintro e w3 ⟨rfl, k3⟩
      go_wp2_with fail
      go_ret
      exact ⟨rfl, below_step (below_step k1 k2) k3⟩
end Go.Proofs.Ytiedecekbdaohaa
