/- PairingWrong: the walk. -/
import Derived.Test.YtiedecekbdaohaaNamedW36
import Derived.Test.YtiedecekbdaohaaAppendS
import Derived.Test.YtiedecekbdaohaaWrong36
namespace Go.Proofs.Ytiedecekbdaohaa
open Go.RowKit

theorem bad_last {T : List Int} {x : Int} {m : List Pr} (h : numB x = false) : pRight (T ++ [x]) m = false :=
  pRight_bad (k := T.length) (x := x) (by simp) (fun hh => by rw [h] at hh; cases hh.1)
theorem bad_565 {m : List Pr} : pRight [5, 6, 5] m = false := pRight_bad (k := 2) (x := 5) rfl (fun hh => hh.2 (by simp))
structure BadOk (b : List Int) (m : List Pr) : Prop where
  r : pRight b m = false
  odd : pOdd b m = 2
  cnt : pCount b m = 0
  nthE : ∀ k, pNthE b m k = 2
  nthR : ∀ k, pNthR b m k = []
  num : ∀ d, pNum b m d = (0, 2)
  draw : ∀ y, pDraw b m y = ([], 0, 2)
theorem bad_all {b : List Int} {m : List Pr} (h : pRight b m = false) : BadOk b m := by
  have hw : pWrong b m = 2 := by unfold pWrong; rw [if_pos h]
  have ho := pOdd_wrong (t := b) (m := m) (by rw [hw]; omega)
  rw [hw] at ho
  refine ⟨h, ho.1, ho.2, fun k => ?_, fun k => ?_, fun d => ?_, fun y => ?_⟩
  · unfold pNthE; rw [ho.1, if_pos (by omega)]
  · unfold pNthR; rw [ho.1, if_pos (by omega)]
  · unfold pNum; rw [ho.1, if_pos (by omega)]
  · unfold pDraw; rw [hw, if_pos (by omega)]

theorem bad_met {t : List Int} {p : Pr} (h : pairBad p = true) : pRight t [p] = false := by
  unfold pRight
  rw [show [p].any pairBad = true from by simp [h]]
  simp
theorem odd3 : pOdd [3] [] = 360 ∧ pCount [3] [] = 0 ∧ pNthE [3] [] 0 = 360 ∧ pNthR [3] [] 0 = [] ∧ pNum [3] [] [] = (0, 360) := by decide +kernel

theorem k4 {w w' : World} {bd o1 o2 o3 o4 : Nat} {v1 v2 v3 v4 : Value} (f : ∀ o v, w.cell? ⟨bd, o, none⟩ = some v → w'.cell? ⟨bd, o, none⟩ = some v)
    (h : w.cell? ⟨bd, o1, none⟩ = some v1 ∧ w.cell? ⟨bd, o2, none⟩ = some v2 ∧ w.cell? ⟨bd, o3, none⟩ = some v3 ∧ w.cell? ⟨bd, o4, none⟩ = some v4) :
    w'.cell? ⟨bd, o1, none⟩ = some v1 ∧ w'.cell? ⟨bd, o2, none⟩ = some v2 ∧ w'.cell? ⟨bd, o3, none⟩ = some v3 ∧ w'.cell? ⟨bd, o4, none⟩ = some v4 :=
  ⟨f _ _ h.1, f _ _ h.2.1, f _ _ h.2.2.1, f _ _ h.2.2.2⟩
theorem SlAt.dropAt {w : World} {b o k : Nat} {xs : List Value} (h : SlAt w (some ⟨b, o, none⟩) xs) : SlAt w (some ⟨b, o + k, none⟩) (xs.drop k) := by
  intro hl
  obtain ⟨b', o', e, hb, hc⟩ := h (by simp at hl; omega)
  injection e with e
  injection e with e1 e2
  subst e1 e2
  refine ⟨b, o + k, rfl, hb, fun i v hv => ?_⟩
  rw [List.getElem?_drop] at hv
  have := hc (k + i) v hv
  rwa [show o + k + i = o + (k + i) from by omega]

set_option maxRecDepth 100000 in
set_option maxHeartbeats 4000000 in
theorem c_PairingWrong (A : Option Addr) (n cap : Nat) (l : List Nat) (bt : Nat) (x : Int) (w : World) (hn : n = l.length) (hcap : n ≤ cap) (hc : cap ≤ 9223372036854775807) (hA : SlAt w A (l.map u8)) (h8 : ∀ x ∈ l, x < 256) (hbt : bt < 2 ^ 64) (hx : -9223372036854775808 ≤ x ∧ x ≤ 9223372036854775807) :
    Calls Try.prog 11 #[.slice A n cap, .int .u64 bt, .int .i64 x] w (Frm (.bool true) w) := by
  obtain ⟨i0, hi, hz0, hz1, hz2⟩ := info_parts info_i64
  obtain ⟨j0, ji, jz0, jz1, jz2⟩ := info_parts info_pr
  have HMd := Lib.hid (c_Made A n cap l bt 8 w hn (by omega) h8 hbt (by omega) hA)
  clear hA h8 hn
  go_enter Try.func11, Try.ntmps11
  go_wp2_with fail
  refine HMd.out.mono ?_
  rintro e w1 ⟨tv, mv, t, ps, rfl, hown, hownP, hT, htl, hM, hpl, k1⟩
  obtain ⟨A1, c1, rfl, hc1, _, hs1⟩ := own_slI hown
  obtain ⟨A2, c2, rfl, hc2, _, hs2⟩ := own_slP hownP
  obtain ⟨T, hTe⟩ : ∃ T, T = t.take (t.length / 2 * 2) := ⟨_, rfl⟩
  have hTl : T.length = t.length / 2 * 2 := by rw [hTe, List.length_take]; omega
  have HT : Hid (TeamsOk T) := by rw [hTe]; exact teams_sub hT (List.take_sublist ..)
  have HM := Lib.hid (numOk_of hT hM)
  have HS1 : Hid (SlAt w1 A1 (T.map i64)) := by rw [hTe, List.map_take]; exact hs1.take _
  have HS2 := Lib.hid hs2
  have hTc : T.length ≤ c1 := by omega
  have hT8 : T.length ≤ 8 := by omega
  have hTv : T.length % 2 = 0 := by omega
  have HAw := Lib.hid (fun W => c_awake W)
  have q1 : (t.length : Int) / 2 * 2 = (T.length : Int) := by omega
  have q2 : t.length / 2 * 2 = T.length := by omega
  clear hown hownP hT hM hs1 hs2 HMd hTe hTl
  dsimp only
  have H1c := Lib.hid (i64_one T)
  obtain ⟨x0, hx0⟩ : ∃ x0, (if 0 < x then 0 else x) = x0 := ⟨_, rfl⟩
  obtain ⟨x1, hx1⟩ : ∃ x1, (if x < 65 then 65 else x) = x1 := ⟨_, rfl⟩
  have h0 : x0 ≤ 0 := by rw [← hx0]; split <;> omega
  have h65 : 65 ≤ x1 := by rw [← hx1]; split <;> omega
  case' _ =>
    go_wp2_with (first
      | (at_builtin; refine wpList_append_sl rfl (.tmp 52) (.tmp 53) 22 rfl w1.heap.size 3 i0 (.int .i64 0) 8 Try.underlying22 hi hz0 hz1 hz2 rfl _ 0 [] rfl (own_empty _ (Nat.le_refl _)) A1 T.length c1 (T.map i64) rfl (by simp) (HS1.out.alloc _) H1c.out (by unfold maxLen; omega) (by omega) (by simp) ?_; intro v2 w2 hown2 hg2 _; have B2 := ((Below.refl w1.heap.size w1).alloc (Nat.le_refl _) (.cells #[] 3)).grown hg2 (by simp) (own_block (Nat.le_refl _)); have hz2' := B2.size)
      | (at_builtin; refine wpList_append_sl rfl (.tmp 54) (.tmp 57) 22 rfl w1.heap.size 3 i0 (.int .i64 0) 8 Try.underlying22 hi hz0 hz1 hz2 rfl v2 (0 + T.length) ([] ++ T.map i64) rfl (hown2.alloc _) (some ⟨w2.heap.size, 0, none⟩) 1 1 [.int .i64 _] rfl rfl (sl_one _ _ _) (by simp [Value.oneCell']) (by unfold maxLen; omega) (by omega) (by simp; omega) ?_; intro v3 w3 hown3 hg3 _; have B3 := (B2.alloc hz2' _).grown hg3 (by simp; omega) (own_base hown2); have hz3' := B3.size; obtain ⟨A3, c3, e3, hc3, _, hs3⟩ := own_slI hown3; subst e3; rw [Nat.zero_add])
      | (at_builtin; refine wpList_append_sl rfl (.tmp 59) (.tmp 60) 22 rfl w3.heap.size 3 i0 (.int .i64 0) 8 Try.underlying22 hi hz0 hz1 hz2 rfl _ 0 [] rfl (own_empty _ (Nat.le_refl _)) A1 T.length c1 (T.map i64) rfl (by simp) ((HS1.out.below B3).alloc _) H1c.out (by unfold maxLen; omega) (by omega) (by simp) ?_; intro v4 w4 hown4 hg4 _; have B4 := ((Below.refl w3.heap.size w3).alloc (Nat.le_refl _) (.cells #[] 3)).grown hg4 (by simp) (own_block (Nat.le_refl _)); have hz4' := B4.size)
      | (at_builtin; refine wpList_append_sl rfl (.tmp 61) (.tmp 64) 22 rfl w3.heap.size 3 i0 (.int .i64 0) 8 Try.underlying22 hi hz0 hz1 hz2 rfl v4 (0 + T.length) ([] ++ T.map i64) rfl (hown4.alloc _) (some ⟨w4.heap.size, 0, none⟩) 1 1 [.int .i64 _] rfl rfl (sl_one _ _ _) (by simp [Value.oneCell']) (by unfold maxLen; omega) (by omega) (by simp; omega) ?_; intro v5 w5 hown5 hg5 _; have B5 := (B4.alloc hz4' _).grown hg5 (by simp; omega) (own_base hown4); have hz5' := B5.size; obtain ⟨A5, c5, e5, hc5, _, hs5⟩ := own_slI hown5; subst e5; rw [Nat.zero_add]))
    have K3 : Below w1.heap.size w1 w3 := B3
    have K5 := below_step K3 B5
    have hS3 : SlAt w3 A3 ((T ++ [x0]).map i64) := by rw [List.map_append]; exact hs3
    have hS5 : SlAt w5 A5 ((T ++ [x1]).map i64) := by rw [List.map_append]; exact hs5
    have hB0 := bad_all (bad_last (T := T) (m := ps) (x := x0) (decide_eq_false (by omega)))
    have hB1 := bad_all (bad_last (T := T) (m := ps) (x := x1) (decide_eq_false (by omega)))
    have hB2 := bad_all (bad_565 (m := ps))
    have BB := ((Below.refl w5.heap.size w5).alloc (Nat.le_refl _) (.cells #[Value.int .i64 5, .int .i64 6, .int .i64 5] 3)).alloc (by simp) (.cells #[Value.slice A3 (T.length + 1) c3, .slice A5 (T.length + 1) c5, .slice (some ⟨w5.heap.size, 0, none⟩) 3 3] 22)
    have hS7 : SlAt ((w5.alloc (.cells #[Value.int .i64 5, .int .i64 6, .int .i64 5] 3)).alloc (.cells #[Value.slice A3 (T.length + 1) c3, .slice A5 (T.length + 1) c5, .slice (some ⟨w5.heap.size, 0, none⟩) 3 3] 22)) (some ⟨w5.heap.size, 0, none⟩) (([5, 6, 5] : List Int).map i64) := (sl_litN w5 3 [.int .i64 5, .int .i64 6, .int .i64 5]).alloc _
    have hO := sl_litG (w5.alloc (.cells #[Value.int .i64 5, .int .i64 6, .int .i64 5] 3)) (w5.heap.size + 1) 22 [Value.slice A3 (T.length + 1) c3, .slice A5 (T.length + 1) c5, .slice (some ⟨w5.heap.size, 0, none⟩) 3 3] (by simp)
    have hS3' := (hS3.below B5).below BB
    have hS5' := hS5.below BB
    have KB := below_step K5 BB
    have hgO : w5.heap.size + 1 < ((w5.alloc (.cells #[Value.int .i64 5, .int .i64 6, .int .i64 5] 3)).alloc (.cells #[Value.slice A3 (T.length + 1) c3, .slice A5 (T.length + 1) c5, .slice (some ⟨w5.heap.size, 0, none⟩) 3 3] 22)).heap.size := by simp
    generalize (w5.alloc (.cells #[Value.int .i64 5, .int .i64 6, .int .i64 5] 3)).alloc (.cells #[Value.slice A3 (T.length + 1) c3, .slice A5 (T.length + 1) c5, .slice (some ⟨w5.heap.size, 0, none⟩) 3 3] 22) = w6 at *
    obtain ⟨bO, oO, eO, _, hOc⟩ := hO (by simp)
    injection eO with eO
    injection eO with eO1 eO2
    subst eO1 eO2
    have HBad : Hid (∀ i : Nat, i < 3 → ∃ b A n c, w6.cell? ⟨w5.heap.size + 1, i, none⟩ = some (.slice A n c) ∧ n = b.length ∧ n ≤ c ∧ n ≤ 9 ∧ SlAt w6 A (b.map i64) ∧ BadOk b ps) := by
      intro i hi3
      have hc := hOc i
      rw [Nat.zero_add] at hc
      rcases i with _ | _ | _ | i
      · exact ⟨_, _, _, _, hc _ rfl, by simp, by omega, by omega, hS3', hB0⟩
      · exact ⟨_, _, _, _, hc _ rfl, by simp, by omega, by omega, hS5', hB1⟩
      · exact ⟨_, _, _, _, hc _ rfl, rfl, by omega, by omega, hS7, hB2⟩
      · omega
    clear hS3 hS5 hS3' hS5' hS7 hB0 hB1 hB2 hOc hs3 hs5 hown2 hown3 hown4 hown5 hg2 hg3 hg4 hg5 B2 B3 B4 B5 K3 BB hc3 hc5
    generalize w5.heap.size + 1 = gO at *
    have HS1' := Lib.hid (HS1.out.below KB)
    have HS2' := Lib.hid (HS2.out.below KB)
    go_loopw [10, 11, 12, 13, 14, 15, 16, 17, 18, 19, 69] (fun _ _ _ _ _ _ _ _ _ _ iv wr => ∃ i : Nat, i ≤ 3 ∧ iv = .int .i64 i ∧ Below w6.heap.size w6 wr) (fun _ _ _ _ _ _ _ _ _ _ iv _ => 3 - (intOf iv).toNat)
    case atStart => exact ⟨0, by omega, rfl, Below.refl _ _⟩
    case round =>
      obtain ⟨i, hi3, rfl, C0⟩ := hrel
      by_cases hlt : i < 3
      · obtain ⟨b, A, nn, cc, hcell, hn, hnc, hn9, hsl, hbad⟩ := HBad.out i hlt
        have hcell' := (C0.cell (p := ⟨gO, i, none⟩) hgO).trans hcell
        have hbl : b.length ≤ 9 := by omega
        have HC1 := Lib.hid (fun W (hb : Below w6.heap.size w6 W) => c_Count A nn cc b A2 ps.length c2 ps W hn hnc (by omega) rfl (by omega) (hsl.below hb) (HS2'.out.below hb))
        have HC2 := Lib.hid (fun W (hb : Below w6.heap.size w6 W) => c_Nth A nn cc b A2 ps.length c2 ps 0 W hn hnc (by omega) rfl (by omega) (hsl.below hb) (HS2'.out.below hb))
        have HC3 := Lib.hid (fun W (hb : Below w6.heap.size w6 W) => c_Number A nn cc b A2 ps.length c2 ps none 0 0 [] W hn hnc (by omega) rfl (by omega) rfl (by simp) (hsl.below hb) (HS2'.out.below hb) SlAt.nil_)
        have HC4 := Lib.hid (fun W (hb : Below w6.heap.size w6 W) => c_Draw A nn cc b A2 ps.length c2 ps none 0 0 [] W hn hnc (by omega) rfl (by omega) rfl (by simp) (hsl.below hb) (HS2'.out.below hb) SlAt.nil_)
        have HC5 := Lib.hid (fun W (hb : Below w6.heap.size w6 W) => c_Right A nn cc b A2 ps.length c2 ps W hn hnc (by omega) rfl (by omega) (hsl.below hb) (HS2'.out.below hb))
        rw [hbad.odd, hbad.cnt] at HC1
        rw [hbad.nthR, hbad.nthE] at HC2
        rw [hbad.num] at HC3
        rw [hbad.draw] at HC4
        rw [hbad.r] at HC5
        have s1 : (0 : Int) ≤ (i : Int) := by omega
        have s2 : (i : Int) < 3 := by omega
        clear hcell hsl hbad hn
        go_wp2_with fail
        refine (HC1.out _ C0).mono ?_
        rintro e w7 ⟨rfl, k7⟩
        have C1 := below_step C0 k7
        go_wp2_with fail
        refine (HC2.out _ C1).mono ?_
        rintro e w8 ⟨v8, rfl, hown8, k8⟩
        have C2 := below_step C1 k8
        clear hown8
        go_wp2_with fail
        refine (HC3.out _ C2).mono ?_
        rintro e w9 ⟨rfl, k9⟩
        have C3 := below_step C2 k9
        go_wp2_with fail
        refine (HC4.out _ C3).mono ?_
        rintro e w10 ⟨v10, rfl, hown10, k10⟩
        have C4 := below_step C3 k10
        clear hown10
        go_wp2_with fail
        refine (HC5.out _ C4).mono ?_
        rintro e w11 ⟨rfl, k11⟩
        have C5 := below_step C4 k11
        go_wp2_with fail
        go_roundw
        case rel => exact ⟨i + 1, by omega, by go_num, C5⟩
        case measure => simp [intOf]; omega
      · obtain rfl : i = 3 := by omega
        rw [show ((3 : Nat) : Int) = 3 from rfl]
        obtain ⟨wa, rfl⟩ : ∃ wa, wa = wr := ⟨_, rfl⟩
        go_wp2_with fail
        have hq0 := (((sl_litG wa wa.heap.size 39 [.int .i64 3, .int .i64 3] rfl).alloc (.cells #[.int .i64 x1, .int .i64 1] 39)).alloc (.cells #[.int .i64 1, .int .i64 x0] 39)).alloc (.cells #[.slice (some ⟨wa.heap.size, 0, none⟩) 1 1, .slice (some ⟨wa.heap.size + 1, 0, none⟩) 1 1, .slice (some ⟨wa.heap.size + 1 + 1, 0, none⟩) 1 1] 23)
        have hq1 := ((sl_litG (wa.alloc (.cells #[.int .i64 3, .int .i64 3] 39)) (wa.heap.size + 1) 39 [.int .i64 x1, .int .i64 1] (by simp)).alloc (.cells #[.int .i64 1, .int .i64 x0] 39)).alloc (.cells #[.slice (some ⟨wa.heap.size, 0, none⟩) 1 1, .slice (some ⟨wa.heap.size + 1, 0, none⟩) 1 1, .slice (some ⟨wa.heap.size + 1 + 1, 0, none⟩) 1 1] 23)
        have hq2 := (sl_litG ((wa.alloc (.cells #[.int .i64 3, .int .i64 3] 39)).alloc (.cells #[.int .i64 x1, .int .i64 1] 39)) (wa.heap.size + 1 + 1) 39 [.int .i64 1, .int .i64 x0] (by simp)).alloc (.cells #[.slice (some ⟨wa.heap.size, 0, none⟩) 1 1, .slice (some ⟨wa.heap.size + 1, 0, none⟩) 1 1, .slice (some ⟨wa.heap.size + 1 + 1, 0, none⟩) 1 1] 23)
        have hqO := sl_litG (((wa.alloc (.cells #[.int .i64 3, .int .i64 3] 39)).alloc (.cells #[.int .i64 x1, .int .i64 1] 39)).alloc (.cells #[.int .i64 1, .int .i64 x0] 39)) (wa.heap.size + 1 + 1 + 1) 23 [.slice (some ⟨wa.heap.size, 0, none⟩) 1 1, .slice (some ⟨wa.heap.size + 1, 0, none⟩) 1 1, .slice (some ⟨wa.heap.size + 1 + 1, 0, none⟩) 1 1] (by simp)
        have BQ := ((((Below.refl wa.heap.size wa).alloc (Nat.le_refl _) (.cells #[.int .i64 3, .int .i64 3] 39)).alloc (by simp) (.cells #[.int .i64 x1, .int .i64 1] 39)).alloc (by simp; omega) (.cells #[.int .i64 1, .int .i64 x0] 39)).alloc (by simp; omega) (.cells #[.slice (some ⟨wa.heap.size, 0, none⟩) 1 1, .slice (some ⟨wa.heap.size + 1, 0, none⟩) 1 1, .slice (some ⟨wa.heap.size + 1 + 1, 0, none⟩) 1 1] 23)
        have hgQ : wa.heap.size + 1 + 1 + 1 < ((((wa.alloc (.cells #[.int .i64 3, .int .i64 3] 39)).alloc (.cells #[.int .i64 x1, .int .i64 1] 39)).alloc (.cells #[.int .i64 1, .int .i64 x0] 39)).alloc (.cells #[.slice (some ⟨wa.heap.size, 0, none⟩) 1 1, .slice (some ⟨wa.heap.size + 1, 0, none⟩) 1 1, .slice (some ⟨wa.heap.size + 1 + 1, 0, none⟩) 1 1] 23)).heap.size := by simp
        generalize (((wa.alloc (.cells #[.int .i64 3, .int .i64 3] 39)).alloc (.cells #[.int .i64 x1, .int .i64 1] 39)).alloc (.cells #[.int .i64 1, .int .i64 x0] 39)).alloc (.cells #[.slice (some ⟨wa.heap.size, 0, none⟩) 1 1, .slice (some ⟨wa.heap.size + 1, 0, none⟩) 1 1, .slice (some ⟨wa.heap.size + 1 + 1, 0, none⟩) 1 1] 23) = wq at *
        obtain ⟨bQ, oQ, eQ, _, hQc⟩ := hqO (by simp)
        injection eQ with eQ
        injection eQ with eQ1 eQ2
        subst eQ1 eQ2
        have HBadQ : Hid (∀ i : Nat, i < 3 → ∃ (p : Pr) (A : Option Addr), wq.cell? ⟨wa.heap.size + 1 + 1 + 1, i, none⟩ = some (.slice A 1 1) ∧ SlAt wq A (prs [p]) ∧ BadOk T [p]) := by
          intro i hi3
          have hc := hQc i
          rw [Nat.zero_add] at hc
          rcases i with _ | _ | _ | i
          · exact ⟨(3, 3), _, hc _ rfl, hq0, bad_all (bad_met rfl)⟩
          · exact ⟨(x1, 1), _, hc _ rfl, hq1, bad_all (bad_met (by unfold pairBad; rw [show numB (x1, (1 : Int)).1 = false from decide_eq_false (by dsimp only; omega)]; rfl))⟩
          · exact ⟨(1, x0), _, hc _ rfl, hq2, bad_all (bad_met (by unfold pairBad; rw [show numB ((1 : Int), x0).2 = false from decide_eq_false (by dsimp only; omega)]; rfl))⟩
          · omega
        have CQ := below_step C0 BQ
        clear hq0 hq1 hq2 hQc BQ hx0 hx1
        generalize wa.heap.size + 1 + 1 + 1 = gQ at *
        have HS1q := Lib.hid (HS1'.out.below CQ)
        go_loopw [21, 22, 23, 133] (fun _ _ _ iv wr => ∃ i : Nat, i ≤ 3 ∧ iv = .int .i64 i ∧ Below wq.heap.size wq wr) (fun _ _ _ iv _ => 3 - (intOf iv).toNat)
        case atStart => exact ⟨0, by omega, rfl, Below.refl _ _⟩
        case round =>
          obtain ⟨i, hi3, rfl, D0⟩ := hrel
          by_cases hlt : i < 3
          · obtain ⟨p, A, hcell, hsl, hbad⟩ := HBadQ.out i hlt
            have hcell' := (D0.cell (p := ⟨gQ, i, none⟩) hgQ).trans hcell
            have HC1 := Lib.hid (fun W (hb : Below wq.heap.size wq W) => c_Count A1 T.length c1 T A 1 1 [p] W rfl hTc (by omega) rfl (by simp) (HS1q.out.below hb) (hsl.below hb))
            have HC2 := Lib.hid (fun W (hb : Below wq.heap.size wq W) => c_Right A1 T.length c1 T A 1 1 [p] W rfl hTc (by omega) rfl (by simp) (HS1q.out.below hb) (hsl.below hb))
            rw [hbad.odd, hbad.cnt] at HC1
            rw [hbad.r] at HC2
            have s1 : (0 : Int) ≤ (i : Int) := by omega
            have s2 : (i : Int) < 3 := by omega
            clear hcell hsl hbad
            go_wp2_with fail
            refine (HC1.out _ D0).mono ?_
            rintro e w7 ⟨rfl, k7⟩
            have D1 := below_step D0 k7
            go_wp2_with fail
            refine (HC2.out _ D1).mono ?_
            rintro e w8 ⟨rfl, k8⟩
            have D2 := below_step D1 k8
            go_wp2_with fail
            go_roundw
            case rel => exact ⟨i + 1, by omega, by go_num, D2⟩
            case measure => simp [intOf]; omega
          · obtain rfl : i = 3 := by omega
            rw [show ((3 : Nat) : Int) = 3 from rfl]
            obtain ⟨wb, rfl⟩ : ∃ wb, wb = wr := ⟨_, rfl⟩
            obtain ⟨o1, o2, o3, o4, o5⟩ := odd3
            obtain ⟨g1, g2, g3⟩ := wrong_draw HT.out (by omega) hTv
            have G3 := Lib.hid g3
            have T1 := Lib.hid (fun W => c_Count (some ⟨W.heap.size, 0, none⟩) 1 1 [3] none 0 0 [] (W.alloc (.cells #[.int .i64 3] 3)) rfl (by omega) (by simp) rfl (by simp) (sl_litN W 3 [.int .i64 3]) SlAt.nil_)
            have T2 := Lib.hid (fun W => c_Nth (some ⟨W.heap.size, 0, none⟩) 1 1 [3] none 0 0 [] 0 (W.alloc (.cells #[.int .i64 3] 3)) rfl (by omega) (by simp) rfl (by simp) (sl_litN W 3 [.int .i64 3]) SlAt.nil_)
            have T3 := Lib.hid (fun W => c_Number (some ⟨W.heap.size, 0, none⟩) 1 1 [3] none 0 0 [] none 0 0 [] (W.alloc (.cells #[.int .i64 3] 3)) rfl (by omega) (by simp) rfl (by simp) rfl (by simp) (sl_litN W 3 [.int .i64 3]) SlAt.nil_ SlAt.nil_)
            rw [o1, o2] at T1
            rw [o3, o4] at T2
            rw [o5] at T3
            have HN4 := Lib.hid (fun W (hb : Below wq.heap.size wq W) => c_Nth A1 T.length c1 T none 0 0 [] 0 W rfl hTc (by omega) rfl (by simp) (HS1q.out.below hb) SlAt.nil_)
            rw [g1] at HN4
            have hd8 : (pNthR T [] 0).length ≤ 4 := by omega
            have hdT : (pNthR T [] 0).length = T.length / 2 := by omega
            generalize pNthR T [] 0 = d at *
            clear o1 o2 o3 o4 o5 g1 g2 g3
            go_wp2_with fail
            have E0 := D0.alloc D0.size (.cells #[.int .i64 3] 3)
            refine (T1.out wb).mono ?_
            rintro e w7 ⟨rfl, k7⟩
            have E1 := below_step E0 k7
            go_wp2_with fail
            have E2 := E1.alloc E1.size (.cells #[.int .i64 3] 3)
            refine (T2.out w7).mono ?_
            rintro e w8 ⟨v8, rfl, hown8, k8⟩
            have E3 := below_step E2 k8
            clear hown8
            go_wp2_with fail
            have E4 := E3.alloc E3.size (.cells #[.int .i64 3] 3)
            refine (T3.out w8).mono ?_
            rintro e w9 ⟨rfl, k9⟩
            have E5 := below_step E4 k9
            clear E0 E1 E2 E3 E4 k7 k8 k9 D0 T1 T2 T3
            go_wp2_with fail
            refine (HN4.out _ E5).mono ?_
            rintro e w10 ⟨v10, rfl, hown10, k10⟩
            obtain ⟨Ad, cd, rfl, hcd, _, hsd⟩ := own_slP hown10
            have E6 := below_step E5 k10
            have HSd := Lib.hid hsd
            clear hown10 hsd k10 HN4
            have hq : ((d.length : Int) != (T.length : Int) / 2) = false := by simp; omega
            clear hdT
            by_cases hd2 : d.length ≤ 1
            · have q3 : ¬ (1 : Int) < (d.length : Int) := by omega
              go_wp2_with fail
              refine (HAw.out _).mono ?_
              rintro e w11 ⟨rfl, k11⟩
              go_wp2_with fail
              go_ret
              exact ⟨rfl, below_step k1 (below_step KB (below_step (below_step CQ E6) k11))⟩
            · have q3 : (1 : Int) < (d.length : Int) := by omega
              obtain ⟨pa, pb, r, hd⟩ : ∃ pa pb r, d = pa :: pb :: r := by
                match d, hd2 with
                | [], h => exact absurd (Nat.zero_le _) h
                | [_], h => exact absurd (Nat.le_refl _) h
                | pa :: pb :: r, _ => exact ⟨pa, pb, r, rfl⟩
              have hw4 := G3.out pa pb r hd
              obtain ⟨bd, od, rfl, hbd, hcs⟩ := HSd.out.pr_all (by omega)
              have hx0' : d[0]? = some pa := by rw [hd]; rfl
              have hx1' : d[1]? = some pb := by rw [hd]; rfl
              have Hd := Lib.hid hd
              have hS1 : SlAt w10 (some ⟨bd, od + 2, none⟩) (prs (pb :: r)) := by
                have := HSd.out.dropAt (k := 2)
                rw [hd] at this
                exact this
              have HSd1 := Lib.hid hS1
              have hlr : d.length = r.length + 2 := by rw [hd]; simp
              have HN1 := Lib.hid (fun W (hb : Below w10.heap.size w10 W) => c_Number A1 T.length c1 T none 0 0 [] (some ⟨bd, od + 2, none⟩) (d.length - 1) (cd - 1) (pb :: r) W rfl hTc (by omega) rfl (by simp) (by simp only [List.length_cons]; omega) (by simp only [List.length_cons]; omega) (HS1q.out.below (below_step E6 hb)) SlAt.nil_ (HSd1.out.below hb))
              rw [hw4.n1] at HN1
              clear hd hS1 hlr
              go_wp2_with fail
              refine (HN1.out _ (Below.refl _ _)).mono ?_
              rintro e w11 ⟨rfl, k11⟩
              rw [show ((0 : Nat) : Int) = 0 from rfl, show ((6 : Nat) : Int) = 6 from rfl]
              obtain ⟨a1, a2⟩ := pa
              obtain ⟨b1, b2⟩ := pb
              have ca1 := (hcs 0 _ hx0').1
              have ca2 := (hcs 0 _ hx0').2
              have cb1 := (hcs 1 _ hx1').1
              have cb2 := (hcs 1 _ hx1').2
              dsimp only at ca1 ca2 cb1 cb2
              rw [Nat.zero_mul, Nat.add_zero] at ca1 ca2
              rw [Nat.one_mul] at cb1 cb2
              have ea1 := (k11.cell (p := ⟨bd, od, none⟩) hbd).trans ca1
              have ea2 := (k11.cell (p := ⟨bd, od + 1, none⟩) hbd).trans ca2
              have eb1 := (k11.cell (p := ⟨bd, od + 2, none⟩) hbd).trans cb1
              have eb2 := (k11.cell (p := ⟨bd, od + 2 + 1, none⟩) hbd).trans cb2
              clear hcs hx0' hx1'
              have S0 : w11.drew.cell? ⟨bd, od, none⟩ = some (.int .i64 a1) ∧ w11.drew.cell? ⟨bd, od + 1, none⟩ = some (.int .i64 a2) ∧ w11.drew.cell? ⟨bd, od + 2, none⟩ = some (.int .i64 b1) ∧ w11.drew.cell? ⟨bd, od + 2 + 1, none⟩ = some (.int .i64 b2) := ⟨ea1, ea2, eb1, eb2⟩
              have hbd11 : bd < w11.heap.size := Nat.lt_of_lt_of_le hbd k11.size
              have HR := Lib.hid (show r.length = d.length - 2 from by rw [Hd.out]; simp)
              have hr8 : r.length ≤ 4 := by rw [HR.out]; omega
              have HSr : Hid (SlAt w10 (if cd = 2 then some ⟨bd, od, none⟩ else some ⟨bd, od + 4, none⟩) (prs r)) := by
                show SlAt w10 _ _
                split
                · have hr0 : r = [] := List.eq_nil_of_length_eq_zero (by rw [HR.out]; omega)
                  rw [hr0]
                  exact SlAt.nil_
                · have := HSd.out.dropAt (k := 4)
                  rw [Hd.out] at this
                  exact this
              have HNu := Lib.hid (fun D nd cdd dr W (hb : Below wq.heap.size wq W) (h1 : nd = dr.length) (h2 : dr.length ≤ 2 ^ 47) (h3 : SlAt W D (prs dr)) => c_Number A1 T.length c1 T none 0 0 [] D nd cdd dr W rfl hTc (by omega) rfl (by simp) h1 h2 (HS1q.out.below hb) SlAt.nil_ h3)
              have F11 := below_step E6 k11
              have t1 : d.length ≤ cd := hcd
              have t2 : 2 ≤ d.length := by omega
              have t3 : (2 : Int) ≤ (d.length : Int) := by omega
              have t4 : 0 < d.length := by omega
              have t5 : 1 < d.length := by omega
              have t6 : (0 : Int) < (d.length : Int) := by omega
              have t7 : (1 : Int) ≤ (d.length : Int) := by omega
              have t8 : (d.length : Int) ≤ (cd : Int) := by omega
              have t9 : (1 : Int) ≤ (cd : Int) := by omega
              have t10 : ¬ cd = 1 := by omega
              clear ca1 ca2 cb1 cb2 ea1 ea2 eb1 eb2
              go_wp2_with fail
              go_region_held3 (fun W => W.cell? ⟨bd, od, none⟩ = some (.int .i64 a1) ∧ W.cell? ⟨bd, od + 1, none⟩ = some (.int .i64 a2) ∧ W.cell? ⟨bd, od + 2, none⟩ = some (.int .i64 b1) ∧ W.cell? ⟨bd, od + 2 + 1, none⟩ = some (.int .i64 b2)) (first | assumption | exact k4 (fun _ _ h => cell_keep_alloc _ h) (by assumption))
                ((first
                  | (refine step_append_slS (by rfl) (.tmp 211) (.tmp 213) 23 (by rfl) w11.heap.size 39 j0 _ 2 16 Try.underlying23 ji jz0 jz1 jz2 (by rfl) (by omega) (.slice (some ⟨_, 0, none⟩) 2 2) 2 [.int .i64 b1, .int .i64 b2, .int .i64 a1, .int .i64 a2] (by rfl) ?_ _ _ _ (prs r) (by rfl) ?_ ?_ ?_ ?_ ?_ ?_ ?_;
                      (exact (World.ownsRow_lit w11 #[.int .i64 b1, .int .i64 b2, .int .i64 a1, .int .i64 a2] 2 (size := 2) (Nat.le_refl _) (by unfold maxLen; omega) rfl).drew); (rw [prs_len, HR.out]; omega); (exact ((HSr.out.below k11).alloc _).drew); (exact prs_one); (unfold maxLen; omega); (omega); (simp); intro v12 w12 hown12 hg12 _;
                      obtain ⟨A12, c12, e12, hc12, _, hs12⟩ := own_slP hown12; subst e12;
                      have F12 := ((below_dr (F11.alloc F11.size (.cells #[.int .i64 b1, .int .i64 b2, .int .i64 a1, .int .i64 a2] 39)))).grown hg12 (by have := F11.size; simp; omega) (own_block F11.size);
                      have S12 := k4 (fun o v h => hg12.cell h (fun e => absurd (show bd = w11.heap.size from by injection e) (by omega))) (k4 (fun _ _ h => cell_keep_alloc (w := w11) (.cells #[.int .i64 b1, .int .i64 b2, .int .i64 a1, .int .i64 a2] 39) h) S0))
                  | (go_at_call 22; refine (HNu.out A12 _ c12 ((b1, b2) :: (a1, a2) :: r) w12 F12 ?_ ?_ hs12).mono ?_; (simp only [List.length_cons]; rw [HR.out]; omega); (simp only [List.length_cons]; omega); rw [hw4.n2]; rintro e w13 ⟨rfl, k13⟩; dsimp only; rw [show ((0 : Nat) : Int) = 0 from rfl, show ((6 : Nat) : Int) = 6 from rfl]; have F13 := below_step F12 k13; have S13 := k4 (fun o v h => (k13.cell (p := ⟨bd, o, none⟩) (World.block_lt_of_cell? _ _ h)).trans h) S12)))
              clear HSr
              generalize (if cd = 2 then some (⟨bd, od, none⟩ : Addr) else some ⟨bd, od + 4, none⟩) = Adead at *
              have HM11 := Lib.hid (below_step k11 (((below_dr ((Below.refl w11.heap.size w11).alloc (Nat.le_refl _) (.cells #[.int .i64 b1, .int .i64 b2, .int .i64 a1, .int .i64 a2] 39))).grown hg12 (by simp) (own_block (Nat.le_refl _)))))
              have HM13 := Lib.hid (below_step HM11.out k13)
              have HSd13 := Lib.hid (HSd.out.below HM13.out)
              have HSe13 := Lib.hid (HSd1.out.below HM13.out)
              have hbd13 : bd < w13.heap.size := World.block_lt_of_cell? _ _ S13.1
              clear hg12 hown12 hs12 S12 S0 k13 HM11 HM13
              have Z0 : w13.drew.cell? ⟨bd, od, none⟩ = some (.int .i64 a1) ∧ w13.drew.cell? ⟨bd, od + 1, none⟩ = some (.int .i64 a2) ∧ w13.drew.cell? ⟨bd, od + 2, none⟩ = some (.int .i64 b1) ∧ w13.drew.cell? ⟨bd, od + 2 + 1, none⟩ = some (.int .i64 b2) := S13
              go_wp2_with fail
              go_region_held3 (fun W => W.cell? ⟨bd, od, none⟩ = some (.int .i64 a1) ∧ W.cell? ⟨bd, od + 1, none⟩ = some (.int .i64 a2) ∧ W.cell? ⟨bd, od + 2, none⟩ = some (.int .i64 b1) ∧ W.cell? ⟨bd, od + 2 + 1, none⟩ = some (.int .i64 b2)) (first | assumption | exact k4 (fun _ _ h => cell_keep_alloc _ h) (by assumption))
                ((first
                  | (refine step_append_slS (by rfl) (.tmp 229) (.tmp 231) 23 (by rfl) w13.heap.size 39 j0 _ 2 16 Try.underlying23 ji jz0 jz1 jz2 (by rfl) (by omega) (.slice (some ⟨_, 0, none⟩) 1 1) 1 [.int .i64 a2, .int .i64 a1] (by rfl) ?_ _ _ _ (prs ((b1, b2) :: r)) (by rfl) ?_ ?_ ?_ ?_ ?_ ?_ ?_;
                      (exact (World.ownsRow_lit w13 #[.int .i64 a2, .int .i64 a1] 1 (size := 2) (Nat.le_refl _) (by unfold maxLen; omega) rfl).drew); (rw [prs_len, List.length_cons, HR.out]; omega); (exact (HSe13.out.alloc _).drew); (exact prs_one); (unfold maxLen; omega); (omega); (simp); intro v14 w14 hown14 hg14 _;
                      obtain ⟨A14, c14, e14, hc14, _, hs14⟩ := own_slP hown14; subst e14;
                      have F14 := ((below_dr (F13.alloc F13.size (.cells #[.int .i64 a2, .int .i64 a1] 39)))).grown hg14 (by have := F13.size; simp; omega) (own_block F13.size);
                      have S14 := k4 (fun o v h => hg14.cell h (fun e => absurd (show bd = w13.heap.size from by injection e) (by omega))) (k4 (fun _ _ h => cell_keep_alloc (w := w13) (.cells #[.int .i64 a2, .int .i64 a1] 39) h) Z0))
                  | (go_at_call 22; refine (HNu.out A14 _ c14 ((a2, a1) :: (b1, b2) :: r) w14 F14 ?_ ?_ hs14).mono ?_; (simp only [List.length_cons]; rw [HR.out]; omega); (simp only [List.length_cons]; omega); rw [hw4.n3]; rintro e w15 ⟨rfl, k15⟩; dsimp only; rw [show ((0 : Nat) : Int) = 0 from rfl, show ((6 : Nat) : Int) = 6 from rfl]; have F15 := below_step F14 k15; have S15 := k4 (fun o v h => (k15.cell (p := ⟨bd, o, none⟩) (World.block_lt_of_cell? _ _ h)).trans h) S14)))
              have HM15 := Lib.hid (below_step (((below_dr ((Below.refl w13.heap.size w13).alloc (Nat.le_refl _) (.cells #[.int .i64 a2, .int .i64 a1] 39))).grown hg14 (by simp) (own_block (Nat.le_refl _)))) k15)
              have HSd15 := Lib.hid (HSd13.out.below HM15.out)
              have HN4 := Lib.hid (c_Number A1 T.length c1 T (some ⟨bd, od, none⟩) 1 cd [(a1, a2)] (some ⟨bd, od, none⟩) d.length cd d w15 rfl hTc (by omega) rfl (by simp) rfl (by omega) (HS1q.out.below F15) (by
                have := HSd15.out.take 2
                rw [Hd.out] at this
                exact this) HSd15.out)
              have hn4 : pNum T [(a1, a2)] d = (0, 6) := by rw [Hd.out]; exact hw4.n4
              rw [hn4] at HN4
              clear hg14 hown14 hs14 S14 S13 Z0 k15 hn4 S15
              go_wp2_with fail
              refine HN4.out.mono ?_
              rintro e w16 ⟨rfl, k16⟩
              rw [show ((0 : Nat) : Int) = 0 from rfl, show ((6 : Nat) : Int) = 6 from rfl]
              have F16 := below_step F15 k16
              go_wp2_with fail
              refine (HAw.out _).mono ?_
              rintro e w17 ⟨rfl, k17⟩
              go_wp2_with fail
              go_ret
              exact ⟨rfl, below_step k1 (below_step KB (below_step (below_step CQ F16) k17))⟩
end Go.Proofs.Ytiedecekbdaohaa
