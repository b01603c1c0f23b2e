/- The examples of chapter 36. -/
import Derived.Test.YtiedecekbdaohaaPrNum
import Derived.Test.YtiedecekbdaohaaIs36
import Derived.Deep.RegionLawGrows
namespace Go.Proofs.Ytiedecekbdaohaa
open Go.RowKit

/-- append onto a slice that is full, in a plain region: new memory, nothing that lay is written. -/
theorem wpList_append_grows {P : Program} {ops : Array Oper} {rest : List Oper} {o : Oper} {a : Act} {w : World} {Q : Exit → Act → World → Prop}
    (hg : o.guard = none) (s x : Operand) (t : TypeId) (hop : o.op = Op.call { callee := Callee.builtin Builtin.append, args := #[s, x], argTypes := #[t, t] })
    (e : TypeId) (i : TypeInfo) (z : Value) (size bytes : Nat) (h1 : P.underlying t = some (.slice e)) (h2 : P.info? e = some i) (h3 : i.zero = some z) (h4 : i.size = size) (h5 : i.bytes = bytes) (h6 : z.cells.size = size) (h7 : 0 < size)
    (ao : Option Addr) (n cap : Nat) (olds : List Value) (hs : a.eval s = .slice ao n cap) (hnone : ao = none → n = 0 ∧ cap = 0) (hlo : olds.length = n * size) (holds : ∀ b, ao = some b → ∀ j u, olds[j]? = some u → w.cell? (b.add j) = some u)
    (ad : Addr) (m c : Nat) (news : List Value) (hx : a.eval x = .slice (some ad) m c) (hn : news.length = m * size) (hc : ∀ j u, news[j]? = some u → w.cell? (ad.add j) = some u) (h1c : ∀ u ∈ news, u.oneCell' = true)
    (hfull : cap < n + m) (b1 : n + m ≤ maxLen) (b2 : (n + m) * bytes ≤ 140737488355328)
    (hK : ∀ v' w', w'.ownsRow w.heap.size e size v' (n + m) (olds ++ news) → w.grownBy w' none → wpList P ops Q rest (a.put o.dst v') w') : wpList P ops Q (o :: rest) a w := by
  refine wpList_plain hg fun K hK' => ?_
  have h := step_append_grows (ops := ops) (Q := Q) (E := True) hg s x t hop e i z size bytes h1 h2 h3 h4 h5 h6 h7 ao n cap olds hs hnone hlo holds ad m c news hx hn hc h1c hfull b1 b2 (fun v' w' q1 q2 => hK' _ _ (hK v' w' q1 q2))
  rwa [if_pos (by simp [Region.wanted, hg])] at h
/-- A list of pairs in memory of the call's own, as a slice. -/
theorem own_slP {w : World} {base : Nat} {e : TypeId} {v : Value} {n : Nat} {xs : List Value} (h : w.ownsRow base e 2 v n xs) : ∃ A c, v = .slice A n c ∧ n ≤ c ∧ c ≤ 9223372036854775807 ∧ SlAt w A xs := by
  obtain ⟨h1, h2⟩ := h
  rcases h2 with ⟨rfl, h0⟩ | ⟨g, cap, cur, rfl, _, hh, hnc, hcm, hs, hx⟩
  · exact ⟨none, 0, by rw [h0], by omega, by omega, fun hl => by omega⟩
  · refine ⟨_, cap, rfl, hnc, by unfold maxLen at hcm; omega, fun _ => ⟨g, 0, rfl, (Array.getElem?_eq_some_iff.1 hh).1, fun i v hv => ?_⟩⟩
    rw [Nat.zero_add, cell_of_row w g i cur e (0, 0) hh]
    rw [← hx, List.getElem?_take] at hv
    split at hv
    · simpa using hv
    · cases hv
theorem SlAt.at_add {w : World} {ad : Addr} {xs : List Value} (h : SlAt w (some ad) xs) : ∀ j u, xs[j]? = some u → w.cell? (ad.add j) = some u := by
  intro j u hu
  have hj := (List.getElem?_eq_some_iff.1 hu).1
  obtain ⟨b, o, hA, _, hcell⟩ := h (by omega)
  injection hA with hA
  subst hA
  have := hcell j u hu
  unfold Addr.add
  by_cases hj0 : j = 0
  · subst hj0; simpa using this
  · simpa [hj0] using this
def aT : List Int := [7, 3, 9, 4]
def aM : List Pr := [(3, 7)]
def aM2 : List Pr := [(3, 7), (3, 4)]
theorem aw_teams (w : World) (t : TypeId) : SlAt (w.alloc (.cells #[.int .i64 7, .int .i64 3, .int .i64 9, .int .i64 4] t)) (some ⟨w.heap.size, 0, none⟩) (aT.map i64) := by
  intro _
  refine ⟨w.heap.size, 0, rfl, by simp, fun i v hv => ?_⟩
  rw [Nat.zero_add, cell_of_row _ w.heap.size i #[.int .i64 7, .int .i64 3, .int .i64 9, .int .i64 4] t (0, 0) (heap_alloc_new w _)]
  simpa [aT, i64] using hv
theorem sl_litN (w : World) (t : TypeId) (cs : List Value) : SlAt (w.alloc (.cells cs.toArray t)) (some ⟨w.heap.size, 0, none⟩) cs := by
  intro _
  refine ⟨w.heap.size, 0, rfl, by simp, fun i v hv => ?_⟩
  rw [Nat.zero_add, cell_of_row _ w.heap.size i cs.toArray t (0, 0) (heap_alloc_new w _)]
  simpa using hv
theorem aw1 : pCount aT aM = 2 ∧ pOdd aT aM = 0 := by decide +kernel
theorem aw2 : pNthR aT aM 0 = [(7, 9), (3, 4)] ∧ pNthE aT aM 0 = 0 := by decide +kernel
theorem aw3 : pNum aT aM [(7, 4), (3, 9)] = (1, 0) := by decide +kernel
theorem aw4 : pDraw aT aM2 [] = ([(7, 4), (3, 9)], 0, 0) := by decide +kernel
theorem aw5 : pDraw (aT.take 3) [] [] = ([(7, 3)], 9, 0) := by decide +kernel
theorem aw6 : pDraw (aT.take 3) aM [] = ([(7, 9)], 3, 0) := by decide +kernel
theorem aw7 : pDraw (aT.take 3) aM [9, 3] = ([(3, 9)], 7, 0) := by decide +kernel

set_option maxRecDepth 100000 in
set_option maxHeartbeats 2000000 in
theorem c_awake (w : World) : Calls Try.prog 14 #[] w (Frm (.bool true) w) := by
  obtain ⟨i0, hi, hz0, hz1, hz2⟩ := info_parts info_pr
  have B1 := ((Below.refl w.heap.size w).alloc (Nat.le_refl _) (.cells #[.int .i64 7, .int .i64 3, .int .i64 9, .int .i64 4] 3)).alloc (by simp) (.cells #[.int .i64 3, .int .i64 7] 39)
  have hT : SlAt ((w.alloc (.cells #[.int .i64 7, .int .i64 3, .int .i64 9, .int .i64 4] 3)).alloc (.cells #[.int .i64 3, .int .i64 7] 39)) (some ⟨w.heap.size, 0, none⟩) (aT.map i64) := (aw_teams w _).alloc _
  have hM : SlAt ((w.alloc (.cells #[.int .i64 7, .int .i64 3, .int .i64 9, .int .i64 4] 3)).alloc (.cells #[.int .i64 3, .int .i64 7] 39)) (some ⟨w.heap.size + 1, 0, none⟩) (prs aM) := by
    have := sl_litN (w.alloc (.cells #[.int .i64 7, .int .i64 3, .int .i64 9, .int .i64 4] 3)) 39 [.int .i64 3, .int .i64 7]
    have e : (w.alloc (.cells #[.int .i64 7, .int .i64 3, .int .i64 9, .int .i64 4] 3)).heap.size = w.heap.size + 1 := by simp
    rw [e] at this
    exact this
  go_enter Try.func14, Try.ntmps14
  go_wp2_with fail
  generalize (w.alloc (.cells #[.int .i64 7, .int .i64 3, .int .i64 9, .int .i64 4] 3)).alloc (.cells #[.int .i64 3, .int .i64 7] 39) = w1 at *
  have HT := Lib.hid hT
  have HM := Lib.hid hM
  clear hT hM
  generalize hgw : w.heap.size = gw at *
  have Hgw := Lib.hid hgw
  clear hgw
  have C1 := c_Count (some ⟨gw, 0, none⟩) 4 4 aT (some ⟨gw + 1, 0, none⟩) 1 1 aM w1 rfl (by omega) (by decide) rfl (by decide) HT.out HM.out
  rw [aw1.1, aw1.2] at C1
  refine C1.mono ?_
  clear C1
  rintro e w2 ⟨rfl, k2⟩
  have C2 := c_Nth (some ⟨gw, 0, none⟩) 4 4 aT (some ⟨gw + 1, 0, none⟩) 1 1 aM 0 w2 rfl (by omega) (by decide) rfl (by decide) (HT.out.below k2) (HM.out.below k2)
  rw [aw2.1, aw2.2] at C2
  go_wp2_with fail
  refine C2.mono ?_
  clear C2
  rintro e w3 ⟨v3, rfl, hown3, k3⟩
  obtain ⟨A3, c3, rfl, _, _, hs3⟩ := own_slP hown3
  have HS3 := Lib.hid hs3
  have K3 := below_step k2 k3
  clear hown3 hs3 k2 k3
  have C3 := c_Number (some ⟨gw, 0, none⟩) 4 4 aT (some ⟨gw + 1, 0, none⟩) 1 1 aM (some ⟨w3.heap.size, 0, none⟩) 2 2 [(7, 4), (3, 9)] (w3.alloc (.cells #[.int .i64 7, .int .i64 4, .int .i64 3, .int .i64 9] 39)) rfl (by omega) (by decide) rfl (by decide) rfl (by decide) ((HT.out.below K3).alloc _) ((HM.out.below K3).alloc _) (sl_litN w3 _ [.int .i64 7, .int .i64 4, .int .i64 3, .int .i64 9])
  rw [aw3] at C3
  go_wp2_with fail
  refine C3.mono ?_
  clear C3
  rintro e w4 ⟨rfl, k4⟩
  have K4' := below_step ((Below.refl w3.heap.size w3).alloc (Nat.le_refl _) _) k4
  have K4 := below_step K3 K4'
  clear k4
  have hM4 := HM.out.below K4
  go_wp2_with (at_builtin; go_must (refine wpList_append_grows rfl (.tmp 47) (.tmp 49) 23 rfl 39 i0 _ 2 16 Try.underlying23 hi hz0 hz1 hz2 rfl (by omega) (some ⟨gw + 1, 0, none⟩) 1 1 (prs aM) rfl (fun h => by cases h) rfl ?_ ⟨w4.heap.size, 0, none⟩ 1 1 [.int .i64 3, .int .i64 4] rfl rfl (World.news_of_block (cs := #[.int .i64 3, .int .i64 4]) (t := 39) (fr := (0, 0)) (heap_alloc_new w4 _)) (by simp [Value.oneCell']) (by omega) (by unfold maxLen; omega) (by omega) ?_))
  · intro b hb
    cases hb
    exact (hM4.alloc _).at_add
  · intro v5 w5 hown5 hg5
    obtain ⟨A5, c5, rfl, hc5, _, hs5⟩ := own_slP hown5
    have K5 : Below w1.heap.size w1 w5 := by
      have h1 := below_step K4 (((Below.refl w4.heap.size w4).alloc (Nat.le_refl _) (.cells #[.int .i64 3, .int .i64 4] 39)))
      exact h1.grown hg5 (by have := K4.size; simp; omega) (fun k hk => by cases hk)
    have K5' : Below w3.heap.size w3 w5 := by
      have h1 := below_step K4' (((Below.refl w4.heap.size w4).alloc (Nat.le_refl _) (.cells #[.int .i64 3, .int .i64 4] 39)))
      exact h1.grown hg5 (by have := K4'.size; simp; omega) (fun k hk => by cases hk)
    have C4 := c_Draw (some ⟨gw, 0, none⟩) 4 4 aT A5 2 c5 aM2 none 0 0 [] w5 rfl (by omega) (by decide) rfl (by decide) rfl (by decide) (HT.out.below K5) hs5 SlAt.nil_
    rw [aw4] at C4
    clear hown5 hg5 hs5 K4 K4' K3 hM4
    go_wp2_with fail
    refine C4.mono ?_
    clear C4
    rintro e w6 ⟨v6, rfl, hown6, k6⟩
    obtain ⟨A6, c6, rfl, _, _, hs6⟩ := own_slP hown6
    have HS6 := Lib.hid hs6
    have K6 := below_step K5 k6
    have K6' := below_step K5' k6
    clear hown6 hs6 k6 K5 K5'
    have hT3 : ∀ W, Below w1.heap.size w1 W → SlAt W (some ⟨gw, 0, none⟩) ((aT.take 3).map i64) := fun W hb => by rw [List.map_take]; exact (HT.out.below hb).take 3
    have HT3 := Lib.hid hT3
    clear hT3
    have C5 := c_Draw (some ⟨gw, 0, none⟩) 3 4 (aT.take 3) none 0 0 [] none 0 0 [] w6 rfl (by omega) (by decide) rfl (by decide) rfl (by decide) (HT3.out _ K6) SlAt.nil_ SlAt.nil_
    rw [aw5] at C5
    go_wp2_with fail
    refine C5.mono ?_
    clear C5
    rintro e w7 ⟨v7, rfl, hown7, k7⟩
    obtain ⟨A7, c7, rfl, _, _, hs7⟩ := own_slP hown7
    have HS7 := Lib.hid hs7
    have K7 := below_step K6 k7
    have K7' := below_step K6' k7
    have C6 := c_Draw (some ⟨gw, 0, none⟩) 3 4 (aT.take 3) (some ⟨gw + 1, 0, none⟩) 1 1 aM none 0 0 [] w7 rfl (by omega) (by decide) rfl (by decide) rfl (by decide) (HT3.out _ K7) (HM.out.below K7) SlAt.nil_
    rw [aw6] at C6
    clear hown7 hs7 K6 K6'
    go_wp2_with fail
    refine C6.mono ?_
    clear C6
    rintro e w8 ⟨v8, rfl, hown8, k8⟩
    obtain ⟨A8, c8, rfl, _, _, hs8⟩ := own_slP hown8
    have HS8 := Lib.hid hs8
    have K8 := below_step K7 k8
    have C7 := c_Draw (some ⟨gw, 0, none⟩) 3 4 (aT.take 3) (some ⟨gw + 1, 0, none⟩) 1 1 aM (some ⟨w8.heap.size, 0, none⟩) 2 2 [9, 3] (w8.alloc (.cells #[.int .i64 9, .int .i64 3] 3)) rfl (by omega) (by decide) rfl (by decide) rfl (by decide) ((HT3.out _ K8).alloc _) ((HM.out.below K8).alloc _) (sl_litN w8 _ [.int .i64 9, .int .i64 3])
    rw [aw7] at C7
    clear hown8 hs8
    go_wp2_with fail
    refine C7.mono ?_
    clear C7
    rintro e w9 ⟨v9, rfl, hown9, k9⟩
    obtain ⟨A9, c9, rfl, _, _, hs9⟩ := own_slP hown9
    have HS9 := Lib.hid hs9
    have k9' := below_step ((Below.refl w8.heap.size w8).alloc (Nat.le_refl _) _) k9
    have K9 := below_step K8 k9'
    clear hown9 hs9 k9
    have P3 := below_step (below_step K7' k8) k9'
    have P6 := below_step (below_step k7 k8) k9'
    have P7 := below_step k8 k9'
    have P8 := k9'
    have P9 := Below.refl w9.heap.size w9
    clear K7' k7 k8 k9' K7 K8
    have I3 := c_is A3 2 c3 [(7, 9), (3, 4)] (some ⟨w9.heap.size, 0, none⟩) 2 2 [(7, 9), (3, 4)] (w9.alloc (.cells #[.int .i64 7, .int .i64 9, .int .i64 3, .int .i64 4] 39)) rfl rfl (by decide) (by decide) ((HS3.out.below P3).alloc _) (sl_litN w9 _ [.int .i64 7, .int .i64 9, .int .i64 3, .int .i64 4])
    rw [show decide (([(7, 9), (3, 4)] : List Pr) = [(7, 9), (3, 4)]) = true from by decide] at I3
    go_wp2_with fail
    refine Calls.mono (I3.mono fun _ _ hh => Qt.frm hh) ?_
    rintro e w10 ⟨rfl, k10⟩
    dsimp only
    have j10 := below_step ((Below.refl w9.heap.size w9).alloc (Nat.le_refl _) _) k10
    have K10 := below_step K9 j10
    have P6x10 := below_step P6 j10
    have P7x10 := below_step P7 j10
    have P8x10 := below_step P8 j10
    have P9x10 := below_step P9 j10
    have I6 := c_is A6 2 c6 [(7, 4), (3, 9)] (some ⟨w10.heap.size, 0, none⟩) 2 2 [(7, 4), (3, 9)] (w10.alloc (.cells #[.int .i64 7, .int .i64 4, .int .i64 3, .int .i64 9] 39)) rfl rfl (by decide) (by decide) ((HS6.out.below P6x10).alloc _) (sl_litN w10 _ [.int .i64 7, .int .i64 4, .int .i64 3, .int .i64 9])
    rw [show decide (([(7, 4), (3, 9)] : List Pr) = [(7, 4), (3, 9)]) = true from by decide] at I6
    go_wp2_with fail
    refine Calls.mono (I6.mono fun _ _ hh => Qt.frm hh) ?_
    rintro e w11 ⟨rfl, k11⟩
    dsimp only
    have j11 := below_step ((Below.refl w10.heap.size w10).alloc (Nat.le_refl _) _) k11
    have K11 := below_step K10 j11
    have P7x10x11 := below_step P7x10 j11
    have P8x10x11 := below_step P8x10 j11
    have P9x10x11 := below_step P9x10 j11
    have I7 := c_is A7 1 c7 [(7, 3)] (some ⟨w11.heap.size, 0, none⟩) 1 1 [(7, 3)] (w11.alloc (.cells #[.int .i64 7, .int .i64 3] 39)) rfl rfl (by decide) (by decide) ((HS7.out.below P7x10x11).alloc _) (sl_litN w11 _ [.int .i64 7, .int .i64 3])
    rw [show decide (([(7, 3)] : List Pr) = [(7, 3)]) = true from by decide] at I7
    go_wp2_with fail
    refine Calls.mono (I7.mono fun _ _ hh => Qt.frm hh) ?_
    rintro e w12 ⟨rfl, k12⟩
    dsimp only
    have j12 := below_step ((Below.refl w11.heap.size w11).alloc (Nat.le_refl _) _) k12
    have K12 := below_step K11 j12
    have P8x10x11x12 := below_step P8x10x11 j12
    have P9x10x11x12 := below_step P9x10x11 j12
    have I8 := c_is A8 1 c8 [(7, 9)] (some ⟨w12.heap.size, 0, none⟩) 1 1 [(7, 9)] (w12.alloc (.cells #[.int .i64 7, .int .i64 9] 39)) rfl rfl (by decide) (by decide) ((HS8.out.below P8x10x11x12).alloc _) (sl_litN w12 _ [.int .i64 7, .int .i64 9])
    rw [show decide (([(7, 9)] : List Pr) = [(7, 9)]) = true from by decide] at I8
    go_wp2_with fail
    refine Calls.mono (I8.mono fun _ _ hh => Qt.frm hh) ?_
    rintro e w13 ⟨rfl, k13⟩
    dsimp only
    have j13 := below_step ((Below.refl w12.heap.size w12).alloc (Nat.le_refl _) _) k13
    have K13 := below_step K12 j13
    have P9x10x11x12x13 := below_step P9x10x11x12 j13
    have I9 := c_is A9 1 c9 [(3, 9)] (some ⟨w13.heap.size, 0, none⟩) 1 1 [(3, 9)] (w13.alloc (.cells #[.int .i64 3, .int .i64 9] 39)) rfl rfl (by decide) (by decide) ((HS9.out.below P9x10x11x12x13).alloc _) (sl_litN w13 _ [.int .i64 3, .int .i64 9])
    rw [show decide (([(3, 9)] : List Pr) = [(3, 9)]) = true from by decide] at I9
    go_wp2_with fail
    refine Calls.mono (I9.mono fun _ _ hh => Qt.frm hh) ?_
    rintro e w14 ⟨rfl, k14⟩
    dsimp only
    have j14 := below_step ((Below.refl w13.heap.size w13).alloc (Nat.le_refl _) _) k14
    have K14 := below_step K13 j14
    go_wp2_with fail
    go_ret
    refine ⟨rfl, ?_⟩
    rw [Hgw.out]
    exact B1.trans (K14.mono (by have := B1.size; have := Hgw.out; omega))
end Go.Proofs.Ytiedecekbdaohaa
