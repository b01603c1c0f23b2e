/- Contracts of the reference of layer 36: Count, Nth, same, Number. -/
import Derived.Test.YtiedecekbdaohaaAll36
namespace Go.Proofs.Ytiedecekbdaohaa
open Go.RowKit

set_option maxHeartbeats 1000000 in
theorem c_rCount (A : Option Addr) (n cap : Nat) (t : List Int) (B : Option Addr) (m c : Nat) (l : List Pr) (w : World) (hn : n = t.length) (hcap : n ≤ cap) (ht : t.length ≤ 2^47) (hm : m = l.length) (hl : l.length ≤ 2^47) (hA : SlAt w A (t.map i64)) (hB : SlAt w B (prs l)) :
    Calls Try.prog 32 #[.slice A n cap, .slice B m c] w (Frm (.tuple #[.int .i64 (pCount t l : Nat), .int .i64 (pOdd t l : Nat)]) w) := by
  have H := Lib.hid (c_rWrong A n cap t B m c l false w hn ht hm hl hA hB)
  rw [show rWrong t l false = pOdd t l from rfl] at H
  have HA := Lib.hid hA
  have HB := Lib.hid hB
  clear hA hB
  by_cases hw : pOdd t l = 0
  · have h16 : t.length ≤ 16 := by
      have hp : pWrong t l = 0 := by
        unfold pOdd at hw
        split at hw
        · rename_i h; exact absurd hw h
        · rename_i h; exact Decidable.not_not.1 h
      exact (pWrong_zero hp).2
    have hc : pCount t l = (draws l t).length := by unfold pCount; rw [if_pos hw]; rfl
    rw [hw] at H
    rw [hw, hc]
    have HAl := Lib.hid (fun W (hb : Below w.heap.size w W) => c_all B m c l hm hl t.length t (Nat.le_refl _) h16 A n cap W hn hcap (HA.out.below hb) (HB.out.below hb))
    clear hw hc hn hm
    go_enter Try.func32, Try.ntmps32
    go_wp2_with fail
    refine H.out.mono ?_
    rintro e w1 ⟨rfl, k1⟩
    go_wp2_with fail
    refine (HAl.out _ k1).mono ?_
    rintro e w2 ⟨v, vs, rfl, hown, _, k2⟩
    obtain ⟨A2, c2, rfl, _, _, _⟩ := own_slI hown
    go_wp2_with fail
    go_ret2
    exact ⟨rfl, below_step k1 k2⟩
  · have hc : pCount t l = 0 := by unfold pCount; rw [if_neg hw]
    rw [hc]
    generalize pOdd t l = q at *
    have h1 : ((q : Int) != 0) = true := bne_iff_ne.2 (by omega)
    clear hw hn hm hc
    go_enter Try.func32, Try.ntmps32
    go_wp2_with fail
    refine H.out.mono ?_
    rintro e w1 ⟨rfl, k1⟩
    go_wp2_with fail
    go_ret2
    exact ⟨rfl, k1⟩

def RPairsE (r : List Pr) (q : Nat) (w : World) (e : Ending) (w' : World) : Prop :=
  ∃ v, e = .returned (.tuple #[v, .int .i64 (q : Nat)]) ∧ w'.ownsRow w.heap.size 71 2 v r.length (prs r) ∧ Below w.heap.size w w'
set_option maxHeartbeats 1000000 in
theorem c_rNth (A : Option Addr) (n cap : Nat) (t : List Int) (B : Option Addr) (m c : Nat) (l : List Pr) (k : Int) (w : World) (hn : n = t.length) (hcap : n ≤ cap) (ht : t.length ≤ 2^47) (hm : m = l.length) (hl : l.length ≤ 2^47) (hA : SlAt w A (t.map i64)) (hB : SlAt w B (prs l)) :
    Calls Try.prog 33 #[.slice A n cap, .slice B m c, .int .i64 k] w (RPairsE (pNthR t l k) (pNthE t l k) w) := by
  have H := Lib.hid (c_rWrong A n cap t B m c l false w hn ht hm hl hA hB)
  rw [show rWrong t l false = pOdd t l from rfl] at H
  have HA := Lib.hid hA
  have HB := Lib.hid hB
  clear hA hB
  by_cases hw : pOdd t l = 0
  · have h16 : t.length ≤ 16 := by
      have hp : pWrong t l = 0 := by
        unfold pOdd at hw
        split at hw
        · rename_i h; exact absurd hw h
        · rename_i h; exact Decidable.not_not.1 h
      exact (pWrong_zero hp).2
    have hR : pNthR t l k = nthR l t k := by unfold pNthR; rw [if_neg (fun h => h hw)]
    have hE : pNthE t l k = nthE l t k := by unfold pNthE; rw [if_neg (fun h => h hw)]
    rw [hw] at H
    rw [hR, hE]
    have HAl := Lib.hid (fun W (hb : Below w.heap.size w W) => c_all B m c l hm hl t.length t (Nat.le_refl _) h16 A n cap W hn hcap (HA.out.below hb) (HB.out.below hb))
    clear hw hn hm hR hE
    by_cases hk0 : k < 0
    · have e1 : nthR l t k = [] ∧ nthE l t k = 6 := by unfold nthR nthE; rw [if_neg (by omega), if_neg (by omega)]; exact ⟨rfl, rfl⟩
      rw [e1.1, e1.2]
      have q1 : decide (k < 0) = true := decide_eq_true hk0
      clear e1
      go_enter Try.func33, Try.ntmps33
      go_wp2_with fail
      refine H.out.mono ?_
      rintro e w1 ⟨rfl, k1⟩
      go_wp2_with fail
      refine (HAl.out _ k1).mono ?_
      rintro e w2 ⟨v, vs, rfl, hown, _, k2⟩
      obtain ⟨A2, c2, rfl, _, _, _⟩ := own_slI hown
      go_wp2_with fail
      go_ret2
      exact ⟨_, rfl, own_nil _ _, below_step k1 k2⟩
    · have q1 : decide (k < 0) = false := decide_eq_false hk0
      by_cases hkc : k < ((draws l t).length : Int)
      · obtain ⟨j, rfl⟩ : ∃ j : Nat, k = (j : Int) := ⟨k.toNat, by omega⟩
        have hj : j < (draws l t).length := by omega
        obtain ⟨d, hd⟩ : ∃ d, (draws l t)[j]? = some d := ⟨_, List.getElem?_eq_getElem hj⟩
        have e1 : nthR l t (j : Int) = d ∧ nthE l t (j : Int) = 0 := by
          unfold nthR nthE cnt
          rw [if_pos ⟨by omega, hkc⟩, if_pos ⟨by omega, hkc⟩, show ((j : Int)).toNat = j from by omega, hd]
          exact ⟨rfl, rfl⟩
        rw [e1.1, e1.2]
        have q2 : decide ((j : Int) ≥ ((draws l t).length : Int)) = false := decide_eq_false (by omega)
        have q3 : ¬ ((draws l t).length : Int) ≤ (j : Int) := by omega
        have q4 : (0 : Int) ≤ (j : Int) := by omega
        clear e1
        have q5 : (j : Int) < ((draws l t).length : Int) := hkc
        go_enter Try.func33, Try.ntmps33
        go_wp2_with fail
        refine H.out.mono ?_
        rintro e w1 ⟨rfl, k1⟩
        go_wp2_with fail
        refine (HAl.out _ k1).mono ?_
        rintro e w2 ⟨v, vs, rfl, hown, hll, k2⟩
        have hvl := hll.len
        obtain ⟨u, hu⟩ : ∃ u, vs[j]? = some u := ⟨_, List.getElem?_eq_getElem (by omega)⟩
        have hou := hll.at_ hu hd
        have hou2 := hou
        obtain ⟨A5, c5, rfl, hc5, _, hs5⟩ := own_slP hou
        obtain ⟨A2, c2, rfl, _, _, hsl⟩ := own_slI hown
        obtain ⟨bl, ol, rfl, hbl, hcl⟩ := hsl (by omega)
        have cl := hcl j _ hu
        have B2 := below_step k1 k2
        have HOu := Lib.hid (own_mono hou2 k1.size)
        clear hou hou2 hs5 hcl hsl hll hown hvl hd hu
        generalize (draws l t).length = nD at *
        go_wp2_with fail
        go_ret2
        exact ⟨_, rfl, HOu.out, B2⟩
      · have e1 : nthR l t k = [] ∧ nthE l t k = 6 := by unfold nthR nthE cnt; rw [if_neg (fun h => hkc h.2), if_neg (fun h => hkc h.2)]; exact ⟨rfl, rfl⟩
        rw [e1.1, e1.2]
        have q2 : decide (k ≥ ((draws l t).length : Int)) = true := decide_eq_true (by omega)
        have q3 : ((draws l t).length : Int) ≤ k := by omega
        clear e1
        go_enter Try.func33, Try.ntmps33
        go_wp2_with fail
        refine H.out.mono ?_
        rintro e w1 ⟨rfl, k1⟩
        go_wp2_with fail
        refine (HAl.out _ k1).mono ?_
        rintro e w2 ⟨v, vs, rfl, hown, _, k2⟩
        obtain ⟨A2, c2, rfl, _, _, _⟩ := own_slI hown
        go_wp2_with fail
        go_ret2
        exact ⟨_, rfl, own_nil _ _, below_step k1 k2⟩
  · have hR : pNthR t l k = [] := by unfold pNthR; rw [if_pos hw]
    have hE : pNthE t l k = pOdd t l := by unfold pNthE; rw [if_pos hw]
    rw [hR, hE]
    generalize pOdd t l = q at *
    have h1 : ((q : Int) != 0) = true := bne_iff_ne.2 (by omega)
    clear hw hn hm hR hE
    go_enter Try.func33, Try.ntmps33
    go_wp2_with fail
    refine H.out.mono ?_
    rintro e w1 ⟨rfl, k1⟩
    go_wp2_with fail
    go_ret2
    exact ⟨_, rfl, own_nil _ _, k1⟩
set_option maxHeartbeats 1000000 in
theorem c_same (A : Option Addr) (n cap : Nat) (a : List Pr) (B : Option Addr) (m c : Nat) (b : List Pr) (w : World) (hn : n = a.length) (hm : m = b.length) (hl : a.length ≤ 2^47) (hlb : b.length ≤ 2^47) (hA : SlAt w A (prs a)) (hB : SlAt w B (prs b)) :
    Calls Try.prog 48 #[.slice A n cap, .slice B m c] w (Qt (.bool (decide (a = b))) w) := by
  subst hn hm
  by_cases hab : a.length = b.length
  · have e1 : ((a.length : Int) != (b.length : Int)) = false := by simp; omega
    have Hab := Lib.hid hab
    have Hlt : Hid (∀ k, k < a.length → k < b.length) := fun k hk => by omega
    clear hab
    go_enter Try.func48, Try.ntmps48
    go_wp2_with fail
    go_loopw [5] (fun i wr => ∃ k : Nat, k ≤ a.length ∧ i = .int .i64 k ∧ Hid (∃ q, wr = w.drewN q) ∧ Hid (∀ j x y, j < k → a[j]? = some x → b[j]? = some y → x = y)) (fun i _ => a.length - (intOf i).toNat)
    case atStart => exact ⟨0, Nat.zero_le _, rfl, ⟨0, rfl⟩, fun j _ _ hj => absurd hj (by omega)⟩
    case round =>
      obtain ⟨k, hk, rfl, HQ, HV⟩ := hrel
      obtain ⟨q0, rfl⟩ := HQ.out
      by_cases hlt : k < a.length
      · have hltb := Hlt.out k hlt
        obtain ⟨ba, oa, xa, ya, rfl, _, hxa, ha1, ha2⟩ := hA.pr_at hlt
        obtain ⟨bb, ob, xb, yb, rfl, _, hxb, hb1, hb2⟩ := hB.pr_at hltb
        have q1 : (0 : Int) ≤ (k : Int) := by omega
        have q2 : (k : Int) < (a.length : Int) := by omega
        have q3 : (k : Int) < (b.length : Int) := by omega
        have Hxa := Lib.hid hxa
        have Hxb := Lib.hid hxb
        clear hxa hxb
        by_cases hne : (xa, ya) = (xb, yb)
        · have e2 : (xa == xb) = true := by injection hne with h1 h2; simpa using h1
          have e3 : (ya == yb) = true := by injection hne with h1 h2; simpa using h2
          have Hv : Hid (∀ j x y, j < k + 1 → a[j]? = some x → b[j]? = some y → x = y) := by
            intro j x y hj hx hy
            by_cases e : j = k
            · subst e
              rw [Hxa.out] at hx
              rw [Hxb.out] at hy
              cases hx; cases hy
              exact hne
            · exact HV.out j x y (by omega) hx hy
          clear hne
          go_wp2_with fail
          go_quiet (fail)
          go_wp2_with fail
          go_roundw
          case rel => exact ⟨k + 1, by omega, by go_num, ⟨_, rfl⟩, Hv.out⟩
          case measure => simp [intOf]; omega
        · have Hr : Hid (decide (a = b) = false) := decide_eq_false (fun h => by
            have h1 := Hxa.out
            rw [h, Hxb.out] at h1
            exact hne (Option.some.inj h1).symm)
          cases e2 : xa == xb
          · clear hne
            go_wp2_with fail
            go_quiet (fail)
            go_wp2_with fail
            go_ret
            exact ⟨ret_bool Hr.out.symm, _, World.drewN_drewN ..⟩
          · have e3 : (ya == yb) = false := by
              simp at e2
              simp
              exact fun h => hne (by rw [e2, h])
            clear hne
            go_wp2_with fail
            go_quiet (fail)
            go_wp2_with fail
            go_ret
            exact ⟨ret_bool Hr.out.symm, _, World.drewN_drewN ..⟩
      · obtain rfl : k = a.length := by omega
        have Hr : Hid (decide (a = b) = true) := decide_eq_true (list_eq_get Hab.out (fun j x y hx hy => HV.out j x y (List.getElem?_eq_some_iff.1 hx).1 hx hy))
        go_wp2_with fail
        go_ret
        exact ⟨ret_bool Hr.out.symm, _, rfl⟩
  · have e1 : ((a.length : Int) != (b.length : Int)) = true := by rw [bne_iff_ne]; omega
    have Hr : Hid (decide (a = b) = false) := decide_eq_false (fun h => hab (by rw [h]))
    clear hab
    go_enter Try.func48, Try.ntmps48
    go_wp2_with fail
    go_ret
    exact ⟨ret_bool Hr.out.symm, 0, rfl⟩
theorem pNum_eq {t : List Int} {m d : List Pr} (h0 : pOdd t m = 0) : pNum t m d = match (if 2 * d.length = t.length then numF m d t else none) with | some q => (q, 0) | none => (0, 6) := by
  unfold pNum
  rw [if_neg (fun h => h h0)]
  by_cases hl : 2 * d.length = t.length
  · rw [if_neg (fun h => h hl), if_pos hl]
    cases numF m d t <;> rfl
  · rw [if_pos hl, if_neg hl]
theorem num_hit {t : List Int} {m d : List Pr} {k : Nat} (h0 : pOdd t m = 0) (hn : t.Nodup) (hk : (draws m t)[k]? = some d) (hmin : ∀ i, i < k → (draws m t)[i]? ≠ some d) : pNum t m d = (k, 0) := by
  rw [pNum_eq h0]
  have h := num_at (m := m) hn (d := d)
  cases hr : (if 2 * d.length = t.length then numF m d t else none) with
  | none => rw [hr] at h; exact absurd (List.mem_of_getElem? hk) h
  | some q =>
    rw [hr] at h
    have h1 : ¬ q < k := fun hq => hmin q hq h.1
    have h2 : ¬ k < q := fun hq => h.2 k hq hk
    have : q = k := by omega
    rw [this]
theorem num_miss {t : List Int} {m d : List Pr} (h0 : pOdd t m = 0) (hn : t.Nodup) (hmin : ∀ i, i < (draws m t).length → (draws m t)[i]? ≠ some d) : pNum t m d = (0, 6) := by
  rw [pNum_eq h0]
  have h := num_at (m := m) hn (d := d)
  cases hr : (if 2 * d.length = t.length then numF m d t else none) with
  | none => rfl
  | some q =>
    rw [hr] at h
    exact absurd h.1 (hmin q (List.getElem?_eq_some_iff.1 h.1).1)

set_option maxHeartbeats 1000000 in
theorem c_rNumber (A : Option Addr) (n cap : Nat) (t : List Int) (B : Option Addr) (m c : Nat) (l : List Pr) (E : Option Addr) (nd cd : Nat) (dr : List Pr) (w : World) (hn : n = t.length) (hcap : n ≤ cap) (ht : t.length ≤ 2^47) (hm : m = l.length) (hl : l.length ≤ 2^47) (hd : nd = dr.length) (hdl : dr.length ≤ 2^47) (hA : SlAt w A (t.map i64)) (hB : SlAt w B (prs l)) (hE : SlAt w E (prs dr)) :
    Calls Try.prog 34 #[.slice A n cap, .slice B m c, .slice E nd cd] w (Frm (.tuple #[.int .i64 ((pNum t l dr).1 : Nat), .int .i64 ((pNum t l dr).2 : Nat)]) w) := by
  have H := Lib.hid (c_rWrong A n cap t B m c l false w hn ht hm hl hA hB)
  rw [show rWrong t l false = pOdd t l from rfl] at H
  have HA := Lib.hid hA
  have HB := Lib.hid hB
  have HE := Lib.hid hE
  clear hA hB hE
  by_cases hw : pOdd t l = 0
  · have hp : pWrong t l = 0 := by
      have h := hw
      unfold pOdd at h
      split at h
      · rename_i h2; exact absurd h h2
      · rename_i h2; exact Decidable.not_not.1 h2
    obtain ⟨hR, h16⟩ := pWrong_zero hp
    obtain ⟨hnd, _⟩ := pRight_nodup hR
    have HW := Lib.hid hw
    have Hnd := Lib.hid hnd
    rw [hw] at H
    have HAl := Lib.hid (fun W (hb : Below w.heap.size w W) => c_all B m c l hm hl t.length t (Nat.le_refl _) h16 A n cap W hn hcap (HA.out.below hb) (HB.out.below hb))
    have Hdl := Lib.hid (fun d hd => draws_len l _ t rfl d hd)
    clear hw hp hR hnd hn hm
    go_enter Try.func34, Try.ntmps34
    go_wp2_with fail
    refine H.out.mono ?_
    rintro e w1 ⟨rfl, k1⟩
    go_wp2_with fail
    refine (HAl.out _ k1).mono ?_
    rintro e w2 ⟨v, vs, rfl, hown, hll, k2⟩
    obtain ⟨A2, c2, rfl, hc2, _, hsl⟩ := own_slI hown
    have B2 := below_step k1 k2
    have Hll := Lib.hid hll
    have Hown := Lib.hid hown
    clear hll hown hsl
    generalize hDe : draws l t = D at *
    have HDe := Lib.hid hDe
    clear hDe
    subst hd
    go_wp2_with fail
    go_loopw [10] (fun iv wr => ∃ k : Nat, k ≤ D.length ∧ iv = .int .i64 k ∧ Hid (∀ i, i < k → D[i]? ≠ some dr) ∧ Below w2.heap.size w2 wr) (fun iv _ => D.length - (intOf iv).toNat)
    case atStart => exact ⟨0, Nat.zero_le _, rfl, (fun i hi => absurd hi (by omega)), Below.refl _ _⟩
    case round =>
      obtain ⟨k, hk, rfl, HN, B3⟩ := hrel
      have B4 := below_step B2 B3
      by_cases hlt : k < D.length
      · obtain ⟨d, hd⟩ : ∃ d, D[k]? = some d := ⟨_, List.getElem?_eq_getElem hlt⟩
        have hvl := Hll.out.len
        obtain ⟨u, hu⟩ : ∃ u, vs[k]? = some u := ⟨_, List.getElem?_eq_getElem (by omega)⟩
        have hou := (Hll.out.later B3).at_ hu hd
        obtain ⟨A5, c5, rfl, hc5, _, hs5⟩ := own_slP hou
        obtain ⟨A2', c2', e2, _, _, hsl⟩ := own_slI (own_later Hown.out B3)
        injection e2 with e21 e22 e23
        subst e21 e23
        obtain ⟨bl, ol, rfl, hbl, hcl⟩ := hsl (by omega)
        have cl := hcl k _ hu
        have hdl2 := Hdl.out d (List.mem_of_getElem? hd)
        have HSa := Lib.hid ((c_same A5 d.length c5 d E dr.length cd dr wr rfl rfl (by omega) hdl hs5 (HE.out.below B4)).mono fun _ _ hh => Qt.frm hh)
        have r1 : (0 : Int) ≤ (k : Int) := by omega
        have r2 : (k : Int) < (D.length : Int) := by omega
        clear hou hs5 hsl hcl hu e22 hvl
        by_cases hdd : d = dr
        · have hres : pNum t l dr = (k, 0) := num_hit HW.out Hnd.out (by rw [HDe.out, hd, hdd]) (fun i hi => by rw [HDe.out]; exact HN.out i hi)
          have Hres := Lib.hid hres
          have he : decide (d = dr) = true := decide_eq_true hdd
          rw [he] at HSa
          clear hres hd hdd he hdl2
          go_wp2_with fail
          refine Calls.mono HSa.out ?_
          rintro e w3 ⟨rfl, k3⟩
          dsimp only
          go_wp2_with fail
          go_ret2
          rw [Hres.out]
          exact ⟨rfl, below_step B4 k3⟩
        · have he : decide (d = dr) = false := decide_eq_false hdd
          have HN2 : Hid (∀ i, i < k + 1 → D[i]? ≠ some dr) := by
            intro i hi h
            by_cases e : i = k
            · rw [e, hd] at h
              injection h with h
              exact hdd h
            · exact HN.out i (by omega) h
          rw [he] at HSa
          clear hd hdd he hdl2
          go_wp2_with fail
          refine Calls.mono HSa.out ?_
          rintro e w3 ⟨rfl, k3⟩
          dsimp only
          go_wp2_with fail
          go_roundw
          case rel => exact ⟨k + 1, by omega, by go_num, HN2, below_step B3 k3⟩
          case measure => simp [intOf]; omega
      · obtain rfl : k = D.length := by omega
        have hres : pNum t l dr = (0, 6) := num_miss HW.out Hnd.out (fun i hi => by rw [HDe.out] at hi ⊢; exact HN.out i hi)
        have Hres := Lib.hid hres
        clear hres
        go_wp2_with fail
        go_ret2
        rw [Hres.out]
        exact ⟨rfl, B4⟩
  · have hN : pNum t l dr = (0, pOdd t l) := by unfold pNum; rw [if_pos hw]
    rw [hN]
    generalize pOdd t l = q at *
    have h1 : ((q : Int) != 0) = true := bne_iff_ne.2 (by omega)
    clear hw hn hm hN
    go_enter Try.func34, Try.ntmps34
    go_wp2_with fail
    refine H.out.mono ?_
    rintro e w1 ⟨rfl, k1⟩
    go_wp2_with fail
    go_ret2
    exact ⟨rfl, k1⟩
end Go.Proofs.Ytiedecekbdaohaa
