/- Contracts of the reference of layer 36: wrong, first. -/
import Derived.Test.YtiedecekbdaohaaRef36
import Derived.Test.YtiedecekbdaohaaBest36
namespace Go.Proofs.Ytiedecekbdaohaa
open Go.RowKit

def rWrong (t : List Int) (m : List Pr) (odd : Bool) : Nat := if odd then pWrong t m else pOdd t m
set_option maxHeartbeats 1000000 in
theorem c_rWrong (A : Option Addr) (n cap : Nat) (t : List Int) (B : Option Addr) (m c : Nat) (l : List Pr) (odd : Bool) (w : World) (hn : n = t.length) (ht : t.length ≤ 2^47) (hm : m = l.length) (hl : l.length ≤ 2^47) (hA : SlAt w A (t.map i64)) (hB : SlAt w B (prs l)) :
    Calls Try.prog 39 #[.slice A n cap, .slice B m c, .bool odd] w (Frm (.int .i64 (rWrong t l odd : Nat)) w) := by
  have HR := Lib.hid (c_rRight A n cap t B m c l w hn ht hm hl hA hB)
  subst hn hm
  clear hA hB
  have hrw : ∀ r : Nat, rWrong t l odd = r → Hid (rWrong t l odd = r) := fun _ h => h
  cases hR : pRight t l with
  | false =>
    rw [hR] at HR
    have Hr : Hid (rWrong t l odd = 2) := by
      have h : pWrong t l = 2 := by unfold pWrong; rw [if_pos hR]
      show rWrong t l odd = 2
      unfold rWrong pOdd
      rw [h]; cases odd <;> rfl
    rw [Hr.out, show ((2 : Nat) : Int) = 2 from rfl]
    clear hR hrw
    go_enter Try.func39, Try.ntmps39
    go_wp2_with fail
    refine HR.out.mono ?_
    rintro e w1 ⟨rfl, k1⟩
    go_wp2_with fail
    go_ret
    exact ⟨rfl, k1⟩
  | true =>
    rw [hR] at HR
    by_cases h16 : 16 < t.length
    · have Hr : Hid (rWrong t l odd = 5) := by
        have h : pWrong t l = 5 := by unfold pWrong; rw [hR, if_neg Bool.noConfusion, if_pos h16]
        show rWrong t l odd = 5
        unfold rWrong pOdd
        rw [h]; cases odd <;> rfl
      rw [Hr.out, show ((5 : Nat) : Int) = 5 from rfl]
      have q1 : decide ((t.length : Int) > 16) = true := decide_eq_true (by omega)
      have q2 : (16 : Int) < (t.length : Int) := by omega
      clear hR hrw
      go_enter Try.func39, Try.ntmps39
      go_wp2_with fail
      refine HR.out.mono ?_
      rintro e w1 ⟨rfl, k1⟩
      go_wp2_with fail
      go_ret
      exact ⟨rfl, k1⟩
    · have q1 : decide ((t.length : Int) > 16) = false := decide_eq_false (by omega)
      have q2 : ¬ (16 : Int) < (t.length : Int) := by omega
      have hw : pWrong t l = 0 := by unfold pWrong; rw [hR, if_neg Bool.noConfusion, if_neg h16]
      by_cases ho : t.length % 2 = 1
      · have q3 : ((t.length : Int) % 2 == 1) = true := by simp; omega
        cases odd
        case' false =>
          have Hr : Hid (rWrong t l false = 360) := by
            show pOdd t l = 360
            unfold pOdd
            rw [if_neg (by rw [hw]; simp), if_pos ho]
          rw [Hr.out, show ((360 : Nat) : Int) = 360 from rfl]
        case' true =>
          have Hr : Hid (rWrong t l true = 0) := hw
          rw [Hr.out, show ((0 : Nat) : Int) = 0 from rfl]
        all_goals
          clear hR hrw hw
          go_enter Try.func39, Try.ntmps39
          go_wp2_with fail
          refine HR.out.mono ?_
          rintro e w1 ⟨rfl, k1⟩
          go_wp2_with fail
          go_ret
          exact ⟨rfl, k1⟩
      · have q3 : ((t.length : Int) % 2 == 1) = false := by simp; omega
        have Hr : Hid (rWrong t l odd = 0) := by
          show rWrong t l odd = 0
          unfold rWrong
          rw [hw, (pOdd_ok hw ho).1]; cases odd <;> rfl
        rw [Hr.out, show ((0 : Nat) : Int) = 0 from rfl]
        clear hR hrw hw
        cases odd
        all_goals
          go_enter Try.func39, Try.ntmps39
          go_wp2_with fail
          refine HR.out.mono ?_
          rintro e w1 ⟨rfl, k1⟩
          go_wp2_with fail
          go_ret
          exact ⟨rfl, k1⟩
def FirstPost (l : List Pr) (t : List Int) (w : World) (e : Ending) (w' : World) : Prop :=
  ∃ v, e = .returned (.tuple #[v, .bool (decide (0 < cnt l t))]) ∧ w'.ownsRow w.heap.size 71 2 v (nthR l t 0).length (prs (nthR l t 0)) ∧ Below w.heap.size w w'
theorem first_nil (l : List Pr) : decide (0 < cnt l []) = true ∧ nthR l [] 0 = [] := ⟨rfl, rfl⟩
theorem drawsTo_prefix {m : List Pr} {t : Int} {R : List Int} {d : List Pr} {k : Nat} (h : (drawsTo m t R k)[0]? = some d) : ∀ k', k ≤ k' → (drawsTo m t R k')[0]? = some d := by
  intro k' hk
  induction k' with
  | zero => obtain rfl : k = 0 := by omega
            exact h
  | succ k' ih =>
    by_cases e : k = k' + 1
    · rw [← e]; exact h
    · have h1 := ih (by omega)
      unfold drawsTo
      rw [List.getElem?_append_left (List.getElem?_eq_some_iff.1 h1).1]
      exact h1
theorem first_found {m : List Pr} {t z : Int} {R : List Int} {j : Nat} (h0 : drawsTo m t R j = []) (hz : R[j]? = some z) (hm : pMet m t z = false) (hc : 0 < cnt m (R.eraseIdx j)) :
    0 < cnt m (t :: R) ∧ nthR m (t :: R) 0 = (t, z) :: nthR m (R.eraseIdx j) 0 := by
  have h1 : (drawsTo m t R (j + 1))[0]? = some ((t, z) :: nthR m (R.eraseIdx j) 0) := by
    unfold drawsTo
    rw [h0, hz, Option.getD_some, hm, if_neg Bool.noConfusion, List.nil_append, List.getElem?_map, (nth0_yes hc).1]
    rfl
  have h2 : (draws m (t :: R))[0]? = some ((t, z) :: nthR m (R.eraseIdx j) 0) := by
    rw [draws_cons]
    exact drawsTo_prefix h1 _ (List.getElem?_eq_some_iff.1 hz).1
  have h3 : 0 < cnt m (t :: R) := (List.getElem?_eq_some_iff.1 h2).1
  refine ⟨h3, ?_⟩
  have h4 := (nth0_yes h3).1
  rw [h2] at h4
  injection h4 with h4
  exact h4.symm
theorem draws_len (m : List Pr) : ∀ n l, List.length l = n → ∀ d ∈ draws m l, 2 * d.length = l.length := by
  intro n
  induction n using Nat.strongRecOn with
  | _ n ih =>
    intro l hl d hd
    cases l with
    | nil =>
      rw [draws_nil, List.mem_singleton] at hd
      subst hd
      rfl
    | cons t rest =>
      rw [draws_cons, drawsTo_eq _ _ _ _ (Nat.le_refl _)] at hd
      obtain ⟨i, hi, hd⟩ := List.mem_flatMap.1 hd
      have hi : i < rest.length := by simpa using hi
      split at hd
      · cases hd
      · obtain ⟨d', hd', rfl⟩ := List.mem_map.1 hd
        have hel : (rest.eraseIdx i).length + 1 = rest.length := by rw [List.length_eraseIdx_of_lt hi]; omega
        have := ih _ (by simp at hl; omega) _ rfl d' hd'
        simp only [List.length_cons]
        omega
theorem nthR_len {m : List Pr} {l : List Int} : (nthR m l 0).length ≤ l.length := by
  by_cases h : 0 < cnt m l
  · have := draws_len m _ l rfl _ (List.mem_of_getElem? (nth0_yes h).1)
    omega
  · rw [(nth0_no (by omega)).1]
    exact Nat.zero_le _
theorem drawsTo_none {m : List Pr} {t z : Int} {R : List Int} {j : Nat} (h0 : drawsTo m t R j = []) (hz : R[j]? = some z) (h : pMet m t z = true ∨ cnt m (R.eraseIdx j) = 0) : drawsTo m t R (j + 1) = [] := by
  unfold drawsTo
  rw [h0, hz, Option.getD_some, List.nil_append]
  split
  · rfl
  · rename_i hm
    rcases h with h | h
    · exact absurd h hm
    · rw [List.eq_nil_of_length_eq_zero (show (draws m (R.eraseIdx j)).length = 0 from h)]
      rfl

set_option maxRecDepth 100000 in
set_option maxHeartbeats 4000000 in
theorem c_first (B : Option Addr) (m c : Nat) (l : List Pr) (hm : m = l.length) (hl : l.length ≤ 2^47) : ∀ N (t : List Int), t.length ≤ N → t.length ≤ 16 → ∀ (A : Option Addr) (n cap : Nat) (w : World), n = t.length → n ≤ cap → SlAt w A (t.map i64) → SlAt w B (prs l) →
    Calls Try.prog 40 #[.slice A n cap, .slice B m c] w (FirstPost l t w) := by
  obtain ⟨i0, hi, hz0, hz1, hz2⟩ := info_parts info_i64
  obtain ⟨j0, ji, jz0, jz1, jz2⟩ := info_parts info_rpr
  intro N
  induction N with
  | zero =>
    intro t ht _ A n cap w hn hcap hA hB
    obtain rfl : t = [] := List.eq_nil_of_length_eq_zero (by omega)
    obtain ⟨f1, f2⟩ := first_nil l
    subst hn
    unfold FirstPost
    rw [f1, f2]
    clear f1 f2
    go_enter Try.func40, Try.ntmps40
    go_wp2_with fail
    go_ret2
    exact ⟨_, rfl, own_emptyS _ 2 (Nat.le_refl _), (Below.refl _ _).alloc (Nat.le_refl _) _⟩
  | succ N ih =>
    intro t ht h16 A n cap w hn hcap hA hB
    cases t with
    | nil => 
      obtain ⟨f1, f2⟩ := first_nil l
      subst hn
      unfold FirstPost
      rw [f1, f2]
      clear f1 f2 ih
      go_enter Try.func40, Try.ntmps40
      go_wp2_with fail
      go_ret2
      exact ⟨_, rfl, own_emptyS _ 2 (Nat.le_refl _), (Below.refl _ _).alloc (Nat.le_refl _) _⟩
    | cons x R =>
      subst hn hm
      have HLl := Lib.hid (show (x :: R).length = R.length + 1 from rfl)
      obtain ⟨L, hL⟩ : ∃ L, L = x :: R := ⟨_, rfl⟩
      rw [← hL] at ht h16 hcap hA HLl ⊢
      have HLe := Lib.hid hL
      have hL1 : 1 ≤ L.length := by have := HLl.out; omega
      have HA := Lib.hid hA
      have HB := Lib.hid hB
      have HI := Lib.hid ih
      have q0 : ((L.length : Int) == 0) = false := beq_eq_false_iff_ne.2 (by omega)
      clear hL hA hB ih
      go_enter Try.func40, Try.ntmps40
      go_wp2_with fail
      go_loopw [6, 7, 8, 9, 10] (fun iv _ _ _ _ wr => ∃ i : Nat, 1 ≤ i ∧ i ≤ L.length ∧ iv = .int .i64 i ∧ Hid (drawsTo l x R (i - 1) = []) ∧ Below w.heap.size w wr) (fun iv _ _ _ _ _ => L.length - (intOf iv).toNat)
      case atStart => exact ⟨1, by omega, hL1, rfl, rfl, Below.refl _ _⟩
      case round =>
        obtain ⟨i, hi1, hi2, rfl, HE, B1⟩ := hrel
        obtain ⟨wi, rfl⟩ : ∃ wi, wi = wr := ⟨_, rfl⟩
        by_cases hiL : i < L.length
        · obtain ⟨bL, oL, rfl, hbL, hcL⟩ := (HA.out.below B1).i64_all hL1
          obtain ⟨z, hz⟩ := getI_some (l := R) (k := i - 1) (by have := HLl.out; omega)
          have hL0 : L[0]? = some x := by rw [HLe.out]; rfl
          have hLi : L[i]? = some z := by rw [HLe.out, List.getElem?_cons, if_neg (by omega)]; exact hz
          have cL0 := hcL 0 x hL0
          have cLi := hcL i z hLi
          rw [Nat.add_zero] at cL0
          have dL0 : wi.drew.cell? ⟨bL, oL, none⟩ = some (.int .i64 x) := cL0
          have dLi : wi.drew.cell? ⟨bL, oL + i, none⟩ = some (.int .i64 z) := cLi
          have Hz := Lib.hid hz
          have HMt := Lib.hid (c_rMet B l.length c l x z wi.drew rfl hl (HB.out.below (below_dr B1)))
          have s1 : (0 : Int) ≤ (i : Int) := by omega
          have s2 : (i : Int) < (L.length : Int) := by omega
          have s3 : (0 : Int) < (L.length : Int) := by omega
          have s4 : 0 < L.length := by omega
          clear hcL hL0 hLi hz
          go_wp2_with fail
          go_region_held3 (fun W => W.cell? ⟨bL, oL, none⟩ = some (.int .i64 x) ∧ W.cell? ⟨bL, oL + i, none⟩ = some (.int .i64 z)) (first | exact ⟨by assumption, by assumption⟩ | go_keep)
            ((go_at_call 31; refine HMt.out.mono ?_; rintro e w2 ⟨rfl, k2⟩; have eL0 := (k2.cell (p := ⟨bL, oL, none⟩) hbL).trans dL0; have eLi := (k2.cell (p := ⟨bL, oL + i, none⟩) hbL).trans dLi))
          have B2 := below_step (below_dr B1) k2
          have hb2 : bL < w2.heap.size := Nat.lt_of_lt_of_le hbL k2.size
          clear dL0 dLi cL0 cLi k2 HMt
          cases hmz : pMet l x z with
          | true =>
            have HE2 := Lib.hid (drawsTo_none HE.out Hz.out (.inl hmz))
            go_wp2_with fail
            go_roundw
            case rel => exact ⟨i + 1, by omega, by omega, by go_num, by rw [show i + 1 - 1 = i - 1 + 1 from by omega]; exact HE2, B2⟩
            case measure => simp [intOf]; omega
          | false =>
            have hsz2 := B2.size
            go_wp2_with fail
            go_loopw [7, 8] (fun rv kv wr => ∃ k : Nat, 1 ≤ k ∧ k ≤ L.length ∧ kv = .int .i64 k ∧ wr.ownsRow w2.heap.size 3 1 rv ((R.take (k - 1)).eraseIdx (i - 1)).length (((R.take (k - 1)).eraseIdx (i - 1)).map i64) ∧ Below w2.heap.size w2 wr) (fun _ kv _ => L.length - (intOf kv).toNat)
            case atStart => exact ⟨1, by omega, by omega, rfl, own_nil _ _, Below.refl _ _⟩
            case round =>
              obtain ⟨k, hk1, hk2, rfl, hown, D1⟩ := hrel
              have hszk := D1.size
              by_cases hkl : k < L.length
              · obtain ⟨bL', oL', y, e', hbL', hy, hyc⟩ := (HA.out.below (below_step B2 D1)).i64_at hkl
                obtain ⟨rfl, rfl⟩ : bL' = bL ∧ oL' = oL := by injection e' with e'; injection e' with e1 e2; exact ⟨e1.symm, e2.symm⟩
                have hyR : R[k - 1]? = some y := by
                  rw [HLe.out, List.getElem?_cons, if_neg (by omega)] at hy
                  exact hy
                have HO := Lib.hid hown
                have Hk := Lib.hid (show k - 1 + 1 = k + 1 - 1 by omega)
                have hrl : ((R.take (k - 1)).eraseIdx (i - 1)).length ≤ 16 := Nat.le_trans (List.length_eraseIdx_le ..) (by rw [List.length_take]; omega)
                clear hown hy e'
                by_cases hki : k = i
                · have e1 : ((k : Int) != (i : Int)) = false := by simp [hki]
                  have Hst : Hid ((R.take (k + 1 - 1)).eraseIdx (i - 1) = (R.take (k - 1)).eraseIdx (i - 1)) := by
                    rw [← Hk.out, hki]; exact erase_take_skip
                  clear hki hyR
                  generalize (R.take (k - 1)).eraseIdx (i - 1) = r0 at *
                  go_wp2_with fail
                  go_roundw
                  case rel => exact ⟨k + 1, by omega, by omega, by go_num, by rw [Hst.out]; exact HO.out, D1⟩
                  case measure => simp [intOf]; omega
                · have e1 : ((k : Int) != (i : Int)) = true := by simp; omega
                  have Hst : Hid ((R.take (k + 1 - 1)).eraseIdx (i - 1) = (R.take (k - 1)).eraseIdx (i - 1) ++ [y]) := by
                    rw [← Hk.out]; exact erase_take_next hyR (by omega)
                  clear hki hyR
                  generalize (R.take (k - 1)).eraseIdx (i - 1) = r0 at *
                  go_wp2_with (at_builtin; go_must (refine wpList_append_sl rfl (.tmp 39) (.tmp 44) 22 rfl w2.heap.size 3 i0 (.int .i64 0) 8 Try.underlying22 hi hz0 hz1 hz2 rfl _ r0.length _ rfl (HO.out.alloc _) (some ⟨wr.heap.size, 0, none⟩) 1 1 [.int .i64 y] rfl rfl (sl_one _ _ _) (by simp [Value.oneCell']) (by unfold maxLen; omega) (by omega) (by simp; omega) ?_); intro v8 w8 hown8 hg8 _)
                  go_roundw
                  case rel => exact ⟨k + 1, by omega, by omega, by go_num, by rw [Hst.out, List.length_append, List.map_append]; exact hown8, (D1.alloc D1.size _).grown hg8 (by simp; omega) (own_base HO.out)⟩
                  case measure => simp [intOf]; omega
              · obtain rfl : k = L.length := by omega
                have hLe : L.length - 1 = R.length := by have := HLl.out; omega
                rw [hLe, List.take_of_length_le (Nat.le_refl _)] at hown
                have hrl : (R.eraseIdx (i - 1)).length + 2 = L.length := by rw [List.length_eraseIdx_of_lt (by have := HLl.out; omega)]; have := HLl.out; omega
                have HF := Lib.hid (fun hc => first_found HE.out Hz.out hmz hc)
                have HF0 := Lib.hid (fun hc => drawsTo_none HE.out Hz.out (.inr hc))
                rw [← HLe.out] at HF
                clear hLe hmz
                generalize R.eraseIdx (i - 1) = r at *
                obtain ⟨A9, c9, rfl, hc9, _, hs9⟩ := own_slI hown
                have B3 := below_step B2 D1
                have HR := Lib.hid (HI.out r (by omega) (by omega) A9 r.length c9 wr rfl hc9 hs9 (HB.out.below B3))
                have fL0 := (D1.cell (p := ⟨bL, oL, none⟩) hb2).trans eL0
                have fLi := (D1.cell (p := ⟨bL, oL + i, none⟩) hb2).trans eLi
                have hb3 : bL < wr.heap.size := Nat.lt_of_lt_of_le hb2 D1.size
                clear hown hs9
                go_wp2_with fail
                refine HR.out.mono ?_
                rintro e w3 ⟨v3, rfl, hown3, k3⟩
                have B4 := below_step B3 k3
                have hL0' := (k3.cell (p := ⟨bL, oL, none⟩) hb3).trans fL0
                have hLi' := (k3.cell (p := ⟨bL, oL + i, none⟩) hb3).trans fLi
                obtain ⟨A3, c3, rfl, hc3, _, hs3⟩ := own_slP hown3
                have HS3 := Lib.hid hs3
                clear hown3 hs3 fL0 fLi HR
                by_cases hcr : 0 < cnt l r
                · obtain ⟨g1, g2⟩ := HF.out hcr
                  rw [decide_eq_true hcr]
                  have hdl : (nthR l r 0).length ≤ 16 := by have := nthR_len (m := l) (l := r); omega
                  have HPost := Lib.hid (And.intro g1 g2)
                  clear g1 g2
                  generalize nthR l r 0 = d9 at *
                  have mL0 : w3.drew.cell? ⟨bL, oL, none⟩ = some (.int .i64 x) := hL0'
                  have mLi : w3.drew.cell? ⟨bL, oL + i, none⟩ = some (.int .i64 z) := hLi'
                  have hsz4 := B4.size
                  go_wp2_with fail
                  go_region_held3 (fun W => W.cell? ⟨bL, oL, none⟩ = some (.int .i64 x) ∧ W.cell? ⟨bL, oL + i, none⟩ = some (.int .i64 z)) (first | exact ⟨by assumption, by assumption⟩ | go_keep)
                    ((refine step_append_slS (by rfl) (.tmp 61) (.tmp 62) 30 (by rfl) w.heap.size 71 j0 _ 2 16 Try.underlying30 ji jz0 jz1 jz2 (by rfl) (by omega) (.slice (some ⟨_, 0, none⟩) 1 1) 1 [.int .i64 x, .int .i64 z] (by rfl) ?_ A3 d9.length c3 (prs d9) (by rfl) ?_ ?_ ?_ ?_ ?_ ?_ ?_;
                      (exact (World.ownsRow_lit w3 #[.int .i64 x, .int .i64 z] 1 hsz4 (by unfold maxLen; omega) rfl).drew); (rw [prs_len, Nat.mul_comm]); (exact (HS3.out.alloc _).drew); (exact prs_one); (unfold maxLen; omega); (omega); (simp; omega); intro v6 w6 hown6 hg6 _;
                      have nL0 := hg6.cell (a := ⟨bL, oL, none⟩) (cell_keep_alloc _ hL0') (fun h => absurd (show bL = w3.heap.size from by injection h) (by have := k3.size; omega)); have nLi := hg6.cell (a := ⟨bL, oL + i, none⟩) (cell_keep_alloc _ hLi') (fun h => absurd (show bL = w3.heap.size from by injection h) (by have := k3.size; omega))))
                  go_wp2_with fail
                  go_ret2
                  have B6 := (below_dr (B4.alloc hsz4 (.cells #[.int .i64 x, .int .i64 z] 71))).grown hg6 (by simp; omega) (own_block hsz4)
                  have hl9 : 1 + d9.length = ((x, z) :: d9).length := by simp; omega
                  rw [hl9] at hown6
                  unfold FirstPost
                  rw [HPost.out.2, decide_eq_true HPost.out.1]
                  exact ⟨v6, rfl, hown6, B6⟩
                · rw [decide_eq_false hcr]
                  have HE2 := Lib.hid (HF0.out (by omega))
                  go_wp2_with fail
                  go_roundw
                  case rel => exact ⟨i + 1, by omega, by omega, by go_num, by rw [show i + 1 - 1 = i - 1 + 1 from by omega]; exact HE2, B4⟩
                  case measure => simp [intOf]; omega
        · obtain rfl : i = L.length := by omega
          have h0 : cnt l L = 0 := by
            have h := HE.out
            rw [show L.length - 1 = R.length from by have := HLl.out; omega] at h
            rw [HLe.out, cnt_cons]
            unfold cntTo
            rw [h]; rfl
          obtain ⟨g1, g2⟩ := nth0_no h0
          have HP : Hid (decide (0 < cnt l L) = false ∧ nthR l L 0 = []) := ⟨decide_eq_false (by omega), g1⟩
          clear g1 g2 h0
          go_wp2_with fail
          go_ret2
          unfold FirstPost
          rw [HP.out.1, HP.out.2]
          exact ⟨_, rfl, own_nil _ _, B1⟩
end Go.Proofs.Ytiedecekbdaohaa
