/- Contract of the reference's all of layer 36. -/
import Derived.Test.YtiedecekbdaohaaAllA36
namespace Go.Proofs.Ytiedecekbdaohaa
open Go.RowKit

theorem info_rsl : (Try.prog.info? 30).map (fun i => (i.zero, i.size, i.bytes)) = some (some (.slice none 0 0), 1, 24) := by kernel_rfl
/-- What lies in memory while the draws of the rest are taken over: the row of draws so far, the row of the rest's draws. -/
structure KSt (B : Nat) (ov v3 : Value) (O ds : List (List Pr)) (vs vs3 : List Value) (w : World) : Prop where
  out : w.ownsRow B 30 1 ov O.length vs
  ll : LL w B vs O
  row : w.ownsRow B 30 1 v3 ds.length vs3
  ll3 : LL w B vs3 ds
  ne : ∀ k, ov.ownBlock = some k → v3.ownBlock ≠ some k
theorem KSt.later {B : Nat} {ov v3 : Value} {O ds : List (List Pr)} {vs vs3 : List Value} {w w' : World} (h : KSt B ov v3 O ds vs vs3 w) (hb : Below w.heap.size w w') : KSt B ov v3 O ds vs vs3 w' :=
  ⟨own_later h.out hb, h.ll.later hb, own_later h.row hb, h.ll3.later hb, h.ne⟩
theorem KSt.put {B : Nat} {ov ov' v3 u : Value} {O ds : List (List Pr)} {d : List Pr} {vs vs3 : List Value} {w w' : World} (h : KSt B ov v3 O ds vs vs3 w) (hu : w.ownsRow B 71 2 u d.length (prs d))
    (ho : w'.ownsRow B 30 1 ov' (O.length + 1) (vs ++ [u])) (hg : w.grownBy w' ov.ownBlock) (hv : ov'.ownBlock = ov.ownBlock ∨ ov'.ownBlock = some w.heap.size) : KSt B ov' v3 (O ++ [d]) ds (vs ++ [u]) vs3 w' := by
  refine ⟨by rw [List.length_append]; exact ho, (h.ll.grown h.out hg).snoc (hu.kept hg (own_apart hu h.out)), h.row.kept hg ?_, h.ll3.grown h.out hg, fun k hk hb => ?_⟩
  · cases hb : v3.ownBlock with
    | none => exact .inl rfl
    | some k => exact .inr (fun e => h.ne k e.symm hb)
  · rcases hv with hv | hv
    · exact h.ne k (hv ▸ hk) hb
    · rw [hv] at hk
      have := (h.row.lt k hb).2
      injection hk with hk
      omega
theorem drawsTo_met {m : List Pr} {t z : Int} {R : List Int} {j : Nat} (hz : R[j]? = some z) (h : pMet m t z = true) : drawsTo m t R (j + 1) = drawsTo m t R j := by
  show drawsTo m t R j ++ _ = _
  rw [hz, Option.getD_some, if_pos h, List.append_nil]
theorem drawsTo_next {m : List Pr} {t z : Int} {R : List Int} {j : Nat} (hz : R[j]? = some z) (h : pMet m t z = false) : drawsTo m t R (j + 1) = drawsTo m t R j ++ (draws m (R.eraseIdx j)).map fun d => (t, z) :: d := by
  show drawsTo m t R j ++ _ = _
  rw [hz, Option.getD_some, h, if_neg Bool.noConfusion]

theorem keep3 {w : World} {p q r : Addr} {u v x : Value} (o : Obj) (h : w.cell? p = some u ∧ w.cell? q = some v ∧ w.cell? r = some x) : (w.alloc o).cell? p = some u ∧ (w.alloc o).cell? q = some v ∧ (w.alloc o).cell? r = some x :=
  ⟨cell_keep_alloc _ h.1, cell_keep_alloc _ h.2.1, cell_keep_alloc _ h.2.2⟩

set_option maxRecDepth 100000 in
set_option maxHeartbeats 8000000 in
theorem c_all (B : Option Addr) (m c : Nat) (l : List Pr) (hm : m = l.length) (hl : l.length ≤ 2^47) : ∀ N (t : List Int), t.length ≤ N → t.length ≤ 16 → ∀ (A : Option Addr) (n cap : Nat) (w : World), n = t.length → n ≤ cap → SlAt w A (t.map i64) → SlAt w B (prs l) →
    Calls Try.prog 47 #[.slice A n cap, .slice B m c] w (AllPost l t w) := by
  obtain ⟨i0, hi, hz0, hz1, hz2⟩ := info_parts info_i64
  obtain ⟨j0, ji, jz0, jz1, jz2⟩ := info_parts info_rpr
  obtain ⟨s0, si, sz0, sz1, sz2⟩ := info_parts info_rsl
  intro N
  induction N with
  | zero =>
    intro t ht _ A n cap w hn hcap hA hB
    obtain rfl : t = [] := List.eq_nil_of_length_eq_zero (by omega)
    subst hn
    go_enter Try.func47, Try.ntmps47
    go_wp2_with fail
    go_ret
    have hB1 := (Below.refl w.heap.size w).alloc (Nat.le_refl _) (.cells #[] 71)
    refine ⟨_, [.slice (some ⟨w.heap.size, 0, none⟩) 0 0], rfl, ?_, .cons ((own_emptyS _ 2 (Nat.le_refl _)).alloc _) .nil, hB1.alloc hB1.size _⟩
    have h := World.ownsRow_lit (base := w.heap.size) (e := 30) (w.alloc (.cells #[] 71)) #[.slice (some ⟨w.heap.size, 0, none⟩) 0 0] 1 (size := 1) (by simp) (by unfold maxLen; omega) rfl
    rw [show (w.alloc (.cells #[] 71)).heap.size = w.heap.size + 1 from by simp] at h
    exact h
  | succ N ih =>
    intro t ht h16 A n cap w hn hcap hA hB
    cases t with
    | nil =>
      subst hn
      clear ih
      go_enter Try.func47, Try.ntmps47
      go_wp2_with fail
      go_ret
      have hB1 := (Below.refl w.heap.size w).alloc (Nat.le_refl _) (.cells #[] 71)
      refine ⟨_, [.slice (some ⟨w.heap.size, 0, none⟩) 0 0], rfl, ?_, .cons ((own_emptyS _ 2 (Nat.le_refl _)).alloc _) .nil, hB1.alloc hB1.size _⟩
      have h := World.ownsRow_lit (base := w.heap.size) (e := 30) (w.alloc (.cells #[] 71)) #[.slice (some ⟨w.heap.size, 0, none⟩) 0 0] 1 (size := 1) (by simp) (by unfold maxLen; omega) rfl
      rw [show (w.alloc (.cells #[] 71)).heap.size = w.heap.size + 1 from by simp] at h
      exact h
    | cons x R =>
      subst hn hm
      have HLl := Lib.hid (show (x :: R).length = R.length + 1 from rfl)
      obtain ⟨L, hL⟩ : ∃ L, L = x :: R := ⟨_, rfl⟩
      rw [← hL] at ht h16 hcap hA HLl ⊢
      have HLe := Lib.hid hL
      have hL1 : 1 ≤ L.length := by have := HLl.out; omega
      have HA := Lib.hid hA
      have HB := Lib.hid hB
      have HI := Lib.hid ih
      have q0 : ((L.length : Int) == 0) = false := beq_eq_false_iff_ne.2 (by omega)
      clear hL hA hB ih
      go_enter Try.func47, Try.ntmps47
      go_wp2_with fail
      go_loopw [5, 6, 7, 8, 9, 10] (fun ov iv _ _ _ _ wr => ∃ (i : Nat) (vs : List Value), 1 ≤ i ∧ i ≤ L.length ∧ iv = .int .i64 i ∧ Hid (wr.ownsRow w.heap.size 30 1 ov (drawsTo l x R (i - 1)).length vs ∧ LL wr w.heap.size vs (drawsTo l x R (i - 1))) ∧ Below w.heap.size w wr) (fun _ iv _ _ _ _ _ => L.length - (intOf iv).toNat)
      case atStart => exact ⟨1, [], by omega, hL1, rfl, ⟨own_nil _ _, .nil⟩, Below.refl _ _⟩
      case round =>
        obtain ⟨i, vs, hi1, hi2, rfl, HO, B1⟩ := hrel
        obtain ⟨wi, rfl⟩ : ∃ wi, wi = wr := ⟨_, rfl⟩
        obtain ⟨ov, rfl⟩ : ∃ ov, ov = u5 := ⟨_, rfl⟩
        by_cases hiL : i < L.length
        · obtain ⟨bL, oL, rfl, hbL, hcL⟩ := (HA.out.below B1).i64_all hL1
          have hbL0 : bL < w.heap.size := by
            obtain ⟨b', o', e', hb', _⟩ := HA.out.i64_all hL1
            injection e' with e'
            injection e' with e1 e2
            omega
          obtain ⟨z, hz⟩ := getI_some (l := R) (k := i - 1) (by have := HLl.out; omega)
          have hL0 : L[0]? = some x := by rw [HLe.out]; rfl
          have hLi : L[i]? = some z := by rw [HLe.out, List.getElem?_cons, if_neg (by omega)]; exact hz
          have cL0 := hcL 0 x hL0
          have cLi := hcL i z hLi
          rw [Nat.add_zero] at cL0
          have dL0 : wi.drew.cell? ⟨bL, oL, none⟩ = some (.int .i64 x) := cL0
          have dLi : wi.drew.cell? ⟨bL, oL + i, none⟩ = some (.int .i64 z) := cLi
          have Hz := Lib.hid hz
          have HMt := Lib.hid (c_rMet B l.length c l x z wi.drew rfl hl (HB.out.below (below_dr B1)))
          have s1 : (0 : Int) ≤ (i : Int) := by omega
          have s2 : (i : Int) < (L.length : Int) := by omega
          have s3 : (0 : Int) < (L.length : Int) := by omega
          have s4 : 0 < L.length := by omega
          clear hcL hL0 hLi hz
          go_wp2_with fail
          go_region_held3 (fun W => W.cell? ⟨bL, oL, none⟩ = some (.int .i64 x) ∧ W.cell? ⟨bL, oL + i, none⟩ = some (.int .i64 z)) (first | exact ⟨by assumption, by assumption⟩ | go_keep)
            ((go_at_call 31; refine HMt.out.mono ?_; rintro e w2 ⟨rfl, k2⟩; have eL0 := (k2.cell (p := ⟨bL, oL, none⟩) hbL).trans dL0; have eLi := (k2.cell (p := ⟨bL, oL + i, none⟩) hbL).trans dLi))
          have B2 := below_step (below_dr B1) k2
          have HO2 : Hid (w2.ownsRow w.heap.size 30 1 ov (drawsTo l x R (i - 1)).length vs ∧ LL w2 w.heap.size vs (drawsTo l x R (i - 1))) := ⟨own_later (w := wi.drew) HO.out.1.drew k2, LL.later (w := wi.drew) (HO.out.2.imp fun _ _ h => h.drew) k2⟩
          have hb2 : bL < w2.heap.size := Nat.lt_of_lt_of_le hbL k2.size
          clear dL0 dLi cL0 cLi k2 HMt HO
          cases hmz : pMet l x z with
          | true =>
            have HE2 := Lib.hid (drawsTo_met (m := l) (t := x) Hz.out hmz)
            go_wp2_with fail
            go_roundw
            case rel => exact ⟨i + 1, vs, by omega, by omega, by go_num, by rw [show i + 1 - 1 = i - 1 + 1 from by omega, HE2.out]; exact HO2, B2⟩
            case measure => simp [intOf]; omega
          | false =>
            have HE2 := Lib.hid (drawsTo_next (m := l) (t := x) Hz.out hmz)
            have hsz2 := B2.size
            clear hmz
            go_wp2_with fail
            go_loopw [7, 8] (fun rv kv wr => ∃ k : Nat, 1 ≤ k ∧ k ≤ L.length ∧ kv = .int .i64 k ∧ wr.ownsRow w2.heap.size 3 1 rv ((R.take (k - 1)).eraseIdx (i - 1)).length (((R.take (k - 1)).eraseIdx (i - 1)).map i64) ∧ Below w2.heap.size w2 wr) (fun _ kv _ => L.length - (intOf kv).toNat)
            case atStart => exact ⟨1, by omega, by omega, rfl, own_nil _ _, Below.refl _ _⟩
            case round =>
              obtain ⟨k, hk1, hk2, rfl, hown, D1⟩ := hrel
              have hszk := D1.size
              by_cases hkl : k < L.length
              · obtain ⟨bL', oL', y, e', hbL', hy, hyc⟩ := (HA.out.below (below_step B2 D1)).i64_at hkl
                obtain ⟨rfl, rfl⟩ : bL' = bL ∧ oL' = oL := by injection e' with e'; injection e' with e1 e2; exact ⟨e1.symm, e2.symm⟩
                have hyR : R[k - 1]? = some y := by
                  rw [HLe.out, List.getElem?_cons, if_neg (by omega)] at hy
                  exact hy
                have HOw := Lib.hid hown
                have Hk := Lib.hid (show k - 1 + 1 = k + 1 - 1 by omega)
                have hrl : ((R.take (k - 1)).eraseIdx (i - 1)).length ≤ 16 := Nat.le_trans (List.length_eraseIdx_le ..) (by rw [List.length_take]; omega)
                clear hown hy e'
                by_cases hki : k = i
                · have e1 : ((k : Int) != (i : Int)) = false := by simp [hki]
                  have Hst : Hid ((R.take (k + 1 - 1)).eraseIdx (i - 1) = (R.take (k - 1)).eraseIdx (i - 1)) := by
                    rw [← Hk.out, hki]; exact erase_take_skip
                  clear hki hyR
                  generalize (R.take (k - 1)).eraseIdx (i - 1) = r0 at *
                  go_wp2_with fail
                  go_roundw
                  case rel => exact ⟨k + 1, by omega, by omega, by go_num, by rw [Hst.out]; exact HOw.out, D1⟩
                  case measure => simp [intOf]; omega
                · have e1 : ((k : Int) != (i : Int)) = true := by simp; omega
                  have Hst : Hid ((R.take (k + 1 - 1)).eraseIdx (i - 1) = (R.take (k - 1)).eraseIdx (i - 1) ++ [y]) := by
                    rw [← Hk.out]; exact erase_take_next hyR (by omega)
                  clear hki hyR
                  generalize (R.take (k - 1)).eraseIdx (i - 1) = r0 at *
                  go_wp2_with (at_builtin; go_must (refine wpList_append_sl rfl (.tmp 40) (.tmp 45) 22 rfl w2.heap.size 3 i0 (.int .i64 0) 8 Try.underlying22 hi hz0 hz1 hz2 rfl _ r0.length _ rfl (HOw.out.alloc _) (some ⟨wr.heap.size, 0, none⟩) 1 1 [.int .i64 y] rfl rfl (sl_one _ _ _) (by simp [Value.oneCell']) (by unfold maxLen; omega) (by omega) (by simp; omega) ?_); intro v8 w8 hown8 hg8 _)
                  go_roundw
                  case rel => exact ⟨k + 1, by omega, by omega, by go_num, by rw [Hst.out, List.length_append, List.map_append]; exact hown8, (D1.alloc D1.size _).grown hg8 (by simp; omega) (own_base HOw.out)⟩
                  case measure => simp [intOf]; omega
              · obtain rfl : k = L.length := by omega
                have hLe : L.length - 1 = R.length := by have := HLl.out; omega
                rw [hLe, List.take_of_length_le (Nat.le_refl _)] at hown
                have hrl : (R.eraseIdx (i - 1)).length + 2 = L.length := by rw [List.length_eraseIdx_of_lt (by have := HLl.out; omega)]; have := HLl.out; omega
                have hcO := cntTo_16 (m := l) (t := x) (rest := R) (k := i - 1) (by have := HLl.out; omega) (by have := HLl.out; omega)
                have hcD := cnt_16 (m := l) (l := R.eraseIdx (i - 1)) (by omega)
                have hDl : ∀ d ∈ draws l (R.eraseIdx (i - 1)), d.length ≤ 16 := fun d hd => by have := draws_len l _ _ rfl d hd; omega
                unfold cntTo at hcO
                unfold cnt at hcD
                clear hLe
                generalize R.eraseIdx (i - 1) = r at *
                generalize hOe : drawsTo l x R (i - 1) = O1 at *
                have HOe := Lib.hid hOe
                clear hOe
                obtain ⟨A9, c9, rfl, hc9, _, hs9⟩ := own_slI hown
                have B3 := below_step B2 D1
                have HR := Lib.hid (HI.out r (by omega) (by omega) A9 r.length c9 wr rfl hc9 hs9 (HB.out.below B3))
                have HO3 : Hid (wr.ownsRow w.heap.size 30 1 ov O1.length vs ∧ LL wr w.heap.size vs O1) := ⟨own_later HO2.out.1 D1, HO2.out.2.later D1⟩
                have hz3 := B3.size
                clear hown hs9 HO2
                go_wp2_with fail
                refine HR.out.mono ?_
                rintro e w3 ⟨v3, vs3, rfl, hown3, hll3, k3⟩
                have B4 := below_step B3 k3
                have HK0 : Hid (KSt w.heap.size ov v3 O1 (draws l r) vs vs3 w3) := ⟨own_later HO3.out.1 k3, HO3.out.2.later k3, own_mono hown3 hz3, hll3.mono hz3, fun kk h1 h2 => by
                  have a1 := (HO3.out.1.lt kk h1).2
                  have a2 := (hown3.lt kk h2).1
                  omega⟩
                clear hown3 hll3 k3 HR HO3
                generalize draws l r = D at *
                obtain ⟨A3, c3, rfl, hc3, _, _⟩ := own_slI HK0.out.row
                have HDl := Lib.hid hDl
                clear hDl
                go_wp2_with fail
                go_loopw [5, 10] (fun ov' kv wr => ∃ (k : Nat) (vs' : List Value), k ≤ D.length ∧ kv = .int .i64 k ∧ Hid (KSt w.heap.size ov' (.slice A3 D.length c3) (O1 ++ (D.take k).map fun d => (x, z) :: d) D vs' vs3 wr) ∧ Below w.heap.size w wr) (fun _ kv _ => D.length - (intOf kv).toNat)
                case atStart => exact ⟨0, vs, Nat.zero_le _, rfl, by simpa using HK0, B4⟩
                case round =>
                  obtain ⟨k, vs', hk, rfl, HK, B5⟩ := hrel
                  obtain ⟨oo, rfl⟩ : ∃ oo, oo = u5 := ⟨_, rfl⟩
                  have hz5 := B5.size
                  by_cases hkD : k < D.length
                  · obtain ⟨d, hd⟩ : ∃ d, D[k]? = some d := ⟨_, List.getElem?_eq_getElem hkD⟩
                    have hv3l := HK.out.ll3.len
                    obtain ⟨u3, hu3⟩ : ∃ u, vs3[k]? = some u := ⟨_, List.getElem?_eq_getElem (by omega)⟩
                    have hou := HK.out.ll3.at_ hu3 hd
                    obtain ⟨A5, c5, rfl, hc5, _, hs5⟩ := own_slP hou
                    obtain ⟨A3', c3', e3, _, _, hsl⟩ := own_slI HK.out.row
                    injection e3 with e31 e32 e33
                    subst e31 e33
                    obtain ⟨bl, ol, rfl, hbl, hcl⟩ := hsl (by omega)
                    have cl := hcl k _ hu3
                    have fL0 := (B5.cell (p := ⟨bL, oL, none⟩) hbL0).trans ((B2.cell (p := ⟨bL, oL, none⟩) hbL0).symm.trans eL0)
                    have fLi := (B5.cell (p := ⟨bL, oL + i, none⟩) hbL0).trans ((B2.cell (p := ⟨bL, oL + i, none⟩) hbL0).symm.trans eLi)
                    have m1 : wr.drew.cell? ⟨bL, oL, none⟩ = some (.int .i64 x) := fL0
                    have m2 : wr.drew.cell? ⟨bL, oL + i, none⟩ = some (.int .i64 z) := fLi
                    have m3 : wr.drew.cell? ⟨bl, ol + k, none⟩ = some (.slice A5 d.length c5) := cl
                    have hbLr : bL < wr.heap.size := by omega
                    have hd16 := HDl.out d (List.mem_of_getElem? hd)
                    have hOl : (O1 ++ (D.take k).map fun d => (x, z) :: d).length ≤ 40000000 := by rw [List.length_append, List.length_map, List.length_take]; omega
                    have hst : (O1 ++ (D.take k).map fun d => (x, z) :: d) ++ [(x, z) :: d] = O1 ++ (D.take (k + 1)).map fun d => (x, z) :: d := by
                      obtain ⟨h2, h3⟩ := List.getElem?_eq_some_iff.1 hd
                      rw [List.take_succ_eq_append_getElem h2, h3, List.map_append, List.append_assoc]
                      rfl
                    have Hst := Lib.hid hst
                    have Hne : Hid (∀ kk, oo.ownBlock = some kk → kk ≠ bl) := fun kk h1 h2 => HK.out.ne kk h1 (by rw [h2]; rfl)
                    have HS5 := Lib.hid hs5
                    have r1 : (0 : Int) ≤ (k : Int) := by omega
                    have r2 : (k : Int) < (D.length : Int) := by omega
                    have xa : True := trivial
                    have xb : True := trivial
                    clear hd hu3 hou hs5 hsl hcl cl fL0 fLi hst e32 hv3l
                    generalize (O1 ++ (D.take k).map fun d => (x, z) :: d) = O2 at *
                    go_wp2_with fail
                    go_region_held3 (fun W => W.cell? ⟨bL, oL, none⟩ = some (.int .i64 x) ∧ W.cell? ⟨bL, oL + i, none⟩ = some (.int .i64 z) ∧ W.cell? ⟨bl, ol + k, none⟩ = some (.slice A5 d.length c5)) (first | exact ⟨by assumption, by assumption, by assumption⟩ | exact keep3 _ (by assumption))
                      ((first
                        | (have _t := xa; refine step_append_slS (by rfl) (.tmp 65) (.tmp 69) 30 (by rfl) wr.heap.size 71 j0 _ 2 16 Try.underlying30 ji jz0 jz1 jz2 (by rfl) (by omega) (.slice (some ⟨_, 0, none⟩) 1 1) 1 [.int .i64 x, .int .i64 z] (by rfl) ?_ A5 d.length c5 (prs d) (by rfl) ?_ ?_ ?_ ?_ ?_ ?_ ?_;
                            (exact (World.ownsRow_lit wr #[.int .i64 x, .int .i64 z] 1 (size := 2) (Nat.le_refl _) (by unfold maxLen; omega) rfl).drew); (rw [prs_len, Nat.mul_comm]); (exact (HS5.out.alloc _).drew); (exact prs_one); (unfold maxLen; omega); (omega); (simp); intro v6 w6 hown6 hg6 _;
                            have K6 := (below_dr ((Below.refl wr.heap.size wr).alloc (Nat.le_refl _) (.cells #[.int .i64 x, .int .i64 z] 71))).grown hg6 (by simp) (own_block (Nat.le_refl _));
                            have p1 := (K6.cell (p := ⟨bL, oL, none⟩) hbLr).trans m1; have p2 := (K6.cell (p := ⟨bL, oL + i, none⟩) hbLr).trans m2; have p3 := (K6.cell (p := ⟨bl, ol + k, none⟩) hbl).trans m3;
                            obtain ⟨A6, c6, e6, hc6, _, _⟩ := own_slP hown6; subst e6; clear xa _t)
                        | (have _t := xb; refine step_append_slS (by rfl) (.tmp 56) (.tmp 71) 80 (by rfl) w.heap.size 30 s0 _ 1 24 Try.underlying80 si sz0 sz1 sz2 (by rfl) (by omega) oo O2.length vs' (by rfl) ?_ (some ⟨_, 0, none⟩) 1 1 [.slice A6 (1 + d.length) c6] (by rfl) ?_ ?_ ?_ ?_ ?_ ?_ ?_;
                            (exact (own_later HK.out.out K6).alloc _); (rfl); (exact sl_litN w6 _ [.slice A6 (1 + d.length) c6]); (intro u hu; rw [List.mem_singleton] at hu; rw [hu]; rfl); (unfold maxLen; omega); (omega); (have := K6.size; simp; omega); intro v8 w8 hown8 hg8 hb8;
                            have n1 := hg8.cell (a := ⟨bL, oL, none⟩) (cell_keep_alloc _ p1) (fun h => absurd (own_base HK.out.out _ h.symm) (Nat.not_le.2 hbL0)); have n2 := hg8.cell (a := ⟨bL, oL + i, none⟩) (cell_keep_alloc _ p2) (fun h => absurd (own_base HK.out.out _ h.symm) (Nat.not_le.2 hbL0)); have n3 := hg8.cell (a := ⟨bl, ol + k, none⟩) (cell_keep_alloc _ p3) (fun h => Hne.out _ h.symm rfl); clear xb _t)))
                    have hl6 : 1 + d.length = ((x, z) :: d).length := by simp; omega
                    have hu6 : w6.ownsRow w.heap.size 71 2 (.slice A6 (1 + d.length) c6) ((x, z) :: d).length (prs ((x, z) :: d)) := by
                      rw [← hl6]
                      exact own_mono hown6 hz5
                    have hA6 := (Below.refl w6.heap.size w6).alloc (Nat.le_refl _) (.cells #[.slice A6 (1 + d.length) c6] 30)
                    have HK8 := Lib.hid (((HK.out.later K6).later hA6).put (own_later hu6 hA6) hown8 hg8 hb8)
                    rw [Hst.out] at HK8
                    have B6 := B5.trans (K6.mono hz5)
                    have B8 := (B6.alloc B6.size (.cells #[.slice A6 (1 + d.length) c6] 30)).grown hg8 (by have := B6.size; simp; omega) (own_base HK.out.out)
                    clear hown8 hg8 hb8 hu6 hA6 hown6 hg6 n1 n2 n3 p1 p2 p3 m1 m2 m3
                    go_wp2_with fail
                    go_roundw
                    case rel => exact ⟨k + 1, _, by omega, by go_num, HK8, B8⟩
                    case measure => simp [intOf]; omega
                  · obtain rfl : k = D.length := by omega
                    have HKe := HK.out
                    rw [List.take_length, ← HE2.out] at HKe
                    have HO5 : Hid (wr.ownsRow w.heap.size 30 1 oo (drawsTo l x R (i - 1 + 1)).length vs' ∧ LL wr w.heap.size vs' (drawsTo l x R (i - 1 + 1))) := ⟨HKe.out, HKe.ll⟩
                    clear HKe HK
                    go_wp2_with fail
                    go_roundw
                    case rel => exact ⟨i + 1, vs', by omega, by omega, by go_num, by rw [show i + 1 - 1 = i - 1 + 1 from by omega]; exact HO5, B5⟩
                    case measure => simp [intOf]; omega
        · obtain rfl : i = L.length := by omega
          have hE : drawsTo l x R (L.length - 1) = draws l L := by
            rw [HLe.out, draws_cons]
            rfl
          rw [hE] at HO
          go_wp2_with fail
          go_ret
          exact ⟨_, vs, rfl, HO.out.1, HO.out.2, B1⟩
end Go.Proofs.Ytiedecekbdaohaa
