/- Contracts of counter of package pairing, and of the function that it returns. -/
import Derived.Test.YtiedecekbdaohaaKey36
import Derived.Deep.RegionHeld3
import Derived.Laws.EntriesVeiled
namespace Go.Proofs.Ytiedecekbdaohaa
open Go.RowKit

theorem i64_or_nat (a b : Nat) (ha : a < 2 ^ 16) (hb : b < 2 ^ 16) : bits BinOp.or IntKind.i64 (a : Int) (b : Int) = ((a ||| b : Nat) : Int) := by
  have hx : a ||| b < 2 ^ 16 := Nat.or_lt_two_pow ha hb
  have e : ∀ a : Nat, a < 2 ^ 16 → (BitVec.ofInt 64 (a : Int)).toNat = a := by
    intro a ha
    rw [BitVec.ofInt_natCast, BitVec.toNat_ofNat]; exact Nat.mod_eq_of_lt (by omega)
  show IntKind.i64.wrap ((BitVec.ofInt 64 (a : Int) ||| BitVec.ofInt 64 (b : Int)).toNat : Int) = _
  rw [BitVec.toNat_or, e a ha, e b hb, IntKind.wrap_i64]
  omega

theorem sl_lit2 (w : World) (t : TypeId) (a b : Value) : SlAt (w.alloc (.cells #[a, b] t)) (some ⟨w.heap.size, 0, none⟩) [a, b] := by
  intro _
  refine ⟨w.heap.size, 0, rfl, by simp, fun i v hv => ?_⟩
  rw [Nat.zero_add, cell_of_row _ w.heap.size i #[a, b] t (0, 0) (heap_alloc_new w _)]
  simpa using hv
/-- What the closure over teams and who has met sees: the boxes of its variables, the lists, itself. -/
structure CEnv (W : World) (pt pk pm pc mb : Nat) (A : Option Addr) (n cap : Nat) (t : List Int) (B : Option Addr) (m c : Nat) (l : List Pr) : Prop where
  bt : Box W pt 22 (.slice A n cap)
  bk : Box W pk 76 (.map (some mb))
  bm : Box W pm 23 (.slice B m c)
  bc : Box W pc 72 (.func (.func 49) #[] #[.pointer (some ⟨pt, 0, none⟩), .pointer (some ⟨pk, 0, none⟩), .pointer (some ⟨pm, 0, none⟩), .pointer (some ⟨pc, 0, none⟩)])
  hn : n = t.length
  hm : m = l.length
  hA : SlAt W A (t.map i64)
  hB : SlAt W B (prs l)
theorem CEnv.grown {W W' : World} {pt pk pm pc mb : Nat} {A : Option Addr} {n cap : Nat} {t : List Int} {B : Option Addr} {m c : Nat} {l : List Pr} (h : CEnv W pt pk pm pc mb A n cap t B m c l)
    (hb : MapAt W mb) (hg : W.grownBy W' (some mb)) : CEnv W' pt pk pm pc mb A n cap t B m c l :=
  ⟨h.bt.keptMap hb hg, h.bk.keptMap hb hg, h.bm.keptMap hb hg, h.bc.keptMap hb hg, h.hn, h.hm, h.hA.kept hb hg, h.hB.kept hb hg⟩

/-- It returns the number of draws; only the map's block has been written. -/
def CountPost (t : List Int) (m : List Pr) (mb nb : Nat) (left : List Int) (W : World) (e : Ending) (W' : World) : Prop :=
  ∃ nb' g', e = .returned (.int .i64 (cnt m left)) ∧ MapI W' mb nb' g' ∧ Memo t m g' ∧ nb' ≤ nb + stT left.length ∧ W.grownBy W' (some mb)

theorem c_count0 (pt pk pm pc mb : Nat) (A2 : Option Addr) (c2 nb : Nat) (t : List Int) (l : List Pr) (g : Int → Option Int) (W : World) (hM : MapI W mb nb g) (hMemo : Memo t l g) :
    Calls Try.prog 49 #[.slice A2 ([] : List Int).length c2, .pointer (some ⟨pt, 0, none⟩), .pointer (some ⟨pk, 0, none⟩), .pointer (some ⟨pm, 0, none⟩), .pointer (some ⟨pc, 0, none⟩)] W (CountPost t l mb nb [] W) := by
  have HM := Lib.hid hM
  have HMemo := Lib.hid hMemo
  clear hM hMemo
  rw [show ([] : List Int).length = 0 from rfl]
  go_enter Try.func49, Try.ntmps49
  go_wp2_with fail
  go_ret
  exact ⟨nb, g, rfl, HM.out, HMemo.out, by omega, World.grownBy.refl _ _⟩

set_option maxRecDepth 100000 in
set_option maxHeartbeats 4000000 in
theorem c_count (pt pk pm pc mb : Nat) (A : Option Addr) (n cap : Nat) (t : List Int) (B : Option Addr) (m c : Nat) (l : List Pr) (ht : t.length ≤ 16) (hnd : t.Nodup) (hl : l.length ≤ 2^47) :
    ∀ N (left : List Int), left.length ≤ N → left.Sublist t → ∀ (W : World) (A2 : Option Addr) (n2 c2 nb : Nat) (g : Int → Option Int), n2 = left.length → n2 ≤ c2 → SlAt W A2 (left.map i64) → CEnv W pt pk pm pc mb A n cap t B m c l → MapI W mb nb g → Memo t l g → nb + stT left.length ≤ 100000000000 →
    Calls Try.prog 49 #[.slice A2 n2 c2, .pointer (some ⟨pt, 0, none⟩), .pointer (some ⟨pk, 0, none⟩), .pointer (some ⟨pm, 0, none⟩), .pointer (some ⟨pc, 0, none⟩)] W (CountPost t l mb nb left W) := by
  intro N
  induction N with
  | zero =>
    intro left hlen hsub W A2 n2 c2 nb g hn2 hc2 hS2 hE hM hMemo hnb
    subst hn2
    have h0 : left.length = 0 := by omega
    obtain rfl := List.length_eq_zero_iff.1 h0
    exact c_count0 pt pk pm pc mb A2 c2 nb t l g W hM hMemo
  | succ N IH =>
    intro left hlen hsub W A2 n2 c2 nb g hn2 hc2 hS2 hE hM hMemo hnb
    have IH' := Lib.hid IH
    clear IH
    subst hn2
    cases left with
    | nil => exact c_count0 pt pk pm pc mb A2 c2 nb t l g W hM hMemo
    | cons t0 rest =>
      have HE := Lib.hid hE
      have ctl := hE.bt.cell
      have ckl := hE.bk.cell
      have hlen16 : (t0 :: rest).length ≤ 16 := Nat.le_trans hsub.length_le ht
      have h0 : (((t0 :: rest).length : Int) == 0) = false := by simp; omega
      have HS2 := Lib.hid hS2
      have HM := Lib.hid hM
      have HMemo := Lib.hid hMemo
      have Hnb := Lib.hid hnb
      have Hsub := Lib.hid hsub
      have Hlr : Hid ((t0 :: rest).length = rest.length + 1) := rfl
      clear hE hS2 hM hMemo hnb hsub
      generalize hLL : t0 :: rest = left at *
      have HLL := Lib.hid hLL
      clear hLL
      go_enter Try.func49, Try.ntmps49
      go_wp2_with fail
      go_loop [7, 9, 19] (fun key _ i => ∃ k : Nat, k ≤ left.length ∧ i = .int .i64 k ∧ key = .int .i64 (keyTo t left k : Nat)) (fun _ _ i => left.length - (intOf i).toNat)
      case atStart => exact ⟨0, Nat.zero_le _, rfl, rfl⟩
      case round =>
        obtain ⟨k, hk, rfl, rfl⟩ := hrel
        have hkt := keyTo_lt (l := left) ht k
        by_cases hlt : k < left.length
        · obtain ⟨b2, o2, x, rfl, hb2, hx, hcx⟩ := HS2.out.i64_at hlt
          have HI := Lib.hid (c_index A n cap t x W HE.out.hn (by omega) HE.out.hA)
          have hxt := Hsub.out.subset (List.mem_of_getElem? hx)
          obtain ⟨i, hi, he⟩ := List.getElem_of_mem hxt
          have hxi := idxI_get hnd (show t[i]? = some x by rw [List.getElem?_eq_getElem hi, he])
          have Hs : Hid (keyTo t left (k + 1) = keyTo t left k ||| 2 ^ i) := by
            show keyTo t left k ||| 2 ^ (idxI t (left[k]?.getD 0)).toNat = _
            rw [hx, Option.getD_some, hxi, Int.toNat_natCast]
          rw [hxi] at HI
          clear hx hxt he hxi
          generalize keyTo t left k = key at *
          have Hi16 : Hid (i < 16) := by show i < 16; omega
          go_wp2_with (go_at_call 43; refine HI.out.mono ?_; rintro e w' ⟨rfl, rfl⟩)
          go_round
          case rel =>
            refine ⟨k + 1, by omega, by go_num, int_eq ?_⟩
            have h2 : (2 : Nat) ^ i < 2 ^ 16 := Nat.pow_lt_pow_right (by omega) Hi16.out
            have e2 : wrap64 (2 ^ i) = ((2 ^ i : Nat) : Int) := by
              rw [show ((2 : Int) ^ i) = ((2 ^ i : Nat) : Int) from by simp]
              generalize (2 : Nat) ^ i = y at *
              unfold wrap64
              omega
            rw [e2, i64_or_nat _ _ hkt h2, Hs.out]
          case measure => simp [intOf]; omega
        · obtain rfl : k = left.length := by omega
          have hkey : keyTo t left left.length = keyOf36 t left := rfl
          rw [hkey] at hkt ⊢
          have hin : inI (keyOf36 t left : Int) := by unfold inI; omega
          have hlk := HM.out.look_ok hin
          have HK := Lib.hid (fun v => HMemo.out.hit hnd Hsub.out (v := v) hin)
          have Hin := Lib.hid hin
          clear hkey hin hkt
          generalize hkk : keyOf36 t left = key at *
          have Hkk := Lib.hid hkk
          clear hkk
          cases hg : g (key : Int) with
          | some v =>
            rw [hg] at hlk
            have hv := HK.out v hg
            have Hv := Lib.hid hv
            clear hv hg
            simp only [Option.getD_some, Option.isSome_some] at hlk
            go_wp2_with fail
            go_ret
            exact ⟨nb, g, ret_int Hv.out, HM.out, HMemo.out, by omega, World.grownBy.refl _ _⟩
          | none =>
            rw [hg] at hlk
            clear hg
            simp only [Option.getD_none, Option.isSome_none] at hlk
            go_wp2_with fail
            obtain ⟨b2, o2, rfl, hb2, hcs⟩ := HS2.out.i64_all (by have := Hlr.out; omega)
            have Hcs := Lib.hid hcs
            have HMA := Lib.hid HM.out.block
            clear hcs hlk ctl ckl
            go_loopw [12, 13] (fun nn i wr => ∃ (k nb' : Nat) (g' : Int → Option Int), 1 ≤ k ∧ k ≤ left.length ∧ i = .int .i64 k ∧ nn = .int .i64 (cntTo l t0 rest (k - 1) : Nat) ∧ W.grownBy wr (some mb) ∧ Hid (MapI wr mb nb' g' ∧ Memo t l g' ∧ nb' ≤ nb + (k - 1) * stT (rest.length - 1))) (fun _ i _ => left.length - (intOf i).toNat)
            case atStart => exact ⟨1, nb, g, by omega, by have := Hlr.out; omega, rfl, rfl, World.grownBy.refl _ _, HM.out, HMemo.out, by omega⟩
            case round =>
              obtain ⟨k, nb', g', hk1, hk, rfl, rfl, hG, HR⟩ := hrel
              by_cases hlt2 : k < left.length
              · obtain ⟨j, hj⟩ : ∃ j, k = j + 1 := ⟨k - 1, by omega⟩
                obtain ⟨x, hx⟩ := getI_some (l := rest) (k := j) (by have := Hlr.out; omega)
                have hxl : left[k]? = some x := by rw [← HLL.out, hj]; simpa using hx
                have h0l : left[0]? = some t0 := by rw [← HLL.out]; rfl
                have hE' := HE.out.grown HMA.out hG
                have hS' := HS2.out.kept HMA.out hG
                have cm := hE'.bm.cell
                obtain ⟨b2', o2', e2, hb2', hcs'⟩ := hS'.i64_all (by have := Hlr.out; omega)
                cases e2
                have c0 : wr.cell? ⟨b2, o2, none⟩ = some (.int .i64 t0) := hcs' 0 t0 h0l
                have cx : wr.cell? ⟨b2, o2 + k, none⟩ = some (.int .i64 x) := hcs' k x hxl
                have HMet := Lib.hid (fun W' (hb : Below wr.heap.size wr W') => c_Met B m c l t0 x W' hE'.hm hl (hE'.hB.below hb))
                have q1 : (0 : Int) ≤ (k : Int) := by omega
                have q2 : (k : Int) < (left.length : Int) := by omega
                have q3 : 0 < left.length := by omega
                have hjr : j < rest.length := (List.getElem?_eq_some_iff.1 hx).1
                have hct := cntTo_16 (m := l) (t := t0) (rest := rest) (k := j) (by omega) (by have := Hlr.out; omega)
                have hk1' : k - 1 = j := by omega
                rw [hk1'] at HR ⊢
                have Hx := Lib.hid hx
                have Hj := Lib.hid hj
                have Hjr := Lib.hid hjr
                have HE' := Lib.hid hE'
                have HS' := Lib.hid hS'
                clear hx hj hxl h0l hjr hk1' hE' hS' hcs'
                generalize hab : cntTo l t0 rest j = ca at *
                have Hab := Lib.hid hab
                clear hab
                cases hmt : pMet l t0 x with
                | true =>
                  rw [hmt] at HMet
                  have Hs := Lib.hid (cntTo_yes Hx.out hmt)
                  clear hmt
                  go_wp2_with fail
                  go_region_held3 (fun W => W.cell? ⟨pm, 0, none⟩ = some (Value.slice B m c) ∧ W.cell? ⟨b2, o2, none⟩ = some (.int .i64 t0) ∧ W.cell? ⟨b2, o2 + k, none⟩ = some (.int .i64 x)) (first | exact ⟨by assumption, by assumption, by assumption⟩ | go_keep)
                    ((go_at_call 27; refine (HMet.out _ (below_drewN (Below.refl _ _) 1)).mono ?_; rintro e w1 ⟨rfl, k1⟩; have cm1 := (k1.cell (p := ⟨pm, 0, none⟩) (World.block_lt_of_cell? _ _ cm)).trans cm; have c01 := (k1.cell (p := ⟨b2, o2, none⟩) (World.block_lt_of_cell? _ _ c0)).trans c0; have cx1 := (k1.cell (p := ⟨b2, o2 + k, none⟩) (World.block_lt_of_cell? _ _ cx)).trans cx))
                  go_wp2_with fail
                  have B1 := below_step (below_drewN (Below.refl wr.heap.size wr) 1) k1
                  go_roundw
                  case rel =>
                    refine ⟨k + 1, nb', g', by omega, by omega, by go_num, int_eq ?_, hG.trans (grown_below B1 _), ?_⟩
                    · rw [show k + 1 - 1 = j + 1 from by have := Hj.out; omega, Hs.out, Hab.out]
                    · refine ⟨HR.out.1.later B1, HR.out.2.1, Nat.le_trans HR.out.2.2 ?_⟩
                      exact Nat.add_le_add_left (Nat.mul_le_mul_right _ (by have := Hj.out; omega)) _
                  case measure => simp [intOf]; omega
                | false =>
                  rw [hmt] at HMet
                  have Hs := Lib.hid (cntTo_no Hx.out hmt)
                  clear hmt
                  go_wp2_with fail
                  go_region_held3 (fun W => W.cell? ⟨pm, 0, none⟩ = some (Value.slice B m c) ∧ W.cell? ⟨b2, o2, none⟩ = some (.int .i64 t0) ∧ W.cell? ⟨b2, o2 + k, none⟩ = some (.int .i64 x)) (first | exact ⟨by assumption, by assumption, by assumption⟩ | go_keep)
                    ((go_at_call 27; refine (HMet.out _ (below_drewN (Below.refl _ _) 1)).mono ?_; rintro e w1 ⟨rfl, k1⟩; have cm1 := (k1.cell (p := ⟨pm, 0, none⟩) (World.block_lt_of_cell? _ _ cm)).trans cm; have c01 := (k1.cell (p := ⟨b2, o2, none⟩) (World.block_lt_of_cell? _ _ c0)).trans c0; have cx1 := (k1.cell (p := ⟨b2, o2 + k, none⟩) (World.block_lt_of_cell? _ _ cx)).trans cx))
                  have B1 := below_step (below_drewN (Below.refl wr.heap.size wr) 1) k1
                  have cc1 : w1.cell? ⟨pc, 0, none⟩ = some (Value.func (.func 49) #[] #[.pointer (some ⟨pt, 0, none⟩), .pointer (some ⟨pk, 0, none⟩), .pointer (some ⟨pm, 0, none⟩), .pointer (some ⟨pc, 0, none⟩)]) := (HE'.out.bc.later B1).cell
                  clear cm1 c01 cx1 k1 HMet
                  have ebs : wo left [0, (k : Int)] = rest.eraseIdx j := by rw [← HLL.out, Hj.out]; exact wo_zero_i
                  have hlr := Hlr.out
                  have HWo := Lib.hid (fun W' (hb : Below w1.heap.size w1 W') (hB : SlAt W' (some ⟨w1.heap.size, 0, none⟩) (([0, (k : Int)] : List Int).map i64)) => c_without (some ⟨b2, o2, none⟩) left.length c2 left (some ⟨w1.heap.size, 0, none⟩) 2 2 [0, (k : Int)] W' rfl (by omega) rfl (by simp) ((HS'.out.below B1).below hb) hB)
                  rw [ebs] at HWo
                  have hel : (rest.eraseIdx j).length = rest.length - 1 := List.length_eraseIdx_of_lt Hjr.out
                  have hes : (rest.eraseIdx j).Sublist t := (List.eraseIdx_sublist ..).trans ((List.sublist_cons_self t0 rest).trans (by rw [HLL.out]; exact Hsub.out))
                  have hecb := cnt_16 (m := l) (l := rest.eraseIdx j) (by omega)
                  have hfin : nb + j * stT (rest.length - 1) + stT (rest.eraseIdx j).length ≤ 100000000000 := by
                    have h1 := Hnb.out
                    have h2 := stT_step rest.length
                    rw [hlr, h2] at h1
                    rw [hel]
                    have h3 := Nat.mul_le_mul_right (stT (rest.length - 1)) (show j + 1 ≤ rest.length from Hjr.out)
                    rw [Nat.succ_mul] at h3
                    omega
                  have HCo := Lib.hid (fun W' A3 c3 (hc3 : (rest.eraseIdx j).length ≤ c3) (hb : Below w1.heap.size w1 W') (hS3 : SlAt W' A3 ((rest.eraseIdx j).map i64)) => IH'.out (rest.eraseIdx j) (by omega) hes W' A3 _ c3 nb' g' rfl hc3 hS3 (HE'.out.grown (HR.out.1.block) (grown_below (below_step B1 hb) _)) (HR.out.1.later (below_step B1 hb)) HR.out.2.1 (by have := HR.out.2.2; omega))
                  have Hebs := Lib.hid ebs
                  have Hel := Lib.hid hel
                  clear ebs hel hes hfin hlr
                  generalize hcb : cnt l (rest.eraseIdx j) = cb at *
                  have Hcb := Lib.hid hcb
                  clear hcb
                  have e3 : IntKind.i64.wrap ((ca : Int) + (cb : Int)) = (ca : Int) + (cb : Int) := IntWalk.i64_in _ (by omega)
                  go_wp2_with fail
                  go_region_held3 (fun W => W.cell? ⟨pc, 0, none⟩ = some (Value.func (.func 49) #[] #[.pointer (some ⟨pt, 0, none⟩), .pointer (some ⟨pk, 0, none⟩), .pointer (some ⟨pm, 0, none⟩), .pointer (some ⟨pc, 0, none⟩)])) (first | assumption | go_keep)
                    ((first
                      | (go_at_call 38; refine (HWo.out _ ?_ ?_).mono ?_; (exact below_drewN ((Below.refl _ _).alloc (Nat.le_refl _) _) 1); (exact sl_lit2 w1 _ _ _); rintro e w2 ⟨v2, rfl, hown2, k2⟩; obtain ⟨A3, c3, rfl, hc3, _, hs3⟩ := own_slI hown2; have B2 : Below w1.heap.size w1 w2 := below_step (below_drewN ((Below.refl _ _).alloc (Nat.le_refl _) _) 1) k2; have cc2 := (HE'.out.bc.later (below_step B1 B2)).cell; clear hown2 k2)
                      | (go_at_call 49; refine (HCo.out _ A3 c3 hc3 B2 hs3).mono ?_; rintro e w3 ⟨nb2, g2, he, hM2, hMm2, hnb2, hG2⟩; rw [Hcb.out] at he; subst he; have cc3 := ((HE'.out.bc.later (below_step B1 B2)).keptMap (HR.out.1.later (below_step B1 B2)).block hG2).cell; have HM2 := Lib.hid (And.intro hM2 (And.intro hMm2 hnb2)); clear hM2 hMm2 hnb2)))
                  go_wp2_with fail
                  go_roundw
                  case rel =>
                    refine ⟨k + 1, nb2, g2, by omega, by omega, by go_num, int_eq ?_, (hG.trans (grown_below (below_step B1 B2) _)).trans hG2, HM2.out.1, HM2.out.2.1, ?_⟩
                    · rw [show k + 1 - 1 = j + 1 from by have := Hj.out; omega, Hs.out, Hab.out]; omega
                    · have h1 := HM2.out.2.2
                      have h2 := HR.out.2.2
                      rw [Hel.out] at h1
                      rw [show k + 1 - 1 = j + 1 from by have := Hj.out; omega, Nat.succ_mul]
                      omega
                  case measure => simp [intOf]; omega
              · obtain rfl : k = left.length := by omega
                have hkb : MapAt wr mb := HR.out.1.block
                have ck := (HE.out.grown HMA.out hG).bk.cell
                have hkr : left.length - 1 = rest.length := by have := Hlr.out; omega
                have hcn : cntTo l t0 rest (left.length - 1) = cnt l left := by rw [hkr, ← cnt_cons, HLL.out]
                rw [hcn]
                have hcb := cnt_16 (m := l) hlen16
                have hnb3 : nb' + 1 ≤ nb + stT left.length := by
                  have h1 := HR.out.2.2
                  rw [hkr] at h1
                  rw [Hlr.out, stT_step]
                  omega
                have Hnb3 := Lib.hid hnb3
                have hv : inI (cnt l left : Int) := by unfold inI; omega
                have HV := Lib.hid hv
                have hup := HMemo.out
                have HU := Lib.hid (HR.out.2.1.upd (l := left) Hsub.out)
                rw [Hkk.out] at HU
                have hMr := HR.out.1
                clear hkr hcn hnb3 hv hup
                generalize hcbe : cnt l left = cb at *
                have Hcb := Lib.hid hcbe
                clear hcbe
                go_wp2_with (at_mapUpdate; go_must (refine wpList_mapI_update rfl _ _ _ rfl hMr (by have := Hnb3.out; have := Hnb.out; omega) rfl (key : Int) (cb : Int) rfl rfl Hin.out HV.out ?_); intro w4 hM4 hG4)
                go_ret
                refine ⟨nb' + 1, _, ret_int ?_, hM4, HU.out, Hnb3.out, hG.trans hG4⟩
                exact congrArg _ Hcb.out.symm

theorem Box.newAt (w : World) (t : TypeId) (v : Value) (g : Nat) (hg : w.heap.size = g) : Box (w.alloc (.cells #[v] t)) g t v := by subst hg; exact Box.new w t v
theorem MapI.madeAt (w : World) (g : Nat) (hg : w.heap.size = g) : MapI (w.alloc (.map #[] 0)) g 0 (fun _ => none) := by subst hg; exact MapI.made w
/-- What counter returns: the closure over boxes of its own, an empty map. -/
def CounterPost (A : Option Addr) (n cap : Nat) (t : List Int) (B : Option Addr) (m c : Nat) (l : List Pr) (w : World) (e : Ending) (w' : World) : Prop :=
  ∃ pt pk pm pc mb, e = .returned (.func (.func 49) #[] #[.pointer (some ⟨pt, 0, none⟩), .pointer (some ⟨pk, 0, none⟩), .pointer (some ⟨pm, 0, none⟩), .pointer (some ⟨pc, 0, none⟩)]) ∧
    CEnv w' pt pk pm pc mb A n cap t B m c l ∧ MapI w' mb 0 (fun _ => none) ∧ w.heap.size ≤ mb ∧ Below w.heap.size w w'
set_option maxHeartbeats 400000 in
theorem c_counter (A : Option Addr) (n cap : Nat) (t : List Int) (B : Option Addr) (m c : Nat) (l : List Pr) (w : World) (hn : n = t.length) (hm : m = l.length) (hA : SlAt w A (t.map i64)) (hB : SlAt w B (prs l)) :
    Calls Try.prog 41 #[.slice A n cap, .slice B m c] w (CounterPost A n cap t B m c l w) := by
  have HA := Lib.hid hA
  have HB := Lib.hid hB
  have Hn := Lib.hid hn
  have Hm := Lib.hid hm
  have hmm := @run_makeMap Try.prog
  clear hA hB hn hm
  go_enter Try.func41, Try.ntmps41
  go_wp2_with fail
  go_ret
  have bt := (((Box.new w 22 (.slice A n cap)).alloc (.cells #[Value.slice B m c] 23)).alloc (.map #[] 0)).alloc (.cells #[Value.map (some (w.heap.size + 1 + 1))] 76)
  have bm := ((Box.newAt (w.alloc (.cells #[Value.slice A n cap] 22)) 23 (.slice B m c) (w.heap.size + 1) (by simp)).alloc (.map #[] 0)).alloc (.cells #[Value.map (some (w.heap.size + 1 + 1))] 76)
  have hM := MapI.madeAt ((w.alloc (.cells #[Value.slice A n cap] 22)).alloc (.cells #[Value.slice B m c] 23)) (w.heap.size + 1 + 1) (by simp)
  have bk := Box.newAt (((w.alloc (.cells #[Value.slice A n cap] 22)).alloc (.cells #[Value.slice B m c] 23)).alloc (.map #[] 0)) 76 (.map (some (w.heap.size + 1 + 1))) (w.heap.size + 1 + 1 + 1) (by simp)
  refine ⟨w.heap.size, w.heap.size + 1 + 1 + 1, w.heap.size + 1, w.heap.size + 1 + 1 + 1 + 1, w.heap.size + 1 + 1, rfl, ⟨bt.alloc _, bk.alloc _, bm.alloc _, Box.newAt _ _ _ _ (by simp), Hn.out, Hm.out, ?_, ?_⟩, (hM.alloc _).alloc _, by omega, ?_⟩
  · exact ((((HA.out.alloc _).alloc _).alloc _).alloc _).alloc _
  · exact ((((HB.out.alloc _).alloc _).alloc _).alloc _).alloc _
  · exact (((((Below.refl _ w).alloc (Nat.le_refl _) _).alloc (by simp) _).alloc (by simp; omega) _).alloc (by simp; omega) _).alloc (by simp; omega) _
end Go.Proofs.Ytiedecekbdaohaa
