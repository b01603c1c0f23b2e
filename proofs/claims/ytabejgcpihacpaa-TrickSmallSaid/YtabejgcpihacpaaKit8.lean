/- Contracts of finessekit: markByte, LentBytes, KeptBytes. -/
import Derived.Test.YtabejgcpihacpaaAppend
import Derived.Test.YtabejgcpihacpaaCollect8
namespace Go.Proofs.Ytabejgcpihacpaa
open Go.RowKit

/-- The mark behind a lent list of bytes. -/
def mkb (i : Nat) : Nat := ((1000003 * 8 + i) * 11400714819323198485 % 2 ^ 64) / 2 ^ 56
theorem mkb_lt (i : Nat) : mkb i < 256 := by unfold mkb; omega
def mksTo : Nat → List Nat
  | 0 => []
  | k + 1 => mksTo k ++ [mkb k]
theorem mksTo_len : ∀ k, (mksTo k).length = k
  | 0 => rfl
  | k + 1 => by unfold mksTo; rw [List.length_append, mksTo_len k]; rfl
theorem mksTo_get : ∀ {k i : Nat}, i < k → (mksTo k)[i]? = some (mkb i)
  | 0, _, h => absurd h (by omega)
  | k + 1, i, h => by
    unfold mksTo
    by_cases e : i = k
    · subst e
      rw [List.getElem?_append_right (by rw [mksTo_len]; exact Nat.le_refl _), mksTo_len, Nat.sub_self]; rfl
    · rw [List.getElem?_append_left (by rw [mksTo_len]; omega)]
      exact mksTo_get (by omega)

theorem w_mkb (i : Nat) : IntKind.u64.wrap ((8000024 + (i : Int)) * 11400714819323198485) / 72057594037927936 % 256 = ((mkb i : Nat) : Int) := by
  unfold mkb
  have e : (8000024 + (i : Int)) * 11400714819323198485 = (((1000003 * 8 + i) * 11400714819323198485 : Nat) : Int) := by
    rw [Int.natCast_mul]; omega
  rw [e, IntKind.wrap_u64]
  generalize (1000003 * 8 + i) * 11400714819323198485 = y
  omega

set_option maxHeartbeats 400000 in
theorem c_markByte (i : Nat) (hi : i < 1000) (w : World) :
    Calls Try.prog 49 #[.int .i64 1, .int .i64 i] w (Same (.int .u8 (mkb i : Nat)) w) := by
  have H := Lib.hid (w_mkb i)
  go_enter Try.func49, Try.ntmps49
  go_wp2
  go_ret
  refine ⟨ret_int ?_, rfl⟩
  exact H.out

set_option maxHeartbeats 1000000 in
theorem c_lentBytes (A : Option Addr) (n cap : Nat) (l : List Nat) (w : World) (hn : n = l.length) (hl : l.length ≤ 140737488351232) (h : SlAt w A (l.map u8)) :
    Calls Try.prog 30 #[.slice A n cap] w fun e w' => ∃ g c, e = .returned (.slice (some ⟨g, 0, none⟩) l.length c) ∧ l.length + 12 ≤ c ∧ SlAt w' (some ⟨g, 0, none⟩) ((l ++ mksTo 12).map u8) ∧ Below w.heap.size w w' := by
  subst hn
  obtain ⟨i0, hi, hz0, hz1, hz2⟩ := info_parts info_u8
  have hmk : ∀ W : World, (Instr.makeSlice 23 (.int .i64 0) (.int .i64 ((l.length : Int) + 12))).run Try.prog W = .ok (.slice (some ⟨W.heap.size, 0, none⟩) 0 (l.length + 12)) (W.alloc (.cells (madeCells #[.int .u8 0] (l.length + 12)) 5)) := by
    intro W
    have := run_make (P := Try.prog) (w := W) 23 5 i0 (.int .u8 0) Try.underlying23 hi hz0 .i64 .i64 0 ((l.length : Int) + 12) (by omega) (by omega) (by rw [hz2]; omega) (by omega)
    rw [this, hz1, Nat.mul_one]
    rfl
  go_enter Try.func30, Try.ntmps30
  go_wp2_with (at_builtin; go_must (refine wpList_append_sl rfl (.tmp 9) (.tmp 10) 23 rfl w.heap.size 5 i0 (.int .u8 0) 1 Try.underlying23 hi hz0 hz1 hz2 rfl (.slice (some ⟨w.heap.size, 0, none⟩) 0 (l.length + 12)) 0 [] rfl ?hown A l.length cap (l.map u8) rfl (by simp) (h.alloc _) (u8_one l) (by unfold maxLen; omega) (by omega) (by simp) ?_))
  case hown => exact ⟨rfl, .inr ⟨w.heap.size, l.length + 12, _, rfl, Nat.le_refl _, heap_alloc_new w _, by omega, by unfold maxLen; omega, by rw [size_madeCells, Nat.mul_one], rfl⟩⟩
  intro v1 w1 hown1 hg1 _
  have hbw1 : Below w.heap.size w w1 := ((Below.refl _ w).alloc (Nat.le_refl _) _).grown hg1 (by simp) (own_block (Nat.le_refl _))
  clear hg1 hmk
  go_wp2_with fail
  go_loopw [3, 4] (fun v i wr => ∃ k : Nat, k ≤ 12 ∧ i = .int .i64 k ∧ wr.ownsRow w.heap.size 5 1 v (l.length + k) ((l ++ mksTo k).map u8) ∧ Below w.heap.size w wr) (fun _ i _ => 12 - (intOf i).toNat)
  case atStart => exact ⟨0, by omega, rfl, by simpa [mksTo] using hown1, hbw1⟩
  case round =>
    obtain ⟨k, hk, rfl, hown, hbw⟩ := hrel
    have hwsz := hbw.size
    by_cases hlt : k < 12
    · have Hsn : Hid ((l ++ mksTo k).map u8 ++ [Value.int .u8 (mkb k : Int)] = (l ++ mksTo (k + 1)).map u8) := by
        show _ = (l ++ (mksTo k ++ [mkb k])).map u8
        simp [u8]
      have Hb := Lib.hid (fun W => c_markByte k (by omega) W)
      generalize mkb k = mk at *
      go_wp2_with (first
        | (go_at_call 49; refine (Hb.out _).mono ?_; rintro e w' ⟨rfl, rfl⟩)
        | (at_builtin; refine wpList_append_sl rfl (.tmp 16) (.tmp 19) 23 rfl w.heap.size 5 i0 (.int .u8 0) 1 Try.underlying23 hi hz0 hz1 hz2 rfl _ (l.length + k) ((l ++ mksTo k).map u8) rfl (hown.alloc _) (some ⟨wr.heap.size, 0, none⟩) 1 1 [.int .u8 (mk : Int)] rfl rfl (sl_one _ _ _) (by simp [Value.oneCell']) (by unfold maxLen; omega) (by omega) (by simp; omega) ?_; intro v2 w2 hown2 hg2 _))
      have hbw2 : Below w.heap.size w w2 := (hbw.alloc hbw.size _).grown hg2 (by simp; omega) (own_base hown)
      go_roundw
      case rel => exact ⟨k + 1, by omega, by go_num, by rw [← Hsn.out]; exact hown2, hbw2⟩
      case measure => simp [intOf]; omega
    · obtain rfl : k = 12 := by omega
      obtain ⟨A2, c2, rfl, hcap2, hs2, hn2⟩ := own_sl hown
      have hpos : 0 < ((l ++ mksTo 12).map u8).length := by simp [mksTo_len]
      obtain ⟨g2, rfl⟩ : ∃ g2, A2 = some ⟨g2, 0, none⟩ := by
        obtain ⟨_, ⟨h1, h2⟩ | ⟨g, cap, cur, h1, _⟩⟩ := hown
        · cases h1
        · cases h1; exact ⟨g, rfl⟩
      have Hs2 := Lib.hid hs2
      clear hn2 hown hs2 hpos
      go_wp2_with fail
      go_ret
      exact ⟨g2, c2, rfl, hcap2, Hs2.out, hbw⟩

set_option maxHeartbeats 1000000 in
theorem c_keptBytes (A B : Option Addr) (n m c d : Nat) (l : List Nat) (w : World) (hn : n = l.length) (hm : m = l.length) (hl : l.length ≤ 140737488351232) (hc : n + 12 ≤ c) (h1 : SlAt w A ((l ++ mksTo 12).map u8)) (h2 : SlAt w B (l.map u8)) :
    Calls Try.prog 34 #[.slice A n c, .slice B m d] w (Qt (.bool true) w) := by
  subst hn
  subst hm
  have hlen : (l ++ mksTo 12).length = l.length + 12 := by rw [List.length_append, mksTo_len]
  obtain ⟨b, o, rfl, hb, hcell⟩ := h1.u8_all (by omega)
  have Hcell : Hid (∀ k x, (l ++ mksTo 12)[k]? = some x → ∀ q, (w.drewN q).cell? ⟨b, o + k, none⟩ = some (.int .u8 (x : Nat))) := fun k x hx _ => hcell k x hx
  have H2 : Hid (∀ k, k < l.length → ∃ b' o' x, B = some ⟨b', o', none⟩ ∧ l[k]? = some x ∧ w.cell? ⟨b', o' + k, none⟩ = some (.int .u8 (x : Nat))) := by
    intro k hk
    obtain ⟨b', o', x, hB, _, hx, hc⟩ := h2.u8_at hk
    exact ⟨b', o', x, hB, hx, hc⟩
  clear hcell h1 h2 hlen
  go_enter Try.func34, Try.ntmps34
  go_wp2_with fail
  go_loopw [6] (fun i wr => ∃ k : Nat, k ≤ l.length + 12 ∧ i = .int .i64 k ∧ Hid (∃ q, wr = w.drewN q)) (fun i _ => l.length + 12 - (intOf i).toNat)
  case atStart => exact ⟨0, by omega, rfl, 0, rfl⟩
  case round =>
    obtain ⟨k, hk, rfl, HQ⟩ := hrel
    by_cases hlt : k < l.length
    · obtain ⟨b', o', x, rfl, hx, hc2⟩ := H2.out k hlt
      have hc1 : wr.cell? ⟨b, o + k, none⟩ = some (.int .u8 (x : Nat)) := by
        obtain ⟨q, rfl⟩ := HQ.out
        exact Hcell.out k x (by rw [List.getElem?_append_left hlt]; exact hx) q
      have hc2' : wr.cell? ⟨b', o' + k, none⟩ = some (.int .u8 (x : Nat)) := by
        obtain ⟨q, rfl⟩ := HQ.out
        exact hc2
      have b1 : (0 : Int) ≤ (k : Int) := by omega
      have b2 : (k : Int) < (l.length : Int) := by omega
      have b3 : (k : Int) < (l.length : Int) + 12 := by omega
      have d1 : decide (k < l.length) = true := decide_eq_true hlt
      have d2 : decide (l.length ≤ k) = false := decide_eq_false (by omega)
      clear hx hc2
      go_wp2_with fail
      go_quiet (fail)
      go_wp2_with fail
      go_roundw
      case rel => exact ⟨k + 1, by omega, by go_num, hq_drewN HQ _⟩
      case measure => simp [intOf]; omega
    · by_cases hlt2 : k < l.length + 12
      · have hx : (l ++ mksTo 12)[k]? = some (mkb (k - l.length)) := by
          rw [List.getElem?_append_right (by omega)]
          exact mksTo_get (by omega)
        have hc1 : wr.cell? ⟨b, o + k, none⟩ = some (.int .u8 (mkb (k - l.length) : Nat)) := by
          obtain ⟨q, rfl⟩ := HQ.out
          exact Hcell.out k _ hx q
        have Hb0 : ∀ W, Calls Try.prog 49 #[.int .i64 1, .int .i64 ((k : Int) - (l.length : Int))] W (Same (.int .u8 (mkb (k - l.length) : Nat)) W) := by
          intro W
          have := c_markByte (k - l.length) (by omega) W
          rwa [show ((k - l.length : Nat) : Int) = (k : Int) - (l.length : Int) from by omega] at this
        have Hb := Lib.hid Hb0
        clear Hb0
        generalize mkb (k - l.length) = mk at *
        have b1 : (0 : Int) ≤ (k : Int) := by omega
        have b2 : (l.length : Int) ≤ (k : Int) := by omega
        have b3 : (k : Int) < (l.length : Int) + 12 := by omega
        have b4 : IntKind.i64.wrap ((k : Int) - (l.length : Int)) = (k : Int) - (l.length : Int) := IntWalk.i64_in _ (by omega)
        have d1 : decide (k < l.length) = false := decide_eq_false hlt
        have d2 : decide (l.length ≤ k) = true := decide_eq_true (by omega)
        clear hx
        go_wp2_with fail
        go_quiet ((go_at_call 49; exact quiet_same (Hb.out _)))
        go_wp2_with fail
        go_roundw
        case rel => exact ⟨k + 1, by omega, by go_num, hq_drewN HQ _⟩
        case measure => simp [intOf]; omega
      · obtain rfl : k = l.length + 12 := by omega
        go_wp2_with fail
        go_ret
        exact ⟨rfl, HQ.out⟩
end Go.Proofs.Ytabejgcpihacpaa
