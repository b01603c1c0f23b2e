/- The statements of layer 11: the examples of the chapter. -/
import Derived.Test.YtabejgcpihacpaaLw11A
import Derived.Deep.RegionHeld3
namespace Go.Proofs.Ytabejgcpihacpaa
open Go.RowKit

theorem sl_lit (w : World) (t : TypeId) (cs : List Value) : SlAt (w.alloc (.cells cs.toArray t)) (some ⟨w.heap.size, 0, none⟩) cs := by
  intro _
  refine ⟨w.heap.size, 0, rfl, by simp, fun i v hv => ?_⟩
  rw [Nat.zero_add, cell_of_row _ w.heap.size i cs.toArray t (0, 0) (heap_alloc_new w _)]
  simpa using hv
theorem sl_lit' (w : World) (g : Nat) (t : TypeId) (cs : List Value) (hg : w.heap.size = g) : SlAt (w.alloc (.cells cs.toArray t)) (some ⟨g, 0, none⟩) cs := by
  subst hg; exact sl_lit w t cs
theorem frm_w {P : Program} {f : FuncId} {args : Array Value} {w : World} {a b c d : Value} (h : Calls P f args w (Frm (.tuple #[a, b]) w)) (h1 : a = c) (h2 : b = d) : Calls P f args w (Frm (.tuple #[c, d]) w) := by
  rw [← h1, ← h2]; exact h

def awl : List Nat := [39, 51, 40, 0]
def awl2 : List Nat := [39, 51]
theorem aw8 : ∀ x ∈ awl, x < 256 := by decide
theorem aw8' : ∀ x ∈ awl2, x < 256 := by decide
theorem aw_w4 (A : Option Addr) (w : World) (h : SlAt w A (awl.map u8)) : Calls Try.prog 16 #[.int .u8 4, .slice A 4 4] w (Frm (.tuple #[.int .i64 1, .int .i64 0]) w) :=
  frm_w (c_tWinner A 4 4 4 awl w rfl (by omega) (by decide) (by omega) aw8 h) (int_eq (by decide +kernel)) (int_eq (by decide +kernel))
theorem aw_w0 (A : Option Addr) (w : World) (h : SlAt w A (awl.map u8)) : Calls Try.prog 16 #[.int .u8 0, .slice A 4 4] w (Frm (.tuple #[.int .i64 3, .int .i64 0]) w) :=
  frm_w (c_tWinner A 4 4 0 awl w rfl (by omega) (by decide) (by omega) aw8 h) (int_eq (by decide +kernel)) (int_eq (by decide +kernel))
theorem aw_s4 (A : Option Addr) (w : World) (h : SlAt w A (awl.map u8)) : Calls Try.prog 24 #[.int .u8 4, .int .u8 2, .slice A 4 4] w (Frm (.tuple #[.int .u8 3, .int .i64 0]) w) :=
  frm_w (c_tSeat A 4 4 4 2 awl w rfl (by omega) (by decide) (by omega) (by omega) aw8 h) (int_eq (by decide +kernel)) (int_eq (by decide +kernel))
theorem aw_s0 (A : Option Addr) (w : World) (h : SlAt w A (awl.map u8)) : Calls Try.prog 24 #[.int .u8 0, .int .u8 2, .slice A 4 4] w (Frm (.tuple #[.int .u8 1, .int .i64 0]) w) :=
  frm_w (c_tSeat A 4 4 0 2 awl w rfl (by omega) (by decide) (by omega) (by omega) aw8 h) (int_eq (by decide +kernel)) (int_eq (by decide +kernel))
theorem aw_b0 (A : Option Addr) (w : World) (h : SlAt w A (awl2.map u8)) : Calls Try.prog 27 #[.int .u8 0, .slice A 2 4, .int .u8 12] w (Frm (.tuple #[.bool true, .int .i64 0]) w) :=
  frm_w (c_tBeats A 2 4 0 awl2 12 w rfl (by omega) (by decide) (by omega) (by omega) aw8' h) (congrArg Value.bool (by decide +kernel)) (int_eq (by decide +kernel))
theorem aw_b2 (A : Option Addr) (w : World) (h : SlAt w A (awl2.map u8)) : Calls Try.prog 27 #[.int .u8 2, .slice A 2 4, .int .u8 12] w (Frm (.tuple #[.bool false, .int .i64 0]) w) :=
  frm_w (c_tBeats A 2 4 2 awl2 12 w rfl (by omega) (by decide) (by omega) (by omega) aw8' h) (congrArg Value.bool (by decide +kernel)) (int_eq (by decide +kernel))
theorem aw_w00 (A : Option Addr) (w : World) (h : SlAt w A (([0, 0] : List Nat).map u8)) : Calls Try.prog 16 #[.int .u8 0, .slice A 2 2] w (Frm (.tuple #[.int .i64 0, .int .i64 110]) w) :=
  frm_w (c_tWinner A 2 2 0 [0, 0] w rfl (by omega) (by decide) (by omega) (by decide) h) (int_eq (by decide +kernel)) (int_eq (by decide +kernel))
theorem aw_p1 (A : Option Addr) (w : World) (h : SlAt w A (([39] : List Nat).map u8)) : Calls Try.prog 17 #[.int .u64 1099511635969, .slice A 1 4] w (Frm (.tuple #[.int .u64 1099511627776, .int .i64 0]) w) :=
  frm_w ((c_tPlayable A 1 4 1099511635969 [39] w rfl (by omega) (by decide) (by omega) (by decide) h).mono fun _ _ hh => Same.frm hh) (int_eq (by decide +kernel)) (int_eq (by decide +kernel))
theorem aw_p2 (A : Option Addr) (w : World) (h : SlAt w A (([26] : List Nat).map u8)) : Calls Try.prog 17 #[.int .u64 1099511635969, .slice A 1 1] w (Frm (.tuple #[.int .u64 1099511635969, .int .i64 0]) w) :=
  frm_w ((c_tPlayable A 1 1 1099511635969 [26] w rfl (by omega) (by decide) (by omega) (by decide) h).mono fun _ _ hh => Same.frm hh) (int_eq (by decide +kernel)) (int_eq (by decide +kernel))
theorem aw_r1 (A : Option Addr) (w : World) (h : SlAt w A (awl2.map u8)) : Calls Try.prog 20 #[.int .u8 0, .int .u64 1099511631873, .slice A 2 4] w (Frm (.tuple #[.int .u64 0, .int .i64 0]) w) :=
  frm_w (c_tWinners A 2 4 0 1099511631873 awl2 w rfl (by omega) (by decide) (by omega) (by omega) aw8' h) (int_eq (by decide +kernel)) (int_eq (by decide +kernel))
theorem aw_r2 (A : Option Addr) (w : World) (h : SlAt w A (awl2.map u8)) : Calls Try.prog 20 #[.int .u8 0, .int .u64 4097, .slice A 2 4] w (Frm (.tuple #[.int .u64 4097, .int .i64 0]) w) :=
  frm_w (c_tWinners A 2 4 0 4097 awl2 w rfl (by omega) (by decide) (by omega) (by omega) aw8' h) (int_eq (by decide +kernel)) (int_eq (by decide +kernel))
theorem aw_c (A : Option Addr) (w : World) (h : SlAt w A (awl2.map u8)) : Calls Try.prog 21 #[.int .u8 0, .int .u64 4097, .slice A 2 4] w (Frm (.tuple #[.int .u8 0, .bool true]) w) :=
  frm_w (c_tCover A 2 4 0 4097 awl2 w rfl (by omega) (by decide) (by omega) (by omega) aw8' h) (int_eq (by decide +kernel)) (congrArg Value.bool (by decide +kernel))
theorem aw_m1 (A : Option Addr) (w : World) (h : SlAt w A (([0, 13, 40] : List Nat).map u8)) : Calls Try.prog 19 #[.slice A 3 3] w (Same (.int .u64 1099511635969) w) := by
  have := c_mask A 3 3 [0, 13, 40] w rfl (by decide) (by decide) h
  rwa [show ((maskOf [0, 13, 40] : Nat) : Int) = 1099511635969 from by decide +kernel] at this
theorem aw_m2 (A : Option Addr) (w : World) (h : SlAt w A (([0, 12, 40] : List Nat).map u8)) : Calls Try.prog 19 #[.slice A 3 3] w (Same (.int .u64 1099511631873) w) := by
  have := c_mask A 3 3 [0, 12, 40] w rfl (by decide) (by decide) h
  rwa [show ((maskOf [0, 12, 40] : Nat) : Int) = 1099511631873 from by decide +kernel] at this
theorem aw_m3 (A : Option Addr) (w : World) (h : SlAt w A (([0, 12] : List Nat).map u8)) : Calls Try.prog 19 #[.slice A 2 2] w (Same (.int .u64 4097) w) := by
  have := c_mask A 2 2 [0, 12] w rfl (by decide) (by decide) h
  rwa [show ((maskOf [0, 12] : Nat) : Int) = 4097 from by decide +kernel] at this
theorem aw_m4 (A : Option Addr) (w : World) (h : SlAt w A (([40] : List Nat).map u8)) : Calls Try.prog 19 #[.slice A 1 1] w (Same (.int .u64 1099511627776) w) := by
  have := c_mask A 1 1 [40] w rfl (by decide) (by decide) h
  rwa [show ((maskOf [40] : Nat) : Int) = 1099511627776 from by decide +kernel] at this

set_option maxRecDepth 100000 in
set_option maxHeartbeats 2000000 in
theorem c_awake (w : World) : Calls Try.prog 12 #[] w (Frm (.bool true) w) := by
  go_enter Try.func12, Try.ntmps12
  go_wp2_with fail
  obtain ⟨w1, hw1⟩ : ∃ w1 : World, w1 = w.alloc (.cells #[.int .u8 39, .int .u8 51, .int .u8 40, .int .u8 0] 5) := ⟨_, rfl⟩
  rw [← hw1]
  have hb1 : Below w.heap.size w w1 := by rw [hw1]; exact (Below.refl _ _).alloc (Nat.le_refl _) _
  have hS : SlAt w1 (some ⟨w.heap.size, 0, none⟩) (awl.map u8) := by rw [hw1]; exact sl_lit w _ (awl.map u8)
  clear hw1
  have HS := Lib.hid hS
  clear hS
  generalize hg : w.heap.size = g at *
  have Hg := Lib.hid hg
  clear hg
  have HS2 : Hid (∀ W, Below w1.heap.size w1 W → SlAt W (some ⟨g, 0, none⟩) (awl2.map u8)) := fun W hb => (HS.out.below hb).take 2
  have HS1 : Hid (∀ W, Below w1.heap.size w1 W → SlAt W (some ⟨g, 0, none⟩) (([39] : List Nat).map u8)) := fun W hb => (HS.out.below hb).take 1
  have B1 := Below.refl w1.heap.size w1
  refine Calls.mono (aw_w4 _ _ (HS.out.below B1)) ?_
  rintro e w2 ⟨rfl, k2⟩
  have B2 := below_step B1 k2
  clear k2
  go_wp2_with fail
  refine Calls.mono (aw_w0 _ _ (HS.out.below B2)) ?_
  rintro e w3 ⟨rfl, k3⟩
  have B3 := below_step B2 k3
  clear k3
  go_wp2_with fail
  refine Calls.mono (aw_s4 _ _ (HS.out.below B3)) ?_
  rintro e w4 ⟨rfl, k4⟩
  have B4 := below_step B3 k4
  clear k4
  go_wp2_with fail
  refine Calls.mono (aw_s0 _ _ (HS.out.below B4)) ?_
  rintro e w5 ⟨rfl, k5⟩
  have B5 := below_step B4 k5
  clear k5
  go_wp2_with fail
  refine Calls.mono (aw_b0 _ _ (HS2.out _ B5)) ?_
  rintro e w6 ⟨rfl, k6⟩
  have B6 := below_step B5 k6
  clear k6
  go_wp2_with fail
  refine Calls.mono (aw_b2 _ _ (HS2.out _ B6)) ?_
  rintro e w7 ⟨rfl, k7⟩
  have B7 := below_step B6 k7
  clear k7
  go_wp2_with fail
  go_region_held3 (fun _ => True) (trivial) ((first
    | (go_at_call 19; refine (aw_m1 _ _ (by exact sl_lit w7 _ (([0, 13, 40] : List Nat).map u8))).mono ?_; rintro e w' ⟨rfl, rfl⟩)
    | (go_at_call 17; refine (aw_p1 _ _ (by exact HS1.out _ (B7.alloc B7.size _).drew)).mono ?_; rintro e w8 ⟨rfl, k8⟩)))
  have B8 := below_step (B7.alloc B7.size _).drew k8
  clear k8
  go_wp2_with (first
    | (go_at_call 19; refine (aw_m1 _ _ (by exact sl_lit w8 _ (([0, 13, 40] : List Nat).map u8))).mono ?_; rintro e w' ⟨rfl, rfl⟩)
    | (go_at_call 17; refine (aw_p2 _ _ (by exact sl_lit' (w8.alloc _) _ _ (([26] : List Nat).map u8) (by simp))).mono ?_; rintro e w9 ⟨rfl, k9⟩))
  have B9 := below_step ((B8.alloc B8.size _).alloc (by have := B8.size; simp; omega) _) k9
  clear k9
  go_region_held3 (fun _ => True) (trivial) ((first
    | (go_at_call 19; refine (aw_m2 _ _ (by exact sl_lit w9 _ (([0, 12, 40] : List Nat).map u8))).mono ?_; rintro e w' ⟨rfl, rfl⟩)
    | (go_at_call 20; refine (aw_r1 _ _ (by exact HS2.out _ (B9.alloc B9.size _).drew)).mono ?_; rintro e w10 ⟨rfl, k10⟩)))
  have B10 := below_step (B9.alloc B9.size _).drew k10
  clear k10
  go_wp2_with fail
  go_region_held3 (fun _ => True) (trivial) ((first
    | (go_at_call 19; refine (aw_m3 _ _ (by exact sl_lit w10 _ (([0, 12] : List Nat).map u8))).mono ?_; rintro e w' ⟨rfl, rfl⟩)
    | (go_at_call 20; refine (aw_r2 _ _ (by exact HS2.out _ (B10.alloc B10.size _).drew)).mono ?_; rintro e w11 ⟨rfl, k11⟩)))
  have B11 := below_step (B10.alloc B10.size _).drew k11
  clear k11
  go_wp2_with fail
  go_region_held3 (fun _ => True) (trivial) ((first
    | (go_at_call 19; refine (aw_m3 _ _ (by exact sl_lit w11 _ (([0, 12] : List Nat).map u8))).mono ?_; rintro e w' ⟨rfl, rfl⟩)
    | (go_at_call 21; refine (aw_c _ _ (by exact HS2.out _ (B11.alloc B11.size _).drew)).mono ?_; rintro e w12 ⟨rfl, k12⟩)))
  have B12 := below_step (B11.alloc B11.size _).drew k12
  clear k12
  go_wp2_with fail
  refine Calls.mono (aw_w00 _ _ (by exact sl_lit w12 _ (([0, 0] : List Nat).map u8))) ?_
  rintro e w13 ⟨rfl, k13⟩
  have B13 := below_step (B12.alloc B12.size _) k13
  clear k13
  go_wp2_with fail
  refine Calls.mono (aw_m4 _ _ (by exact sl_lit w13 _ (([40] : List Nat).map u8))) ?_
  rintro e w' ⟨rfl, rfl⟩
  go_wp2_with fail
  refine Calls.mono (aw_m1 _ _ (by exact sl_lit' (w13.alloc _) _ _ (([0, 13, 40] : List Nat).map u8) (by simp))) ?_
  rintro e w' ⟨rfl, rfl⟩
  go_wp2_with fail
  refine Calls.mono (aw_m3 _ _ (by exact sl_lit' ((w13.alloc _).alloc _) _ _ (([0, 12] : List Nat).map u8) (by simp))) ?_
  rintro e w' ⟨rfl, rfl⟩
  go_wp2_with fail
  go_ret
  refine ⟨rfl, ?_⟩
  have := B13.size
  have hz := hb1.size
  rw [Hg.out]
  exact hb1.trans ((((B13.alloc B13.size _).alloc (by simp; omega) _).alloc (by simp; omega) _).mono (by rw [← Hg.out]; exact hz))
end Go.Proofs.Ytabejgcpihacpaa
