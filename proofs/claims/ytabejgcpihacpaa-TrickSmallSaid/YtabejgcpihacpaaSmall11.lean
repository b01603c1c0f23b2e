/- The statement TrickSmall of layer 11: the contracts in whatever later world, and the walk. -/
import Derived.Test.YtabejgcpihacpaaLw11D
namespace Go.Proofs.Ytabejgcpihacpaa
open Go.RowKit

theorem u8_of_int {x : Int} (h0 : 0 ≤ x) (h1 : x < 256) : ∃ n : Nat, x = (n : Int) ∧ n < 256 := ⟨x.toNat, by omega, by omega⟩
theorem u64_of_int {x : Int} (h0 : 0 ≤ x) (h1 : x < 18446744073709551616) : ∃ n : Nat, x = (n : Int) ∧ n < 2 ^ 64 := ⟨x.toNat, by omega, by omega⟩
/-- A list of bytes written as cells. -/
def Bytes (vs : List Value) : Prop := ∃ l : List Nat, vs = l.map u8 ∧ ∀ x ∈ l, x < 256
theorem Bytes.nil_ : Bytes [] := ⟨[], rfl, by simp⟩
theorem Bytes.cons_ {x : Int} {vs : List Value} (h0 : 0 ≤ x) (h1 : x < 256) (h : Bytes vs) : Bytes (.int .u8 x :: vs) := by
  obtain ⟨l, rfl, hl⟩ := h
  obtain ⟨n, rfl, hn⟩ := u8_of_int h0 h1
  refine ⟨n :: l, rfl, fun y hy => ?_⟩
  rcases List.mem_cons.1 hy with rfl | hy
  · exact hn
  · exact hl y hy
theorem s_tells (A : Option Addr) (n cap : Nat) (t ld c : Int) (vs : List Value) (W : World) (hb : Bytes vs) (hn : n = vs.length) (hcap : n ≤ cap) (hl : vs.length ≤ 60) (ht0 : 0 ≤ t) (ht : t < 256) (hld0 : 0 ≤ ld) (hld : ld < 256) (hc0 : 0 ≤ c) (hc : c < 256) (h : SlAt W A vs) :
    Calls Try.prog 18 #[.int .u8 t, .int .u8 ld, .int .u8 c, .slice A n cap] W (Frm (.bool true) W) := by
  obtain ⟨l, rfl, h8⟩ := hb
  obtain ⟨t, rfl, ht'⟩ := u8_of_int ht0 ht
  obtain ⟨ld, rfl, hld'⟩ := u8_of_int hld0 hld
  obtain ⟨c, rfl, hc'⟩ := u8_of_int hc0 hc
  rw [List.length_map] at hn hl
  exact c_tells A n cap t ld c l W hn hcap (by omega) ht' hld' hc' h8 h
theorem s_plays (A : Option Addr) (n cap : Nat) (t hd : Int) (vs : List Value) (W : World) (hb : Bytes vs) (hn : n = vs.length) (hcap : n ≤ cap) (hl : vs.length ≤ 60) (ht0 : 0 ≤ t) (ht : t < 256) (hh0 : 0 ≤ hd) (hh : hd < 18446744073709551616) (h : SlAt W A vs) :
    Calls Try.prog 11 #[.int .u8 t, .int .u64 hd, .slice A n cap] W (Frm (.bool true) W) := by
  obtain ⟨l, rfl, h8⟩ := hb
  obtain ⟨t, rfl, ht'⟩ := u8_of_int ht0 ht
  obtain ⟨hd, rfl, hh'⟩ := u64_of_int hh0 hh
  rw [List.length_map] at hn hl
  exact c_plays A n cap t hd l W hn hcap (by omega) ht' hh' h8 h
/-- Some mask. -/
def SomeMask (w : World) (e : Ending) (w' : World) : Prop := ∃ m : Nat, m < 2 ^ 64 ∧ e = .returned (.int .u64 (m : Nat)) ∧ w = w'
theorem s_mask (A : Option Addr) (n cap : Nat) (vs : List Value) (W : World) (hb : Bytes vs) (hn : n = vs.length) (hl : vs.length ≤ 60) (h : SlAt W A vs) :
    Calls Try.prog 19 #[.slice A n cap] W (SomeMask W) := by
  obtain ⟨l, rfl, h8⟩ := hb
  rw [List.length_map] at hn hl
  exact (c_mask A n cap l W hn (by omega) h8 h).mono fun _ _ hh => ⟨maskOf l, maskTo_lt l _, hh.1, hh.2⟩
theorem wrap64_lt (x : Int) : 0 ≤ IntKind.u64.wrap x ∧ IntKind.u64.wrap x < 18446744073709551616 := by
  rw [IntKind.wrap_u64]; omega
theorem or64_lt {x y : Int} (hx : 0 ≤ x ∧ x < 18446744073709551616) (hy : 0 ≤ y ∧ y < 18446744073709551616) : 0 ≤ bits BinOp.or IntKind.u64 x y ∧ bits BinOp.or IntKind.u64 x y < 18446744073709551616 := by
  obtain ⟨a, rfl, ha⟩ := u64_of_int hx.1 hx.2
  obtain ⟨b, rfl, hb⟩ := u64_of_int hy.1 hy.2
  rw [u64_or_nat a b ha hb]
  have := Nat.or_lt_two_pow ha hb
  omega

theorem Bytes.set_ {vs : List Value} {x : Int} {k : Nat} (h : Bytes vs) (h0 : 0 ≤ x) (h1 : x < 256) : Bytes (vs.set k (.int .u8 x)) := by
  obtain ⟨l, rfl, hl⟩ := h
  obtain ⟨n, rfl, hn⟩ := u8_of_int h0 h1
  refine ⟨l.set k n, by rw [List.map_set]; rfl, fun y hy => ?_⟩
  rcases List.mem_or_eq_of_mem_set hy with hy | rfl
  · exact hl y hy
  · exact hn
theorem Bytes.take_ {vs : List Value} (h : Bytes vs) (k : Nat) : Bytes (vs.take k) := by
  obtain ⟨l, rfl, hl⟩ := h
  exact ⟨l.take k, by rw [List.map_take], fun y hy => hl y (List.mem_of_mem_take hy)⟩
theorem bytes4 : Bytes [.int .u8 3, .int .u8 16, .int .u8 29, .int .u8 42] := ⟨[3, 16, 29, 42], rfl, by decide⟩
theorem cell_keep_alloc {w : World} {a : Addr} {v : Value} (o : Obj) (h : w.cell? a = some v) : (w.alloc o).cell? a = some v :=
  (((Below.refl _ w).alloc (Nat.le_refl _) o).cell (p := a) (World.block_lt_of_cell? w _ h)).trans h
theorem below_drew {n : Nat} {a w : World} (h : Below n a w) : Below n a w.drew := ⟨h.os, h.tape, h.output, h.size, h.block⟩
theorem wal2 {n : Nat} {a w : World} (h : Below n a w) (hn : n ≤ w.heap.size) (o o' : Obj) : Below n a ((w.alloc o).alloc o') := (h.alloc hn o).alloc (by simp; omega) o'
theorem lit12 (W : World) : SlAt (W.alloc (.cells #[.int .u8 0, .int .u8 1, .int .u8 12, .int .u8 13, .int .u8 14, .int .u8 25, .int .u8 26, .int .u8 38, .int .u8 39, .int .u8 40, .int .u8 50, .int .u8 51] 5)) (some ⟨W.heap.size, 0, none⟩) (([0, 1, 12, 13, 14, 25, 26, 38, 39, 40, 50, 51] : List Nat).map u8) := sl_lit _ _ _
/-- The twelve cards at block g. -/
def Twelve (g : Nat) (W : World) : Prop := g < W.heap.size ∧ ∀ i, i < 12 → ∃ x : Nat, x < 256 ∧ W.cell? ⟨g, i, none⟩ = some (.int .u8 (x : Int))
theorem twelve_lit (W : World) : Twelve W.heap.size (W.alloc (.cells #[.int .u8 0, .int .u8 1, .int .u8 12, .int .u8 13, .int .u8 14, .int .u8 25, .int .u8 26, .int .u8 38, .int .u8 39, .int .u8 40, .int .u8 50, .int .u8 51] 5)) := by
  refine ⟨by simp, fun i hi => ?_⟩
  obtain ⟨b, o, e, hb, hcs⟩ := (lit12 W).u8_all (by simp)
  cases e
  obtain ⟨c, hc⟩ := get_some (l := [0, 1, 12, 13, 14, 25, 26, 38, 39, 40, 50, 51]) (k := i) (by simpa using hi)
  have := hcs i c hc
  rw [Nat.zero_add] at this
  refine ⟨c, ?_, this⟩
  have := List.mem_of_getElem? hc
  simp at this; omega
theorem Twelve.later {g : Nat} {W W' : World} (h : Twelve g W) (hb : Below W.heap.size W W') : Twelve g W' := by
  refine ⟨Nat.lt_of_lt_of_le h.1 hb.size, fun i hi => ?_⟩
  obtain ⟨x, hx, hc⟩ := h.2 i hi
  exact ⟨x, hx, (hb.cell (p := ⟨g, i, none⟩) h.1).trans hc⟩
theorem lit6 (W : World) : SlAt (W.alloc (.cells #[.int .u8 0, .int .u8 3, .int .u8 5, .int .u8 51, .int .u8 52, .int .u8 255] 5)) (some ⟨W.heap.size, 0, none⟩) (([0, 3, 5, 51, 52, 255] : List Nat).map u8) := sl_lit _ _ _

theorem make5 (W : World) : (Instr.makeSlice 23 (.int .i64 5) (.int .i64 5)).run Try.prog W = .ok (.slice (some ⟨W.heap.size, 0, none⟩) 5 5) (W.alloc (.cells #[.int .u8 0, .int .u8 0, .int .u8 0, .int .u8 0, .int .u8 0] 5)) := by
  obtain ⟨i0, hi, hz0, hz1, hz2⟩ := info_parts info_u8
  have := run_make (P := Try.prog) (w := W) 23 5 i0 (.int .u8 0) Try.underlying23 hi hz0 .i64 .i64 5 5 (by omega) (by omega) (by rw [hz2]; omega) (by omega)
  have e : madeCells #[Value.int .u8 0] 5 = #[.int .u8 0, .int .u8 0, .int .u8 0, .int .u8 0, .int .u8 0] := by
    have q : madeCells #[Value.int .u8 0] 5 = (Array.range 5).map fun _ => Value.int .u8 0 := by
      unfold madeCells
      congr 1
      funext x
      have h1 : x % (#[Value.int .u8 0] : Array Value).size = 0 := Nat.mod_one x
      rw [h1]; rfl
    rw [q]
    apply Array.toList_inj.1
    rw [Array.toList_map, Array.toList_range]
    rfl
  rw [this, hz1, Nat.mul_one]
  show Result.ok (Value.slice _ 5 5) (W.alloc (.cells (madeCells #[Value.int .u8 0] 5) _)) = _
  rw [e]

set_option maxRecDepth 100000 in
set_option maxHeartbeats 8000000 in
theorem c_TrickSmall (w : World) :
    Calls Try.prog 6 #[] w (Frm (.bool true) w) := by
  go_enter Try.func6, Try.ntmps6
  go_wp2_with fail
  go_loopw [1] (fun n wr => ∃ k : Nat, k ≤ 2809 ∧ n = .int .i64 k ∧ Below w.heap.size w wr) (fun n _ => 2809 - (intOf n).toNat)
  case atStart => exact ⟨0, by omega, rfl, Below.refl _ _⟩
  case round =>
    obtain ⟨k, hk, rfl, B⟩ := hrel
    by_cases hlt : k < 2809
    · obtain ⟨a, ea, ha⟩ : ∃ a : Nat, (k : Int) % 53 = (a : Int) ∧ a < 53 := ⟨k % 53, by omega, by omega⟩
      obtain ⟨b, eb, hb⟩ : ∃ b : Nat, (k : Int) / 53 = (b : Int) ∧ b < 53 := ⟨k / 53, by omega, by omega⟩
      have hk1 : decide ((k : Int) < 2809) = true := decide_eq_true (by omega)
      go_wp2_with fail
      clear ea eb hk1
      obtain ⟨wo, rfl⟩ : ∃ wo : World, wo = wr := ⟨_, rfl⟩
      go_loopw [4] (fun t wq => ∃ t' : Nat, t' ≤ 6 ∧ t = .int .u8 t' ∧ Below w.heap.size w wq) (fun t _ => 6 - (intOf t).toNat)
      case atStart => exact ⟨0, by omega, rfl, B⟩
      case round =>
        obtain ⟨t, ht, rfl, B2⟩ := hrel
        by_cases ht6 : t < 6
        · have hsz := B2.size
          by_cases hg : (t : Int) = (b : Int) % 6
          · have hg' : ((t : Int) == (b : Int) % 6) = true := beq_iff_eq.2 hg
            clear hg
            go_wp2_with fail
            refine (s_tells _ 2 2 _ _ _ [.int .u8 (a : Int), .int .u8 (b : Int)] _ (Bytes.cons_ (by omega) (by omega) (Bytes.cons_ (by omega) (by omega) Bytes.nil_)) rfl (by omega) (by simp) (by omega) (by omega) (by omega) (by omega) (by omega) (by omega) (sl_lit _ _ _)).mono ?_
            rintro e w1 ⟨rfl, B3⟩
            have B3 := below_step2 (B2.alloc B2.size _) B3 (by simp; omega)
            go_wp2_with fail
            have hor := or64_lt (wrap64_lt (2 ^ (a % 52))) (show 0 ≤ IntKind.u64.wrap (2 ^ b) / 2 ∧ IntKind.u64.wrap (2 ^ b) / 2 < 18446744073709551616 by have := wrap64_lt (2 ^ b); omega)
            refine (s_plays _ 1 1 _ _ [.int .u8 (b : Int)] _ (Bytes.cons_ (by omega) (by omega) Bytes.nil_) rfl (by omega) (by simp) (by omega) (by omega) hor.1 hor.2 (sl_lit _ _ _)).mono ?_
            clear hor
            rintro e w2 ⟨rfl, B4⟩
            have B4 := below_step2 (B3.alloc B3.size _) B4 (by have := B3.size; simp; omega)
            go_wp2_with fail
            go_roundw
            case rel => exact ⟨t + 1, by omega, by go_num, B4⟩
            case measure => simp [intOf]; omega
          · have hg' : ((t : Int) == (b : Int) % 6) = false := beq_eq_false_iff_ne.2 hg
            clear hg
            go_wp2_with fail
            refine (s_tells _ 2 2 _ _ _ [.int .u8 (a : Int), .int .u8 (b : Int)] _ (Bytes.cons_ (by omega) (by omega) (Bytes.cons_ (by omega) (by omega) Bytes.nil_)) rfl (by omega) (by simp) (by omega) (by omega) (by omega) (by omega) (by omega) (by omega) (sl_lit _ _ _)).mono ?_
            rintro e w1 ⟨rfl, B3⟩
            have B3 := below_step2 (B2.alloc B2.size _) B3 (by simp; omega)
            go_wp2_with fail
            go_roundw
            case rel => exact ⟨t + 1, by omega, by go_num, B3⟩
            case measure => simp [intOf]; omega
        · obtain rfl : t = 6 := by omega
          go_wp2_with fail
          go_roundw
          case rel => exact ⟨k + 1, by omega, by go_num, B2⟩
          case measure => simp [intOf]; omega
    · obtain rfl : k = 2809 := by omega
      rw [show ((2809 : Nat) : Int) = 2809 from rfl]
      go_wp2_with fail
      go_loopw [64] (fun i wr => ∃ k : Nat, k ≤ 4 ∧ i = .int .i64 k ∧ Below w.heap.size w wr) (fun i _ => 4 - (intOf i).toNat)
      case atStart => exact ⟨0, by omega, rfl, B⟩
      case round =>
        obtain ⟨k, hk, rfl, B⟩ := hrel
        by_cases hlt : k < 4
        · have hsz := B.size
          have hk4 : decide ((k : Int) < 4) = true := decide_eq_true (by omega)
          go_wp2_with fail
          clear hk4
          have hX := lit6 wr
          have B5 := B.alloc B.size (.cells #[.int .u8 0, .int .u8 3, .int .u8 5, .int .u8 51, .int .u8 52, .int .u8 255] 5)
          have hgz : wr.heap.size < (wr.alloc (.cells #[.int .u8 0, .int .u8 3, .int .u8 5, .int .u8 51, .int .u8 52, .int .u8 255] 5)).heap.size := by simp
          generalize wr.alloc (.cells #[.int .u8 0, .int .u8 3, .int .u8 5, .int .u8 51, .int .u8 52, .int .u8 255] 5) = ws at *
          generalize wr.heap.size = g at *
          have HX := Lib.hid hX
          clear hX
          go_loopw [69] (fun i wq => ∃ j : Nat, j ≤ 6 ∧ i = .int .i64 j ∧ Below ws.heap.size ws wq) (fun i _ => 6 - (intOf i).toNat)
          case atStart => exact ⟨0, by omega, rfl, Below.refl _ _⟩
          case round =>
            obtain ⟨j, hj, rfl, B6⟩ := hrel
            by_cases hlt6 : j < 6
            · obtain ⟨b, o, e, hb, hcs⟩ := (HX.out.below B6).u8_all (by simp)
              cases e
              obtain ⟨c, hc⟩ := get_some (l := [0, 3, 5, 51, 52, 255]) (k := j) (by simpa using hlt6)
              have cc := hcs j c hc
              rw [Nat.zero_add] at cc
              have hc8 : c < 256 := by
                have := List.mem_of_getElem? hc
                simp at this; omega
              clear hcs hc
              have hsz6 := B6.size
              go_wp2_with fail
              have hBy := Bytes.set_ (k := k) bytes4 (x := (c : Int)) (by omega) (by omega)
              have hlen : ([Value.int .u8 3, .int .u8 16, .int .u8 29, .int .u8 42].set k (.int .u8 (c : Int))).length = 4 := by simp
              generalize [Value.int .u8 3, .int .u8 16, .int .u8 29, .int .u8 42].set k (.int .u8 (c : Int)) = vs at *
              have Hlen := Lib.hid hlen
              have HBy := Lib.hid hBy
              clear hlen hBy
              refine (s_tells _ 4 4 _ _ _ vs _ HBy.out (by have := Hlen.out; omega) (by omega) (by have := Hlen.out; omega) (by omega) (by omega) (by omega) (by omega) (by omega) (by omega) (sl_lit _ _ _)).mono ?_
              rintro e w1 ⟨rfl, B7⟩
              have hs7 := (sl_lit wr 5 vs).below B7
              have B7 := below_step2 (B6.alloc B6.size _) B7 (by simp; omega)
              go_wp2_with fail
              refine (s_tells _ 3 4 _ _ _ (vs.take 3) _ (HBy.out.take_ 3) (by have := Hlen.out; rw [List.length_take]; omega) (by omega) (by rw [List.length_take]; omega) (by omega) (by omega) (by omega) (by omega) (by omega) (by omega) (hs7.take 3)).mono ?_
              rintro e w2 ⟨rfl, B8⟩
              have hs8 := hs7.below B8
              have B8 := below_step2 B7 B8 B7.size
              clear hs7
              go_wp2_with fail
              refine (s_plays _ 4 4 _ _ vs _ HBy.out (by have := Hlen.out; omega) (by omega) (by have := Hlen.out; omega) (by omega) (by omega) (by omega) (by omega) hs8).mono ?_
              rintro e w3 ⟨rfl, B9⟩
              have hs9 := hs8.below B9
              have B9 := below_step2 B8 B9 B8.size
              clear hs8
              go_wp2_with fail
              refine (s_plays _ k 4 _ _ (vs.take k) _ (HBy.out.take_ k) (by have := Hlen.out; rw [List.length_take]; omega) (by omega) (by rw [List.length_take]; omega) (by omega) (by omega) (by omega) (by omega) (hs9.take k)).mono ?_
              rintro e w4 ⟨rfl, B10⟩
              have B10 := below_step2 B9 B10 B9.size
              clear hs9
              go_wp2_with fail
              go_roundw
              case rel => exact ⟨j + 1, by omega, by go_num, B10⟩
              case measure => simp [intOf]; omega
            · obtain rfl : j = 6 := by omega
              go_wp2_with fail
              go_roundw
              case rel => exact ⟨k + 1, by omega, by go_num, below_step2 B5 B6 B5.size⟩
              case measure => simp [intOf]; omega
        · obtain rfl : k = 4 := by omega
          rw [show ((4 : Nat) : Int) = 4 from rfl]
          go_wp2_with fail
          have hX := twelve_lit wr
          have B5 := B.alloc B.size (.cells #[.int .u8 0, .int .u8 1, .int .u8 12, .int .u8 13, .int .u8 14, .int .u8 25, .int .u8 26, .int .u8 38, .int .u8 39, .int .u8 40, .int .u8 50, .int .u8 51] 5)
          generalize wr.alloc (.cells #[.int .u8 0, .int .u8 1, .int .u8 12, .int .u8 13, .int .u8 14, .int .u8 25, .int .u8 26, .int .u8 38, .int .u8 39, .int .u8 40, .int .u8 50, .int .u8 51] 5) = ws at *
          generalize wr.heap.size = g at *
          have HX := Lib.hid hX
          clear hX
          go_loopw [107] (fun i wq => ∃ j : Nat, j ≤ 12 ∧ i = .int .i64 j ∧ Below ws.heap.size ws wq) (fun i _ => 12 - (intOf i).toNat)
          case atStart => exact ⟨0, by omega, rfl, Below.refl _ _⟩
          case round =>
            obtain ⟨i, hi, rfl, B6⟩ := hrel
            by_cases hi12 : i < 12
            · obtain ⟨x, hx8, cx⟩ := (HX.out.later B6).2 i hi12
              have hi4 : decide ((i : Int) < 12) = true := decide_eq_true (by omega)
              go_wp2_with fail
              clear hi4 cx
              obtain ⟨wo, rfl⟩ : ∃ wo : World, wo = wr := ⟨_, rfl⟩
              go_loopw [114] (fun i wq => ∃ j : Nat, j ≤ 12 ∧ i = .int .i64 j ∧ Below ws.heap.size ws wq) (fun i _ => 12 - (intOf i).toNat)
              case atStart => exact ⟨0, by omega, rfl, B6⟩
              case round =>
                obtain ⟨k, hk, rfl, B7⟩ := hrel
                by_cases hk12 : k < 12
                · obtain ⟨y, hy8, cy⟩ := (HX.out.later B7).2 k hk12
                  have hk4 : decide ((k : Int) < 12) = true := decide_eq_true (by omega)
                  go_wp2_with fail
                  clear hk4 cy
                  obtain ⟨wp, rfl⟩ : ∃ wp : World, wp = wr := ⟨_, rfl⟩
                  go_loopw [121] (fun i wq => ∃ j : Nat, j ≤ 12 ∧ i = .int .i64 j ∧ Below ws.heap.size ws wq) (fun i _ => 12 - (intOf i).toNat)
                  case atStart => exact ⟨0, by omega, rfl, B7⟩
                  case round =>
                    obtain ⟨j, hj, rfl, B8⟩ := hrel
                    by_cases hj12 : j < 12
                    · obtain ⟨z, hz8, cz⟩ := (HX.out.later B8).2 j hj12
                      have hj4 : decide ((j : Int) < 12) = true := decide_eq_true (by omega)
                      obtain ⟨q, eq, hq⟩ : ∃ q : Nat, ((j : Int) + 1 + (k : Int)).tmod 12 = (q : Int) ∧ q < 12 := ⟨(j + 1 + k) % 12, by rw [Int.tmod_eq_emod_of_nonneg (by omega)]; omega, by omega⟩
                      obtain ⟨v, hv8, cv⟩ := (HX.out.later B8).2 q hq
                      have e1 : IntKind.i64.wrap ((i : Int) + (k : Int)) = (i : Int) + (k : Int) := IntWalk.i64_in _ (by omega)
                      have e2 : IntKind.i64.wrap ((i : Int) + (k : Int) + (j : Int)) = (i : Int) + (k : Int) + (j : Int) := IntWalk.i64_in _ (by omega)
                      have e3 : IntKind.i64.wrap ((j : Int) + 1) = (j : Int) + 1 := IntWalk.i64_in _ (by omega)
                      have e4 : IntKind.i64.wrap ((j : Int) + 1 + (k : Int)) = (j : Int) + 1 + (k : Int) := IntWalk.i64_in _ (by omega)
                      obtain ⟨m5, e5, hm5⟩ : ∃ q : Nat, (i : Int).tmod 5 = (q : Int) ∧ q < 5 := ⟨i % 5, by rw [Int.tmod_eq_emod_of_nonneg (by omega)]; omega, by omega⟩
                      have e6 : IntKind.u8.wrap (m5 : Int) = (m5 : Int) := by rw [IntKind.wrap_u8]; omega
                      have q1 : (0 : Int) ≤ (q : Int) := by omega
                      have q2 : (q : Int) < 12 := by omega
                      have ks : (wr.drew).cell? ⟨g, q, none⟩ = some (.int .u8 (v : Int)) := cv
                      go_wp2_with fail
                      by_cases hev : ((i : Int) + (k : Int) + (j : Int)).tmod 2 = 0
                      · have hev' : (((i : Int) + (k : Int) + (j : Int)).tmod 2 == 0) = true := beq_iff_eq.2 hev
                        clear hev
                        have tp1 : True := trivial
                        have ks8 := World.block_lt_of_cell? _ _ ks
                        go_region_held3 (fun W => W.cell? ⟨g, q, none⟩ = some (Value.int .u8 (v : Int))) (first | assumption | exact cell_keep_alloc _ (by assumption)) ((first
                          | (go_at_call 19; refine (s_mask _ 2 2 [.int .u8 (x : Int), .int .u8 (y : Int)] _ ?_ rfl ?_ ?_).mono ?_; (exact Bytes.cons_ (by omega) (by omega) (Bytes.cons_ (by omega) (by omega) Bytes.nil_)); (simp); (first | exact sl_lit _ _ _ | exact sl_lit' _ _ _ _ (by simp) | exact (sl_lit _ _ _).alloc _ | exact (sl_lit' _ _ _ _ (by simp)).alloc _); rintro e w' ⟨mm, hmm, rfl, rfl⟩)
                          | (have _t := tp1; go_at_call 11; (refine (s_plays _ 2 2 _ _ [.int .u8 (z : Int), .int .u8 (v : Int)] _ ?_ rfl ?_ ?_ ?_ ?_ ?_ ?_ ?_).mono ?_); (exact Bytes.cons_ (by omega) (by omega) (Bytes.cons_ (by omega) (by omega) Bytes.nil_)); (omega); (simp); (omega); (omega); (omega); (omega); (first | exact sl_lit _ _ _ | exact sl_lit' _ _ _ _ (by simp) | exact (sl_lit _ _ _).alloc _ | exact (sl_lit' _ _ _ _ (by simp)).alloc _); rintro e w9 ⟨rfl, k9⟩; (have B9 : Below ws.heap.size ws w9 := below_step2 (wal2 (below_drew B8) B8.size _ _) k9 (by have := B8.size; simp; omega)); have c9 := (k9.cell (p := ⟨g, q, none⟩) (by simp at ks8 ⊢; omega)).trans (cell_keep_alloc _ (cell_keep_alloc _ ks)); clear tp1 _t)
                          | (go_at_call 11; (refine (s_plays _ 1 1 _ _ [.int .u8 (z : Int)] _ ?_ rfl ?_ ?_ ?_ ?_ ?_ ?_ ?_).mono ?_); (exact Bytes.cons_ (by omega) (by omega) Bytes.nil_); (omega); (simp); (omega); (omega); (omega); (omega); (first | exact sl_lit _ _ _ | exact sl_lit' _ _ _ _ (by simp) | exact (sl_lit _ _ _).alloc _ | exact (sl_lit' _ _ _ _ (by simp)).alloc _); rintro e w10 ⟨rfl, k10⟩; (have B10 : Below ws.heap.size ws w10 := below_step2 (wal2 B9 B9.size _ _) k10 (by have := B9.size; simp; omega)); have c10 := (k10.cell (p := ⟨g, q, none⟩) (by have := World.block_lt_of_cell? _ _ c9; simp at this ⊢; omega)).trans (cell_keep_alloc _ (cell_keep_alloc _ c9)))))
                        all_goals
                          go_wp2_with fail
                          go_roundw
                          case rel => exact ⟨j + 1, by omega, by go_num, B10⟩
                          case measure => simp [intOf]; omega
                      · have hev' : (((i : Int) + (k : Int) + (j : Int)).tmod 2 == 0) = false := beq_eq_false_iff_ne.2 hev
                        clear hev
                        refine wp_region_noPanic ?_
                        refine wp_region_held_drew (S := fun _ => True) (by kernel_rfl) trivial (fun _ => ?_)
                        refine wpAnyH_take (i := 0) (v := ?_) rfl (by kernel_rfl) (by kernel_rfl) (by kernel_rfl) (fun _ _ _ h => h) (Or.inl ⟨by kernel_rfl, ?_⟩) trivial ?_
                        rotate_left
                        · (intro w _; go_simp; try with_reducible rfl)
                        (try simp only [Act.put, List.setIfInBounds_toArray, List.set_cons_zero, List.set_cons_succ])
                        refine wpAnyH_take (i := 1) (v := ?_) rfl (by kernel_rfl) (by kernel_rfl) (by kernel_rfl) (fun _ _ _ h => h) (Or.inl ⟨by kernel_rfl, ?_⟩) trivial ?_
                        rotate_left
                        · (intro w _; go_simp; try with_reducible rfl)
                        (try simp only [Act.put, List.setIfInBounds_toArray, List.set_cons_zero, List.set_cons_succ])
                        refine wpAnyH_take (i := 2) (v := ?_) rfl (by kernel_rfl) (by kernel_rfl) (by kernel_rfl) (fun _ _ _ h => h) (Or.inl ⟨by kernel_rfl, ?_⟩) trivial ?_
                        rotate_left
                        · (intro w _; go_simp; try with_reducible rfl)
                        (try simp only [Act.put, List.setIfInBounds_toArray, List.set_cons_zero, List.set_cons_succ])
                        refine wpAnyH_take (i := 3) (v := ?_) rfl (by kernel_rfl) (by kernel_rfl) (by kernel_rfl) (fun _ _ _ h => h) (Or.inl ⟨by kernel_rfl, ?_⟩) trivial ?_
                        rotate_left
                        · (intro w _; go_simp; try with_reducible rfl)
                        (try simp only [Act.put, List.setIfInBounds_toArray, List.set_cons_zero, List.set_cons_succ])
                        refine wpAnyH_take (i := 4) (v := ?_) rfl (by kernel_rfl) (by kernel_rfl) (by kernel_rfl) (fun _ _ _ h => h) (Or.inl ⟨by kernel_rfl, ?_⟩) trivial ?_
                        rotate_left
                        · (intro w _; go_simp; try with_reducible rfl)
                        (try simp only [Act.put, List.setIfInBounds_toArray, List.set_cons_zero, List.set_cons_succ])
                        refine wpAnyH_take (i := 5) (v := ?_) rfl (by kernel_rfl) (by kernel_rfl) (by kernel_rfl) (fun _ _ _ h => h) (Or.inl ⟨by kernel_rfl, ?_⟩) trivial ?_
                        rotate_left
                        · (intro w _; go_simp; try with_reducible rfl)
                        (try simp only [Act.put, List.setIfInBounds_toArray, List.set_cons_zero, List.set_cons_succ])
                        refine wpAnyH_take (i := 6) (v := ?_) rfl (by kernel_rfl) (by kernel_rfl) (by kernel_rfl) (fun _ _ _ h => h) (Or.inl ⟨by kernel_rfl, ?_⟩) trivial ?_
                        rotate_left
                        · (intro w _; go_simp; try with_reducible rfl)
                        (try simp only [Act.put, List.setIfInBounds_toArray, List.set_cons_zero, List.set_cons_succ])
                        refine wpAnyH_take (i := 7) (v := ?_) rfl (by kernel_rfl) (by kernel_rfl) (by kernel_rfl) (fun _ _ _ h => h) (Or.inl ⟨by kernel_rfl, ?_⟩) trivial ?_
                        rotate_left
                        · (intro w _; go_simp; try with_reducible rfl)
                        (try simp only [Act.put, List.setIfInBounds_toArray, List.set_cons_zero, List.set_cons_succ])
                        refine wpAnyH_take (i := 8) (v := undef) rfl (by kernel_rfl) (by kernel_rfl) (by kernel_rfl) (fun _ _ _ h => h) (Or.inr ⟨by kernel_rfl, rfl⟩) trivial ?_
                        refine wpAnyH_take (i := 9) (v := undef) rfl (by kernel_rfl) (by kernel_rfl) (by kernel_rfl) (fun _ _ _ h => h) (Or.inr ⟨by kernel_rfl, rfl⟩) trivial ?_
                        refine wpAnyH_take (i := 10) (v := undef) rfl (by kernel_rfl) (by kernel_rfl) (by kernel_rfl) (fun _ _ _ h => h) (Or.inr ⟨by kernel_rfl, rfl⟩) trivial ?_
                        refine wpAnyH_take (i := 11) (v := undef) rfl (by kernel_rfl) (by kernel_rfl) (by kernel_rfl) (fun _ _ _ h => h) (Or.inr ⟨by kernel_rfl, rfl⟩) trivial ?_
                        refine wpAnyH_take (i := 12) (v := undef) rfl (by kernel_rfl) (by kernel_rfl) (by kernel_rfl) (fun _ _ _ h => h) (Or.inr ⟨by kernel_rfl, rfl⟩) trivial ?_
                        refine wpAnyH_take (i := 13) (v := undef) rfl (by kernel_rfl) (by kernel_rfl) (by kernel_rfl) (fun _ _ _ h => h) (Or.inr ⟨by kernel_rfl, rfl⟩) trivial ?_
                        refine wpAnyH_take (i := 14) (v := undef) rfl (by kernel_rfl) (by kernel_rfl) (by kernel_rfl) (fun _ _ _ h => h) (Or.inr ⟨by kernel_rfl, rfl⟩) trivial ?_
                        refine wpAnyH_take (i := 15) (v := undef) rfl (by kernel_rfl) (by kernel_rfl) (by kernel_rfl) (fun _ _ _ h => h) (Or.inr ⟨by kernel_rfl, rfl⟩) trivial ?_
                        refine wpAnyH_take (i := 16) (v := undef) rfl (by kernel_rfl) (by kernel_rfl) (by kernel_rfl) (fun _ _ _ h => h) (Or.inr ⟨by kernel_rfl, rfl⟩) trivial ?_
                        refine wpAnyH_take (i := 17) (v := undef) rfl (by kernel_rfl) (by kernel_rfl) (by kernel_rfl) (fun _ _ _ h => h) (Or.inr ⟨by kernel_rfl, rfl⟩) trivial ?_
                        refine wpAnyH_take (i := 18) (v := undef) rfl (by kernel_rfl) (by kernel_rfl) (by kernel_rfl) (fun _ _ _ h => h) (Or.inr ⟨by kernel_rfl, rfl⟩) trivial ?_
                        refine wpAnyH_take (i := 19) (v := undef) rfl (by kernel_rfl) (by kernel_rfl) (by kernel_rfl) (fun _ _ _ h => h) (Or.inr ⟨by kernel_rfl, rfl⟩) trivial ?_
                        refine wpAnyH_take (i := 20) (v := undef) rfl (by kernel_rfl) (by kernel_rfl) (by kernel_rfl) (fun _ _ _ h => h) (Or.inr ⟨by kernel_rfl, rfl⟩) trivial ?_
                        refine wpAnyH_take (i := 21) (v := undef) rfl (by kernel_rfl) (by kernel_rfl) (by kernel_rfl) (fun _ _ _ h => h) (Or.inr ⟨by kernel_rfl, rfl⟩) trivial ?_
                        refine wpAnyH_take (i := 22) (v := undef) rfl (by kernel_rfl) (by kernel_rfl) (by kernel_rfl) (fun _ _ _ h => h) (Or.inr ⟨by kernel_rfl, rfl⟩) trivial ?_
                        refine wpAnyH_take (i := 23) (v := undef) rfl (by kernel_rfl) (by kernel_rfl) (by kernel_rfl) (fun _ _ _ h => h) (Or.inr ⟨by kernel_rfl, rfl⟩) trivial ?_
                        refine wpAnyH_take (i := 24) (v := undef) rfl (by kernel_rfl) (by kernel_rfl) (by kernel_rfl) (fun _ _ _ h => h) (Or.inr ⟨by kernel_rfl, rfl⟩) trivial ?_
                        refine wpAnyH_take (i := 25) (v := undef) rfl (by kernel_rfl) (by kernel_rfl) (by kernel_rfl) (fun _ _ _ h => h) (Or.inr ⟨by kernel_rfl, rfl⟩) trivial ?_
                        refine wpAnyH_take (i := 26) (v := undef) rfl (by kernel_rfl) (by kernel_rfl) (by kernel_rfl) (fun _ _ _ h => h) (Or.inr ⟨by kernel_rfl, rfl⟩) trivial ?_
                        (try simp only [Act.put, List.setIfInBounds_toArray, List.set_cons_zero, List.set_cons_succ])
                        refine wpAnyH_take (i := 27) (v := ?_) rfl (by kernel_rfl) (by kernel_rfl) (by kernel_rfl) (fun _ _ _ h => h) (Or.inl ⟨by kernel_rfl, ?_⟩) trivial ?_
                        rotate_left
                        · (intro w _; go_simp; try with_reducible rfl)
                        (try simp only [Act.put, List.setIfInBounds_toArray, List.set_cons_zero, List.set_cons_succ])
                        refine wpAnyH_take (i := 28) (v := ?_) rfl (by kernel_rfl) (by kernel_rfl) (by kernel_rfl) (fun _ _ _ h => h) (Or.inl ⟨by kernel_rfl, ?_⟩) trivial ?_
                        rotate_left
                        · (intro w _; go_simp; try with_reducible rfl)
                        (try simp only [Act.put, List.setIfInBounds_toArray, List.set_cons_zero, List.set_cons_succ])
                        refine wpAnyH_take (i := 29) (v := ?_) rfl (by kernel_rfl) (by kernel_rfl) (by kernel_rfl) (fun _ _ _ h => h) (Or.inl ⟨by kernel_rfl, ?_⟩) trivial ?_
                        rotate_left
                        · (intro w _; go_simp; try with_reducible rfl)
                        (try simp only [Act.put, List.setIfInBounds_toArray, List.set_cons_zero, List.set_cons_succ])
                        refine wpAnyH_take (i := 30) (v := ?_) rfl (by kernel_rfl) (by kernel_rfl) (by kernel_rfl) (fun _ _ _ h => h) (Or.inl ⟨by kernel_rfl, ?_⟩) trivial ?_
                        rotate_left
                        · (intro w _; go_simp; try with_reducible rfl)
                        (try simp only [Act.put, List.setIfInBounds_toArray, List.set_cons_zero, List.set_cons_succ])
                        refine wpAnyH_take (i := 33) (v := ?_) rfl (by kernel_rfl) (by kernel_rfl) (by kernel_rfl) (fun _ _ _ h => h) (Or.inl ⟨by kernel_rfl, ?_⟩) trivial ?_
                        rotate_left
                        · (intro w _; go_simp; try with_reducible rfl)
                        (try simp only [Act.put, List.setIfInBounds_toArray, List.set_cons_zero, List.set_cons_succ])
                        refine wpAnyH_ready (rs := [31, 34]) (by kernel_rfl) (by simp) ?_
                        refine AllReadyH.cons rfl (fun K hK => ?_) ?_
                        · go_simp
                          refine hK.out _ _ trivial (fun _ => ?_)
                          clear hK K
                          (try simp only [Act.put, List.setIfInBounds_toArray, List.set_cons_zero, List.set_cons_succ])
                          refine wpAnyH_ready (rs := [32, 34]) (by kernel_rfl) (by simp) ?_
                          refine AllReadyH.cons rfl (fun K hK => ?_) ?_
                          · go_simp
                            refine (s_mask _ 2 2 [.int .u8 (x : Int), .int .u8 (y : Int)] _ ?_ rfl ?_ ?_).mono ?_; (exact Bytes.cons_ (by omega) (by omega) (Bytes.cons_ (by omega) (by omega) Bytes.nil_)); (simp); (first | exact sl_lit _ _ _ | exact sl_lit' _ _ _ _ (by simp) | exact (sl_lit _ _ _).alloc _ | exact (sl_lit' _ _ _ _ (by simp)).alloc _); rintro e w' ⟨mm, hmm, rfl, rfl⟩
                            dsimp only
                            refine hK.out _ _ trivial (fun _ => ?_)
                            clear hK K
                            (try simp only [Act.put, List.setIfInBounds_toArray, List.set_cons_zero, List.set_cons_succ])
                            refine wpAnyH_ready (rs := [34]) (by kernel_rfl) (by simp) ?_
                            refine AllReadyH.cons rfl (fun K hK => ?_) ?_
                            · go_simp
                              refine hK.out _ _ trivial (fun _ => ?_)
                              clear hK K
                              (try simp only [Act.put, List.setIfInBounds_toArray, List.set_cons_zero, List.set_cons_succ])
                              refine wpAnyH_ready (rs := [35]) (by kernel_rfl) (by simp) ?_
                              refine AllReadyH.cons rfl (fun K hK => ?_) ?_
                              · go_simp
                                (refine (s_plays _ 1 1 _ _ [.int .u8 (z : Int)] _ ?_ rfl ?_ ?_ ?_ ?_ ?_ ?_ ?_).mono ?_); (exact Bytes.cons_ (by omega) (by omega) Bytes.nil_); (omega); (simp); (omega); (omega); (omega); (omega); (first | exact sl_lit _ _ _ | exact sl_lit' _ _ _ _ (by simp) | exact (sl_lit _ _ _).alloc _ | exact (sl_lit' _ _ _ _ (by simp)).alloc _); rintro e w10 ⟨rfl, k10⟩; (have B10 : Below ws.heap.size ws w10 := below_step2 (wal2 (below_drew B8) B8.size _ _) k10 (by have := B8.size; simp; omega))
                                dsimp only
                                refine hK.out _ _ trivial (fun _ => ?_)
                                clear hK K
                                (try simp only [Act.put, List.setIfInBounds_toArray, List.set_cons_zero, List.set_cons_succ])
                                refine wpAnyH_take (i := 36) (v := ?_) rfl (by kernel_rfl) (by kernel_rfl) (by kernel_rfl) (fun _ _ _ h => h) (Or.inl ⟨by kernel_rfl, ?_⟩) trivial ?_
                                rotate_left
                                · (intro w _; go_simp; try with_reducible rfl)
                                (try simp only [Act.put, List.setIfInBounds_toArray, List.set_cons_zero, List.set_cons_succ])
                                refine wpAnyH_take (i := 37) (v := ?_) rfl (by kernel_rfl) (by kernel_rfl) (by kernel_rfl) (fun _ _ _ h => h) (Or.inl ⟨by kernel_rfl, ?_⟩) trivial ?_
                                rotate_left
                                · (intro w _; go_simp; try with_reducible rfl)
                                (try simp only [Act.put, List.setIfInBounds_toArray, List.set_cons_zero, List.set_cons_succ])
                                refine wpAnyH_done (by kernel_rfl) ?_ _
                                refine NoPanic.normal ?_
                                go_wp2_with fail
                                go_roundw
                                case rel => exact ⟨j + 1, by omega, by go_num, B10⟩
                                case measure => simp [intOf]; omega
                              exact AllReadyH.nil
                            exact AllReadyH.nil
                          refine AllReadyH.cons rfl (fun K hK => ?_) ?_
                          · go_simp
                            refine hK.out _ _ trivial (fun _ => ?_)
                            clear hK K
                            (try simp only [Act.put, List.setIfInBounds_toArray, List.set_cons_zero, List.set_cons_succ])
                            refine wpAnyH_ready (rs := [32]) (by kernel_rfl) (by simp) ?_
                            refine AllReadyH.cons rfl (fun K hK => ?_) ?_
                            · go_simp
                              refine (s_mask _ 2 2 [.int .u8 (x : Int), .int .u8 (y : Int)] _ ?_ rfl ?_ ?_).mono ?_; (exact Bytes.cons_ (by omega) (by omega) (Bytes.cons_ (by omega) (by omega) Bytes.nil_)); (simp); (first | exact sl_lit _ _ _ | exact sl_lit' _ _ _ _ (by simp) | exact (sl_lit _ _ _).alloc _ | exact (sl_lit' _ _ _ _ (by simp)).alloc _); rintro e w' ⟨mm, hmm, rfl, rfl⟩
                              dsimp only
                              refine hK.out _ _ trivial (fun _ => ?_)
                              clear hK K
                              (try simp only [Act.put, List.setIfInBounds_toArray, List.set_cons_zero, List.set_cons_succ])
                              refine wpAnyH_ready (rs := [35]) (by kernel_rfl) (by simp) ?_
                              refine AllReadyH.cons rfl (fun K hK => ?_) ?_
                              · go_simp
                                (refine (s_plays _ 1 1 _ _ [.int .u8 (z : Int)] _ ?_ rfl ?_ ?_ ?_ ?_ ?_ ?_ ?_).mono ?_); (exact Bytes.cons_ (by omega) (by omega) Bytes.nil_); (omega); (simp); (omega); (omega); (omega); (omega); (first | exact sl_lit _ _ _ | exact sl_lit' _ _ _ _ (by simp) | exact (sl_lit _ _ _).alloc _ | exact (sl_lit' _ _ _ _ (by simp)).alloc _); rintro e w10 ⟨rfl, k10⟩; (have B10 : Below ws.heap.size ws w10 := below_step2 (wal2 (below_drew B8) B8.size _ _) k10 (by have := B8.size; simp; omega))
                                dsimp only
                                refine hK.out _ _ trivial (fun _ => ?_)
                                clear hK K
                                (try simp only [Act.put, List.setIfInBounds_toArray, List.set_cons_zero, List.set_cons_succ])
                                refine wpAnyH_take (i := 36) (v := ?_) rfl (by kernel_rfl) (by kernel_rfl) (by kernel_rfl) (fun _ _ _ h => h) (Or.inl ⟨by kernel_rfl, ?_⟩) trivial ?_
                                rotate_left
                                · (intro w _; go_simp; try with_reducible rfl)
                                (try simp only [Act.put, List.setIfInBounds_toArray, List.set_cons_zero, List.set_cons_succ])
                                refine wpAnyH_take (i := 37) (v := ?_) rfl (by kernel_rfl) (by kernel_rfl) (by kernel_rfl) (fun _ _ _ h => h) (Or.inl ⟨by kernel_rfl, ?_⟩) trivial ?_
                                rotate_left
                                · (intro w _; go_simp; try with_reducible rfl)
                                (try simp only [Act.put, List.setIfInBounds_toArray, List.set_cons_zero, List.set_cons_succ])
                                refine wpAnyH_done (by kernel_rfl) ?_ _
                                refine NoPanic.normal ?_
                                go_wp2_with fail
                                go_roundw
                                case rel => exact ⟨j + 1, by omega, by go_num, B10⟩
                                case measure => simp [intOf]; omega
                              exact AllReadyH.nil
                            exact AllReadyH.nil
                          exact AllReadyH.nil
                        refine AllReadyH.cons rfl (fun K hK => ?_) ?_
                        · go_simp
                          refine hK.out _ _ trivial (fun _ => ?_)
                          clear hK K
                          (try simp only [Act.put, List.setIfInBounds_toArray, List.set_cons_zero, List.set_cons_succ])
                          refine wpAnyH_ready (rs := [31]) (by kernel_rfl) (by simp) ?_
                          refine AllReadyH.cons rfl (fun K hK => ?_) ?_
                          · go_simp
                            refine hK.out _ _ trivial (fun _ => ?_)
                            clear hK K
                            (try simp only [Act.put, List.setIfInBounds_toArray, List.set_cons_zero, List.set_cons_succ])
                            refine wpAnyH_ready (rs := [32]) (by kernel_rfl) (by simp) ?_
                            refine AllReadyH.cons rfl (fun K hK => ?_) ?_
                            · go_simp
                              refine (s_mask _ 2 2 [.int .u8 (x : Int), .int .u8 (y : Int)] _ ?_ rfl ?_ ?_).mono ?_; (exact Bytes.cons_ (by omega) (by omega) (Bytes.cons_ (by omega) (by omega) Bytes.nil_)); (simp); (first | exact sl_lit _ _ _ | exact sl_lit' _ _ _ _ (by simp) | exact (sl_lit _ _ _).alloc _ | exact (sl_lit' _ _ _ _ (by simp)).alloc _); rintro e w' ⟨mm, hmm, rfl, rfl⟩
                              dsimp only
                              refine hK.out _ _ trivial (fun _ => ?_)
                              clear hK K
                              (try simp only [Act.put, List.setIfInBounds_toArray, List.set_cons_zero, List.set_cons_succ])
                              refine wpAnyH_ready (rs := [35]) (by kernel_rfl) (by simp) ?_
                              refine AllReadyH.cons rfl (fun K hK => ?_) ?_
                              · go_simp
                                (refine (s_plays _ 1 1 _ _ [.int .u8 (z : Int)] _ ?_ rfl ?_ ?_ ?_ ?_ ?_ ?_ ?_).mono ?_); (exact Bytes.cons_ (by omega) (by omega) Bytes.nil_); (omega); (simp); (omega); (omega); (omega); (omega); (first | exact sl_lit _ _ _ | exact sl_lit' _ _ _ _ (by simp) | exact (sl_lit _ _ _).alloc _ | exact (sl_lit' _ _ _ _ (by simp)).alloc _); rintro e w10 ⟨rfl, k10⟩; (have B10 : Below ws.heap.size ws w10 := below_step2 (wal2 (below_drew B8) B8.size _ _) k10 (by have := B8.size; simp; omega))
                                dsimp only
                                refine hK.out _ _ trivial (fun _ => ?_)
                                clear hK K
                                (try simp only [Act.put, List.setIfInBounds_toArray, List.set_cons_zero, List.set_cons_succ])
                                refine wpAnyH_take (i := 36) (v := ?_) rfl (by kernel_rfl) (by kernel_rfl) (by kernel_rfl) (fun _ _ _ h => h) (Or.inl ⟨by kernel_rfl, ?_⟩) trivial ?_
                                rotate_left
                                · (intro w _; go_simp; try with_reducible rfl)
                                (try simp only [Act.put, List.setIfInBounds_toArray, List.set_cons_zero, List.set_cons_succ])
                                refine wpAnyH_take (i := 37) (v := ?_) rfl (by kernel_rfl) (by kernel_rfl) (by kernel_rfl) (fun _ _ _ h => h) (Or.inl ⟨by kernel_rfl, ?_⟩) trivial ?_
                                rotate_left
                                · (intro w _; go_simp; try with_reducible rfl)
                                (try simp only [Act.put, List.setIfInBounds_toArray, List.set_cons_zero, List.set_cons_succ])
                                refine wpAnyH_done (by kernel_rfl) ?_ _
                                refine NoPanic.normal ?_
                                go_wp2_with fail
                                go_roundw
                                case rel => exact ⟨j + 1, by omega, by go_num, B10⟩
                                case measure => simp [intOf]; omega
                              exact AllReadyH.nil
                            exact AllReadyH.nil
                          exact AllReadyH.nil
                        exact AllReadyH.nil
                    · obtain rfl : j = 12 := by omega
                      go_wp2_with fail
                      go_roundw
                      case rel => exact ⟨k + 1, by omega, by go_num, B8⟩
                      case measure => simp [intOf]; omega
                · obtain rfl : k = 12 := by omega
                  go_wp2_with fail
                  go_roundw
                  case rel => exact ⟨i + 1, by omega, by go_num, B7⟩
                  case measure => simp [intOf]; omega
            · obtain rfl : i = 12 := by omega
              rw [show ((12 : Nat) : Int) = 12 from rfl]
              go_wp2_with fail
              have B6 := below_step2 B5 B6 B5.size
              refine (s_plays _ 0 0 _ _ [] _ Bytes.nil_ rfl (by omega) (by simp) (by omega) (by omega) (by omega) (by omega) SlAt.nil_).mono ?_
              rintro e w1 ⟨rfl, k1⟩
              have B7 := below_step2 B6 k1 B6.size
              go_wp2_with fail
              refine (s_plays _ 0 0 _ _ [] _ Bytes.nil_ rfl (by omega) (by simp) (by omega) (by omega) (by omega) (by omega) SlAt.nil_).mono ?_
              rintro e w2 ⟨rfl, k2⟩
              have B8 := below_step2 B7 k2 B7.size
              go_wp2_with fail
              refine (s_plays _ 0 0 _ _ [] _ Bytes.nil_ rfl (by omega) (by simp) (by omega) (by omega) (by omega) (by omega) SlAt.nil_).mono ?_
              rintro e w3 ⟨rfl, k3⟩
              have B9 := below_step2 B8 k3 B8.size
              go_wp2_with fail
              refine (s_tells _ 0 0 _ _ _ [] _ Bytes.nil_ rfl (by omega) (by simp) (by omega) (by omega) (by omega) (by omega) (by omega) (by omega) SlAt.nil_).mono ?_
              rintro e w4 ⟨rfl, k4⟩
              have B10 := below_step2 B9 k4 B9.size
              have hmk := make5
              go_wp2_with fail
              refine (s_tells _ 5 5 _ _ _ [.int .u8 0, .int .u8 0, .int .u8 0, .int .u8 0, .int .u8 0] _ ⟨[0, 0, 0, 0, 0], rfl, by decide⟩ rfl (by omega) (by simp) (by omega) (by omega) (by omega) (by omega) (by omega) (by omega) (sl_lit _ _ _)).mono ?_
              rintro e w5 ⟨rfl, k5⟩
              have B11 := below_step2 (B10.alloc B10.size _) k5 (by have := B10.size; simp; omega)
              go_wp2_with fail
              refine (c_awake _).mono ?_
              rintro e w6 ⟨rfl, k6⟩
              have B12 := below_step2 B11 k6 B11.size
              go_wp2_with fail
              go_ret
              exact ⟨rfl, B12⟩
end Go.Proofs.Ytabejgcpihacpaa
