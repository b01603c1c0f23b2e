/- How many bits a mask has: the parallel sum of adjacent bits (bits.OnesCount64) counts them. -/
import Derived.Test.YtabejgcpihacpaaBits
namespace Go.Proofs.Ytabejgcpihacpaa
open Go.RowKit

/-- How many of the bits below k are set. -/
def cnt (m : Nat) : Nat → Nat
  | 0 => 0
  | k + 1 => cnt m k + (m.testBit k).toNat
theorem cnt_le (m : Nat) : ∀ k, cnt m k ≤ k
  | 0 => Nat.le_refl _
  | k + 1 => by
    have := cnt_le m k
    unfold cnt
    cases m.testBit k <;> simp <;> omega
theorem byte_testBit (b X j : Nat) (hb : b < 256) : (b + 256 * X).testBit j = if j < 8 then b.testBit j else X.testBit (j - 8) := by
  have := Nat.testBit_two_pow_mul_add X (b := b) (i := 8) (by omega) j
  rwa [show 2 ^ 8 * X + b = b + 256 * X from by omega] at this
theorem cnt_byte (b X : Nat) (hb : b < 256) : ∀ k, cnt (b + 256 * X) (8 + k) = cnt b 8 + cnt X k
  | 0 => by
    have h : ∀ j, j ≤ 8 → cnt (b + 256 * X) j = cnt b j := by
      intro j
      induction j with
      | zero => intro _; rfl
      | succ j ih =>
        intro hj
        unfold cnt
        rw [ih (by omega), byte_testBit b X j hb, if_pos (by omega)]
    show cnt (b + 256 * X) 8 = cnt b 8 + 0
    rw [h 8 (Nat.le_refl _), Nat.add_zero]
  | k + 1 => by
    show cnt (b + 256 * X) (8 + k) + ((b + 256 * X).testBit (8 + k)).toNat = cnt b 8 + (cnt X k + (X.testBit k).toNat)
    rw [cnt_byte b X hb k, byte_testBit b X _ hb, if_neg (by omega), show 8 + k - 8 = k from by omega]
    omega

/-- A number of bytes, the least first. -/
def D : List Nat → Nat
  | [] => 0
  | b :: bs => b + 256 * D bs
theorem and_byte (b X c M : Nat) (hb : b < 256) (hc : c < 256) : (b + 256 * X) &&& (c + 256 * M) = (b &&& c) + 256 * (X &&& M) := by
  refine Nat.eq_of_testBit_eq fun j => ?_
  rw [Nat.testBit_and, byte_testBit b X j hb, byte_testBit c M j hc, byte_testBit (b &&& c) (X &&& M) j (Nat.lt_of_le_of_lt Nat.and_le_left hb)]
  split <;> simp [Nat.testBit_and]
def rep (c : Nat) : Nat → Nat
  | 0 => 0
  | n + 1 => c + 256 * rep c n

theorem f55 : ∀ b < 256, ∀ t < 2, (b / 2 + 128 * t) &&& 85 = (b / 2) &&& 85 := by decide +kernel
theorem f33 : ∀ b < 256, ∀ t < 4, (b / 4 + 64 * t) &&& 51 = (b / 4) &&& 51 := by decide +kernel
def s1 (b : Nat) : Nat := ((b / 2) &&& 85) + (b &&& 85)
def s2 (b : Nat) : Nat := ((b / 4) &&& 51) + (b &&& 51)
def s3 (b : Nat) : Nat := (b / 16 + b) % 16
theorem s1_lt : ∀ b < 256, s1 b < 256 := by decide +kernel
theorem s2_ok : ∀ b < 256, s2 (s1 b) < 256 ∧ s2 (s1 b) / 16 ≤ 4 ∧ s2 (s1 b) % 16 ≤ 4 := by decide +kernel
theorem s3_cnt : ∀ b < 256, s3 (s2 (s1 b)) = cnt b 8 := by decide +kernel

def S1 (n X : Nat) : Nat := ((X / 2) &&& rep 85 n) + (X &&& rep 85 n)
def S2 (n X : Nat) : Nat := ((X / 4) &&& rep 51 n) + (X &&& rep 51 n)
def S3 (n X : Nat) : Nat := (X / 16 + X) &&& rep 15 n
theorem S1_D : ∀ bs : List Nat, (∀ b ∈ bs, b < 256) → S1 bs.length (D bs) = D (bs.map s1)
  | [], _ => by simp [S1, D, rep]
  | b :: bs, h => by
    have hb := h b (List.mem_cons_self ..)
    have ih := S1_D bs (fun x hx => h x (List.mem_cons_of_mem _ hx))
    have e : (b + 256 * D bs) / 2 = (b / 2 + 128 * (D bs % 2)) + 256 * (D bs / 2) := by omega
    show (((b + 256 * D bs) / 2) &&& (85 + 256 * rep 85 bs.length)) + ((b + 256 * D bs) &&& (85 + 256 * rep 85 bs.length)) = s1 b + 256 * D (bs.map s1)
    rw [e, and_byte _ _ _ _ (by omega) (by omega), and_byte _ _ _ _ hb (by omega), f55 b hb _ (by omega), ← ih]
    unfold S1 s1
    omega
theorem S2_D : ∀ bs : List Nat, (∀ b ∈ bs, b < 256) → S2 bs.length (D bs) = D (bs.map s2)
  | [], _ => by simp [S2, D, rep]
  | b :: bs, h => by
    have hb := h b (List.mem_cons_self ..)
    have ih := S2_D bs (fun x hx => h x (List.mem_cons_of_mem _ hx))
    have e : (b + 256 * D bs) / 4 = (b / 4 + 64 * (D bs % 4)) + 256 * (D bs / 4) := by omega
    show (((b + 256 * D bs) / 4) &&& (51 + 256 * rep 51 bs.length)) + ((b + 256 * D bs) &&& (51 + 256 * rep 51 bs.length)) = s2 b + 256 * D (bs.map s2)
    rw [e, and_byte _ _ _ _ (by omega) (by omega), and_byte _ _ _ _ hb (by omega), f33 b hb _ (by omega), ← ih]
    unfold S2 s2
    omega
theorem D_mod16 (bs : List Nat) (h : ∀ b ∈ bs, b % 16 ≤ 4) : D bs % 16 ≤ 4 := by
  cases bs with
  | nil => simp [D]
  | cons b bs =>
    have := h b (List.mem_cons_self ..)
    show (b + 256 * D bs) % 16 ≤ 4
    omega
theorem S3_D : ∀ bs : List Nat, (∀ b ∈ bs, b < 256 ∧ b / 16 ≤ 4 ∧ b % 16 ≤ 4) → S3 bs.length (D bs) = D (bs.map s3)
  | [], _ => by simp [S3, D, rep]
  | b :: bs, h => by
    have hb := h b (List.mem_cons_self ..)
    have ih := S3_D bs (fun x hx => h x (List.mem_cons_of_mem _ hx))
    have h16 := D_mod16 bs (fun x hx => (h x (List.mem_cons_of_mem _ hx)).2.2)
    have e : (b + 256 * D bs) / 16 + (b + 256 * D bs) = (b / 16 + 16 * (D bs % 16) + b) + 256 * (D bs / 16 + D bs) := by omega
    show ((b + 256 * D bs) / 16 + (b + 256 * D bs)) &&& (15 + 256 * rep 15 bs.length) = s3 b + 256 * D (bs.map s3)
    rw [e, and_byte _ _ _ _ (by omega) (by omega), nat_mask4, ← ih]
    unfold S3 s3
    omega
theorem S1_lt (bs : List Nat) (h : ∀ b ∈ bs, b < 256) : D bs < 256 ^ bs.length := by
  induction bs with
  | nil => simp [D]
  | cons b bs ih =>
    have hb := h b (List.mem_cons_self ..)
    have := ih (fun x hx => h x (List.mem_cons_of_mem _ hx))
    show b + 256 * D bs < 256 ^ (bs.length + 1)
    rw [Nat.pow_succ]
    omega
theorem cnt_D : ∀ bs : List Nat, (∀ b ∈ bs, b < 256) → cnt (D bs) (8 * bs.length) = (bs.map fun b => cnt b 8).sum
  | [], _ => rfl
  | b :: bs, h => by
    have hb := h b (List.mem_cons_self ..)
    have ih := cnt_D bs (fun x hx => h x (List.mem_cons_of_mem _ hx))
    show cnt (b + 256 * D bs) (8 * (bs.length + 1)) = _
    rw [show 8 * (bs.length + 1) = 8 + 8 * bs.length from by omega, cnt_byte b _ hb, ih]
    rfl
theorem quot_of {a b c r : Nat} (hc : 0 < c) (h : a = r + c * b) (hr : r < c) : a / c = b := by
  rw [h, Nat.add_mul_div_left _ _ hc, Nat.div_eq_of_lt hr, Nat.zero_add]
theorem id0 (p0 p1 p2 p3 p4 p5 p6 p7 : Nat) : p0 + 256 * (p1 + 256 * (p2 + 256 * (p3 + 256 * (p4 + 256 * (p5 + 256 * (p6 + 256 * (p7))))))) = p0 + 256 * p1 + 65536 * p2 + 16777216 * p3 + 4294967296 * p4 + 1099511627776 * p5 + 281474976710656 * p6 + 72057594037927936 * p7 := by omega
theorem id1 (p0 p1 p2 p3 p4 p5 p6 p7 : Nat) : p0 + 256 * p1 + 65536 * p2 + 16777216 * p3 + 4294967296 * p4 + 1099511627776 * p5 + 281474976710656 * p6 + 72057594037927936 * p7 = (p0) + 256 * (p1 + 256 * p2 + 65536 * p3 + 16777216 * p4 + 4294967296 * p5 + 1099511627776 * p6 + 281474976710656 * p7) := by omega
theorem id2 (p0 p1 p2 p3 p4 p5 p6 p7 : Nat) : (p0 + 256 * p1 + 65536 * p2 + 16777216 * p3 + 4294967296 * p4 + 1099511627776 * p5 + 281474976710656 * p6 + 72057594037927936 * p7) + (p1 + 256 * p2 + 65536 * p3 + 16777216 * p4 + 4294967296 * p5 + 1099511627776 * p6 + 281474976710656 * p7) = (p0 + 257 * p1 + 256 * p2) + 65536 * (p2 + 257 * p3 + 65792 * p4 + 16842752 * p5 + 4311744512 * p6 + 1103806595072 * p7) := by omega
theorem id3 (p0 p1 p2 p3 p4 p5 p6 p7 : Nat) : (p0 + 256 * p1 + 65536 * p2 + 16777216 * p3 + 4294967296 * p4 + 1099511627776 * p5 + 281474976710656 * p6 + 72057594037927936 * p7) + (p1 + 256 * p2 + 65536 * p3 + 16777216 * p4 + 4294967296 * p5 + 1099511627776 * p6 + 281474976710656 * p7) + (p2 + 257 * p3 + 65792 * p4 + 16842752 * p5 + 4311744512 * p6 + 1103806595072 * p7) = (p0 + 257 * p1 + 65793 * p2 + 16843009 * p3 + 16843008 * p4 + 16842752 * p5 + 16777216 * p6) + 4294967296 * (p4 + 257 * p5 + 65793 * p6 + 16843009 * p7) := by omega
theorem id4 (p0 p1 p2 p3 p4 p5 p6 p7 : Nat) : (p0 + 256 * p1 + 65536 * p2 + 16777216 * p3 + 4294967296 * p4 + 1099511627776 * p5 + 281474976710656 * p6 + 72057594037927936 * p7) + (p1 + 256 * p2 + 65536 * p3 + 16777216 * p4 + 4294967296 * p5 + 1099511627776 * p6 + 281474976710656 * p7) + (p2 + 257 * p3 + 65792 * p4 + 16842752 * p5 + 4311744512 * p6 + 1103806595072 * p7) + (p4 + 257 * p5 + 65793 * p6 + 16843009 * p7) = (p0 + p1 + p2 + p3 + p4 + p5 + p6 + p7) + 128 * (2 * p1 + 514 * p2 + 131586 * p3 + 33686018 * p4 + 8623620610 * p5 + 2207646876162 * p6 + 565157600297474 * p7) := by omega
theorem sum8 (p0 p1 p2 p3 p4 p5 p6 p7 : Nat) (h0 : p0 ≤ 8) (h1 : p1 ≤ 8) (h2 : p2 ≤ 8) (h3 : p3 ≤ 8) (h4 : p4 ≤ 8) (h5 : p5 ≤ 8) (h6 : p6 ≤ 8) (h7 : p7 ≤ 8) (y y1 y2 y3 : Nat) (hy : y = p0 + 256 * (p1 + 256 * (p2 + 256 * (p3 + 256 * (p4 + 256 * (p5 + 256 * (p6 + 256 * (p7))))))))
    (e1 : y1 = y + y / 256) (e2 : y2 = y1 + y1 / 65536) (e3 : y3 = y2 + y2 / 4294967296) :
    y3 < 2 ^ 63 ∧ y2 < 2 ^ 63 ∧ y1 < 2 ^ 63 ∧ y < 2 ^ 63 ∧ y3 % 128 = p0 + p1 + p2 + p3 + p4 + p5 + p6 + p7 := by
  have l1 : p0 < 256 := by clear hy e1 e2 e3; omega
  have l2 : p0 + 257 * p1 + 256 * p2 < 65536 := by clear hy e1 e2 e3; omega
  have l3 : p0 + 257 * p1 + 65793 * p2 + 16843009 * p3 + 16843008 * p4 + 16842752 * p5 + 16777216 * p6 < 4294967296 := by clear hy e1 e2 e3; omega
  have l4 : p0 + p1 + p2 + p3 + p4 + p5 + p6 + p7 < 128 := by clear hy e1 e2 e3; omega
  have k0 : p0 + 256 * p1 + 65536 * p2 + 16777216 * p3 + 4294967296 * p4 + 1099511627776 * p5 + 281474976710656 * p6 + 72057594037927936 * p7 ≤ 578721382704613384 := by clear hy e1 e2 e3; omega
  clear h0 h1 h2 h3 h4 h5 h6 h7
  have i1 := id1 p0 p1 p2 p3 p4 p5 p6 p7
  have i2 := id2 p0 p1 p2 p3 p4 p5 p6 p7
  have i3 := id3 p0 p1 p2 p3 p4 p5 p6 p7
  have i4 := id4 p0 p1 p2 p3 p4 p5 p6 p7
  have hy' := hy.trans (id0 p0 p1 p2 p3 p4 p5 p6 p7)
  have a1 := quot_of (by decide) (hy'.trans i1) l1
  have b1 := e1.trans (congr (congrArg HAdd.hAdd hy') a1)
  have a2 := quot_of (by decide) (b1.trans i2) l2
  have b2 := e2.trans (congr (congrArg HAdd.hAdd b1) a2)
  have a3 := quot_of (by decide) (b2.trans i3) l3
  have b3 := (e3.trans (congr (congrArg HAdd.hAdd b2) a3)).trans i4
  have m4 : y3 % 128 = p0 + p1 + p2 + p3 + p4 + p5 + p6 + p7 := by
    rw [b3, Nat.add_mul_mod_self_left]
    exact Nat.mod_eq_of_lt l4
  have k0' : y ≤ 578721382704613384 := Nat.le_trans (Nat.le_of_eq hy') k0
  clear k0 i1 i2 i3 i4 l1 l2 l3 l4 hy hy' a1 a2 a3 b1 b2 b3
  refine ⟨?_, ?_, ?_, ?_, m4⟩
  all_goals omega
/-- What OnesCount64 reckons. -/
def pop64 (x : Nat) : Nat :=
  let a := S3 8 (S2 8 (S1 8 x))
  let b := a + a / 256
  let c := b + b / 65536
  (c + c / 4294967296) % 128
theorem byte_list (x : Nat) (h : x < 2 ^ 64) : ∃ b0 b1 b2 b3 b4 b5 b6 b7 : Nat, b0 < 256 ∧ b1 < 256 ∧ b2 < 256 ∧ b3 < 256 ∧ b4 < 256 ∧ b5 < 256 ∧ b6 < 256 ∧ b7 < 256 ∧ x = D [b0, b1, b2, b3, b4, b5, b6, b7] := by
  refine ⟨x % 256, x / 256 % 256, x / 65536 % 256, x / 16777216 % 256, x / 4294967296 % 256, x / 1099511627776 % 256, x / 281474976710656 % 256, x / 72057594037927936 % 256, by omega, by omega, by omega, by omega, by omega, by omega, by omega, by omega, ?_⟩
  show x = x % 256 + 256 * (x / 256 % 256 + 256 * (x / 65536 % 256 + 256 * (x / 16777216 % 256 + 256 * (x / 4294967296 % 256 + 256 * (x / 1099511627776 % 256 + 256 * (x / 281474976710656 % 256 + 256 * (x / 72057594037927936 % 256 + 256 * 0)))))))
  omega
theorem pop64_facts (x : Nat) (h : x < 2 ^ 64) : ∃ a b c d : Nat, S1 8 x < 2 ^ 64 ∧ S2 8 (S1 8 x) < 2 ^ 63 ∧ a = S3 8 (S2 8 (S1 8 x)) ∧ b = a + a / 256 ∧ c = b + b / 65536 ∧ d = c + c / 4294967296 ∧ a < 2 ^ 63 ∧ b < 2 ^ 63 ∧ c < 2 ^ 63 ∧ d < 2 ^ 63 ∧ d % 128 = cnt x 64 := by
  obtain ⟨b0, b1, b2, b3, b4, b5, b6, b7, h0, h1, h2, h3, h4, h5, h6, h7, rfl⟩ := byte_list x h
  have hall : ∀ b ∈ [b0, b1, b2, b3, b4, b5, b6, b7], b < 256 := by simp; omega
  have e1 := S1_D [b0, b1, b2, b3, b4, b5, b6, b7] hall
  have l1 : ∀ b ∈ ([b0, b1, b2, b3, b4, b5, b6, b7].map s1), b < 256 := by
    intro b hb
    obtain ⟨a, ha, rfl⟩ := List.mem_map.1 hb
    exact s1_lt a (hall a ha)
  have e2 := S2_D _ l1
  have l2 : ∀ b ∈ (([b0, b1, b2, b3, b4, b5, b6, b7].map s1).map s2), b < 256 ∧ b / 16 ≤ 4 ∧ b % 16 ≤ 4 := by
    intro b hb
    obtain ⟨a, ha, rfl⟩ := List.mem_map.1 hb
    obtain ⟨a', ha', rfl⟩ := List.mem_map.1 ha
    exact s2_ok a' (hall a' ha')
  have e3 := S3_D _ l2
  have ec := cnt_D _ hall
  have t1 := S1_lt _ l1
  have t2 : D (([b0, b1, b2, b3, b4, b5, b6, b7].map s1).map s2) < 2 ^ 63 := by
    have g7 := (l2 (s2 (s1 b7)) (by simp)).2.1
    have g6 := (l2 (s2 (s1 b6)) (by simp)).1
    have tl := S1_lt ((([b0, b1, b2, b3, b4, b5, b6].map s1).map s2)) (fun b hb => (l2 b (by
      simp only [List.map_cons, List.map_nil, List.mem_cons, List.not_mem_nil, or_false] at hb ⊢
      rcases hb with h | h | h | h | h | h | h <;> simp [h])).1)
    have e : D (([b0, b1, b2, b3, b4, b5, b6, b7].map s1).map s2) = D (([b0, b1, b2, b3, b4, b5, b6].map s1).map s2) + 256 ^ 7 * s2 (s1 b7) := by
      simp only [List.map_cons, List.map_nil, D]
      generalize s2 (s1 b7) = z
      omega
    rw [e]
    simp only [List.length_map, List.length_cons, List.length_nil] at tl
    generalize D (([b0, b1, b2, b3, b4, b5, b6].map s1).map s2) = z at *
    generalize s2 (s1 b7) = u at *
    omega
  simp only [List.length_cons, List.length_nil, List.length_map] at e1 e2 e3 ec t1
  change S1 8 _ = _ at e1
  rw [e1]
  change S2 8 _ = _ at e2
  rw [e2]
  change S3 8 _ = _ at e3
  rw [e3]
  have c := fun b hb => s3_cnt b (hall b hb)
  have q := fun b => cnt_le b 8
  simp only [List.map_cons, List.map_nil, List.sum_cons, List.sum_nil] at ec ⊢
  rw [s3_cnt b0 h0, s3_cnt b1 h1, s3_cnt b2 h2, s3_cnt b3 h3, s3_cnt b4 h4, s3_cnt b5 h5, s3_cnt b6 h6, s3_cnt b7 h7]
  obtain ⟨z1, z2, z3, z4, z5⟩ := sum8 _ _ _ _ _ _ _ _ (q b0) (q b1) (q b2) (q b3) (q b4) (q b5) (q b6) (q b7) _ _ _ _ rfl rfl rfl rfl
  refine ⟨_, _, _, _, by simpa using t1, by simpa using t2, rfl, rfl, rfl, rfl, ?_, ?_, ?_, ?_, ?_⟩
  all_goals simp only [D, Nat.mul_zero, Nat.add_zero]
  · exact z4
  · exact z3
  · exact z2
  · exact z1
  · rw [z5]
    change cnt _ 64 = _ at ec
    simp only [D, Nat.mul_zero, Nat.add_zero] at ec
    rw [ec]
    omega
end Go.Proofs.Ytabejgcpihacpaa
