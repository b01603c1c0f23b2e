/- Contract of math/bits.OnesCount64. -/
import Derived.Test.YtabejgcpihacpaaPop
namespace Go.Proofs.Ytabejgcpihacpaa
open Go.RowKit

theorem rep85 : rep 85 8 = 6148914691236517205 := by decide
theorem rep51 : rep 51 8 = 3689348814741910323 := by decide
theorem rep15 : rep 15 8 = 1085102592571150095 := by decide
theorem wS1 (x : Nat) (h : x < 2 ^ 64) (h1 : S1 8 x < 2 ^ 64) : IntKind.u64.wrap (bits BinOp.and IntKind.u64 ((x : Int) / 2) 6148914691236517205 + bits BinOp.and IntKind.u64 (x : Int) 6148914691236517205) = ((S1 8 x : Nat) : Int) := by
  rw [show ((x : Int) / 2) = ((x / 2 : Nat) : Int) from by omega, show (6148914691236517205 : Int) = ((6148914691236517205 : Nat) : Int) from rfl,
    u64_and_nat _ _ (by omega) (by omega), u64_and_nat _ _ (by omega) (by omega), IntKind.wrap_u64]
  unfold S1 at h1 ⊢
  rw [rep85] at h1 ⊢
  generalize (x / 2 &&& 6148914691236517205) = a at *
  generalize (x &&& 6148914691236517205) = b at *
  omega
theorem wS2 (x : Nat) (h : x < 2 ^ 64) (h1 : S2 8 x < 2 ^ 63) : IntKind.u64.wrap (bits BinOp.and IntKind.u64 ((x : Int) / 4) 3689348814741910323 + bits BinOp.and IntKind.u64 (x : Int) 3689348814741910323) = ((S2 8 x : Nat) : Int) := by
  rw [show ((x : Int) / 4) = ((x / 4 : Nat) : Int) from by omega, show (3689348814741910323 : Int) = ((3689348814741910323 : Nat) : Int) from rfl,
    u64_and_nat _ _ (by omega) (by omega), u64_and_nat _ _ (by omega) (by omega), IntKind.wrap_u64]
  unfold S2 at h1 ⊢
  rw [rep51] at h1 ⊢
  generalize (x / 4 &&& 3689348814741910323) = a at *
  generalize (x &&& 3689348814741910323) = b at *
  omega
theorem wS3 (x : Nat) (h : x < 2 ^ 63) : bits BinOp.and IntKind.u64 (IntKind.u64.wrap ((x : Int) / 16 + (x : Int))) 1085102592571150095 = ((S3 8 x : Nat) : Int) := by
  rw [show IntKind.u64.wrap ((x : Int) / 16 + (x : Int)) = ((x / 16 + x : Nat) : Int) from by rw [IntKind.wrap_u64]; omega, show (1085102592571150095 : Int) = ((1085102592571150095 : Nat) : Int) from rfl,
    u64_and_nat _ _ (by omega) (by omega)]
  unfold S3
  rw [rep15]
theorem wB (k : Nat) (a b : Nat) (h : b = a + a / k) (hb : b < 2 ^ 63) : IntKind.u64.wrap ((a : Int) + (a : Int) / (k : Int)) = (b : Int) := by
  rw [h, IntKind.wrap_u64, ← Int.natCast_ediv, ← Int.natCast_add, ← h]
  omega
theorem wI (d : Nat) (hd : d < 2 ^ 63) : bits BinOp.and IntKind.i64 (wrap64 (d : Int)) 127 = ((d % 128 : Nat) : Int) := by
  have e : wrap64 (d : Int) = (d : Int) := by unfold wrap64; omega
  rw [e]
  show IntKind.i64.wrap ((BitVec.ofInt 64 (d : Int) &&& BitVec.ofInt 64 (127 : Int)).toNat : Int) = _
  rw [BitVec.toNat_and, ofInt_u64 d (by omega), show (127 : Int) = ((127 : Nat) : Int) from rfl, ofInt_u64 127 (by omega), nat_mask7, IntKind.wrap_i64]
  omega

set_option maxHeartbeats 400000 in
theorem c_OnesCount64 (x : Nat) (hx : x < 2 ^ 64) (w : World) :
    Calls Try.prog 29 #[.int .u64 x] w (Same (.int .i64 (cnt x 64 : Nat)) w) := by
  obtain ⟨a, b, c, d, f1, f2, ha, hb, hc, hd, la, lb, lc, ld, hcnt⟩ := pop64_facts x hx
  have W1 := wS1 x hx f1
  have W2 := wS2 _ f1 f2
  have W3 := wS3 _ f2
  rw [← ha] at W3
  have W4 := wB 256 a b hb lb
  have W5 := wB 65536 b c hc lc
  have W6 := wB 4294967296 c d hd ld
  have W7 := wI d ld
  rw [hcnt] at W7
  have H : Hid _ := And.intro W1 (And.intro W2 (And.intro W3 (And.intro W4 (And.intro W5 (And.intro W6 W7)))))
  clear W1 W2 W3 W4 W5 W6 W7 ha hb hc hd hcnt f1 f2 la lb lc ld hx
  go_enter Try.func29, Try.ntmps29
  go_wp2_with fail
  go_ret
  refine ⟨ret_int ?_, rfl⟩
  obtain ⟨W1, W2, W3, W4, W5, W6, W7⟩ := H.out
  rw [W1, W2, W3]
  rw [show (256 : Int) = ((256 : Nat) : Int) from rfl, W4, show (65536 : Int) = ((65536 : Nat) : Int) from rfl, W5, show (4294967296 : Int) = ((4294967296 : Nat) : Int) from rfl, W6, W7]
end Go.Proofs.Ytabejgcpihacpaa
