/- Bits of bytes and of 64 bits, as sums. -/
import Derived.WalkKit
import Derived.WalkSmall
import Derived.Test.YtckhbfbbpdjmdaaWireM
namespace Go.Proofs.Ytckhbfbbpdjmdaa
open Go Go.RowKit

theorem wraps_u64 (n : Int) (h₀ : 0 ≤ n) (h₁ : n < 2 ^ 64) : IntKind.u64.wrap n = n := by rw [IntKind.wrap_u64]; omega
theorem u8_and127 (c : Nat) (h : c < 256) : bits .and .u8 (c : Int) 127 = ((c % 128 : Nat) : Int) := by
  have := bits_mask .u8 8 (by decide) wraps_u8 7 (by decide) (c : Int) (by omega) (by omega)
  simpa using this
theorem u8_or128 (c : Nat) (h : c < 256) : bits .or .u8 (c : Int) 128 = ((c % 128 + 128 : Nat) : Int) := by
  have h1 := u8_or_nat c 128 h (by omega)
  rw [show ((128 : Nat) : Int) = 128 from rfl] at h1
  rw [h1]
  congr 1
  have hd : c = 128 * (c / 128) + c % 128 := by omega
  have hc2 : c / 128 = 0 ∨ c / 128 = 1 := by omega
  have e : (2 : Nat) ^ 7 = 128 := rfl
  have hlow : c % 128 ||| 128 = c % 128 + 128 := by
    have := Nat.two_pow_add_eq_or_of_lt (i := 7) (b := c % 128) (by omega) 1
    rw [Nat.or_comm]
    simp at this
    omega
  rcases hc2 with h0 | h0
  · have : c = c % 128 := by omega
    rw [← this] at hlow ⊢
    exact hlow
  · have h2 := Nat.two_pow_add_eq_or_of_lt (i := 7) (b := c % 128) (by omega) 1
    have h3 : c = 128 ||| c % 128 := by simp at h2; omega
    have h4 : c ||| 128 = c % 128 ||| 128 := by
      conv => lhs; rw [h3]
      rw [Nat.or_comm 128, Nat.or_assoc, Nat.or_self]
    rw [h4, hlow]

theorem u64_or_sum (q x k : Nat) (hq : q < 2 ^ k) (hx : q + x * 2 ^ k < 18446744073709551616) : bits .or .u64 (q : Int) ((x * 2 ^ k : Nat) : Int) = ((q + x * 2 ^ k : Nat) : Int) := by
  have h1 := bits_nat .u64 64 (by decide) wraps_u64 q (x * 2 ^ k) (by omega) (by omega)
  rw [h1.2]
  congr 1
  have := Nat.two_pow_add_eq_or_of_lt (i := k) (b := q) hq x
  rw [Nat.or_comm, Nat.mul_comm, ← this]
  omega

/-- GetNum's step. -/
theorem num_step (k q c : Nat) (hk : k ≤ 9) (hq : q < 2 ^ (7 * k)) (hc : c < 256) (h9 : k = 9 → c ≤ 1) :
    bits .or .u64 (q : Int) (IntKind.u64.wrap (IntKind.u64.wrap (bits .and .u8 (c : Int) 127) * 2 ^ (7 * k))) = ((q + c % 128 * 2 ^ (7 * k) : Nat) : Int) := by
  rw [u8_and127 c hc, IntKind.wrap_u64, IntKind.wrap_u64]
  have h1 : (((c % 128 : Nat) : Int) % 18446744073709551616) = ((c % 128 : Nat) : Int) := by omega
  rw [h1]
  have hb : q + c % 128 * 2 ^ (7 * k) < 18446744073709551616 := by
    by_cases h : k = 9
    · subst h
      have := h9 rfl
      have : c % 128 ≤ 1 := by omega
      simp at hq ⊢
      omega
    · have hp : (2 : Nat) ^ (7 * k) ≤ 2 ^ 56 := Nat.pow_le_pow_right (by omega) (by omega)
      have : c % 128 * 2 ^ (7 * k) ≤ 127 * 2 ^ 56 := Nat.mul_le_mul (by omega) hp
      omega
  have h2 : (((c % 128 : Nat) : Int) * 2 ^ (7 * k)) % 18446744073709551616 = ((c % 128 * 2 ^ (7 * k) : Nat) : Int) := by
    rw [show (((c % 128 : Nat) : Int) * 2 ^ (7 * k)) = ((c % 128 * 2 ^ (7 * k) : Nat) : Int) by push_cast; rfl]
    omega
  rw [h2]
  exact u64_or_sum q (c % 128) (7 * k) hq hb

theorem bits_not (n : Int) (h0 : 0 ≤ n) (h1 : n ≤ 9223372036854775807) : bits .xor .i64 (-1) n = -n - 1 := by
  obtain ⟨a, rfl⟩ := Int.eq_ofNat_of_zero_le h0
  have e : bits .xor .i64 (-1) (a : Int) = IntKind.i64.wrap ((BitVec.ofInt 64 (-1) ^^^ BitVec.ofInt 64 (a : Int)).toNat : Int) := rfl
  have e1 : (BitVec.ofInt 64 (-1)) = BitVec.allOnes 64 := by decide
  rw [e, e1, BitVec.ofInt_natCast, BitVec.allOnes_xor, BitVec.toNat_not, BitVec.toNat_ofNat, IntKind.wrap_i64]
  omega

theorem zag_odd (u : Nat) (hu : u < 18446744073709551616) (h : u % 2 = 1) : bits .xor .i64 (-1) (wrap64 ((u : Int) / 2)) = WM.zag u := by
  have e : wrap64 ((u : Int) / 2) = ((u / 2 : Nat) : Int) := by unfold wrap64; omega
  rw [e, bits_not _ (by omega) (by omega)]
  unfold WM.zag
  rw [if_pos h]

theorem zag_even (u : Nat) (hu : u < 18446744073709551616) (h : u % 2 ≠ 1) : wrap64 ((u : Int) / 2) = WM.zag u := by
  unfold wrap64 WM.zag
  rw [if_neg h]
  omega

theorem and1_odd (u : Nat) (hu : u < 18446744073709551616) (h : u % 2 = 1) : (bits BinOp.and IntKind.u64 (u : Int) 1 == 1) = true := by
  rw [and_one_u64 _ (by omega) (by omega)]
  simp; omega
theorem and1_even (u : Nat) (hu : u < 18446744073709551616) (h : u % 2 ≠ 1) : (bits BinOp.and IntKind.u64 (u : Int) 1 == 1) = false := by
  rw [and_one_u64 _ (by omega) (by omega)]
  simp; omega

theorem num_step_lt (k q c : Nat) (hk : k ≤ 9) (hq : q < 2 ^ (7 * k)) (hc : c < 256) (h9 : k = 9 → c ≤ 1) : q + c % 128 * 2 ^ (7 * k) < 18446744073709551616 := by
  by_cases h : k = 9
  · subst h
    have := h9 rfl
    have : c % 128 ≤ 1 := by omega
    simp at hq ⊢
    omega
  · have hp : (2 : Nat) ^ (7 * k) ≤ 2 ^ 56 := Nat.pow_le_pow_right (by omega) (by omega)
    have : c % 128 * 2 ^ (7 * k) ≤ 127 * 2 ^ 56 := Nat.mul_le_mul (by omega) hp
    omega
theorem num_step_next (k q c : Nat) (hq : q < 2 ^ (7 * k)) : q + c % 128 * 2 ^ (7 * k) < 2 ^ (7 * (k + 1)) := by
  have e7 : (2 : Nat) ^ (7 * (k + 1)) = 128 * 2 ^ (7 * k) := by rw [show 7 * (k + 1) = 7 + 7 * k by omega, Nat.pow_add]
  have : c % 128 * 2 ^ (7 * k) ≤ 127 * 2 ^ (7 * k) := Nat.mul_le_mul_right _ (by omega)
  omega
end Go.Proofs.Ytckhbfbbpdjmdaa
