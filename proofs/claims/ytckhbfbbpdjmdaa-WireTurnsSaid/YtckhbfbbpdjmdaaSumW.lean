/- The walk of wire.Sum. -/
import Derived.Test.YtckhbfbbpdjmdaaWire2W
namespace Go.Proofs.Ytckhbfbbpdjmdaa
open Go Go.RowKit

set_option maxRecDepth 100000 in
set_option maxHeartbeats 400000 in
theorem rot_any (w : World) (x : Nat) (hx : x < 4294967296) :
    Calls Try.prog 56 #[.int .u32 x, .int .i64 5] w fun e w' => e = .returned (.int .u32 (WM.rot5 x : Nat)) ∧ w = w' := by
  have h5 : bits BinOp.and IntKind.u64 5 31 = 5 := by decide
  go_enter Try.func56, Try.ntmps56
  have hor : bits BinOp.or IntKind.u32 ((x : Int) * 32 % 4294967296) ((x : Int) / 134217728) = ((WM.rot5 x : Nat) : Int) := by
    have := u32_or_nat (x * 32 % 4294967296) (x / 134217728) (by omega) (by omega)
    rw [show ((x : Int) * 32 % 4294967296) = ((x * 32 % 4294967296 : Nat) : Int) by omega, show ((x : Int) / 134217728) = ((x / 134217728 : Nat) : Int) by omega, this]
    rfl
  go_wp2
  go_ret
  exact ⟨rfl, rfl⟩

theorem sum_bound (b : WM.Bytes) (s : Nat) (hs : s < 4294967296) : b.foldl WM.sumStep s < 4294967296 := by
  induction b generalizing s with
  | nil => exact hs
  | cons c r ih => exact ih _ (by unfold WM.sumStep; omega)

set_option maxRecDepth 100000 in
set_option maxHeartbeats 400000 in
theorem sum_any (w : World) (S : Nat → Prop) (v : Value) (b : WM.Bytes) (h : (tSlice tByte).R S w [v] b) :
    Calls Try.prog 23 #[v] w fun e w' => e = .returned (.int .i64 (WM.sum b : Nat)) ∧ w = w' := by
  obtain ⟨a, cap, hv, hle, hcm, hnil, hel⟩ := id h
  obtain rfl := List.cons.inj hv |>.1
  have hlen : b.length ≤ 9223372036854775807 := by simp only [maxLen] at hcm; omega
  have H := Lib.hid h
  clear hcm hnil hel hv h
  go_enter Try.func23, Try.ntmps23
  go_wp2
  go_loop [3, 8] (fun s i => ∃ k q : Nat, k ≤ b.length ∧ i = .int .i64 k ∧ s = .int .u32 q ∧ q < 4294967296 ∧ (b.drop k).foldl WM.sumStep q = WM.sum b) (fun _ i => b.length - (intOf i).toNat)
  case atStart => exact ⟨0, 2166136261, Nat.zero_le _, rfl, rfl, by omega, rfl⟩
  case round =>
    obtain ⟨k, q, hk, rfl, rfl, hq, hf⟩ := hrel
    by_cases hlt : k < b.length
    · obtain ⟨bb, off, cap', hv, _, _, _, hc⟩ := byte_cells H.out (by intro h; simp [h] at hlt)
      simp only [Value.slice.injEq] at hv
      obtain ⟨rfl, _, rfl⟩ := hv
      have hcell := hc k b[k] (List.getElem?_eq_getElem hlt)
      have hcd : b.drop k = b[k] :: b.drop (k + 1) := List.drop_eq_getElem_cons hlt
      rw [hcd] at hf
      clear hcd hc H
      generalize b[k] = c at *
      have hx := u32_xor_nat q c.toNat hq (by have := c.toNat_lt; omega)
      have hlx : q ^^^ c.toNat < 4294967296 := Nat.xor_lt_two_pow (n := 32) hq (by have := c.toNat_lt; omega)
      simp only [List.foldl_cons, WM.sumStep] at hf
      generalize q ^^^ c.toNat = x at *
      have HF := Lib.hid hf
      have HL := Lib.hid hlx
      have hc256 := c.toNat_lt
      clear hf hlx hq
      go_wp2_with fail
      refine (rot_any _ x HL.out).mono ?_
      rintro e w1 ⟨rfl, rfl⟩
      go_wp2
      go_round
      case rel => exact ⟨k + 1, WM.rot5 x * 16777619 % 4294967296, by omega, by go_num, congrArg (Value.int .u32) (by omega), by omega, HF.out⟩
      case measure => simp [intOf]; omega
    · have hdrop : b.drop k = [] := List.drop_of_length_le (by omega)
      rw [hdrop] at hf
      have HF := Lib.hid hf
      clear hf hdrop H
      have hq2 : (q : Int) = (WM.sum b : Nat) := by rw [← HF.out]; rfl
      have HQ := Lib.hid hq2
      clear hq2
      go_wp2
      go_ret
      rw [HQ.out]
      exact ⟨rfl, rfl⟩
end Go.Proofs.Ytckhbfbbpdjmdaa
