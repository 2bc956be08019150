/- The walks of wire: Num, GetNum. -/
import Derived.Test.YtckhbfbbpdjmdaaChecked
import Derived.Test.YtckhbfbbpdjmdaaRep
import Derived.Test.YtckhbfbbpdjmdaaWireM
import Derived.Lib.Hide
import Derived.Test.YtckhbfbbpdjmdaaBits
import Derived.BigQuiet
import Derived.Deep.QuietTactic
namespace Go.Proofs.Ytckhbfbbpdjmdaa
open Go Go.RowKit

set_option maxRecDepth 100000 in
set_option maxHeartbeats 400000 in
theorem getNum_any (w : World) (S : Nat → Prop) (v : Value) (b : WM.Bytes) (h : (tSlice tByte).R S w [v] b) :
    Calls Try.prog 9 #[v] w fun e w' => e = .returned (.tuple #[.int .i64 (WM.getNum b).1, .int .i64 (WM.getNum b).2.1, .int .i64 (WM.getNum b).2.2]) ∧ w = w' := by
  obtain ⟨a, cap, hv, hle, hcm, hnil, hel⟩ := h
  obtain rfl := List.cons.inj hv |>.1
  clear hv
  have hlen : b.length ≤ 9223372036854775807 := by simp only [maxLen] at hcm; omega
  clear hcm hnil
  go_enter Try.func9, Try.ntmps9
  go_wp2
  go_loop [5, 11] (fun u i => ∃ k q : Nat, k ≤ b.length ∧ k ≤ 9 ∧ i = .int .i64 k ∧ u = .int .u64 q ∧ q < 2 ^ (7 * k) ∧ WM.getFrom k q (b.drop k) = WM.getNum b) (fun _ i => b.length - (intOf i).toNat)
  case atStart => exact ⟨0, 0, Nat.zero_le _, by omega, rfl, rfl, by simp, rfl⟩
  case round =>
    obtain ⟨k, q, hk, hk9, rfl, rfl, hq, hg⟩ := hrel
    by_cases hlt : k < b.length
    · obtain ⟨bb, off, rfl, hS, hc⟩ := hel (by intro h; simp [h] at hlt)
      obtain ⟨ec, hca, hec⟩ := hc k b[k] (List.getElem?_eq_getElem hlt)
      have hec' : ec = [.int .u8 (b[k].toNat : Int)] := hec
      subst hec'
      have hcell : w.cell? ⟨bb, off + k, none⟩ = some (.int .u8 (b[k].toNat : Int)) := by simpa [tByte] using hca.c0
      have hcd : b.drop k = b[k] :: b.drop (k + 1) := List.drop_eq_getElem_cons hlt
      generalize b[k] = c at *
      have hc256 := c.toNat_lt
      have hstep : WM.getFrom k q (c :: b.drop (k + 1)) = WM.getNum b := by rw [← hg, ← hcd]
      clear hca hec hel hc hg hcd
      obtain ⟨q', hq'⟩ : ∃ q' : Nat, q' = q + c.toNat % 128 * 2 ^ (7 * k) := ⟨_, rfl⟩
      simp only [WM.getFrom, ← hq'] at hstep
      by_cases hA : k = 9 ∧ 1 < c.toNat
      · obtain ⟨h9, h1⟩ := hA
        rw [if_pos (by omega)] at hstep
        have HS := Lib.hid hstep
        subst h9
        clear hstep hq' hq
        go_wp2
        all_goals
          go_ret3
          rw [← HS.out]
          exact ⟨rfl, rfl⟩
      have hlt' := num_step_lt k q c.toNat hk9 hq hc256 (by omega)
      have hnext := num_step_next k q c.toNat hq
      have hU := num_step k q c.toNat hk9 hq hc256 (by omega)
      rw [← hq'] at hU hlt' hnext
      rw [if_neg (by omega)] at hstep
      have HQ' := Lib.hid hq'
      have HQ := Lib.hid hq
      have HLT := Lib.hid hlt'
      have HN := Lib.hid hnext
      clear hq' hq hlt' hnext
      by_cases hB : 128 ≤ c.toNat
      · rw [if_pos hB] at hstep
        have HS := Lib.hid hstep
        have hk8 : k < 9 := by omega
        clear hstep hA
        go_wp2
        go_round
        case rel => exact ⟨k + 1, q', by omega, by omega, by go_num, rfl, HN.out, HS.out⟩
        case measure => simp [intOf]; omega
      rw [if_neg hB] at hstep
      by_cases hC : c.toNat = 0 ∧ 0 < k
      · obtain ⟨hC0, hk0⟩ := hC
        rw [if_pos ⟨hC0, hk0⟩] at hstep
        have HS := Lib.hid hstep
        clear hstep
        by_cases h9 : k = 9
        · subst h9
          simp only [Nat.reduceMul, Int.reducePow] at hU
          go_wp2
          go_ret3
          rw [← HS.out]
          exact ⟨rfl, rfl⟩
        · go_wp2
          go_ret3
          rw [← HS.out]
          exact ⟨rfl, rfl⟩
      rw [if_neg hC] at hstep
      have HS := Lib.hid hstep
      clear hstep
      by_cases hp : q' % 2 = 1
      · have hb1 := and1_odd q' HLT.out hp
        have HZ := Lib.hid (zag_odd q' HLT.out hp)
        clear hp
        by_cases h9 : k = 9
        · subst h9
          simp only [Nat.reduceMul, Int.reducePow] at hU
          go_wp2
          all_goals
            go_ret3
            rw [← HS.out, HZ.out]
            exact ⟨rfl, rfl⟩
        · go_wp2
          all_goals
            go_ret3
            rw [← HS.out, HZ.out]
            exact ⟨rfl, rfl⟩
      · have hb1 := and1_even q' HLT.out hp
        have HZ := Lib.hid (zag_even q' HLT.out hp)
        clear hp
        by_cases h9 : k = 9
        · subst h9
          simp only [Nat.reduceMul, Int.reducePow] at hU
          go_wp2
          all_goals
            go_ret3
            rw [← HS.out, HZ.out]
            exact ⟨rfl, rfl⟩
        · go_wp2
          all_goals
            go_ret3
            rw [← HS.out, HZ.out]
            exact ⟨rfl, rfl⟩
    · have hdrop : b.drop k = [] := List.drop_of_length_le (by omega)
      rw [hdrop] at hg
      have HG := Lib.hid hg
      clear hg hdrop hq hel
      go_wp2
      go_ret3
      rw [← HG.out]
      exact ⟨rfl, rfl⟩
end Go.Proofs.Ytckhbfbbpdjmdaa
