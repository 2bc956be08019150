/- The walk of wire.Num. -/
import Derived.Test.YtckhbfbbpdjmdaaChecked
import Derived.Test.YtckhbfbbpdjmdaaRep
import Derived.Test.YtckhbfbbpdjmdaaOwn
import Derived.Test.YtckhbfbbpdjmdaaBits
import Derived.Lib.Hide
namespace Go.Proofs.Ytckhbfbbpdjmdaa
open Go Go.RowKit

def u8s (l : WM.Bytes) : List Value := l.map fun c => Value.int .u8 (c.toNat : Int)
theorem u8s_len (l : WM.Bytes) : (u8s l).length = l.length := by simp [u8s]

theorem Try.infoU8 : (Try.prog.info? 5).map (fun i => (i.zero, i.size, i.bytes)) = some (some (.int .u8 0), 1, 1) := by kernel_rfl

/-- What Num leaves. -/
def NumPost (v : Value) (w : World) (ys : WM.Bytes) (e : Ending) (w' : World) : Prop :=
  ∃ v', e = .returned v' ∧ w'.ownsRow 0 5 1 v' ys.length (u8s ys) ∧ Ext v w v' w' ∧ v' ≠ .slice none 0 0


def NumRel (v : Value) (w : World) (xs : WM.Bytes) (n : Int) (vv u : Value) (wr : World) : Prop :=
  ∃ (f q : Nat) (ys : WM.Bytes), u = .int .u64 q ∧ q < 2 ^ (1 + 7 * f) ∧ ys ++ WM.enc f q = WM.num n ∧ ys.length + f = 9 ∧
    wr.ownsRow 0 5 1 vv (xs ++ ys).length (u8s (xs ++ ys)) ∧ Ext v w vv wr

theorem zig_neg (n : Int) (h0 : -9223372036854775808 ≤ n) (h : n < 0) :
    bits .xor .u64 IntKind.u64.max (IntKind.u64.wrap (IntKind.u64.wrap n * 2)) = ((WM.zig n : Nat) : Int) := by
  have e0 : IntKind.u64.wrap (IntKind.u64.wrap n * 2) = ((2 * n + 18446744073709551616).toNat : Int) := by
    rw [IntKind.wrap_u64, IntKind.wrap_u64]; omega
  rw [e0]
  have hlt : (2 * n + 18446744073709551616).toNat < 18446744073709551616 := by omega
  have hz : WM.zig n = 18446744073709551616 - 1 - (2 * n + 18446744073709551616).toNat := by unfold WM.zig; rw [if_pos h]; omega
  rw [hz]
  generalize (2 * n + 18446744073709551616).toNat = m at *
  have e1 : bits .xor .u64 IntKind.u64.max (m : Int) = IntKind.u64.wrap ((BitVec.ofInt 64 IntKind.u64.max ^^^ BitVec.ofInt 64 (m : Int)).toNat : Int) := rfl
  have e2 : (BitVec.ofInt 64 IntKind.u64.max) = BitVec.allOnes 64 := by decide
  rw [e1, e2, BitVec.ofInt_natCast, BitVec.allOnes_xor, BitVec.toNat_not, BitVec.toNat_ofNat, IntKind.wrap_u64]
  omega

theorem zig_pos (n : Int) (h : ¬ n < 0) : n * 2 = ((WM.zig n : Nat) : Int) := by
  unfold WM.zig; rw [if_neg h]; omega

set_option maxRecDepth 100000 in
set_option maxHeartbeats 400000 in
theorem num_any (w : World) (v : Value) (xs : WM.Bytes) (n : Int) (hown : w.ownsRow 0 5 1 v xs.length (u8s xs)) (hx : xs.length ≤ 1099511627776) (hn : I64 n) :
    Calls Try.prog 8 #[v, .int .i64 n] w (NumPost v w (xs ++ WM.num n)) := by
  obtain ⟨i0, hi, hz0, hz1, hz2⟩ := info_parts Try.infoU8
  obtain ⟨hn0, hn1⟩ := hn
  have hzl := WM.zig_lt n hn0 hn1
  have start : ∀ u, u = ((WM.zig n : Nat) : Int) → NumRel v w xs n v (.int .u64 u) w := fun u hu =>
    ⟨9, WM.zig n, [], by rw [hu], hzl, rfl, rfl, by simpa using hown, Ext.refl v w⟩
  have hzn := zig_neg n hn0
  have hzp := zig_pos n
  have HZN := Lib.hid hzn
  have HZP := Lib.hid hzp
  have HS := Lib.hid start
  clear hzl hzn hzp start hown
  by_cases hneg : n < 0
  all_goals
    go_enter Try.func8, Try.ntmps8
    go_wp2
    go_loopw [0, 5] (fun vv u wr => NumRel v w xs n vv u wr) (fun _ u _ => (intOf u).toNat)
    case atStart => first | exact HS.out _ (HZN.out hneg) | exact HS.out _ (HZP.out hneg)
    case round =>
      obtain ⟨f, q, ys, rfl, hq, henc, hf, hown, hext⟩ := hrel
      have hyl : ys.length ≤ 9 := by omega
      have HQ := Lib.hid hq
      have HE := Lib.hid henc
      have HF := Lib.hid hf
      have hcap : (xs ++ ys).length ≤ 1099511627785 := by simp; omega
      clear hq henc hf
      by_cases hge : 128 ≤ q
      · obtain ⟨c, hc⟩ : ∃ c : UInt8, c = UInt8.ofNat (q % 128 + 128) := ⟨_, rfl⟩
        have hor : bits BinOp.or IntKind.u8 ((q : Int) % 256) 128 = ((c.toNat : Nat) : Int) := by
          rw [hc, show ((q : Int) % 256) = ((q % 256 : Nat) : Int) by omega, u8_or128 _ (by omega), WM.toNat_ofNat_lt (by omega)]
          omega
        have HC := Lib.hid hc
        clear hc
        go_wp2_with (at_builtin; refine wpList_row _ rfl _ _ 22 rfl 5 i0 (.int .u8 0) 1 1 Try.underlying22 hi hz0 hz1 hz2 rfl (by decide) _ _ _ rfl (hown.alloc _) ⟨wr.heap.size, 0, none⟩ 1 1 [.int .u8 (c.toNat : Nat)] rfl rfl ?c1 ?c2 ?c3 ?c4 ?_)
        case c1 => intro j u hj; match j, hj with | 0, hj => simp at hj; subst hj; simp [Addr.add]
        case c2 => intro u hu; simp at hu; subst hu; rfl
        case c3 => unfold maxLen; omega
        case c4 => omega
        intro v' w1 hown1 hext1 _
        have hnew : NumRel v w xs n v' (.int .u64 ((q / 128 : Nat) : Int)) w1 := by
          have hf := HF.out
          have hq := HQ.out
          obtain ⟨f', rfl⟩ : ∃ f', f = f' + 1 := by
            cases f with
            | zero => simp at hq; omega
            | succ f' => exact ⟨f', rfl⟩
          have hp : (2 : Nat) ^ (1 + 7 * (f' + 1)) = 2 ^ (1 + 7 * f') * 128 := by
            rw [show (128 : Nat) = 2 ^ 7 from rfl, ← Nat.pow_add]
            congr 1
          refine ⟨f', q / 128, ys ++ [c], rfl, by omega, ?_, by simp; omega, ?_, hext.trans hext1.from_alloc⟩
          · rw [← HE.out]
            simp only [WM.enc]
            rw [if_pos hge, HC.out]
            simp
          · have e1 : (xs ++ (ys ++ [c])) = (xs ++ ys) ++ [c] := by simp
            rw [e1]
            simpa [u8s, Nat.add_assoc] using hown1
        have HN := Lib.hid hnew
        clear hown1 hext1 hext hown
        go_wp2
        go_roundw
        case rel => exact HN.out
        case measure => simp [intOf]; omega
      · obtain ⟨c, rfl⟩ : ∃ c : UInt8, q = c.toNat := ⟨UInt8.ofNat q, (WM.toNat_ofNat_lt (by omega)).symm⟩
        go_wp2_with (at_builtin; refine wpList_row _ rfl _ _ 22 rfl 5 i0 (.int .u8 0) 1 1 Try.underlying22 hi hz0 hz1 hz2 rfl (by decide) _ _ _ rfl (hown.alloc _) ⟨wr.heap.size, 0, none⟩ 1 1 [.int .u8 (c.toNat : Nat)] rfl rfl ?c1 ?c2 ?c3 ?c4 ?_)
        case c1 => intro j u hj; match j, hj with | 0, hj => simp at hj; subst hj; simp [Addr.add]
        case c2 => intro u hu; simp at hu; subst hu; rfl
        case c3 => unfold maxLen; omega
        case c4 => omega
        intro v' w1 hown1 hext1 hnn
        have hfin : NumPost v w (xs ++ WM.num n) (.returned v') w1 := by
          have hencq : WM.enc f c.toNat = [c] := by
            cases f with
            | zero => simp [WM.enc]
            | succ f => simp only [WM.enc]; rw [if_neg hge]; simp
          refine ⟨v', rfl, ?_, hext.trans hext1.from_alloc, hnn⟩
          rw [← HE.out, hencq]
          have e1 : (xs ++ (ys ++ [c])) = (xs ++ ys) ++ [c] := by simp
          rw [e1]
          simpa [u8s, Nat.add_assoc] using hown1
        have HN := Lib.hid hfin
        clear hown1 hext1 hext hown hnn
        go_wp2
        go_ret
        exact HN.out
end Go.Proofs.Ytckhbfbbpdjmdaa
