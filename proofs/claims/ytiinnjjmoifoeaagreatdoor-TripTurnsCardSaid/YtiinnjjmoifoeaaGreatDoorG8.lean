/- Numbers and texts as bytes, behind an owned row. A copy of an agent: the program's part. The writer: numbers, values, programs. A copy of an agent: the frames' part. A copy of an agent. Agents, by value. Sums of bytes. The number that bytes begin with. The text that bytes begin with. A packet's bytes. Rows of one's own, by value from now on: cell by cell. The packet of bytes. The laws of chapter 10: there, and back. -/
import Derived.Test.YtiinnjjmoifoeaaGreatDoorG7
import Derived.Test.YtiinnjjmoifoeaaGreatDoorG6
set_option linter.unusedSimpArgs false
set_option linter.unusedVariables false
set_option maxRecDepth 8000
namespace Go.Proofs.YtiinnjjmoifoeaaGreatDoor
open Go Go.RowKit
@[simp ↓] theorem zafn {ki : IntKind} {n : Int} {k : AV → Prop} : UO .xor (.int ki n) k = k (.int ki (bits .xor ki (if ki.signed then -1 else ki.max) n)) := by
  cases h : ki.signed <;> simp [UO, UN, h, IBIN, zci, PURE, qk] <;> rfl
@[simp ↓ 2000] theorem zaia {ki : IntKind} {a b : Int} {k : AV → Prop} : BI .or (.int ki a) (.int ki b) k = k (.int ki (bits .or ki a b)) := zabb
@[simp ↓ 2000] theorem zafj {ki : IntKind} {a b : Int} {k : AV → Prop} : BI .and (.int ki a) (.int ki b) k = k (.int ki (bits .and ki a b)) := zzy
@[simp ↓ 2000] theorem zafi {ki : IntKind} {a b : Int} {k : AV → Prop} : BI .xor (.int ki a) (.int ki b) k = k (.int ki (bits .xor ki a b)) := zzx
theorem zyg (n : Int) (h0 : -9223372036854775808 ≤ n) (h : n < 0) :
    bits .xor .u64 IntKind.u64.max (IntKind.u64.wrap (IntKind.u64.wrap n * 2)) = ((WM.zig n : Nat) : Int) := by
  have e0 : IntKind.u64.wrap (IntKind.u64.wrap n * 2) = ((2 * n + 18446744073709551616).toNat : Int) := by
    rw [IntKind.wrap_u64, IntKind.wrap_u64]; omega
  rw [e0]
  have hlt : (2 * n + 18446744073709551616).toNat < 18446744073709551616 := by omega
  have hz : WM.zig n = 18446744073709551616 - 1 - (2 * n + 18446744073709551616).toNat := by unfold WM.zig; rw [if_pos h]; omega
  rw [hz]
  generalize (2 * n + 18446744073709551616).toNat = m at *
  have e1 : bits .xor .u64 IntKind.u64.max (m : Int) = IntKind.u64.wrap ((BitVec.ofInt 64 IntKind.u64.max ^^^ BitVec.ofInt 64 (m : Int)).toNat : Int) := rfl
  have e2 : (BitVec.ofInt 64 IntKind.u64.max) = BitVec.allOnes 64 := by decide
  rw [e1, e2, BitVec.ofInt_natCast, BitVec.allOnes_xor, BitVec.toNat_not, BitVec.toNat_ofNat, IntKind.wrap_u64]
  omega
theorem zyf (n : Int) (h0 : n ≤ 9223372036854775807) (h : ¬ n < 0) : IntKind.u64.wrap (IntKind.u64.wrap n * 2) = ((WM.zig n : Nat) : Int) := by
  rw [IntKind.wrap_u64, IntKind.wrap_u64]
  unfold WM.zig; rw [if_neg h]; omega
def bsV (b : Str) : List AV := b.map fun c => .int .u8 (c.toNat : Int)
theorem zqz (a b : Str) : bsV (a ++ b) = bsV a ++ bsV b := by simp [bsV]
theorem zbl (a : Str) : (bsV a).length = a.length := by simp [bsV]
theorem zqy (a : Str) : (bsV a).all AV.one = true := by simp [bsV]
theorem zus {m : Nat} (h : m < 256) : bsV [UInt8.ofNat m] = [.int .u8 (m : Int)] := by
  simp [bsV, UInt8.toNat_ofNat']; omega
theorem Slot.full {H : Heap} {g sz k : Nat} {cs : List AV} (h : H g = some (.row sz cs)) (hl : cs.length = k * sz) : Slot H sz k cs (.slc g 0 k) :=
  .inr ⟨g, cs, rfl, h, by rw [← hl, List.take_length], by omega⟩
structure BExt (H : Heap) (n : Nat) (l : AV) (H' : Heap) (n' : Nat) (l' : AV) (bs : Str) : Prop where
  le : n ≤ n'
  slot : Slot H' 1 bs.length (bsV bs) l'
  ow : ∀ y ∈ own l', y ∈ own l ∨ (n ≤ y ∧ y < n')
  keep : ∀ y, y < n → y ∉ own l → H' y = H y
theorem BExt.refl {H : Heap} {n : Nat} {l : AV} {bs : Str} (h : Slot H 1 bs.length (bsV bs) l) : BExt H n l H n l bs := ⟨Nat.le_refl _, h, fun _ hy => .inl hy, fun _ _ _ => rfl⟩
theorem BExt.trans {H H' H2 : Heap} {n n' n2 : Nat} {l l' l2 : AV} {bs bs2 : Str} (h : BExt H n l H' n' l' bs) (k : BExt H' n' l' H2 n2 l2 bs2) : BExt H n l H2 n2 l2 bs2 :=
  ⟨Nat.le_trans h.le k.le, k.slot, fun y hy => by
    rcases k.ow y hy with h1 | h1
    · rcases h.ow y h1 with h2 | h2
      · exact .inl h2
      · exact .inr ⟨h2.1, by have := k.le; omega⟩
    · exact .inr ⟨by have := h.le; omega, h1.2⟩, fun y hy hn => by
    rw [k.keep y (by have := h.le; omega) fun h1 => ?_, h.keep y hy hn]
    rcases h.ow y h1 with h2 | h2
    · exact hn h2
    · omega⟩
theorem BExt.byte {H H1 : Heap} {n n1 : Nat} {l l1 : AV} {bs : Str} {m : Nat} (h : BExt H n l H1 n1 l1 bs) (hm : m < 256) (hl : ∀ y ∈ own l, y < n) (hb : bs.length + 1 ≤ 140737488355328) {kk : AV → Heap → Nat → Prop}
    (hk : ∀ H', BExt H n l H' (n1 + 2) (.slc (n1 + 1) 0 (bs.length + 1)) (bs ++ [UInt8.ofNat m]) → H' (n1 + 1) = some (.row 1 (bsV (bs ++ [UInt8.ofNat m]))) → kk (.slc (n1 + 1) 0 (bs.length + 1)) H' (n1 + 2)) : APP 1 1 l1 (.slc n1 0 1) (H1.put n1 (some (.row 1 [.int .u8 (m : Int)]))) (n1 + 1) kk := by
  have hlt : ∀ y ∈ own l1, y < n1 := fun y hy => by
    have := h.le
    rcases h.ow y hy with h1 | h1
    · have := hl y h1; omega
    · omega
  have s1 : Slot (H1.put n1 (some (.row 1 [.int .u8 (m : Int)]))) 1 bs.length (bsV bs) l1 := h.slot.keep fun g hg => Heap.put_ne _ _ (by have := hlt g hg; omega)
  refine s1.app (new := bsV [UInt8.ofNat m]) (by simp [zbl]) (by rw [Heap.put_at, zus hm]) (by simp [bsV]) (zqy _) (by omega) fun H' h1 h2 => ?_
  rw [← zqz] at h1
  refine hk H' ⟨by have := h.le; omega, ?_, fun y hy => ?_, fun y hy hn => ?_⟩ h1
  · have := Slot.full (k := (bs ++ [UInt8.ofNat m]).length) h1 (by rw [zbl]; omega)
    simpa using this
  · have e : y = n1 + 1 := by simpa [own] using hy
    have := h.le
    exact .inr ⟨by omega, by omega⟩
  · have h3 := h.le
    rw [h2 y (fun h4 => ?_) (by omega), Heap.put_ne _ _ (by omega), h.keep y hy hn]
    rcases h.ow y h4 with h5 | h5
    · exact hn h5
    · omega
structure BNew (H : Heap) (n : Nat) (l : AV) (H' : Heap) (n' g : Nat) (bs : Str) : Prop where
  lo : n ≤ g
  hi : g < n'
  row : H' g = some (.row 1 (bsV bs))
  keep : ∀ y, y < n → y ∉ own l → H' y = H y
theorem zaaq (q : Nat) : ((q : Int)).fdiv (2 ^ (min (7 : Int).toNat IntKind.u64.bits)) = ((q / 128 : Nat) : Int) := by
  have : (2 : Int) ^ (min (7 : Int).toNat IntKind.u64.bits) = 128 := rfl
  rw [this, Int.fdiv_eq_ediv_of_nonneg _ (by omega)]
  rfl
set_option maxRecDepth 20000 in
set_option maxHeartbeats 1000000 in
theorem zjz {l : AV} {bs : Str} {n : Int} {H : Heap} {nx : Nat} {Q : AV → Heap → Nat → Prop} (hs : Slot H 1 bs.length (bsV bs) l) (hb : bs.length ≤ 140737488355000) (hn : -9223372036854775808 ≤ n ∧ n ≤ 9223372036854775807) (hl : ∀ y ∈ own l, y < nx)
    (hq : ∀ H' n' g, BNew H nx l H' n' g (bs ++ WM.num n) → Q (.slc g 0 (bs ++ WM.num n).length) H' n') : zb Tryz.prog 22 [l, .int .i64 n] H nx Q := by
  refine zmp _ _ H nx _ ?_
  have main : ∀ u : Nat, u = WM.zig n → LP (zcl Q) [l, .int .u64 (u : Int)] H nx := by
    intro u hu
    refine LP.mk (fun k xs H' n' => ∃ (q : Nat) (ys : Str) (l' : AV), xs = [l', .int .u64 (q : Int)] ∧ q < 2 ^ (1 + 7 * k) ∧ ys ++ WM.enc k q = WM.num n ∧ ys.length + k = 9 ∧ BExt H nx l H' n' l' (bs ++ ys)) 9 ⟨u, [], l, rfl, ?_, by rw [hu]; rfl, rfl, by simpa using BExt.refl hs⟩ ?_
    · have := WM.zig_lt n hn.1 hn.2
      rw [hu]; exact this
    rintro k xs H' n' ⟨q, ys, l', rfl, hq1, hq2, hq3, ext⟩
    have hw : IntKind.u8.wrap (q : Int) = (q : Int) % 256 := by rw [IntKind.wrap_u8]
    by_cases h : 128 ≤ q
    · have h' : (128 : Int) ≤ q := by omega
      have h8 : bits .or .u8 ((q : Int) % 256) 128 = ((q % 128 + 128 : Nat) : Int) := by
        have h8 := zvt (q % 256) (by omega)
        have e8 : q % 256 % 128 + 128 = q % 128 + 128 := by omega
        rw [e8] at h8
        exact h8
      cases k with
      | zero => simp at hq1; omega
      | succ k =>
        simp only [WM.enc, if_pos h] at hq2
        simp [zcl, h', hw]
        rw [h8]
        refine ext.byte (m := q % 128 + 128) (by omega) hl (by rw [List.length_append]; omega) fun H2 e2 _ => ?_
        refine ⟨k, by omega, q / 128, ys ++ [UInt8.ofNat (q % 128 + 128)], _, ⟨rfl, zaaq q⟩, ?_, ?_, ?_, ?_⟩
        · have e : (2 : Nat) ^ (1 + 7 * (k + 1)) = 2 ^ (1 + 7 * k) * 128 := by rw [show 1 + 7 * (k + 1) = (1 + 7 * k) + 7 by omega, Nat.pow_add]
          rw [e] at hq1
          omega
        · rw [List.append_assoc]; exact hq2
        · simp; omega
        · rw [← List.append_assoc]; exact e2
    · have h' : ¬ (128 : Int) ≤ q := by omega
      have e0 : WM.enc k q = [UInt8.ofNat q] := by cases k <;> simp [WM.enc, h]
      have hw' : IntKind.u8.wrap (q : Int) = (q : Int) := by rw [IntKind.wrap_u8]; omega
      rw [e0] at hq2
      simp [zcl, h', hw']
      refine ext.byte (m := q) (by omega) hl (by rw [List.length_append]; omega) fun H2 e2 r2 => ?_
      rw [List.append_assoc, hq2] at e2 r2
      have el : (bs ++ ys).length + 1 = (bs ++ WM.num n).length := by rw [← hq2]; simp; omega
      have := ext.le
      have := hq H2 (n' + 2) (n' + 1) ⟨by omega, by omega, r2, e2.keep⟩
      rw [← el] at this
      exact this
  have h2 : (2 : Int) ^ (min 1 IntKind.u64.bits) = 2 := rfl
  by_cases h0 : n < 0
  · have z := zyg n hn.1 h0
    simp [zgn, h0]
    rw [h2, show IntKind.u64.signed = false from rfl, if_neg (by decide), z]
    exact main _ rfl
  · have z := zyf n hn.2 h0
    simp [zgn, h0]
    rw [h2, z]
    exact main _ rfl
theorem zhb (n : Int) : (WM.num n).length ≤ 10 := WM.enc_length 9 _
theorem znb (s : Str) : (VM.textB s).length ≤ 10 + s.length := by unfold VM.textB; rw [List.length_append]; have := zhb s.length; omega
theorem BNew.lt {H H' : Heap} {n n' g : Nat} {l : AV} {bs : Str} (h : BNew H n l H' n' g bs) : n ≤ n' := by have := h.lo; have := h.hi; omega
theorem ztv (s : Str) (H : Heap) : ze 1 H (.str s) = some (s.length, bsV s, []) := rfl
set_option maxHeartbeats 1000000 in
theorem zvs {l : AV} {bs s : Str} {H : Heap} {nx : Nat} {Q : AV → Heap → Nat → Prop} (hs : Slot H 1 bs.length (bsV bs) l) (hb : bs.length + s.length ≤ 140737488355000) (hl : ∀ y ∈ own l, y < nx)
    (hq : ∀ H' n' g, BNew H nx l H' n' g (bs ++ VM.textB s) → Q (.slc g 0 (bs ++ VM.textB s).length) H' n') : zb Tryz.prog 23 [l, .str s] H nx Q := by
  refine zlo _ _ H nx _ ?_
  simp [zjc]
  refine zjz hs (by omega) (by omega) hl fun H1 n1 g b1 => ?_
  have nl := zhb s.length
  have h1 := b1.lo
  have h2 := b1.hi
  have s1 : Slot H1 1 (bs ++ WM.num s.length).length (bsV (bs ++ WM.num s.length)) (.slc g 0 (bs ++ WM.num s.length).length) := Slot.full b1.row (by rw [zbl]; omega)
  simp only [zjd]
  unfold APP
  rw [zij, ztv, optk, b1.row, rowk]
  refine ⟨rfl, zqy s, by rw [zbl]; omega, Nat.le_add_right_of_le (by rw [List.length_append]; omega), ?_⟩
  have e : bs ++ VM.textB s = bs ++ WM.num s.length ++ s := by rw [List.append_assoc]; rfl
  have el : (bs ++ WM.num s.length).length + s.length = (bs ++ VM.textB s).length := by rw [e, List.length_append (bs := s)]
  have := hq ((H1.put g none).put n1 (some (.row 1 (bsV (bs ++ VM.textB s))))) (n1 + 1) n1 ⟨by omega, by omega, Heap.put_at _ _ _, fun y hy hn => ?_⟩
  · rw [← el] at this
    rw [e, zqz] at this
    simp only [zbi, zbv, List.drop_zero, Nat.mul_one, List.length_singleton]
    rw [List.take_of_length_le (by rw [zbl]; omega)]
    exact this
  · rw [Heap.put_ne _ _ (by omega), Heap.put_ne _ _ (by omega), b1.keep y hy hn]
end Go.Proofs.YtiinnjjmoifoeaaGreatDoor
set_option maxRecDepth 8000
namespace Go.Proofs.YtiinnjjmoifoeaaGreatDoor
open Go Go.RowKit
def zds (H : Heap) (R : Nat → Prop) (sz : Nat) (xs : List (List AV)) (a : AV) : Prop := (xs = [] ∧ a = .nils) ∨ ∃ g, R g ∧ a = .slc g 0 xs.length ∧ H g = some (.row sz xs.flatten)
theorem zds.more {H H' : Heap} {R R' : Nat → Prop} {sz : Nat} {xs : List (List AV)} {a : AV} (h : zds H R sz xs a) (hR : ∀ g, R g → R' g ∧ H' g = H g) : zds H' R' sz xs a := by
  rcases h with h | ⟨g, h1, h3, h4⟩
  · exact .inl h
  · exact .inr ⟨g, (hR g h1).1, h3, by rw [(hR g h1).2]; exact h4⟩
theorem zds.one {H : Heap} {R : Nat → Prop} {sz : Nat} {xs : List (List AV)} {a : AV} (h : zds H R sz xs a) : a.cells = [a] ∧ a.one = true ∧ a.sure = true := by
  rcases h with ⟨_, rfl⟩ | ⟨g, _, rfl, _⟩ <;> exact ⟨rfl, rfl, rfl⟩
theorem Slot.one {H : Heap} {sz k : Nat} {cells : List AV} {a : AV} (h : Slot H sz k cells a) : a.cells = [a] ∧ a.one = true ∧ a.sure = true := by
  rcases h with ⟨_, rfl | rfl⟩ | ⟨g, cs, rfl, _⟩ <;> exact ⟨rfl, rfl, rfl⟩
theorem zds.slot {H : Heap} {R : Nat → Prop} {sz : Nat} {xs : List (List AV)} {a : AV} (h : zds H R sz xs a) (hs : ∀ x ∈ xs, x.length = sz) : Slot H sz xs.length xs.flatten a ∧ ∀ g ∈ own a, R g := by
  rcases h with ⟨rfl, rfl⟩ | ⟨g, h1, rfl, h4⟩
  · exact ⟨.inl ⟨rfl, .inl rfl⟩, fun g hg => by simp [own] at hg⟩
  · exact ⟨.inr ⟨g, _, rfl, h4, List.take_of_length_le (by rw [zdz hs]; exact Nat.le_refl _), by rw [zdz hs]; exact Nat.le_refl _⟩, fun x hx => by simp [own] at hx; subst hx; exact h1⟩
def zfm (H : Heap) (R : Nat → Prop) (cs : List Cod) (cells : List AV) : Prop := cells.length = cs.length * 3 ∧ ∀ (k : Nat) (c : Cod), cs[k]? = some c → cells[k * 3]? = some (.int .i64 c.params) ∧ cells[k * 3 + 1]? = some (.int .i64 c.vars) ∧ ∃ a, cells[k * 3 + 2]? = some a ∧ zds H R 3 (c.ins.map Ins.avs) a
theorem zfm.more {H H' : Heap} {R R' : Nat → Prop} {cs : List Cod} {cells : List AV} (h : zfm H R cs cells) (hR : ∀ g, R g → R' g ∧ H' g = H g) : zfm H' R' cs cells :=
  ⟨h.1, fun k c hc => let ⟨a, b, x, h1, h2⟩ := h.2 k c hc; ⟨a, b, x, h1, h2.more hR⟩⟩
theorem zfm.snoc {H : Heap} {R : Nat → Prop} {cs : List Cod} {cells : List AV} {c : Cod} {a : AV} (h : zfm H R cs cells) (ha : zds H R 3 (c.ins.map Ins.avs) a) : zfm H R (cs ++ [c]) (cells ++ [.int .i64 c.params, .int .i64 c.vars, a]) := by
  refine ⟨by simp [h.1]; omega, fun k c' hc => ?_⟩
  by_cases hk : k < cs.length
  · rw [List.getElem?_append_left hk] at hc
    obtain ⟨q1, q2, x, q3, q4⟩ := h.2 k c' hc
    have hl := h.1
    refine ⟨by rw [List.getElem?_append_left (by omega)]; exact q1, by rw [List.getElem?_append_left (by omega)]; exact q2, x, by rw [List.getElem?_append_left (by omega)]; exact q3, q4⟩
  · have hk' : k = cs.length := by have := (List.getElem?_eq_some_iff.1 hc).1; simp at this; omega
    subst hk'
    rw [List.getElem?_append_right (Nat.le_refl _)] at hc
    simp at hc
    subst hc
    have hl := h.1
    refine ⟨?_, ?_, a, ?_, ha⟩
    · rw [List.getElem?_append_right (by omega), hl]; simp
    · rw [List.getElem?_append_right (by omega), hl, show cs.length * 3 + 1 - cs.length * 3 = 1 by omega]; rfl
    · rw [List.getElem?_append_right (by omega), hl, show cs.length * 3 + 2 - cs.length * 3 = 2 by omega]; rfl
theorem FrzP.keep {H H' : Heap} {G : Nat → Prop} {v u : AV} (h : FrzP H G v u) (hk : ∀ g, G g → H' g = H g) : FrzP H' G v u := by
  induction h with
  | same v => exact .same v
  | nils => exact .nils
  | zs => exact .zs
  | slc g off len sz cells xs hg hH hle hl hsz U hU _ ih => exact .slc g off len sz cells xs hg (by rw [hk g hg]; exact hH) hle hl hsz U hU ih
  | agg xs ys hl _ ih => exact .agg xs ys hl ih
end Go.Proofs.YtiinnjjmoifoeaaGreatDoor
set_option maxRecDepth 8000
namespace Go.Proofs.YtiinnjjmoifoeaaGreatDoor
open Go Go.RowKit
structure WrM (p : Nat) (l : AV) (bs : Str) (H : Heap) (n : Nat) : Prop where
  row : H p = some (.row 1 [l])
  slot : Slot H 1 bs.length (bsV bs) l
  ow : ∀ y ∈ own l, p < y ∧ y < n
  lt : p < n
structure WExt (p : Nat) (l : AV) (H : Heap) (n : Nat) (l' : AV) (bs : Str) (H' : Heap) (n' : Nat) : Prop where
  le : n ≤ n'
  wr : WrM p l' bs H' n'
  new : ∀ y ∈ own l', y ∈ own l ∨ n ≤ y
  keep : ∀ y, y < n → y ≠ p → y ∉ own l → H' y = H y
theorem WrM.ext {p n : Nat} {l : AV} {bs : Str} {H : Heap} (h : WrM p l bs H n) : WExt p l H n l bs H n := ⟨Nat.le_refl _, h, fun _ hy => .inl hy, fun _ _ _ _ => rfl⟩
theorem WExt.trans {p n n' n2 : Nat} {l l' l2 : AV} {bs bs2 : Str} {H H' H2 : Heap} (h : WExt p l H n l' bs H' n') (k : WExt p l' H' n' l2 bs2 H2 n2) : WExt p l H n l2 bs2 H2 n2 :=
  ⟨Nat.le_trans h.le k.le, k.wr, fun y hy => by
    rcases k.new y hy with h1 | h1
    · exact h.new y h1
    · exact .inr (by have := h.le; omega), fun y hy h1 h2 => by
    rw [k.keep y (by have := h.le; omega) h1 fun h3 => ?_, h.keep y hy h1 h2]
    rcases h.new y h3 with h4 | h4
    · exact h2 h4
    · omega⟩
theorem WExt.put {p n n' : Nat} {l l' : AV} {bs : Str} {H H' : Heap} (h : WExt p l H n l' bs H' n') (o : AObj) : WExt p l H n l' bs (H'.put n' (some o)) (n' + 1) := by
  have w := h.wr
  refine ⟨by have := h.le; omega, ⟨by rw [Heap.put_ne _ _ (by have := w.lt; omega)]; exact w.row, w.slot.keep fun g hg => Heap.put_ne _ _ (by have := w.ow g hg; omega), fun y hy => by have := w.ow y hy; omega, by have := w.lt; omega⟩, h.new, fun y hy h1 h2 => ?_⟩
  rw [Heap.put_ne _ _ (by have := h.le; omega)]; exact h.keep y hy h1 h2
theorem WExt.row {p n n' n2 g : Nat} {l l' : AV} {bs bs2 : Str} {H H' H2 : Heap} (h : WExt p l H n l' bs H' n') (b : BNew H' n' l' H2 n2 g bs2) : WExt p l H n (.slc g 0 bs2.length) bs2 (H2.put p (some (.row 1 [.slc g 0 bs2.length]))) n2 := by
  have w := h.wr
  have h1 := b.lo
  have h2 := b.hi
  have h3 := h.le
  have h4 := w.lt
  refine ⟨by omega, ⟨Heap.put_at _ _ _, ?_, fun y hy => ?_, by omega⟩, fun y hy => ?_, fun y hy e1 e2 => ?_⟩
  · exact Slot.full (by rw [Heap.put_ne _ _ (by omega)]; exact b.row) (by rw [zbl]; omega)
  · have e : y = g := by simpa [own] using hy
    omega
  · have e : y = g := by simpa [own] using hy
    exact .inr (by omega)
  · rw [Heap.put_ne _ _ e1, b.keep y (by omega) fun h5 => ?_, h.keep y hy e1 e2]
    rcases h.new y h5 with h6 | h6
    · exact e2 h6
    · omega
theorem WrM.keep {p n n' : Nat} {l : AV} {bs : Str} {H H' : Heap} (w : WrM p l bs H n) (hn : n ≤ n') (hk : ∀ y, (y = p ∨ y ∈ own l) → H' y = H y) : WrM p l bs H' n' :=
  ⟨by rw [hk p (.inl rfl)]; exact w.row, w.slot.keep fun g hg => hk g (.inr hg), fun y hy => by have := w.ow y hy; omega, by have := w.lt; omega⟩
theorem WrM.one {p n : Nat} {l : AV} {bs : Str} {H : Heap} (w : WrM p l bs H n) : l.cells = [l] ∧ l.one = true ∧ l.sure = true := w.slot.one
def zec (ns : List Int) : Str := ns.flatMap WM.num
theorem zuc (ns : List Int) : (zec ns).length ≤ 10 * ns.length := by
  induction ns with
  | nil => simp [zec]
  | cons n r ih => have := zhb n; simp [zec] at ih ⊢; omega
theorem zsi {ns : List Int} {i : Nat} {n : Int} (h : ns[i]? = some n) : zec (ns.take (i + 1)) = zec (ns.take i) ++ WM.num n := by
  unfold zec; rw [List.take_add_one, h]; simp
set_option maxRecDepth 20000 in
set_option maxHeartbeats 1000000 in
theorem zyn {p g n : Nat} {l : AV} {bs : Str} {ns : List Int} {H : Heap} {Q : AV → Heap → Nat → Prop} (w : WrM p l bs H n) (hg : H g = some (.row 1 (ns.map (AV.int .i64)))) (hgp : g ≠ p) (hgl : g ∉ own l) (hgn : g < n) (hb : bs.length + 10 * ns.length ≤ 100000000000000) (hi : ∀ m ∈ ns, -9223372036854775808 ≤ m ∧ m ≤ 9223372036854775807)
    (hq : ∀ H' n' l', WExt p l H n l' (bs ++ zec ns) H' n' → Q (.tup []) H' n') : zb Tryz.prog 75 [.ptr p 0, .slc g 0 ns.length] H n Q := by
  refine zfy _ _ H n _ ?_
  simp [zdn]
  refine LP.mk (fun k xs H' n' => ∃ (i : Nat) (l' : AV), k = ns.length - i ∧ i ≤ ns.length ∧ xs = [.ptr p 0, .slc g 0 ns.length, .int .i64 ns.length, .int .i64 i] ∧ WExt p l H n l' (bs ++ zec (ns.take i)) H' n') ns.length ⟨0, l, rfl, by omega, rfl, by simpa [zec] using w.ext⟩ ?_
  rintro k xs H' n' ⟨i, l', rfl, hil, rfl, ext⟩
  have e1 : H' g = some (.row 1 (ns.map (AV.int .i64))) := (ext.keep g hgn hgp hgl).trans hg
  have e2 := ext.wr.row
  have o1 := ext.wr.one
  by_cases hlt : i < ns.length
  · have hadd : IntKind.i64.wrap ((i : Int) + 1) = ((i + 1 : Nat) : Int) := by rw [i64w (by omega)]; rfl
    have hm : ns[i]? = some ns[i] := List.getElem?_eq_getElem hlt
    have hmi := hi _ (List.getElem_mem hlt)
    generalize hmm : ns[i] = m at hm hmi
    have hsn := zsi hm
    simp [zbp, hlt, e1, e2, hmm]
    have hl := zuc (ns.take i)
    rw [List.length_take, Nat.min_eq_left hil] at hl
    refine zjz ext.wr.slot (by rw [List.length_append]; omega) hmi (fun y hy => (ext.wr.ow y hy).2) fun H2 n2 g2 b2 => ?_
    have er := ext.row b2
    rw [List.append_assoc, ← hsn] at er
    rw [List.append_assoc, ← hsn]
    have hp : H2 p = some (.row 1 [l']) := by rw [b2.keep p ext.wr.lt fun h => by have := ext.wr.ow p h; omega]; exact e2
    simp [zdo, hp, hadd]
    simp only [List.length_append] at er
    exact ⟨ns.length - (i + 1), by omega, i + 1, rfl, by omega, rfl, _, er⟩
  · obtain rfl : i = ns.length := by omega
    rw [List.take_length] at ext
    simp [zbp]
    exact hq _ _ _ ext
theorem WExt.nums {p n n' : Nat} {l l' : AV} {bs : Str} {H H' : Heap} {Q : AV → Heap → Nat → Prop} (e : WExt p l H n l' bs H' n') (ns : List Int) (hb : bs.length + 10 * ns.length ≤ 100000000000000) (hi : ∀ m ∈ ns, -9223372036854775808 ≤ m ∧ m ≤ 9223372036854775807)
    (hq : ∀ H2 n2 l2, WExt p l H n l2 (bs ++ zec ns) H2 n2 → (∀ y, y < n' → y ≠ p → y ∉ own l' → H2 y = H' y) → Q (.tup []) H2 n2) : zb Tryz.prog 75 [.ptr p 0, .slc n' 0 ns.length] (H'.put n' (some (.row 1 (ns.map (AV.int .i64))))) (n' + 1) Q := by
  have w := e.wr
  have e1 := e.put (.row 1 (ns.map (AV.int .i64)))
  refine zyn e1.wr (Heap.put_at _ _ _) (by have := w.lt; omega) (fun h => by have := w.ow _ h; omega) (by omega) hb hi fun H2 n2 l2 e2 => hq _ _ _ (e1.trans e2) fun y h1 h2 h3 => ?_
  rw [e2.keep y (by omega) h2 h3, Heap.put_ne _ _ (by omega)]
end Go.Proofs.YtiinnjjmoifoeaaGreatDoor
set_option maxRecDepth 8000
namespace Go.Proofs.YtiinnjjmoifoeaaGreatDoor
open Go Go.RowKit
structure zps (H : Heap) (lo n : Nat) (fs : List Frm) (ss : List (AV × AV)) (fa : AV) : Prop where
  frs : zbs H fs ss
  row : Slot H 4 fs.length (frow fs ss) fa
  nd : (own fa ++ owns ss).Nodup
  bd : ∀ g ∈ own fa ++ owns ss, lo ≤ g ∧ g < n
theorem zps.snoc {H X : Heap} {lo n N m : Nat} {fs : List Frm} {ss : List (AV × AV)} {fa : AV} {f : Frm} {va sa : AV} (h : zps H lo n fs ss fa) (hn : n ≤ N) (hN : N ≤ m) (hlo : lo ≤ N) (hlen : (fs.length + 1) * 64 ≤ 140737488355328)
    (old : ∀ g, g < n → X g = H g) (hv : Slot X 3 f.vars.length (rowV f.vars) va) (hs : Slot X 3 f.stack.length (rowV f.stack) sa) (nd : (own va ++ own sa).Nodup) (bd : ∀ g ∈ own va ++ own sa, N ≤ g ∧ g < m)
    {t : Nat} (ht : X t = some (.row 4 [.int .i64 f.fn, .int .i64 f.at_, va, sa])) {kk : AV → Heap → Nat → Prop}
    (hk : ∀ H' a', (∀ g, g < lo → H' g = X g) → zps H' lo (m + 1) (fs ++ [f]) (ss ++ [(va, sa)]) a' → kk a' H' (m + 1)) : APP 4 64 fa (.slc t 0 1) X m kk := by
  have hbf : ∀ g ∈ own fa, lo ≤ g ∧ g < n := fun g hg => h.bd g (List.mem_append_left _ hg)
  have hbs : ∀ g ∈ owns ss, lo ≤ g ∧ g < n := fun g hg => h.bd g (List.mem_append_right _ hg)
  obtain ⟨nd1, nd2, nd3⟩ := List.nodup_append.1 h.nd
  have hx := (h.row.keep (H' := X) fun g hg => old g (hbf g hg).2)
  refine Slot.app (bytes := 64) (nx := m) (new := [.int .i64 f.fn, .int .i64 f.at_, va, sa]) hx (zhz h.frs.1) ht rfl (by simp [hv.one, hs.one]) hlen fun H' h1 h2 => ?_
  have keep : ∀ g, g ∈ owns ss → H' g = H g := fun g hg => by
    have := hbs g hg
    rw [h2 g (fun hx => nd3 g hx g hg rfl) (by omega)]; exact old g this.2
  have keep2 : ∀ g, g ∈ own va ++ own sa → H' g = X g := fun g hg => by
    have := bd g hg
    exact h2 g (fun hx => by have := hbf g hx; omega) (by omega)
  refine hk H' _ (fun g hg => h2 g (fun hx => by have := hbf g hx; omega) (by omega)) ⟨(h.frs.keep keep).snoc (hv.keep fun g hg => keep2 g (List.mem_append_left _ hg)) (hs.keep fun g hg => keep2 g (List.mem_append_right _ hg)), ?_, ?_, ?_⟩
  · refine .inr ⟨m, _, by simp, h1, ?_, ?_⟩
    · rw [znh h.frs.1]; exact List.take_of_length_le (by simp [zhz h.frs.1]; omega)
    · simp [zhz h.frs.1]; omega
  · rw [znf]
    have e0 : own (AV.slc m 0 (fs.length + 1)) = [m] := rfl
    simp only [List.length_append, List.length_singleton, e0]
    refine List.nodup_append.2 ⟨by simp, List.nodup_append.2 ⟨nd2, nd, fun a ha b hb e => ?_⟩, fun a ha b hb e => ?_⟩
    · have := hbs a ha; have := bd b hb; omega
    · simp at ha; subst ha; subst e
      rcases List.mem_append.1 hb with hb | hb
      · have := hbs _ hb; omega
      · have := bd _ hb; omega
  · intro g hg
    rw [znf] at hg
    have e0 : own (AV.slc m 0 (fs.length + 1)) = [m] := rfl
    rcases List.mem_append.1 hg with hg | hg
    · simp [own] at hg; omega
    · rcases List.mem_append.1 hg with hg | hg
      · have := hbs g hg; omega
      · have := bd g hg; omega
end Go.Proofs.YtiinnjjmoifoeaaGreatDoor
set_option maxRecDepth 8000
namespace Go.Proofs.YtiinnjjmoifoeaaGreatDoor
open Go Go.RowKit
end Go.Proofs.YtiinnjjmoifoeaaGreatDoor
set_option maxRecDepth 8000
namespace Go.Proofs.YtiinnjjmoifoeaaGreatDoor
open Go Go.RowKit
theorem Slot.frzN {H : Heap} {nx sz : Nat} {xs : List (List AV)} {a : AV} (hs : Slot H sz xs.length xs.flatten a) (ho : ∀ g ∈ own a, nx ≤ g) (hsz : ∀ x ∈ xs, x.length = sz) (hb : ∀ x ∈ xs, ∀ c ∈ x, scal c = true) : Frz H nx a (.ro xs) := by
  rcases hs with ⟨h0, rfl | rfl⟩ | ⟨g, cs, rfl, h1, h2, h3⟩
  · rw [List.eq_nil_of_length_eq_zero h0]; exact .nils
  · rw [List.eq_nil_of_length_eq_zero h0]; exact .zs
  · have e : ∀ (i : Nat) (x : List AV) (j : Nat) (v : AV), xs[i]? = some x → x[j]? = some v → cs[0 + i * sz + j]? = some v := fun i x j v hx hv => by
      have hxl : x.length = sz := hsz x (List.mem_of_getElem? hx)
      have hj : j < sz := by have := (List.getElem?_eq_some_iff.1 hv).1; omega
      have hi := (List.getElem?_eq_some_iff.1 hx).1
      have e1 := zmt hsz hx
      have e2 := congrArg (·[j]?) e1
      simp only [List.getElem?_take, List.getElem?_drop, hj, if_true] at e2
      rw [← h2, List.getElem?_take, hv] at e2
      have : i * sz + sz ≤ xs.length * sz := by rw [← Nat.succ_mul]; exact Nat.mul_le_mul_right _ hi
      rw [if_pos (by omega)] at e2
      rw [Nat.zero_add]; exact e2
    refine .slc g 0 _ sz cs xs (ho g (by simp [own])) h1 (by omega) rfl hsz (fun i j => (cs[0 + i * sz + j]?).getD .junk) (fun i x j v hx hv => ?_) (fun i x j v hx hv => ?_)
    · rw [e i x j v hx hv]; rfl
    · rw [e i x j v hx hv]; exact .same _ (zor (hb x (List.mem_of_getElem? hx) v (List.mem_of_getElem? hv)))
theorem Live.codes {a : Agt} {fs : List Frm} {f : Frm} (l : VM.Live a fs f) : a.prog.codes.length ≤ 5 ∧ a.prog.words.length ≤ 16 ∧ ∀ c ∈ a.prog.codes, c.ins.length ≤ 200 ∧ 0 ≤ c.vars ∧ c.vars ≤ 8 ∧ (∀ x ∈ (VM.heights c.ins).1, -1 ≤ x ∧ x ≤ 16) := by
  obtain ⟨h1, h2, h3⟩ := zet l.prog
  refine ⟨h2, h3, fun c hc => ?_⟩
  obtain ⟨q1, q2, q3⟩ := h1 c hc
  unfold VM.codeRange at q1
  rw [decide_eq_false_iff_not] at q1
  exact ⟨by omega, by omega, by omega, (zko q2 q3).2⟩
end Go.Proofs.YtiinnjjmoifoeaaGreatDoor
set_option maxRecDepth 8000
namespace Go.Proofs.YtiinnjjmoifoeaaGreatDoor
open Go Go.RowKit
def bsR (b : Str) : List (List AV) := b.map fun c => [.int .u8 (c.toNat : Int)]
theorem zam (b : Str) : (bsR b).length = b.length := by simp [bsR]
theorem zli (b : Str) : (bsR b).flatten = bsV b := by
  induction b with
  | nil => rfl
  | cons c r ih => simp [bsR, bsV] at ih ⊢; exact ih
theorem zpn (b : Str) : ∀ x ∈ bsR b, ∀ c ∈ x, scal c = true := by
  intro x hx c hc
  obtain ⟨u, _, rfl⟩ := List.mem_map.1 hx
  simp at hc; subst hc; rfl
theorem zfl (b : Str) : ∀ x ∈ bsR b, x.length = 1 := by
  intro x hx
  obtain ⟨u, _, rfl⟩ := List.mem_map.1 hx
  rfl
theorem Slot.frzB {H : Heap} {nx : Nat} {b : Str} {a : AV} (hs : Slot H 1 b.length (bsV b) a) (ho : ∀ g ∈ own a, nx ≤ g) : Frz H nx a (.ro (bsR b)) :=
  Slot.frzN (sz := 1) (xs := bsR b) (by rw [zam, zli]; exact hs) ho (zfl b) (zpn b)
theorem zzg (x : Nat) (hx : x < 4294967296) : QC Tryz.prog 44 [.int .u32 x, .int .i64 5] (.int .u32 (WM.rot5 x : Nat)) := by
  refine QC.of' fun H nx => ?_
  refine zdw _ _ H nx _ ?_
  have h5 : bits .and .u64 5 31 = 5 := by decide
  have hor : bits BinOp.or IntKind.u32 ((x : Int) * 32 % 4294967296) ((x : Int) / 134217728) = ((WM.rot5 x : Nat) : Int) := by
    have := u32_or_nat (x * 32 % 4294967296) (x / 134217728) (by omega) (by omega)
    rw [show ((x : Int) * 32 % 4294967296) = ((x * 32 % 4294967296 : Nat) : Int) by omega, show ((x : Int) / 134217728) = ((x / 134217728 : Nat) : Int) by omega, this]
    rfl
  have w5 : IntKind.u64.wrap 5 = 5 := by decide
  have w27 : IntKind.u64.wrap 27 = 27 := by decide
  have p5 : (2 : Int) ^ min (5 : Nat) IntKind.u32.bits = 32 := rfl
  have p27 : (2 : Int) ^ min (27 : Nat) IntKind.u32.bits = 134217728 := rfl
  have fd : (x : Int).fdiv 134217728 = (x : Int) / 134217728 := Int.fdiv_eq_ediv_of_nonneg _ (by omega)
  simp [zbw, w5, h5, w27, p5, p27, fd, IntKind.wrap_u32, hor]
theorem ztt (b : WM.Bytes) (s : Nat) (hs : s < 4294967296) : b.foldl WM.sumStep s < 4294967296 := by
  induction b generalizing s with
  | nil => exact hs
  | cons c r ih => exact ih _ (by unfold WM.sumStep; omega)
set_option maxRecDepth 20000 in
set_option maxHeartbeats 1000000 in
theorem zqp (b : Str) (hb : b.length ≤ 4611686018427387904) : QC Tryz.prog 21 [.ro (bsR b)] (.int .i64 (WM.sum b : Nat)) := by
  refine QC.of' fun H nx => ?_
  refine zmo _ H nx _ ?_
  simp [zkk, zam]
  refine LP.mk (fun k xs H' n' => ∃ (i q : Nat), k = b.length - i ∧ i ≤ b.length ∧ xs = [.int .u32 q, .ro (bsR b), .int .i64 b.length, .int .i64 i] ∧ q < 4294967296 ∧ (b.drop i).foldl WM.sumStep q = WM.sum b ∧ Keep nx H' H) b.length ⟨0, 2166136261, rfl, by omega, rfl, by omega, rfl, fun _ _ => rfl⟩ ?_
  rintro k xs H' n' ⟨i, q, rfl, hil, rfl, hq, hf, hk⟩
  by_cases hlt : i < b.length
  · have hadd : IntKind.i64.wrap ((i : Int) + 1) = ((i + 1 : Nat) : Int) := by rw [i64w (by omega)]; rfl
    have hcd : b.drop i = b[i] :: b.drop (i + 1) := List.drop_eq_getElem_cons hlt
    rw [hcd] at hf
    have hcell : (bsR b)[i]? = some [.int .u8 (b[i].toNat : Int)] := by simp [bsR, hlt]
    generalize b[i] = c at *
    have hc := c.toNat_lt
    have hx := u32_xor_nat q c.toNat hq (by omega)
    have hlx : q ^^^ c.toNat < 4294967296 := Nat.xor_lt_two_pow (n := 32) hq (by omega)
    simp only [List.foldl_cons, WM.sumStep] at hf
    have hw : IntKind.u32.wrap (c.toNat : Int) = (c.toNat : Int) := by rw [IntKind.wrap_u32]; omega
    simp [zgm, hlt, hcell, hw, hx]
    refine ⟨by rw [zam]; exact hlt, QC.call (zzg _ hlx) ?_⟩
    have hm : IntKind.u32.wrap ((WM.rot5 (q ^^^ c.toNat) : Int) * 16777619) = ((WM.rot5 (q ^^^ c.toNat) * 16777619 % 4294967296 : Nat) : Int) := by rw [IntKind.wrap_u32]; omega
    simp [zkl, hm, hadd]
    exact ⟨b.length - (i + 1), by omega, i + 1, rfl, by omega, _, ⟨by omega, rfl⟩, by omega, hf, hk⟩
  · obtain rfl : i = b.length := by omega
    rw [List.drop_length] at hf
    have h2 := ztt b 2166136261 (by omega)
    have hw : IntKind.i64.wrap ((q : Nat) : Int) = (q : Int) := i64w (by omega)
    simp [zgm, hw]
    exact ⟨by rw [← hf]; rfl, hk⟩
end Go.Proofs.YtiinnjjmoifoeaaGreatDoor
set_option maxRecDepth 8000
namespace Go.Proofs.YtiinnjjmoifoeaaGreatDoor
open Go Go.RowKit
theorem zzw {b : Str} {i : Nat} (h : i < b.length) : (bsR b)[i]? = some [.int .u8 (b[i].toNat : Int)] := by simp [bsR, h]
theorem min7 {i : Nat} (h : i ≤ 9) : min ((7 : Int) * i).toNat IntKind.u64.bits = 7 * i := by
  have : IntKind.u64.bits = 64 := rfl
  omega
theorem zxx (u : Nat) : ((u : Nat) : Int).fdiv 2 = (u : Int) / 2 := Int.fdiv_eq_ediv_of_nonneg _ (by omega)
set_option maxRecDepth 20000 in
set_option maxHeartbeats 2000000 in
theorem zhq (b : Str) (hb : b.length ≤ 4611686018427387904) : QC Tryz.prog 19 [.ro (bsR b)] (.tup [.int .i64 (WM.getNum b).1, .int .i64 (WM.getNum b).2.1, .int .i64 (WM.getNum b).2.2]) := by
  refine QC.of' fun H nx => ?_
  suffices main : ∀ Q : AV → Heap → Nat → Prop, (∀ H' n', Keep nx H' H → Q (.tup [.int .i64 (WM.getNum b).1, .int .i64 (WM.getNum b).2.1, .int .i64 (WM.getNum b).2.2]) H' n') → zb Tryz.prog 19 [.ro (bsR b)] H nx Q from
    main _ fun H' n' h => ⟨.same _ (.tup _ fun j v hv => by
      match j, hv with
      | 0, hv => cases hv; exact .int _ _
      | 1, hv => cases hv; exact .int _ _
      | 2, hv => cases hv; exact .int _ _
      | j + 3, hv => simp at hv), h⟩
  intro Q hQ
  refine zkh _ H nx _ ?_
  simp [zgv, zam]
  refine LP.mk (fun k xs H' n' => ∃ (i u : Nat), k = b.length - i ∧ i ≤ b.length ∧ i ≤ 9 ∧ xs = [.int .u64 u, .ro (bsR b), .int .i64 b.length, .int .i64 i] ∧ u < 2 ^ (7 * i) ∧ WM.getFrom i u (b.drop i) = WM.getNum b ∧ Keep nx H' H) b.length ⟨0, 0, rfl, by omega, by omega, rfl, by simp, rfl, fun _ _ => rfl⟩ ?_
  rintro k xs H' n' ⟨i, u, rfl, hil, hi9, rfl, hu, hf, hk⟩
  suffices key : ∀ K : J3, (∀ (u : Nat), i + 1 ≤ b.length → i + 1 ≤ 9 → u < 2 ^ (7 * (i + 1)) → WM.getFrom (i + 1) u (b.drop (i + 1)) = WM.getNum b → K [.int .u64 u, .ro (bsR b), .int .i64 b.length, .int .i64 (i + 1 : Nat)] H' n') →
      zab Q K [.int .u64 u, .ro (bsR b), .int .i64 b.length, .int .i64 i] H' n' from
    key _ fun u h1 h2 h3 h4 => ⟨b.length - (i + 1), by omega, i + 1, u, rfl, h1, h2, rfl, h3, h4, hk⟩
  intro K hK
  have fin := hQ H' n' hk
  rw [← hf] at fin
  by_cases hlt : i < b.length
  · have hadd : IntKind.i64.wrap ((i : Int) + 1) = ((i + 1 : Nat) : Int) := by rw [i64w (by omega)]; rfl
    have h7 : IntKind.i64.wrap (7 * (i : Int)) = 7 * i := i64w (by omega)
    have hcell := zzw hlt
    have hcd : b.drop i = b[i] :: b.drop (i + 1) := List.drop_eq_getElem_cons hlt
    rw [hcd] at hf fin
    have hc := b[i].toNat_lt
    generalize b[i] = cc at *
    have hin : i < (bsR b).length := by rw [zam]; exact hlt
    have hs9 : ¬ (9 : Int) < i := by omega
    have hi0 : ¬ 9 < i := by omega
    by_cases hr : i = 9 ∧ 1 < cc.toNat
    · have e : WM.getFrom i u (cc :: b.drop (i + 1)) = (0, 0, 3) := by unfold WM.getFrom; rw [if_pos (.inr hr)]
      rw [e] at fin
      have hr1 : (i : Int) = 9 := by omega
      have hr3 : (1 : Int) < cc.toNat := by omega
      simp [zab, hlt, hcell, hs9, hr3]
      exact ⟨hin, fun _ => fin, fun h => absurd hr1 h⟩
    have h9 : i = 9 → cc.toNat ≤ 1 := fun h => by
      have : ¬ 1 < cc.toNat := fun h2 => hr ⟨h, h2⟩
      omega
    have st := zwb i u cc.toNat hi9 hu (by omega) h9
    have sl := zqd i u cc.toNat hi9 hu (by omega) h9
    have sn := znw i u cc.toNat hu
    have e0 : WM.getFrom i u (cc :: b.drop (i + 1)) = if 128 ≤ cc.toNat then WM.getFrom (i + 1) (u + cc.toNat % 128 * 2 ^ (7 * i)) (b.drop (i + 1)) else if cc.toNat = 0 ∧ 0 < i then (0, 0, 2) else (WM.zag (u + cc.toNat % 128 * 2 ^ (7 * i)), (i : Int) + 1, 0) := by
      conv => lhs; unfold WM.getFrom
      rw [if_neg (fun h => h.elim hi0 hr)]
    rw [e0] at fin hf
    generalize hq : u + cc.toNat % 128 * 2 ^ (7 * i) = q at *
    generalize cc.toNat = m at *
    have hm7 := min7 hi9
    by_cases h128 : 128 ≤ m
    · rw [if_pos h128] at hf
      have h128' : (128 : Int) ≤ m := by omega
      have i9 : ¬ i = 9 := fun h => by have := h9 h; omega
      have i9' : ¬ (i : Int) = 9 := by omega
      have hk2 := hK q (by omega) (by omega) sn hf
      have h70 : (0 : Int) ≤ 7 * i := by omega
      have hcast : ((i + 1 : Nat) : Int) = (i : Int) + 1 := by omega
      rw [hcast] at hk2 hadd
      simp [zab, hlt, hcell, hs9, i9', h128', h7, hm7, st, hadd]
      exact ⟨hin, h70, hk2⟩
    · rw [if_neg h128] at fin
      have h128' : ¬ (128 : Int) ≤ m := by omega
      have h9' : ¬ (1 : Int) < m ∨ ¬ (i : Int) = 9 := by omega
      have h70 : (0 : Int) ≤ 7 * i := by omega
      have p1 : (2 : Int) ^ min (1 : Nat) IntKind.u64.bits = 2 := rfl
      have hw64 : IntKind.i64.wrap ((q : Int) / 2) = wrap64 ((q : Int) / 2) := by rw [IntKind.wrap_i64]; unfold wrap64; rfl
      have hcast : ((i + 1 : Nat) : Int) = (i : Int) + 1 := by omega
      rw [hcast] at hadd
      have sg : IntKind.i64.signed = true := rfl
      by_cases hz : m = 0 ∧ 0 < i
      · rw [if_pos hz] at fin
        obtain ⟨rfl, hz2⟩ := hz
        simp [zab, hlt, hcell, hs9, h7, h70]
        exact ⟨hin, fun _ => fin, fun h => absurd h (by omega)⟩
      · rw [if_neg hz] at fin
        by_cases hodd : q % 2 = 1
        · have o1 := zxq q sl hodd
          have o2 := zyh q sl hodd
          simp only [beq_iff_eq] at o1
          simp [zab, hlt, hcell, hs9, h128', h7, hm7, st, hadd, p1, zxx, hw64, sg, o1, o2, h70]
          exact ⟨hin, fun h => ⟨fun h1 => absurd h1 (by have := h9 (by omega); omega), fun _ => ⟨fun h2 => ⟨fun h3 => absurd ⟨h2, h3⟩ hz, fun _ => fin⟩, fun _ => fin⟩⟩, fun _ => ⟨fun h2 => ⟨fun h3 => absurd ⟨h2, h3⟩ hz, fun _ => fin⟩, fun _ => fin⟩⟩
        · have o1 := zuz q sl hodd
          have o2 := zvb q sl hodd
          have o1' : ¬ bits BinOp.and IntKind.u64 (q : Int) 1 = 1 := by simpa using o1
          simp [zab, hlt, hcell, hs9, h128', h7, hm7, st, hadd, p1, zxx, hw64, o1', o2, h70]
          exact ⟨hin, fun h => ⟨fun h1 => absurd h1 (by have := h9 (by omega); omega), fun _ => ⟨fun h2 => ⟨fun h3 => absurd ⟨h2, h3⟩ hz, fun _ => fin⟩, fun _ => fin⟩⟩, fun _ => ⟨fun h2 => ⟨fun h3 => absurd ⟨h2, h3⟩ hz, fun _ => fin⟩, fun _ => fin⟩⟩
  · obtain rfl : i = b.length := by omega
    rw [List.drop_length] at fin
    simp [zab]
    exact fin
end Go.Proofs.YtiinnjjmoifoeaaGreatDoor
set_option maxRecDepth 8000
namespace Go.Proofs.YtiinnjjmoifoeaaGreatDoor
open Go Go.RowKit
section
variable {ki kj : IntKind}
theorem zrz {s : Nat} {xs : List (List AV)} {a b : Int} {H : Heap} {k : AV → Prop} (hs : ∀ x ∈ xs, x.length = s) (h0 : 0 ≤ a) (h1 : a ≤ b) (h2 : b ≤ xs.length) (hk : k (.ro ((xs.take b.toNat).drop a.toNat))) : SL s (.ro xs) (some (.int ki a)) (some (.int kj b)) H k := by
  simp only [SL, zai, lohi, PURE, qk]
  exact ⟨h0, h1, h2, hs, hk⟩
end
theorem zgs : ∀ s : Str, bytesOf? (bsV s) = some s
  | [] => rfl
  | c :: r => by
    have ih := zgs r
    simp only [bsV] at ih
    simp [bsV, bytesOf?, ih]
theorem zmc {s : Str} {H : Heap} {k : AV → Prop} (hk : k (.str s)) : CBS (.ro (bsR s)) H k := by
  have e : ze 1 H (.ro (bsR s)) = some (s.length, bsV s, []) := by
    simp only [ze, zam, zli]
    rw [if_pos]
    simpa using zfl s
  simp only [CBS, zbt, e, zgs, qk]
  exact hk
theorem zyx (b : Str) (i j : Nat) : ((bsR b).take j).drop i = bsR ((b.take j).drop i) := by simp [bsR]
theorem zuu {A : Nat → Prop} (a : Str) (b c : Int) : Bel A (.tup [.str a, .int .i64 b, .int .i64 c]) := .tup _ fun j v hv => by
  match j, hv with
  | 0, hv => cases hv; exact .str _
  | 1, hv => cases hv; exact .int _ _
  | 2, hv => cases hv; exact .int _ _
  | j + 3, hv => simp at hv
theorem zyp {n nx : Nat} {a : Str} {b c : Int} {H' H : Heap} (h : Keep nx H' H) : Frz H' n (.tup [.str a, .int .i64 b, .int .i64 c]) (.tup [.str a, .int .i64 b, .int .i64 c]) ∧ Keep nx H' H := ⟨.same _ (zuu a b c), h⟩
set_option maxRecDepth 20000 in
set_option maxHeartbeats 2000000 in
theorem zpv (b : Str) (most : Int) (hb : b.length ≤ 4611686018427387904) : QC Tryz.prog 20 [.ro (bsR b), .int .i64 most] (.tup [.str (WM.getText b most).1, .int .i64 (WM.getText b most).2.1, .int .i64 (WM.getText b most).2.2]) := by
  refine QC.of' fun H nx => ?_
  suffices main : ∀ Q : AV → Heap → Nat → Prop, (∀ H' n', Keep nx H' H → Q (.tup [.str (WM.getText b most).1, .int .i64 (WM.getText b most).2.1, .int .i64 (WM.getText b most).2.2]) H' n') → zb Tryz.prog 20 [.ro (bsR b), .int .i64 most] H nx Q from
    main _ fun H' n' h => zyp h
  intro Q hQ
  refine zje _ _ H nx _ ?_
  unfold zfz
  refine QC.call (zhq b hb) ?_
  have fin := hQ H nx fun _ _ => rfl
  unfold WM.getText at fin
  by_cases h1 : (WM.getNum b).2.2 = 0
  case neg =>
    rw [if_pos h1] at fin
    simp [zar, h1]
    exact fin
  rw [if_neg (fun h => h h1)] at fin
  obtain ⟨k, hk, hk1, hn, _⟩ := WM.getNum_ok b h1
  by_cases h2 : (WM.getNum b).1 < 0
  · rw [if_pos (.inl h2)] at fin
    simp [zar, h1, h2]
    exact fin
  by_cases h3 : most < (WM.getNum b).1
  · rw [if_pos (.inr h3)] at fin
    simp [zar, h1, h2, h3]
    exact fin
  rw [if_neg (fun h => h.elim h2 h3)] at fin
  rw [hn] at fin
  generalize (WM.getNum b).1 = n at *
  have hw : IntKind.i64.wrap ((b.length : Int) - k) = (b.length : Int) - k := i64w (by omega)
  by_cases h4 : (b.length : Int) - k < n
  · rw [if_pos h4] at fin
    simp [zar, h1, hn, h2, h3, zam, hw, h4]
    exact fin
  · rw [if_neg h4] at fin
    have hw2 : IntKind.i64.wrap ((k : Int) + n) = (k : Int) + n := i64w (by omega)
    simp [zar, h1, hn, h2, h3, zam, hw, h4, hw2]
    refine zrz (zfl b) (by omega) (by omega) (by rw [zam]; omega) ?_
    rw [zyx]
    refine zmc ?_
    have e : (b.take ((k : Int) + n).toNat).drop ((k : Int)).toNat = (b.drop ((k : Int)).toNat).take n.toNat := by
      rw [List.drop_take]; congr 1; omega
    rw [e]
    exact fin
end Go.Proofs.YtiinnjjmoifoeaaGreatDoor
set_option maxRecDepth 8000
namespace Go.Proofs.YtiinnjjmoifoeaaGreatDoor
open Go Go.RowKit
theorem zub {l : List Int} {i : Nat} (h : i < l.length) : VM.nums (l.take (i + 1)) = VM.nums (l.take i) ++ WM.num l[i] := by
  unfold VM.nums
  rw [List.take_succ_eq_append_getElem h, List.flatMap_append]
  simp
theorem zlb (l : List Int) : (VM.nums l).length ≤ 10 * l.length := by
  unfold VM.nums
  induction l with
  | nil => simp
  | cons a l ih => simp only [List.flatMap_cons, List.length_append, List.length_cons]; have := zhb a; omega
set_option maxRecDepth 20000 in
set_option maxHeartbeats 2000000 in
theorem znc (x : Pkt) (h1 : I64 x.kind) (h2 : I64 x.frm) (h3 : I64 x.to) (h4 : I64 x.id) (h5 : I64 x.trip) (hd : x.data.length ≤ 140737488351232) :
    QC Tryz.prog 8 [.agg x.avs] (.ro (bsR (VM.packet x))) := by
  refine QC.of' fun H nx => ?_
  suffices main : ∀ Q : AV → Heap → Nat → Prop, (∀ H' n' g, nx ≤ g → H' g = some (.row 1 (bsV (VM.packet x))) → Keep nx H' H → Q (.slc g 0 (VM.packet x).length) H' n') → zb Tryz.prog 8 [.agg x.avs] H nx Q from
    main _ fun H' n' g h1 h2 h3 => ⟨(Slot.full h2 (by rw [zbl]; omega)).frzB (by simpa [own] using h1), h3⟩
  intro Q hQ
  refine zkz _ H nx _ ?_
  have al : x.avs.length = 6 := rfl
  have at6 : x.avs.take 6 = x.avs := rfl
  have hsu : (AV.agg x.avs).sure = true := by simp [Pkt.avs]
  have xav : x.avs = [.int .i64 x.kind, .int .i64 x.frm, .int .i64 x.to, .int .i64 x.id, .int .i64 x.trip, .ro (bsR x.data)] := rfl
  unfold ziq
  refine ⟨hsu, ?_⟩
  simp [xav]
  generalize hX : Heap.put _ (nx + 1) _ = X
  have x1 : X (nx + 1) = some (.row 1 ([x.kind, x.frm, x.to, x.id, x.trip].map (AV.int .i64))) := by rw [← hX, Heap.put_at]; rfl
  have x0 : X nx = some (.row 6 x.avs) := by rw [← hX, Heap.put_ne _ _ (by omega), Heap.put_at]; rfl
  have xk : ∀ y, y < nx → X y = H y := fun y hy => by rw [← hX, Heap.put_ne _ _ (by omega), Heap.put_ne _ _ (by omega)]
  clear hX
  generalize hns : [x.kind, x.frm, x.to, x.id, x.trip] = ns at x1
  have nl : ns.length = 5 := by rw [← hns]; rfl
  have ni : ∀ n ∈ ns, I64 n := by
    rw [← hns]; intro n hn
    simp only [List.mem_cons, List.not_mem_nil, or_false] at hn
    rcases hn with rfl | rfl | rfl | rfl | rfl <;> assumption
  have nll := fun i => zlb (ns.take i)
  refine LP.mk (fun k xs H' n' => ∃ (i : Nat) (l' : AV), k = 5 - i ∧ i ≤ 5 ∧ xs = [.ptr nx 0, l', .slc (nx + 1) 0 5, .int .i64 5, .int .i64 i] ∧ Slot H' 1 (VM.nums (ns.take i)).length (bsV (VM.nums (ns.take i))) l' ∧ (∀ y ∈ own l', nx + 2 ≤ y ∧ y < n') ∧ nx + 2 ≤ n' ∧ ∀ y, y < nx + 2 → H' y = X y) 5 ⟨0, .nils, rfl, by omega, rfl, .inl ⟨rfl, .inl rfl⟩, by simp [own], by omega, fun _ _ => rfl⟩ ?_
  rintro k xs H' n' ⟨i, l', rfl, hi, rfl, hs, ho, hn, kp⟩
  have y0 : H' nx = some (.row 6 x.avs) := (kp _ (by omega)).trans x0
  have y1 : H' (nx + 1) = some (.row 1 (ns.map (AV.int .i64))) := (kp _ (by omega)).trans x1
  by_cases hlt : i < 5
  · have hlt' : (i : Int) < 5 := by omega
    have hadd : IntKind.i64.wrap ((i : Int) + 1) = ((i + 1 : Nat) : Int) := by rw [i64w (by omega)]; rfl
    have hm : ns[i]? = some (ns[i]'(by omega)) := List.getElem?_eq_getElem (by omega)
    have hw := zub (l := ns) (i := i) (by omega)
    have hin := ni _ (List.getElem_mem (l := ns) (n := i) (by omega))
    generalize hmm : (ns[i]'(by omega)) = m at hm hw hin
    have := nll i
    have ln : (ns.take i).length ≤ 5 := by rw [List.length_take]; omega
    simp [zer, hlt', y1, hm]
    refine zjz hs (by omega) hin (fun y hy => (ho y hy).2) fun H2 n2 g b => ?_
    have b1 := b.lo
    have b2 := b.hi
    simp [ziu, hadd]
    refine ⟨5 - (i + 1), by omega, i + 1, rfl, by omega, _, ⟨rfl, rfl⟩, ?_, ?_, by omega, fun y hy => ?_⟩
    · have := Slot.full (k := (VM.nums (ns.take i) ++ WM.num m).length) b.row (by rw [zbl]; omega)
      rw [hw]
      simpa using this
    · simp [own]; omega
    · rw [b.keep y (by omega) fun hc => by have := (ho y hc).1; omega]; exact kp y hy
  · have e5 : i = 5 := by omega
    subst e5
    have tk : ns.take 5 = ns := List.take_of_length_le (by omega)
    rw [tk] at hs
    have l5 := zlb ns
    have y05 : x.avs[5]? = some (.ro (bsR x.data)) := rfl
    simp [zer, y0, y05]
    refine zmc ?_
    refine zvs hs (by omega) (fun y hy => (ho y hy).2) fun H2 n2 g b => ?_
    have pk : VM.nums ns ++ VM.textB x.data = VM.pkB x := by rw [← hns]; rfl
    have tl := znb x.data
    rw [pk] at b
    have pl : (VM.pkB x).length ≤ 140737488351232 + 60 := by rw [← pk, List.length_append]; omega
    have b1 := b.lo
    have b2 := b.hi
    simp only [zir, pk]
    have fz : Frz H2 0 (.slc g 0 (VM.pkB x).length) (.ro (bsR (VM.pkB x))) := (Slot.full (k := (VM.pkB x).length) b.row (by rw [zbl]; omega)).frzB fun _ _ => by omega
    refine (zqp (VM.pkB x) (by omega)).readsC (by simp) (.cons fz .nil) ?_
    simp only [zis]
    have sl := VM.sum_lt (VM.pkB x)
    refine zjz (Slot.full (k := (VM.pkB x).length) b.row (by rw [zbl]; omega)) (by omega) (by omega) (fun y hy => by simp [own] at hy; omega) fun H3 n3 g3 b3 => ?_
    simp only [zit]
    have c1 := b3.lo
    refine hQ H3 n3 g3 (by omega) b3.row fun y hy => ?_
    rw [b3.keep y (by omega) (fun hc => by simp [own] at hc; omega), b.keep y (by omega) (fun hc => by have := (ho y hc).1; omega), kp y (by omega), xk y hy]
end Go.Proofs.YtiinnjjmoifoeaaGreatDoor
set_option maxRecDepth 8000
namespace Go.Proofs.YtiinnjjmoifoeaaGreatDoor
open Go Go.RowKit
inductive FL (H : Heap) (nx : Nat) : List AV → List AV → Prop
  | nil : FL H nx [] []
  | cons {u v : AV} {us vs : List AV} : Frz H nx u v → FL H nx us vs → FL H nx (u :: us) (v :: vs)
section
variable {H : Heap} {nx : Nat}
theorem FL.append : ∀ {us vs us' vs' : List AV}, FL H nx us vs → FL H nx us' vs' → FL H nx (us ++ us') (vs ++ vs')
  | _, _, _, _, .nil, k => k
  | _, _, _, _, .cons a b, k => .cons a (b.append k)
theorem FL.same : ∀ {l : List AV}, (∀ c ∈ l, Bel (· < nx) c) → FL H nx l l
  | [], _ => .nil
  | c :: r, h => .cons (.same _ (h c (by simp))) (FL.same fun x hx => h x (by simp [hx]))
theorem FL.get : ∀ {us vs : List AV}, FL H nx us vs → ∀ {j : Nat} {v : AV}, vs[j]? = some v → ∃ u, us[j]? = some u ∧ Frz H nx u v
  | _, _, .nil, j, v, h => by simp at h
  | _, _, .cons a b, 0, v, h => by simp at h; subst h; exact ⟨_, rfl, a⟩
  | _, _, .cons a b, j + 1, v, h => by simpa using b.get (j := j) (by simpa using h)
theorem FL.len : ∀ {us vs : List AV}, FL H nx us vs → us.length = vs.length
  | _, _, .nil => rfl
  | _, _, .cons a b => by simp [b.len]
theorem FL.agg {us vs : List AV} (h : FL H nx us vs) : Frz H nx (.agg us) (.agg vs) := by
  refine .agg _ _ h.len.symm fun j v u hv hu => ?_
  obtain ⟨w, q1, q2⟩ := h.get hu
  rw [hv] at q1; cases q1; exact q2
theorem FL.tup {us vs : List AV} (h : FL H nx us vs) : Frz H nx (.tup us) (.tup vs) := by
  refine .tup _ _ h.len.symm fun j v u hv hu => ?_
  obtain ⟨w, q1, q2⟩ := h.get hu
  rw [hv] at q1; cases q1; exact q2
end
end Go.Proofs.YtiinnjjmoifoeaaGreatDoor
set_option maxRecDepth 8000
namespace Go.Proofs.YtiinnjjmoifoeaaGreatDoor
open Go Go.RowKit
def zpk : List AV := [.int .i64 0, .int .i64 0, .int .i64 0, .int .i64 0, .int .i64 0, .nils]
theorem zxk {A : Nat → Prop} (b : Str) : Bel A (.ro (bsR b)) := .ro _ fun _ x _ v hx hv => zor (zpn _ x (List.mem_of_getElem? hx) v (List.mem_of_getElem? hv))
theorem zwk {H : Heap} {nx : Nat} (e : Int) : Frz H nx (.tup [.agg zpk, .int .i64 e]) (.tup [.agg VM.pk0.avs, .int .i64 e]) :=
  FL.tup (.cons (FL.agg (.cons (.same _ (.int _ _)) (.cons (.same _ (.int _ _)) (.cons (.same _ (.int _ _)) (.cons (.same _ (.int _ _)) (.cons (.same _ (.int _ _)) (.cons .nils .nil))))))) (.cons (.same _ (.int _ _)) .nil))
def VM.ahead {α : Type} (l : List α) : VM.R (List α) → VM.R (List α)
  | .ok l' r => .ok (l ++ l') r
  | .no e => .no e
theorem znd {ki : IntKind} {b : Str} {k : Nat} {H : Heap} {kt : Kt} (h : k ≤ b.length) (hk : kt (.ro (bsR (b.drop k))) [] [] []) : zai 1 (.ro (bsR b)) (some (.int ki (k : Int))) none H kt := by
  simp only [zai, lohi, PURE, Int.toNat_natCast, List.take_length]
  refine ⟨by omega, by rw [zam]; omega, Int.le_refl _, zfl b, ?_⟩
  have e : (bsR b).drop k = bsR (b.drop k) := by simp [bsR]
  rw [e]; exact hk
theorem zzf {ki : IntKind} {b : Str} {k : Nat} {H : Heap} {kk : AV → Prop} (h : k ≤ b.length) (hk : kk (.ro (bsR (b.drop k)))) : SL 1 (.ro (bsR b)) (some (.int ki (k : Int))) none H kk := by
  simp only [SL]
  exact znd h hk
theorem zze {b : Str} {j : Nat} {H : Heap} {kk : AV → Prop} {ki : IntKind} (h : j ≤ b.length) (hk : kk (.ro (bsR (b.take j)))) : SL 1 (.ro (bsR b)) none (some (.int ki (j : Int))) H kk := by
  simp only [SL, zai, lohi, PURE, qk, Int.toNat_natCast]
  refine ⟨by omega, by omega, by rw [zam]; omega, zfl b, ?_⟩
  have e : ((bsR b).take j).drop (Int.toNat 0) = bsR (b.take j) := by simp [bsR]
  rw [e]; exact hk
theorem VM.ahead_ahead {α : Type} (l m : List α) (r : VM.R (List α)) : VM.ahead l (VM.ahead m r) = VM.ahead (l ++ m) r := by
  cases r <;> simp [VM.ahead]
theorem VM.nums_succ (k : Nat) (b : Str) : VM.rMany VM.rNum (k + 1) b = if (WM.getNum b).2.2 ≠ 0 then .no (WM.getNum b).2.2 else VM.ahead [(WM.getNum b).1] (VM.rMany VM.rNum k (b.drop (WM.getNum b).2.1.toNat)) := by
  simp only [VM.rMany, VM.Rd.bind, VM.rNum]
  split
  · rename_i n r h
    split at h
    · cases h
    · cases h
      rename_i h0
      rw [if_neg h0]
      cases VM.rMany VM.rNum k (b.drop (WM.getNum b).2.1.toNat) <;> rfl
  · rename_i e h
    split at h
    · cases h; rename_i h0; rw [if_pos h0]
    · cases h
set_option maxRecDepth 20000 in
set_option maxHeartbeats 2000000 in
theorem ztx (x : Pkt) : QC Tryz.prog 9 [.agg x.avs, .agg x.avs] (.bool true) := by
  refine QC.of' fun H nx => ?_
  suffices main : ∀ Q : AV → Heap → Nat → Prop, (∀ H' n', Keep nx H' H → Q (.bool true) H' n') → zb Tryz.prog 9 [.agg x.avs, .agg x.avs] H nx Q from main _ fun H' n' h => ⟨zpa, h⟩
  intro Q hQ
  refine zfw _ _ H nx _ ?_
  have al : x.avs.length = 6 := rfl
  have hsu : (AV.agg x.avs).sure = true := by simp [Pkt.avs]
  have xav : x.avs = [.int .i64 x.kind, .int .i64 x.frm, .int .i64 x.to, .int .i64 x.id, .int .i64 x.trip, .ro (bsR x.data)] := rfl
  unfold zdg
  refine ⟨hsu, ?_⟩
  have n1 : ¬ nx = nx + 1 := by omega
  simp [xav]
  refine zmc (zmc ?_)
  simp
  exact hQ _ _ fun y hy => by rw [Heap.put_ne _ _ (by omega), Heap.put_ne _ _ (by omega)]
set_option maxRecDepth 20000 in
set_option maxHeartbeats 2000000 in
theorem zna (b : Str) (hb : b.length ≤ 4611686018427387904) : QC Tryz.prog 7 [.ro (bsR b)] (.tup [.agg (VM.parseP b).1.avs, .int .i64 (VM.parseP b).2]) := by
  refine QC.of' fun H nx => ?_
  suffices main : ∀ Q : AV → Heap → Nat → Prop, (∀ v H' n', Frz H' nx v (.tup [.agg (VM.parseP b).1.avs, .int .i64 (VM.parseP b).2]) → Keep nx H' H → Q v H' n') → zb Tryz.prog 7 [.ro (bsR b)] H nx Q from
    main _ fun v H' n' h1 h2 => ⟨h1, h2⟩
  intro Q hQ
  have err : ∀ {e : Int} {H' : Heap} {n' : Nat}, VM.parseP b = (VM.pk0, e) → Keep nx H' H → Q (.tup [.agg zpk, .int .i64 e]) H' n' := fun he hk => hQ _ _ _ (by rw [he]; exact zwk _) hk
  refine zky _ H nx _ ?_
  simp [zip]
  generalize hX : Heap.put _ (nx + 2) _ = X
  have x2 : X (nx + 2) = some (.row 1 [.ptr (nx + 1) 0, .ptr (nx + 1) 1, .ptr (nx + 1) 2, .ptr (nx + 1) 3, .ptr (nx + 1) 4]) := by rw [← hX, Heap.put_at]
  have x1 : X (nx + 1) = some (.row 6 zpk) := by rw [← hX, Heap.put_ne _ _ (by omega), Heap.put_at]; rfl
  have x0 : X nx = some (.row 6 zpk) := by rw [← hX, Heap.put_ne _ _ (by omega), Heap.put_ne _ _ (by omega), Heap.put_at]; rfl
  have xk : ∀ y, y < nx → X y = H y := fun y hy => by rw [← hX, Heap.put_ne _ _ (by omega), Heap.put_ne _ _ (by omega), Heap.put_ne _ _ (by omega)]
  clear hX
  refine LP.mk (fun k xs H' n' => ∃ (i : Nat) (acc : List Int) (rest : Str), k = 5 - i ∧ i ≤ 5 ∧ acc.length = i ∧ xs = [.ro (bsR b), .ptr nx 0, .ptr (nx + 1) 0, .ro (bsR rest), .slc (nx + 2) 0 5, .int .i64 5, .int .i64 i] ∧
    VM.rMany VM.rNum 5 b = VM.ahead acc (VM.rMany VM.rNum (5 - i) rest) ∧ rest.length ≤ b.length ∧ H' nx = some (.row 6 zpk) ∧ H' (nx + 1) = some (.row 6 (acc.map (AV.int .i64) ++ zpk.drop i)) ∧ H' (nx + 2) = some (.row 1 [.ptr (nx + 1) 0, .ptr (nx + 1) 1, .ptr (nx + 1) 2, .ptr (nx + 1) 3, .ptr (nx + 1) 4]) ∧ n' = nx + 3 ∧ ∀ y, y < nx → H' y = H y) 5
    ⟨0, [], b, rfl, by omega, rfl, rfl, ?_, by omega, x0, x1, x2, rfl, xk⟩ ?_
  · cases VM.rMany VM.rNum 5 b <;> rfl
  rintro k xs H' n' ⟨i, acc, rest, rfl, hi, ha, rfl, hr, hl, y0, y1, y2, rfl, kp⟩
  have z6 : zpk.length = 6 := rfl
  by_cases hlt : i < 5
  · have hlt' : (i : Int) < 5 := by omega
    have hadd : IntKind.i64.wrap ((i : Int) + 1) = ((i + 1 : Nat) : Int) := by rw [i64w (by omega)]; rfl
    have hp : ([.ptr (nx + 1) 0, .ptr (nx + 1) 1, .ptr (nx + 1) 2, .ptr (nx + 1) 3, .ptr (nx + 1) 4] : List AV)[i]? = some (.ptr (nx + 1) i) := by
      match i, hlt with
      | 0, _ => rfl
      | 1, _ => rfl
      | 2, _ => rfl
      | 3, _ => rfl
      | 4, _ => rfl
    simp [zeo, hlt', y2, hp]
    refine QC.call (zhq rest (by omega)) ?_
    rw [show 5 - i = (5 - (i + 1)) + 1 by omega] at hr
    rw [VM.nums_succ (5 - (i + 1)) rest] at hr
    by_cases he : (WM.getNum rest).2.2 = 0
    case neg =>
      rw [if_pos he] at hr
      have hpb : VM.parseP b = (VM.pk0, (WM.getNum rest).2.2) := by unfold VM.parseP; rw [hr]; rfl
      simp [zeq, he, y0, z6]
      exact err hpb fun y hy => by rw [Heap.put_ne _ _ (by omega), kp y hy]
    rw [if_neg (fun h => h he), VM.ahead_ahead] at hr
    obtain ⟨kk, hk, hk1, hn, _⟩ := WM.getNum_ok rest he
    have i64 := WM.getNum_i64 rest he
    rw [hn] at hr
    generalize (WM.getNum rest).1 = m at *
    have pl : (acc.map (AV.int .i64) ++ zpk.drop i).length = 6 := by rw [List.length_append, List.length_map, List.length_drop]; omega
    have sp : (acc.map (AV.int .i64) ++ zpk.drop i).take i ++ .int .i64 m :: (acc.map (AV.int .i64) ++ zpk.drop i).drop (i + 1) = (acc ++ [m]).map (AV.int .i64) ++ zpk.drop (i + 1) := by
      rw [List.take_left' (by rw [List.length_map]; exact ha), ← List.drop_drop]
      simp [ha]
    simp [zeq, he, hn, hadd]
    refine znd hk ?_
    simp [y1, pl]
    exact ⟨by omega, 5 - (i + 1), by omega, i + 1, rfl, by omega, acc ++ [m], by simp [ha], rest.drop kk, ⟨rfl, by omega⟩, by rw [Int.toNat_natCast] at hr; exact hr, by rw [List.length_drop]; omega, y0, sp, y2, fun y hy => by rw [if_neg (by omega)]; exact kp y hy⟩
  · have e5 : i = 5 := by omega
    subst e5
    simp [zeo, zam]
    refine QC.call (zpv rest rest.length (by omega)) ?_
    have hpb : VM.parseP b = VM.parseP2 b acc rest := by
      unfold VM.parseP; rw [hr]; simp [VM.rMany, VM.Rd.pure, VM.ahead]
    by_cases ht : (WM.getText rest rest.length).2.2 = 0
    case neg =>
      have hpe : VM.parseP b = (VM.pk0, (WM.getText rest rest.length).2.2) := by rw [hpb]; simp only [VM.parseP2]; rw [if_pos ht]
      simp [zep, ht, y0, z6]
      exact err hpe fun y hy => by rw [Heap.put_ne _ _ (by omega), kp y hy]
    have hk : ∃ k : Nat, k ≤ rest.length ∧ (WM.getText rest rest.length).2.1 = (k : Int) := by
      have h := ht
      unfold WM.getText at h ⊢
      split at h
      · rename_i q; exact absurd h q
      rename_i q0
      rw [if_neg q0]
      split at h
      · simp at h
      rename_i q1
      rw [if_neg q1]
      split at h
      · simp at h
      rename_i q2
      rw [if_neg q2]
      have hb2 := WM.getNum_bounds rest
      exact ⟨((WM.getNum rest).2.1 + (WM.getNum rest).1).toNat, by omega, by simp only; omega⟩
    obtain ⟨k, hk, hn⟩ := hk
    simp only [VM.parseP2] at hpb
    rw [if_neg (fun h => h ht)] at hpb
    obtain ⟨a1, a2, a3, a4, a5, rfl⟩ : ∃ a1 a2 a3 a4 a5, acc = [a1, a2, a3, a4, a5] := by
      match acc, ha with
      | [a1, a2, a3, a4, a5], _ => exact ⟨a1, a2, a3, a4, a5, rfl⟩
    have y1' : H' (nx + 1) = some (.row 6 [.int .i64 a1, .int .i64 a2, .int .i64 a3, .int .i64 a4, .int .i64 a5, .nils]) := y1
    simp [zep, ht, y1']
    rw [hn] at hpb ⊢
    rw [Int.toNat_natCast] at hpb
    generalize (WM.getText rest rest.length).1 = data at *
    refine zzf hk ?_
    generalize hY : Heap.put _ (nx + 1) _ = Y
    have z1 : Y (nx + 1) = some (.row 6 [.int .i64 a1, .int .i64 a2, .int .i64 a3, .int .i64 a4, .int .i64 a5, .slc (nx + 3) 0 data.length]) := by rw [← hY, Heap.put_at]
    have z0 : Y nx = some (.row 6 zpk) := by rw [← hY, Heap.put_ne _ _ (by omega), Heap.put_ne _ _ (by omega)]; exact y0
    have z3 : Y (nx + 3) = some (.row 1 (bsV data)) := by rw [← hY, Heap.put_ne _ _ (by omega), Heap.put_at]; rfl
    have zk : ∀ y, y < nx → Y y = H y := fun y hy => by rw [← hY, Heap.put_ne _ _ (by omega), Heap.put_ne _ _ (by omega), kp y hy]
    clear hY
    refine QC.call (zhq (rest.drop k) (by rw [List.length_drop]; omega)) ?_
    by_cases hg : (WM.getNum (rest.drop k)).2.2 = 0
    case neg =>
      have hpe : VM.parseP b = (VM.pk0, (WM.getNum (rest.drop k)).2.2) := by rw [hpb, if_pos hg]
      simp [zcv, hg, z0, z6]
      exact err hpe fun y hy => by rw [Heap.put_ne _ _ (by omega), zk y hy]
    rw [if_neg (fun h => h hg)] at hpb
    obtain ⟨kg, kg1, kg2, kg3, _⟩ := WM.getNum_ok _ hg
    rw [List.length_drop] at kg1
    rw [kg3] at hpb
    rw [Int.toNat_natCast] at hpb
    have hsub : IntKind.i64.wrap ((rest.length : Int) - k) = ((rest.length - k : Nat) : Int) := by rw [i64w (by omega)]; omega
    by_cases hl2 : kg = rest.length - k
    case neg =>
      have hpe : VM.parseP b = (VM.pk0, 2) := by rw [hpb, if_pos (.inl (by omega))]
      have hne : ¬ (kg : Int) = ((rest.length - k : Nat) : Int) := by omega
      simp [zcv, hg, z0, z6, kg3, zam, hsub, hne]
      exact err hpe fun y hy => by rw [Heap.put_ne _ _ (by omega), zk y hy]
    have hsub2 : IntKind.i64.wrap ((b.length : Int) - kg) = ((b.length - kg : Nat) : Int) := by rw [i64w (by omega)]; omega
    have heq : (kg : Int) = ((rest.length - k : Nat) : Int) := by omega
    simp [zcv, hg, kg3, zam, hsub, heq]
    subst hl2
    rw [hsub2]
    refine zze (by omega) ?_
    refine QC.call (zqp _ (by rw [List.length_take]; omega)) ?_
    generalize hm : (WM.getNum (rest.drop k)).1 = m at *
    generalize hS : ((WM.sum (b.take (b.length - (rest.length - k))) : Nat) : Int) = S at *
    by_cases hs : m = S
    case neg =>
      have hpe : VM.parseP b = (VM.pk0, 2) := by rw [hpb, if_pos (.inr hs)]
      simp [zp, hs, z0, z6]
      exact err hpe fun y hy => by rw [Heap.put_ne _ _ (by omega), zk y hy]
    rw [if_neg (by rw [not_or]; exact ⟨fun h => h (by omega), fun h => h hs⟩)] at hpb
    simp only [List.getD_cons_zero, List.getD_cons_succ] at hpb
    have bad : ¬ Pkt.ok ⟨a1, a2, a3, a4, a5, data⟩ → VM.parseP b = (VM.pk0, 3) := fun h => by rw [hpb, if_neg h]
    have kk : ∀ o, Keep nx (Y.put nx o) H := fun o y hy => by rw [Heap.put_ne _ _ (by omega), zk y hy]
    by_cases c1 : a1 < 1
    · simp [zp, hs, z1, z0, z6, c1]
      exact err (bad fun h => by have := h.kind; simp only at this; omega) (kk _)
    by_cases c2 : 3 < a1
    · simp [zp, hs, z1, z0, z6, c1, c2]
      exact err (bad fun h => by have := h.kind; simp only at this; omega) (kk _)
    by_cases c3 : a2 < 0
    · simp [zp, hs, z1, z0, z6, c1, c2, c3]
      exact err (bad fun h => by have := h.frm; simp only at this; omega) (kk _)
    by_cases c4 : 4 ≤ a2
    · simp [zp, hs, z1, z0, z6, c1, c2, c3, c4]
      exact err (bad fun h => by have := h.frm; simp only at this; omega) (kk _)
    by_cases c5 : a3 < 0
    · simp [zp, hs, z1, z0, z6, c1, c2, c3, c4, c5]
      exact err (bad fun h => by have := h.to; simp only at this; omega) (kk _)
    by_cases c6 : 4 ≤ a3
    · simp [zp, hs, z1, z0, z6, c1, c2, c3, c4, c5, c6]
      exact err (bad fun h => by have := h.to; simp only at this; omega) (kk _)
    by_cases c7 : a4 < 0
    · simp [zp, hs, z1, z0, z6, c1, c2, c3, c4, c5, c6, c7]
      exact err (bad fun h => by have := h.id; simp only at this; omega) (kk _)
    by_cases c8 : a5 < 0
    · simp [zp, hs, z1, z0, z6, c1, c2, c3, c4, c5, c6, c7, c8]
      exact err (bad fun h => by have := h.trip; simp only at this; omega) (kk _)
    have hok : Pkt.ok ⟨a1, a2, a3, a4, a5, data⟩ := ⟨by simp only; omega, by simp only; omega, by simp only; omega, by simp only; omega, by simp only; omega⟩
    rw [if_pos hok] at hpb
    simp [zp, hs, z1, z0, z6, c1, c2, c3, c4, c5, c6, c7, c8]
    refine hQ _ _ _ ?_ (kk _)
    rw [hpb]
    have fz : Frz (Y.put nx (some (.row 6 [.int .i64 a1, .int .i64 a2, .int .i64 a3, .int .i64 a4, .int .i64 a5, .slc (nx + 3) 0 data.length]))) nx (.slc (nx + 3) 0 data.length) (.ro (bsR data)) :=
      (Slot.full (k := data.length) (by rw [Heap.put_ne _ _ (by omega)]; exact z3) (by rw [zbl]; omega)).frzB fun y hy => by simp [own] at hy; omega
    exact FL.tup (.cons (FL.agg (.cons (.same _ (.int _ _)) (.cons (.same _ (.int _ _)) (.cons (.same _ (.int _ _)) (.cons (.same _ (.int _ _)) (.cons (.same _ (.int _ _)) (.cons fz .nil))))))) (.cons (.same _ (.int _ _)) .nil))
end Go.Proofs.YtiinnjjmoifoeaaGreatDoor
set_option maxRecDepth 8000
namespace Go.Proofs.YtiinnjjmoifoeaaGreatDoor
open Go Go.RowKit
theorem VM.parseP_i64 {b : Str} {x : Pkt} (h : VM.parseP b = (x, 0)) : x.id ≤ 9223372036854775807 ∧ x.trip ≤ 9223372036854775807 := by
  unfold VM.parseP at h
  split at h
  · have e := congrArg Prod.fst h
    simp only at e; subst e
    simp [VM.pk0]
  rename_i l r hr
  obtain ⟨_, l5, hi⟩ := VM.rNums_ok 5 hr
  simp only [VM.parseP2] at h
  split at h
  · have e := congrArg Prod.fst h; simp only at e; subst e; simp [VM.pk0]
  split at h
  · have e := congrArg Prod.fst h; simp only at e; subst e; simp [VM.pk0]
  split at h
  · have e := congrArg Prod.fst h; simp only at e; subst e; simp [VM.pk0]
  split at h
  · have e := congrArg Prod.fst h
    simp only at e; subst e
    match l, l5, hi with
    | [a1, a2, a3, a4, a5], _, hi => exact ⟨(hi a4 (by simp)).2, (hi a5 (by simp)).2⟩
  · have e := congrArg Prod.fst h; simp only at e; subst e; simp [VM.pk0]
theorem zqb (x : Pkt) : x.data.length ≤ (VM.packet x).length := by
  unfold VM.packet VM.withSum VM.pkB VM.textB
  simp only [List.length_append]
  omega
theorem zmb {s : Str} {H : Heap} {k : Kt} (hk : k (.str s) [] [] []) : zbt (.ro (bsR s)) H k := by
  have e : ze 1 H (.ro (bsR s)) = some (s.length, bsV s, []) := by
    simp only [ze, zam, zli]
    rw [if_pos]
    simpa using zfl s
  simp only [zbt, e, zgs]
  exact hk
theorem zxt {x : Pkt} (h : x.ok) (h1 : x.id ≤ 9223372036854775807) (h2 : x.trip ≤ 9223372036854775807) : I64 x.kind ∧ I64 x.frm ∧ I64 x.to ∧ I64 x.id ∧ I64 x.trip := by
  obtain ⟨a1, a2, a3, a4, a5⟩ := h
  refine ⟨?_, ?_, ?_, ?_, ?_⟩ <;> (constructor <;> omega)
set_option maxRecDepth 20000 in
set_option maxHeartbeats 2000000 in
theorem zts {b : Str} {H : Heap} {nx : Nat} {Q : QT} (hb : b.length ≤ 140737488351232) (hq : ∀ H' n', (∀ y, y < nx → H' y = H y) → Q (.bool true) H' n') :
    zb Tryz.prog 7 [.ro (bsR b)] H nx (zg Q (.ro (bsR b))) := by
  refine QC.call (zna b (by omega)) ?_
  by_cases he : (VM.parseP b).2 = 0
  case neg =>
    have e0 := VM.parseP_err he
    have av : VM.pk0.avs = [.int .i64 0, .int .i64 0, .int .i64 0, .int .i64 0, .int .i64 0, .ro []] := rfl
    simp [zg, he, e0, av]
    exact hq _ _ fun y hy => Heap.put_ne _ _ (by omega)
  have hp : VM.parseP b = ((VM.parseP b).1, 0) := by rw [← he]
  obtain ⟨h1, h2⟩ := VM.parseP_ok hp
  obtain ⟨h3, h4⟩ := VM.parseP_i64 hp
  generalize (VM.parseP b).1 = x at *
  rw [he]
  obtain ⟨i1, i2, i3, i4, i5⟩ := zxt h2 h3 h4
  have hd := zqb x
  rw [h1] at hd
  have ht : x.avs.take 6 = x.avs ∧ x.avs.length = 6 ∧ x.avs.drop 6 = [] := ⟨rfl, rfl, rfl⟩
  have so : ∀ y ∈ x.avs, y.one = true := fun y hy => by
    simp [Pkt.avs] at hy
    rcases hy with rfl | rfl | rfl | rfl | rfl | rfl <;> rfl
  have hsu : (AV.agg x.avs).sure = true := by simp [Pkt.avs]
  simp [zg, ht, hsu]
  refine ⟨so, ?_⟩
  refine zgl.of_qc (znc x i1 i2 i3 i4 i5 (by omega)) (zxk _) ?_
  rw [h1]
  unfold zdm
  refine zmb (zmb ?_)
  simp
  exact hq _ _ fun y hy => Heap.put_ne _ _ (by omega)
set_option maxRecDepth 20000 in
set_option maxHeartbeats 4000000 in
theorem zop (alive : QC Tryz.prog 6 [] (.bool true)) (x : Pkt) (b : Str) (h1 : x.id ≤ 9223372036854775807) (h2 : x.trip ≤ 9223372036854775807) (hd : x.data.length ≤ 140737488351232) (hb : b.length ≤ 140737488351232) :
    QC Tryz.prog 3 [.agg x.avs, .ro (bsR b)] (.bool true) := by
  refine QC.of' fun H nx => ?_
  suffices main : ∀ Q : AV → Heap → Nat → Prop, (∀ H' n', Keep nx H' H → Q (.bool true) H' n') → zb Tryz.prog 3 [.agg x.avs, .ro (bsR b)] H nx Q from main _ fun H' n' h => ⟨zpa, h⟩
  intro Q hQ
  refine zfx _ _ H nx _ ?_
  have ht : x.avs.take 6 = x.avs ∧ x.avs.length = 6 ∧ x.avs.drop 6 = [] := ⟨rfl, rfl, rfl⟩
  have hsu : (AV.agg x.avs).sure = true := by simp [Pkt.avs]
  unfold zdh
  refine ⟨hsu, ?_⟩
  have hX : (H.put nx (some (.row 6 x.avs))) nx = some (.row 6 x.avs) := Heap.put_at _ _ _
  have xk : Keep nx (H.put nx (some (.row 6 x.avs))) H := fun g hg => by rw [Heap.put_ne _ _ (by omega)]
  show zb _ _ _ (H.put nx (some (.row 6 x.avs))) _ _
  generalize (H.put nx (some (.row 6 x.avs))) = X at *
  refine QC.call alive ?_
  have fin : ∀ {H' : Heap} {n' : Nat}, nx + 1 ≤ n' → (∀ y, y < nx → H' y = H y) → zb Tryz.prog 7 [.ro (bsR b)] H' n' (zg Q (.ro (bsR b))) := fun {H' n'} h1 h2 => zts hb fun H2 n2 hk => hQ _ _ fun y hy => (hk y (by omega)).trans (h2 y hy)
  have f0 := fin (Nat.le_refl _) xk
  have q0 : x.avs[0]? = some (.int .i64 x.kind) := rfl
  have q1 : x.avs[1]? = some (.int .i64 x.frm) := rfl
  have q2 : x.avs[2]? = some (.int .i64 x.to) := rfl
  have q3 : x.avs[3]? = some (.int .i64 x.id) := rfl
  have q4 : x.avs[4]? = some (.int .i64 x.trip) := rfl
  unfold zdi
  by_cases hok : x.ok
  case neg =>
    by_cases c1 : 1 ≤ x.kind
    case neg => simp [hX, q0, q1, q2, q3, q4, c1]; exact f0
    by_cases c2 : x.kind ≤ 3
    case neg => simp [hX, q0, q1, q2, q3, q4, c1, c2]; exact f0
    by_cases c3 : 0 ≤ x.frm
    case neg => simp [hX, q0, q1, q2, q3, q4, c1, c2, c3]; exact f0
    by_cases c4 : x.frm < 4
    case neg => simp [hX, q0, q1, q2, q3, q4, c1, c2, c3, c4]; exact f0
    by_cases c5 : 0 ≤ x.to
    case neg => simp [hX, q0, q1, q2, q3, q4, c1, c2, c3, c4, c5]; exact f0
    by_cases c6 : x.to < 4
    case neg => simp [hX, q0, q1, q2, q3, q4, c1, c2, c3, c4, c5, c6]; exact f0
    by_cases c7 : 0 ≤ x.id
    case neg => simp [hX, q0, q1, q2, q3, q4, c1, c2, c3, c4, c5, c6, c7]; exact f0
    by_cases c8 : 0 ≤ x.trip
    case neg => simp [hX, q0, q1, q2, q3, q4, c1, c2, c3, c4, c5, c6, c7, c8]; exact f0
    exact absurd ⟨⟨c1, c2⟩, ⟨c3, c4⟩, ⟨c5, c6⟩, c7, c8⟩ hok
  obtain ⟨i1, i2, i3, i4, i5⟩ := zxt hok h1 h2
  have hpp := VM.parse_packet hok h1 h2 (by omega)
  have hpl : (VM.packet x).length ≤ 4611686018427387904 := by
    have t1 := zlb [x.kind, x.frm, x.to, x.id, x.trip]
    have t2 := znb x.data
    have t3 := zhb (WM.sum (VM.pkB x))
    unfold VM.packet VM.withSum
    rw [List.length_append]
    generalize (WM.num (WM.sum (VM.pkB x))).length = q at *
    unfold VM.pkB
    rw [List.length_append]
    simp only [List.length_cons, List.length_nil] at t1
    omega
  obtain ⟨⟨c1, c2⟩, ⟨c3, c4⟩, ⟨c5, c6⟩, c7, c8⟩ := hok
  have hk : x.avs = [.int .i64 x.kind, .int .i64 x.frm, .int .i64 x.to, .int .i64 x.id, .int .i64 x.trip, .ro (bsR x.data)] := rfl
  simp [hX, hk, c1, c2, c3, c4, c5, c6, c7, c8]
  simp only [← hk]
  refine QC.call (znc x i1 i2 i3 i4 i5 hd) ?_
  simp only [zdj]
  refine QC.call (zna _ hpl) ?_
  rw [hpp]
  have so : ∀ y ∈ x.avs, y.one = true := fun y hy => by
    simp [Pkt.avs] at hy
    rcases hy with rfl | rfl | rfl | rfl | rfl | rfl <;> rfl
  simp [zdk, hX, ht, hsu]
  refine ⟨so, ?_⟩
  refine QC.call (ztx x) ?_
  simp [zdl]
  exact fin (by omega) fun y hy => by rw [Heap.put_ne _ _ (by omega)]; exact xk y hy
end Go.Proofs.YtiinnjjmoifoeaaGreatDoor
