/- The plain law of wire: numbers as bytes, and back; no program in sight. Bits of bytes and of 64 bits, as sums. The machine: an agent's steps, as a plain function (chapter 7). Plain laws of what is wrong with programs. Heights hold together: as many values lie ahead of an instruction as were reckoned, on whichever way it is come to. What is right never gets stuck: an agent's steps keep it right. What is right never gets stuck: the agent behind a step is right. Programs, and agents, as they lie in memory. Which kinds of things are compared whole. A call that changes what it is handed by address, where the order is drawn. Cells numbered as they are come to: the program's closure. Rows that are read: by value, or owned. Rows copied. Cells numbered as they are come to: plain laws. Cells numbered as they are come to: the closure, where the order is drawn. Cells numbered as they are come to: the program's function. Cells numbered as they are come to: what holds between the closure's calls. -/
import Derived.WalkKit
import Derived.WalkSmall
import Derived.Test.YtpbnaaoilgohkaaG6
import Derived.Test.YtpbnaaoilgohkaaG7
set_option linter.unusedSimpArgs false
set_option linter.unusedVariables false
set_option maxRecDepth 8000
namespace Go.Proofs.Ytpbnaaoilgohkaa
namespace WM
abbrev Bytes := List UInt8
def zig (n : Int) : Nat := if n < 0 then (-(2 * n) - 1).toNat else (2 * n).toNat
def zag (u : Nat) : Int := if u % 2 = 1 then -((u / 2 : Nat) : Int) - 1 else ((u / 2 : Nat) : Int)
def enc : Nat → Nat → Bytes
  | 0, u => [UInt8.ofNat u]
  | f + 1, u => if 128 ≤ u then UInt8.ofNat (u % 128 + 128) :: enc f (u / 128) else [UInt8.ofNat u]
def num (n : Int) : Bytes := enc 9 (zig n)
def getFrom : Nat → Nat → Bytes → Int × Int × Int
  | _, _, [] => (0, 0, 8)
  | i, u, c :: r =>
    if 9 < i ∨ (i = 9 ∧ 1 < c.toNat) then (0, 0, 3)
    else if 128 ≤ c.toNat then getFrom (i + 1) (u + c.toNat % 128 * 2 ^ (7 * i)) r
    else if c.toNat = 0 ∧ 0 < i then (0, 0, 2)
    else (zag (u + c.toNat % 128 * 2 ^ (7 * i)), (i : Int) + 1, 0)
def getNum (b : Bytes) : Int × Int × Int := getFrom 0 0 b
theorem zag_zig (n : Int) : zag (zig n) = n := by
  unfold zag zig
  split <;> split <;> omega
theorem zig_zag (u : Nat) : zig (zag u) = u := by
  unfold zag zig
  split <;> split <;> omega
theorem zig_lt (n : Int) (h : -9223372036854775808 ≤ n) (h' : n ≤ 9223372036854775807) : zig n < 2 ^ 64 := by
  unfold zig
  split <;> omega
theorem enc_ne (f u : Nat) : enc f u ≠ [] := by
  cases f <;> simp [enc]
  split <;> simp
theorem enc_length (f u : Nat) : (enc f u).length ≤ f + 1 := by
  induction f generalizing u with
  | zero => simp [enc]
  | succ f ih =>
    simp only [enc]
    split
    · simp; exact ih _
    · simp
theorem toNat_ofNat_lt {n : Nat} (h : n < 256) : (UInt8.ofNat n).toNat = n := by
  simp [UInt8.toNat_ofNat']; omega
theorem getFrom_enc (f : Nat) : ∀ (i acc u : Nat) (r : Bytes), i + f = 9 → u < 2 ^ (64 - 7 * i) → (i = 0 ∨ u ≠ 0) →
    getFrom i acc (enc f u ++ r) = (zag (acc + u * 2 ^ (7 * i)), ((i + (enc f u).length : Nat) : Int), 0) := by
  induction f with
  | zero =>
    intro i acc u r hi hu h0
    have hi9 : i = 9 := by omega
    subst hi9
    have hu2 : u < 2 := by simpa using hu
    have hb : (UInt8.ofNat u).toNat = u := toNat_ofNat_lt (by omega)
    simp only [enc, List.cons_append, List.nil_append, getFrom, hb]
    rw [if_neg (by omega), if_neg (by omega), if_neg (by omega)]
    have hm : u % 128 = u := Nat.mod_eq_of_lt (by omega)
    rw [hm]
    simp
  | succ f ih =>
    intro i acc u r hi hu h0
    simp only [enc]
    split
    · rename_i hge
      have hb : (UInt8.ofNat (u % 128 + 128)).toNat = u % 128 + 128 := toNat_ofNat_lt (by omega)
      simp only [List.cons_append, getFrom, hb]
      rw [if_neg (by omega), if_pos (by omega)]
      have hm : (u % 128 + 128) % 128 = u % 128 := by omega
      rw [hm]
      have hpow : (2 : Nat) ^ (64 - 7 * i) = 2 ^ (64 - 7 * (i + 1)) * 128 := by
        rw [show (128 : Nat) = 2 ^ 7 from rfl, ← Nat.pow_add]
        congr 1
        omega
      rw [ih (i + 1) _ (u / 128) r (by omega) (by rw [hpow] at hu; exact Nat.div_lt_of_lt_mul (by rw [Nat.mul_comm]; exact hu)) (.inr (by omega))]
      have hsum : acc + u % 128 * 2 ^ (7 * i) + u / 128 * 2 ^ (7 * (i + 1)) = acc + u * 2 ^ (7 * i) := by
        have e7 : (2 : Nat) ^ (7 * (i + 1)) = 128 * 2 ^ (7 * i) := by
          rw [show 7 * (i + 1) = 7 + 7 * i by omega, Nat.pow_add]
        rw [e7, Nat.add_assoc, ← Nat.mul_assoc, ← Nat.add_mul]
        congr 2
        omega
      rw [hsum]
      simp only [List.length_cons]
      congr 2
      congr 1
      omega
    · rename_i hlt
      have hb : (UInt8.ofNat u).toNat = u := toNat_ofNat_lt (by omega)
      simp only [List.cons_append, List.nil_append, getFrom, hb]
      rw [if_neg (by omega), if_neg (by omega), if_neg (by omega)]
      have hm : u % 128 = u := Nat.mod_eq_of_lt (by omega)
      rw [hm]
      simp
theorem getNum_num (n : Int) (h : -9223372036854775808 ≤ n) (h' : n ≤ 9223372036854775807) (r : Bytes) :
    getNum (num n ++ r) = (n, ((num n).length : Int), 0) := by
  unfold getNum num
  rw [getFrom_enc 9 0 0 (zig n) r rfl (by simpa using zig_lt n h h') (.inl rfl)]
  simp [zag_zig]
theorem getFrom_ok : ∀ (b : Bytes) (i acc : Nat), i ≤ 9 → acc < 2 ^ (7 * i) → (getFrom i acc b).2.2 = 0 →
    ∃ (k v : Nat), k ≤ b.length ∧ 1 ≤ k ∧ (getFrom i acc b).2.1 = ((i + k : Nat) : Int) ∧ v < 2 ^ (64 - 7 * i) ∧ (0 < i → v ≠ 0) ∧
      (getFrom i acc b).1 = zag (acc + v * 2 ^ (7 * i)) ∧ enc (9 - i) v = b.take k := by
  intro b
  induction b with
  | nil => intro i acc _ _ h; simp [getFrom] at h
  | cons c r ih =>
    intro i acc hi ha h
    have hc : c.toNat < 256 := c.toNat_lt
    simp only [getFrom] at h ⊢
    split at h
    · simp at h
    · rename_i h1
      rw [if_neg h1]
      split at h
      · rename_i h2
        rw [if_pos h2]
        have hi8 : i ≤ 8 := by omega
        have e7 : (2 : Nat) ^ (7 * (i + 1)) = 128 * 2 ^ (7 * i) := by
          rw [show 7 * (i + 1) = 7 + 7 * i by omega, Nat.pow_add]
        have hpos : 0 < (2 : Nat) ^ (7 * i) := Nat.pow_pos (by omega)
        obtain ⟨k, v, hk, hk1, hn, hv, hv0, hz, he⟩ := ih (i + 1) (acc + c.toNat % 128 * 2 ^ (7 * i)) (by omega) (by
          rw [e7]
          have : c.toNat % 128 * 2 ^ (7 * i) ≤ 127 * 2 ^ (7 * i) := Nat.mul_le_mul_right _ (by omega)
          omega) h
        have hv1 := hv0 (by omega)
        refine ⟨k + 1, v * 128 + c.toNat % 128, by simp; omega, by omega, by rw [hn]; congr 1; omega, ?_, by omega, ?_, ?_⟩
        · have hpow : (2 : Nat) ^ (64 - 7 * i) = 2 ^ (64 - 7 * (i + 1)) * 128 := by
            rw [show (128 : Nat) = 2 ^ 7 from rfl, ← Nat.pow_add]
            congr 1
            omega
          rw [hpow]
          omega
        · rw [hz]
          congr 1
          rw [e7, Nat.add_mul, ← Nat.mul_assoc]
          omega
        · rw [show 9 - i = (9 - (i + 1)) + 1 by omega]
          simp only [enc]
          rw [if_pos (by omega), show (v * 128 + c.toNat % 128) / 128 = v by omega, he, show (v * 128 + c.toNat % 128) % 128 + 128 = c.toNat by omega]
          simp
      · rename_i h2
        rw [if_neg h2]
        split at h
        · simp at h
        · rename_i h3
          rw [if_neg h3]
          have hm : c.toNat % 128 = c.toNat := Nat.mod_eq_of_lt (by omega)
          refine ⟨1, c.toNat, by simp, by omega, by simp, ?_, by omega, by rw [hm], ?_⟩
          · by_cases h9 : i = 9
            · subst h9; simp; omega
            · have h128 : (2 : Nat) ^ 7 ≤ 2 ^ (64 - 7 * i) := Nat.pow_le_pow_right (by omega) (by omega)
              omega
          · have hofn : UInt8.ofNat c.toNat = c := by simp
            cases hh : 9 - i with
            | zero => simp [enc]
            | succ f => simp only [enc]; rw [if_neg (by omega)]; simp
theorem getNum_ok (b : Bytes) (h : (getNum b).2.2 = 0) : ∃ k : Nat, k ≤ b.length ∧ 1 ≤ k ∧ (getNum b).2.1 = (k : Int) ∧ num (getNum b).1 = b.take k := by
  obtain ⟨k, v, hk, hk1, hn, hv, _, hz, he⟩ := getFrom_ok b 0 0 (by omega) (by simp) h
  refine ⟨k, hk, hk1, by simpa [getNum] using hn, ?_⟩
  unfold num getNum
  rw [hz, zig_zag]
  simpa using he
def getText (b : Bytes) (most : Int) : Bytes × Int × Int :=
  if (getNum b).2.2 ≠ 0 then ([], 0, (getNum b).2.2)
  else if (getNum b).1 < 0 ∨ most < (getNum b).1 then ([], 0, 4)
  else if (b.length : Int) - (getNum b).2.1 < (getNum b).1 then ([], 0, 8)
  else ((b.drop (getNum b).2.1.toNat).take (getNum b).1.toNat, (getNum b).2.1 + (getNum b).1, 0)
def rot5 (u : Nat) : Nat := (u * 32 % 4294967296) ||| (u / 134217728)
def sumStep (s : Nat) (c : UInt8) : Nat := rot5 (s ^^^ c.toNat) * 16777619 % 4294967296
def sum (b : Bytes) : Nat := b.foldl sumStep 2166136261
end WM
end Go.Proofs.Ytpbnaaoilgohkaa
set_option maxRecDepth 8000
namespace Go.Proofs.Ytpbnaaoilgohkaa
open Go Go.RowKit
theorem zajh (n : Int) (h₀ : 0 ≤ n) (h₁ : n < 2 ^ 64) : IntKind.u64.wrap n = n := by rw [IntKind.wrap_u64]; omega
theorem zaji (c : Nat) (h : c < 256) : bits .and .u8 (c : Int) 127 = ((c % 128 : Nat) : Int) := by
  have := bits_mask .u8 8 (by decide) wraps_u8 7 (by decide) (c : Int) (by omega) (by omega)
  simpa using this
theorem zalt (c : Nat) (h : c < 256) : bits .or .u8 (c : Int) 128 = ((c % 128 + 128 : Nat) : Int) := by
  have h1 := u8_or_nat c 128 h (by omega)
  rw [show ((128 : Nat) : Int) = 128 from rfl] at h1
  rw [h1]
  congr 1
  have hd : c = 128 * (c / 128) + c % 128 := by omega
  have hc2 : c / 128 = 0 ∨ c / 128 = 1 := by omega
  have e : (2 : Nat) ^ 7 = 128 := rfl
  have hlow : c % 128 ||| 128 = c % 128 + 128 := by
    have := Nat.two_pow_add_eq_or_of_lt (i := 7) (b := c % 128) (by omega) 1
    rw [Nat.or_comm]
    simp at this
    omega
  rcases hc2 with h0 | h0
  · have : c = c % 128 := by omega
    rw [← this] at hlow ⊢
    exact hlow
  · have h2 := Nat.two_pow_add_eq_or_of_lt (i := 7) (b := c % 128) (by omega) 1
    have h3 : c = 128 ||| c % 128 := by simp at h2; omega
    have h4 : c ||| 128 = c % 128 ||| 128 := by
      conv => lhs; rw [h3]
      rw [Nat.or_comm 128, Nat.or_assoc, Nat.or_self]
    rw [h4, hlow]
theorem zaht (q x k : Nat) (hq : q < 2 ^ k) (hx : q + x * 2 ^ k < 18446744073709551616) : bits .or .u64 (q : Int) ((x * 2 ^ k : Nat) : Int) = ((q + x * 2 ^ k : Nat) : Int) := by
  have h1 := bits_nat .u64 64 (by decide) zajh q (x * 2 ^ k) (by omega) (by omega)
  rw [h1.2]
  congr 1
  have := Nat.two_pow_add_eq_or_of_lt (i := k) (b := q) hq x
  rw [Nat.or_comm, Nat.mul_comm, ← this]
  omega
theorem zamm (k q c : Nat) (hk : k ≤ 9) (hq : q < 2 ^ (7 * k)) (hc : c < 256) (h9 : k = 9 → c ≤ 1) :
    bits .or .u64 (q : Int) (IntKind.u64.wrap (IntKind.u64.wrap (bits .and .u8 (c : Int) 127) * 2 ^ (7 * k))) = ((q + c % 128 * 2 ^ (7 * k) : Nat) : Int) := by
  rw [zaji c hc, IntKind.wrap_u64, IntKind.wrap_u64]
  have h1 : (((c % 128 : Nat) : Int) % 18446744073709551616) = ((c % 128 : Nat) : Int) := by omega
  rw [h1]
  have hb : q + c % 128 * 2 ^ (7 * k) < 18446744073709551616 := by
    by_cases h : k = 9
    · subst h
      have := h9 rfl
      have : c % 128 ≤ 1 := by omega
      simp at hq ⊢
      omega
    · have hp : (2 : Nat) ^ (7 * k) ≤ 2 ^ 56 := Nat.pow_le_pow_right (by omega) (by omega)
      have : c % 128 * 2 ^ (7 * k) ≤ 127 * 2 ^ 56 := Nat.mul_le_mul (by omega) hp
      omega
  have h2 : (((c % 128 : Nat) : Int) * 2 ^ (7 * k)) % 18446744073709551616 = ((c % 128 * 2 ^ (7 * k) : Nat) : Int) := by
    rw [show (((c % 128 : Nat) : Int) * 2 ^ (7 * k)) = ((c % 128 * 2 ^ (7 * k) : Nat) : Int) by push_cast; rfl]
    omega
  rw [h2]
  exact zaht q (c % 128) (7 * k) hq hb
theorem zaoa (n : Int) (h0 : 0 ≤ n) (h1 : n ≤ 9223372036854775807) : bits .xor .i64 (-1) n = -n - 1 := by
  obtain ⟨a, rfl⟩ := Int.eq_ofNat_of_zero_le h0
  have e : bits .xor .i64 (-1) (a : Int) = IntKind.i64.wrap ((BitVec.ofInt 64 (-1) ^^^ BitVec.ofInt 64 (a : Int)).toNat : Int) := rfl
  have e1 : (BitVec.ofInt 64 (-1)) = BitVec.allOnes 64 := by decide
  rw [e, e1, BitVec.ofInt_natCast, BitVec.allOnes_xor, BitVec.toNat_not, BitVec.toNat_ofNat, IntKind.wrap_i64]
  omega
theorem zaor (u : Nat) (hu : u < 18446744073709551616) (h : u % 2 = 1) : bits .xor .i64 (-1) (wrap64 ((u : Int) / 2)) = WM.zag u := by
  have e : wrap64 ((u : Int) / 2) = ((u / 2 : Nat) : Int) := by unfold wrap64; omega
  rw [e, zaoa _ (by omega) (by omega)]
  unfold WM.zag
  rw [if_pos h]
theorem zalp (u : Nat) (hu : u < 18446744073709551616) (h : u % 2 ≠ 1) : wrap64 ((u : Int) / 2) = WM.zag u := by
  unfold wrap64 WM.zag
  rw [if_neg h]
  omega
theorem zaoe (u : Nat) (hu : u < 18446744073709551616) (h : u % 2 = 1) : (bits BinOp.and IntKind.u64 (u : Int) 1 == 1) = true := by
  rw [and_one_u64 _ (by omega) (by omega)]
  simp; omega
theorem zaln (u : Nat) (hu : u < 18446744073709551616) (h : u % 2 ≠ 1) : (bits BinOp.and IntKind.u64 (u : Int) 1 == 1) = false := by
  rw [and_one_u64 _ (by omega) (by omega)]
  simp; omega
theorem zzf (k q c : Nat) (hk : k ≤ 9) (hq : q < 2 ^ (7 * k)) (hc : c < 256) (h9 : k = 9 → c ≤ 1) : q + c % 128 * 2 ^ (7 * k) < 18446744073709551616 := by
  by_cases h : k = 9
  · subst h
    have := h9 rfl
    have : c % 128 ≤ 1 := by omega
    simp at hq ⊢
    omega
  · have hp : (2 : Nat) ^ (7 * k) ≤ 2 ^ 56 := Nat.pow_le_pow_right (by omega) (by omega)
    have : c % 128 * 2 ^ (7 * k) ≤ 127 * 2 ^ 56 := Nat.mul_le_mul (by omega) hp
    omega
theorem zvs (k q c : Nat) (hq : q < 2 ^ (7 * k)) : q + c % 128 * 2 ^ (7 * k) < 2 ^ (7 * (k + 1)) := by
  have e7 : (2 : Nat) ^ (7 * (k + 1)) = 128 * 2 ^ (7 * k) := by rw [show 7 * (k + 1) = 7 + 7 * k by omega, Nat.pow_add]
  have : c % 128 * 2 ^ (7 * k) ≤ 127 * 2 ^ (7 * k) := Nat.mul_le_mul_right _ (by omega)
  omega
end Go.Proofs.Ytpbnaaoilgohkaa
set_option maxRecDepth 8000
namespace Go.Proofs.Ytpbnaaoilgohkaa
structure Fct where
  key : Str
  val : Val
structure Spt where
  name : Str
  facts : List Fct
  fuel : Int
  cells : Int
structure Evt where
  kind : Int
  text : Str
  err : Int
namespace VM
def ev0 : Evt := ⟨0, [], 0⟩
def dead (e : Int) : Evt := ⟨5, [], e⟩
def ask (l : List Fct) (k : Str) : Val := match l.find? (fun f => decide (f.key = k)) with
  | some f => f.val
  | none => vzero
def cl0 : Cl := ⟨vzero, vzero⟩
def toF (a : Agt) (fs : List Frm) (f : Frm) : Agt := { a with frames := fs ++ [f] }
def top1 (st : List Val) : Val := st.getD (st.length - 1) vzero
def top2 (st : List Val) : Val := st.getD (st.length - 2) vzero
def low (k : Nat) (st : List Val) : List Val := st.take (st.length - k)
def push (a : Agt) (fs : List Frm) (f : Frm) (st : List Val) (v : Val) : Agt × Evt := (toF a fs { f with stack := st ++ [v] }, ev0)
def codeAt (p : Prg) (n : Int) : Cod := p.codes.getD n.toNat ⟨0, 0, []⟩
def opDo (a : Agt) (s : Spt) (fs : List Frm) (f : Frm) (i : Ins) : Agt × Evt :=
  if i.op = 1 then push a fs f f.stack ⟨0, i.a, []⟩
  else if i.op = 2 then push a fs f f.stack (cText (a.prog.words.getD i.a.toNat []))
  else if i.op = 3 then push a fs f f.stack (f.vars.getD i.a.toNat vzero)
  else if i.op = 4 then (toF a fs { f with stack := low 1 f.stack, vars := f.vars.set i.a.toNat (top1 f.stack) }, ev0)
  else if i.op = 5 then (if (two i.a (top2 f.stack) (top1 f.stack)).2 = 0 then push a fs f (low 2 f.stack) (two i.a (top2 f.stack) (top1 f.stack)).1 else (toF a fs { f with stack := low 2 f.stack }, dead (two i.a (top2 f.stack) (top1 f.stack)).2))
  else if i.op = 6 then (if a.permit.room = 0 then (toF a fs { f with stack := low 2 f.stack }, dead 13)
    else push { a with heap := a.heap ++ [⟨top2 f.stack, top1 f.stack⟩], permit := { a.permit with room := a.permit.room - 1 } } fs f (low 2 f.stack) ⟨2, a.heap.length, []⟩)
  else if i.op = 7 then (if (top1 f.stack).kind ≠ 2 then (toF a fs { f with stack := low 1 f.stack }, dead 11) else push a fs f (low 1 f.stack) (a.heap.getD (top1 f.stack).n.toNat cl0).left)
  else if i.op = 8 then (if (top1 f.stack).kind ≠ 2 then (toF a fs { f with stack := low 1 f.stack }, dead 11) else push a fs f (low 1 f.stack) (a.heap.getD (top1 f.stack).n.toNat cl0).right)
  else if i.op = 9 then (if (top2 f.stack).kind ≠ 2 then (toF a fs { f with stack := low 2 f.stack }, dead 11) else (toF { a with heap := a.heap.set (top2 f.stack).n.toNat { a.heap.getD (top2 f.stack).n.toNat cl0 with left := top1 f.stack } } fs { f with stack := low 2 f.stack }, ev0))
  else if i.op = 10 then (if (top2 f.stack).kind ≠ 2 then (toF a fs { f with stack := low 2 f.stack }, dead 11) else (toF { a with heap := a.heap.set (top2 f.stack).n.toNat { a.heap.getD (top2 f.stack).n.toNat cl0 with right := top1 f.stack } } fs { f with stack := low 2 f.stack }, ev0))
  else if i.op = 11 then (if (top1 f.stack).kind ≠ 1 then (toF a fs { f with stack := low 1 f.stack }, dead 11) else push a fs f (low 1 f.stack) (ask s.facts (top1 f.stack).text))
  else if i.op = 12 then push a fs f f.stack (cText s.name)
  else if i.op = 13 then (if (top1 f.stack).kind ≠ 1 then (toF a fs { f with stack := low 1 f.stack }, dead 11) else if a.permit.hops = 0 then push a fs f (low 1 f.stack) vzero
    else (toF { a with permit := { a.permit with hops := a.permit.hops - 1 } } fs { f with stack := low 1 f.stack }, ⟨3, (top1 f.stack).text, 0⟩))
  else if i.op = 14 then (toF a fs { f with stack := low 1 f.stack }, ⟨2, vshow a.heap 4 (top1 f.stack), 0⟩)
  else if i.op = 15 then (toF a fs { f with at_ := i.a }, ev0)
  else if i.op = 16 then (toF a fs { f with stack := low 1 f.stack, at_ := if (top1 f.stack).kind = 0 ∧ (top1 f.stack).n = 0 then i.a else f.at_ }, ev0)
  else if i.op = 17 then (if 12 ≤ fs.length + 1 then (toF a fs f, dead 9)
    else (toF a (fs ++ [{ f with stack := low i.b.toNat f.stack }]) ⟨i.a, 0, f.stack.drop (f.stack.length - i.b.toNat) ++ List.replicate ((codeAt a.prog i.a).vars - i.b).toNat vzero, []⟩, ev0))
  else if i.op = 18 then (match fs.getLast? with
    | none => ({ a with frames := [] }, ⟨4, vshow a.heap 4 (top1 f.stack), 0⟩)
    | some g => push a fs.dropLast g g.stack (top1 f.stack))
  else (toF a fs { f with stack := low 1 f.stack }, ev0)
def insAt (p : Prg) (f : Frm) : Ins := (codeAt p f.fn).ins.getD f.at_.toNat ⟨0, 0, 0⟩
def step (a : Agt) (s : Spt) : Agt × Evt :=
  if a.permit.fuel = 0 then (a, dead 12)
  else match a.frames.getLast? with
    | none => (a, ev0)
    | some f => opDo { a with permit := { a.permit with fuel := a.permit.fuel - 1 } } s a.frames.dropLast { f with at_ := f.at_ + 1 } (insAt a.prog f)
def run (s : Spt) : Nat → Agt → Agt × Evt
  | 0, a => (a, ⟨1, [], 0⟩)
  | n + 1, a => if (step a s).2.kind ≠ 0 then step a s else run s n (step a s).1
def roots (a : Agt) : List Val := a.frames.flatMap fun f => f.vars ++ f.stack
def pack (a : Agt) : Agt := { a with frames := a.frames.map (fun f => { f with vars := f.vars.map (put (order a.heap (roots a))), stack := f.stack.map (put (order a.heap (roots a))) }), heap := canonC a.heap (roots a) }
end VM
end Go.Proofs.Ytpbnaaoilgohkaa
set_option maxRecDepth 8000
namespace Go.Proofs.Ytpbnaaoilgohkaa
open Go Go.RowKit
def zkv (out : List Int) : Nat := out.countP (· < 0)
theorem zru {out : List Int} {k : Nat} {h : Int} (hk : k < out.length) (h0 : out.getD k 0 < 0) (h1 : 0 ≤ h) : zkv (out.set k h) + 1 = zkv out := by
  unfold zkv
  have hg : out[k] < 0 := by simpa [List.getD, hk] using h0
  have hpos : 0 < out.countP (· < 0) := List.countP_pos_iff.2 ⟨out[k], List.getElem_mem hk, by simpa using hg⟩
  rw [List.countP_set hk]
  have hnl : ¬ h < 0 := by omega
  simp [hg, hnl]
  omega
theorem zmu (i : Ins) (h : i.op = 17 → 0 ≤ i.b ∧ i.b ≤ 16) : 0 ≤ (VM.effect i).1 ∧ (VM.effect i).1 ≤ 16 ∧ 0 ≤ (VM.effect i).2 ∧ (VM.effect i).2 ≤ 1 := by
  unfold VM.effect
  (repeat' split) <;> simp_all
def Calm (ins : List Ins) : Prop := ∀ i ∈ ins, i.op = 17 → 0 ≤ i.b ∧ i.b ≤ 16
theorem zbg {α : Type} (f : α → Int) (l : List α) (k : Nat) (x : α) (hk : l[k]? = some x) : VM.firstErr f (l.drop k) = if f x ≠ 0 then f x else VM.firstErr f (l.drop (k + 1)) := by
  obtain ⟨hlt, rfl⟩ := List.getElem?_eq_some_iff.1 hk
  rw [List.drop_eq_getElem_cons hlt]
  rfl
theorem zafm {α : Type} (f : α → Bool) (l : List α) (k : Nat) (x : α) (hk : l[k]? = some x) : (l.drop k).any f = (f x || (l.drop (k + 1)).any f) := by
  obtain ⟨hlt, rfl⟩ := List.getElem?_eq_some_iff.1 hk
  rw [List.drop_eq_getElem_cons hlt]
  rfl
theorem zafo {α : Type} (f : α → Bool) (l : List α) (k : Nat) (x : α) (hk : l[k]? = some x) : (l.drop k).all f = (f x && (l.drop (k + 1)).all f) := by
  obtain ⟨hlt, rfl⟩ := List.getElem?_eq_some_iff.1 hk
  rw [List.drop_eq_getElem_cons hlt]
  rfl
theorem zbf {α : Type} {f : α → Int} {l : List α} (h : VM.firstErr f l = 0) : ∀ x ∈ l, f x = 0 := by
  induction l with
  | nil => intro x hx; simp at hx
  | cons a r ih =>
    unfold VM.firstErr at h
    by_cases h0 : f a ≠ 0
    · rw [if_pos h0] at h; exact absurd h h0
    · rw [if_neg h0] at h
      intro x hx
      rcases List.mem_cons.1 hx with rfl | hx
      · omega
      · exact ih h x hx
theorem zacb {p : Prg} {c : Cod} (hr : ∀ x ∈ p.codes, VM.codeRange x = false) (hn : ∀ i ∈ c.ins, VM.numbers p c i = 0) : Calm c.ins := by
  intro i hi h17
  have h := hn i hi
  unfold VM.numbers at h
  rw [if_neg (by omega)] at h
  by_cases hok : VM.numOk p c i = false ∨ (i.op ≠ 17 ∧ i.b ≠ 0)
  · rw [if_pos hok] at h; omega
  · have h2 : VM.numOk p c i = true := by
      cases hq : VM.numOk p c i with
      | true => rfl
      | false => exact absurd (Or.inl hq) hok
    unfold VM.numOk at h2
    simp [h17] at h2
    obtain ⟨_, h3⟩ := h2
    cases hx : p.codes[i.a.toNat]? with
    | none => rw [hx] at h3; simp at h3
    | some x =>
      rw [hx] at h3
      have h4 := hr x (List.mem_of_getElem? hx)
      unfold VM.codeRange at h4
      rw [decide_eq_false_iff_not] at h4
      simp at h3
      omega
theorem zng (ins : List Ins) (hc : Calm ins) : ∀ (fuel : Nat) (q : List (Int × Int)) (out : List Int), q.length + 2 * zkv out < fuel → (∀ x ∈ q, 0 ≤ x.2 ∧ x.2 ≤ 16) → out.length = ins.length →
    (∀ x ∈ out, -1 ≤ x ∧ x ≤ 16) → (VM.heightsGo ins fuel q out).2 = 0 → (VM.heightsGo ins fuel q out).1.length = ins.length ∧ ∀ x ∈ (VM.heightsGo ins fuel q out).1, -1 ≤ x ∧ x ≤ 16
  | 0, q, out, h, _, _, _, _ => by omega
  | f + 1, [], out, _, _, hl, ho, _ => ⟨hl, ho⟩
  | f + 1, (at_, h) :: q, out, hp, hq, hl, ho, he => by
    unfold VM.heightsGo at he ⊢
    have hh := hq (at_, h) (by simp)
    simp only at hh
    have hq' : ∀ x ∈ q, 0 ≤ x.2 ∧ x.2 ≤ 16 := fun x hx => hq x (by simp [hx])
    simp only [List.length_cons] at hp
    generalize hm : (if 0 ≤ at_ then ins[at_.toNat]? else none) = m at *
    cases m with
    | none => simp at he
    | some i =>
      have hi : ins[at_.toNat]? = some i := by
        by_cases h0 : 0 ≤ at_
        · rwa [if_pos h0] at hm
        · rw [if_neg h0] at hm; cases hm
      have hlt : at_.toNat < out.length := by rw [hl]; exact (List.getElem?_eq_some_iff.1 hi).1
      simp only at he ⊢
      by_cases hs : 0 ≤ out.getD at_.toNat 0
      · rw [if_pos hs] at he ⊢
        by_cases hne : out.getD at_.toNat 0 ≠ h
        · rw [if_pos hne] at he; simp at he
        · rw [if_neg hne] at he ⊢
          exact zng ins hc f q out (by omega) hq' hl ho he
      · rw [if_neg hs] at he ⊢
        have hb := zmu i (hc i (List.mem_of_getElem? hi))
        by_cases h1 : h < (VM.effect i).1 ∨ (i.op = 18 ∧ h ≠ 1)
        · rw [if_pos h1] at he; simp at he
        · rw [if_neg h1] at he ⊢
          by_cases h2 : 16 < h + (VM.effect i).2 - (VM.effect i).1
          · rw [if_pos h2] at he; simp at he
          · rw [if_neg h2] at he ⊢
            have hu := zru (out := out) (k := at_.toNat) (h := h) hlt (by omega) hh.1
            refine zng ins hc f _ _ ?_ ?_ (by simpa using hl) ?_ he
            · simp only [List.length_append]
              have l1 : (if i.op ≠ 15 ∧ i.op ≠ 18 then [(at_ + 1, h + (VM.effect i).2 - (VM.effect i).1)] else []).length ≤ 1 := by split <;> simp
              have l2 : (if i.op = 15 ∨ i.op = 16 then [(i.a, h + (VM.effect i).2 - (VM.effect i).1)] else []).length ≤ 1 := by split <;> simp
              omega
            · intro x hx
              simp only [List.mem_append] at hx
              rcases hx with (hx | hx) | hx
              · exact hq' x hx
              · split at hx
                · simp at hx; subst hx; constructor <;> simp only <;> omega
                · simp at hx
              · split at hx
                · simp at hx; subst hx; constructor <;> simp only <;> omega
                · simp at hx
            · intro x hx
              rcases List.mem_or_eq_of_mem_set hx with h9 | h9
              · exact ho x h9
              · omega
theorem zfo {ins : List Ins} (hc : Calm ins) (h : (VM.heights ins).2 = 0) : (VM.heights ins).1.length = ins.length ∧ ∀ x ∈ (VM.heights ins).1, -1 ≤ x ∧ x ≤ 16 := by
  refine zng ins hc _ _ _ ?_ ?_ (by simp) ?_ h
  · unfold zkv; simp [List.countP_replicate]; omega
  · intro x hx; simp at hx; subst hx; simp
  · intro x hx; have := List.eq_of_mem_replicate hx; omega
theorem zch {p : Prg} (h : VM.program p = 0) : (∀ c ∈ p.codes, VM.codeRange c = false ∧ Calm c.ins ∧ (VM.heights c.ins).2 = 0) ∧ p.codes.length ≤ 5 ∧ p.words.length ≤ 16 := by
  unfold VM.program at h
  by_cases h1 : p.codes.length < 1 ∨ 5 < p.codes.length
  · rw [if_pos h1] at h; omega
  rw [if_neg h1] at h
  by_cases h2 : 16 < p.words.length
  · rw [if_pos h2] at h; omega
  rw [if_neg h2] at h
  split at h
  · omega
  split at h
  · omega
  by_cases h5 : p.codes.any VM.codeRange = true
  · rw [if_pos h5] at h; omega
  rw [if_neg h5] at h
  have hr : ∀ x ∈ p.codes, VM.codeRange x = false := by simpa using h5
  refine ⟨fun c hc => ?_, by omega, by omega⟩
  have he := zbf h c hc
  unfold VM.codeErr at he
  by_cases hn : VM.firstErr (VM.numbers p c) c.ins ≠ 0
  · rw [if_pos hn] at he; exact absurd he hn
  · rw [if_neg hn] at he
    exact ⟨hr c hc, zacb hr (zbf (by omega)), he⟩
def zam (a : Agt) (vs st : List Val) (h : Int) : Int :=
  if h < 0 ∨ (st.length : Int) ≠ h then 10 else VM.firstErr (fun v => VM.wrong v a.heap.length) (vs ++ st)
def zfp (a : Agt) (k : Nat) (c : Cod) (hs : List Int) (m : Nat) : Bool :=
  (!decide (k + 1 = a.frames.length) && (decide ((c.ins.getD (m - 1) ⟨0, 0, 0⟩).op ≠ 17) || decide ((c.ins.getD (m - 1) ⟨0, 0, 0⟩).a ≠ ((a.frames[k + 1]?).map (·.fn)).getD 0))) ||
    (decide (k + 1 = a.frames.length) && decide ((c.ins.getD (m - 1) ⟨0, 0, 0⟩).op ≠ 13)) || decide (hs.getD (m - 1) 0 < 0)
theorem zzy {a : Agt} {k n m : Nat} {away : Bool} {vs st : List Val} {c : Cod} {hs : List Int} {h : Int} (hf : a.frames[k]? = some ⟨(n : Int), (m : Int), vs, st⟩) (hc : a.prog.codes[n]? = some c)
    (hm : m < c.ins.length) (hvs : (vs.length : Int) = c.vars) (hhs : hs = (VM.heights c.ins).1) (hh : hs[m]? = some h) :
    VM.frame a k away = if (!decide (k + 1 = a.frames.length) || away) && (decide ((m : Int) = 0) || zfp a k c hs m) then 10
      else zam a vs st (if (!decide (k + 1 = a.frames.length) || away) = true then h - 1 else h) := by
  have e1 : (VM.heights c.ins).1.getD m 0 = h := by rw [← hhs, List.getD_eq_getElem?_getD, hh]; rfl
  unfold VM.frame
  rw [hf]
  simp only [Int.toNat_natCast]
  rw [if_pos (by omega), hc]
  simp only
  rw [if_pos (by omega), List.getElem?_eq_getElem hm]
  simp only
  rw [if_neg (by omega), e1, ← hhs]
  rfl
theorem frame_waits {a : Agt} {k n m : Nat} {away : Bool} {vs st : List Val} {c : Cod} {hs : List Int} {h : Int} (hf : a.frames[k]? = some ⟨(n : Int), (m : Int), vs, st⟩) (hc : a.prog.codes[n]? = some c)
    (hm : m < c.ins.length) (hvs : (vs.length : Int) = c.vars) (hhs : hs = (VM.heights c.ins).1) (hh : hs[m]? = some h) (hw : k + 1 ≠ a.frames.length ∨ away = true) :
    VM.frame a k away = if m = 0 ∨ zfp a k c hs m = true then 10 else zam a vs st (h - 1) := by
  rw [zzy hf hc hm hvs hhs hh]
  have e : (!decide (k + 1 = a.frames.length) || away) = true := by
    rcases hw with h | h <;> simp [h]
  rw [e]
  simp
end Go.Proofs.Ytpbnaaoilgohkaa
set_option maxRecDepth 8000
namespace Go.Proofs.Ytpbnaaoilgohkaa
namespace VM
def after (i : Ins) (h : Int) : Int := h + (effect i).2 - (effect i).1
def succs (at_ : Int) (i : Ins) (h : Int) : List (Int × Int) := (if i.op ≠ 15 ∧ i.op ≠ 18 then [(at_ + 1, after i h)] else []) ++ (if i.op = 15 ∨ i.op = 16 then [(i.a, after i h)] else [])
def there (hs : List Int) (x : Int × Int) : Prop := 0 ≤ x.1 ∧ hs[x.1.toNat]? = some x.2
structure HeiOk (ins : List Ins) (hs : List Int) : Prop where
  len : hs.length = ins.length
  start : there hs (0, 0)
  at_ : ∀ (m : Nat) (i : Ins) (h : Int), ins[m]? = some i → hs[m]? = some h → 0 ≤ h → (effect i).1 ≤ h ∧ (i.op = 18 → h = 1) ∧ after i h ≤ 16 ∧ ∀ x ∈ succs m i h, there hs x
structure HeiInv (ins : List Ins) (q : List (Int × Int)) (out : List Int) : Prop where
  len : out.length = ins.length
  start : (0, 0) ∈ q ∨ there out (0, 0)
  at_ : ∀ (m : Nat) (i : Ins) (h : Int), ins[m]? = some i → out[m]? = some h → 0 ≤ h → (effect i).1 ≤ h ∧ (i.op = 18 → h = 1) ∧ after i h ≤ 16 ∧ ∀ x ∈ succs m i h, x ∈ q ∨ there out x
theorem there_set {out : List Int} {k : Nat} {h : Int} {x : Int × Int} (hx : there out x) (hk : out.getD k 0 < 0) (h0 : 0 ≤ x.2) : there (out.set k h) x := by
  refine ⟨hx.1, ?_⟩
  by_cases e : x.1.toNat = k
  · subst e
    have := hx.2
    rw [List.getD_eq_getElem?_getD, this] at hk
    simp at hk; omega
  · rw [List.getElem?_set_ne (fun h => e h.symm)]; exact hx.2
theorem heightsGo_ok (ins : List Ins) (hc : Calm ins) : ∀ (fuel : Nat) (q : List (Int × Int)) (out : List Int), q.length + 2 * zkv out < fuel → (∀ x ∈ q, 0 ≤ x.2 ∧ x.2 ≤ 16) → HeiInv ins q out → (heightsGo ins fuel q out).2 = 0 → HeiOk ins (heightsGo ins fuel q out).1
  | 0, q, out, h, _, _, _ => by omega
  | f + 1, [], out, _, _, iv, _ => ⟨iv.len, by rcases iv.start with h | h; simp at h; exact h, fun m i h h1 h2 h3 => by
      obtain ⟨a, b, c, d⟩ := iv.at_ m i h h1 h2 h3
      exact ⟨a, b, c, fun x hx => (d x hx).resolve_left (by simp)⟩⟩
  | f + 1, (at_, h) :: q, out, hp, hq, iv, he => by
    unfold heightsGo at he ⊢
    have hh := hq (at_, h) (by simp)
    simp only at hh
    have hq' : ∀ x ∈ q, 0 ≤ x.2 ∧ x.2 ≤ 16 := fun x hx => hq x (by simp [hx])
    simp only [List.length_cons] at hp
    generalize hm : (if 0 ≤ at_ then ins[at_.toNat]? else none) = m at *
    cases m with
    | none => simp at he
    | some i =>
      obtain ⟨h0, hi⟩ : 0 ≤ at_ ∧ ins[at_.toNat]? = some i := by
        by_cases h0 : 0 ≤ at_
        · rw [if_pos h0] at hm; exact ⟨h0, hm⟩
        · rw [if_neg h0] at hm; cases hm
      have hl := iv.len
      have hlt : at_.toNat < out.length := by rw [hl]; exact (List.getElem?_eq_some_iff.1 hi).1
      have hget : out[at_.toNat]? = some out[at_.toNat] := List.getElem?_eq_getElem hlt
      have hgd : out.getD at_.toNat 0 = out[at_.toNat] := by rw [List.getD_eq_getElem?_getD, hget]; rfl
      simp only at he ⊢
      by_cases hs : 0 ≤ out.getD at_.toNat 0
      · rw [if_pos hs] at he ⊢
        by_cases hne : out.getD at_.toNat 0 ≠ h
        · rw [if_pos hne] at he; simp at he
        · rw [if_neg hne] at he ⊢
          have hth : there out (at_, h) := ⟨h0, by rw [hget, ← hgd]; simp only; rw [Classical.not_not.1 hne]⟩
          refine heightsGo_ok ins hc f q out (by omega) hq' ⟨hl, ?_, fun m j k h1 h2 h3 => ?_⟩ he
          · rcases iv.start with h | h
            · rcases List.mem_cons.1 h with h | h
              · rw [h]; exact .inr hth
              · exact .inl h
            · exact .inr h
          · obtain ⟨a, b, c, d⟩ := iv.at_ m j k h1 h2 h3
            refine ⟨a, b, c, fun x hx => ?_⟩
            rcases d x hx with h | h
            · rcases List.mem_cons.1 h with h | h
              · rw [h]; exact .inr hth
              · exact .inl h
            · exact .inr h
      · rw [if_neg hs] at he ⊢
        have hb := zmu i (hc i (List.mem_of_getElem? hi))
        by_cases h1 : h < (effect i).1 ∨ (i.op = 18 ∧ h ≠ 1)
        · rw [if_pos h1] at he; simp at he
        · rw [if_neg h1] at he ⊢
          by_cases h2 : 16 < h + (effect i).2 - (effect i).1
          · rw [if_pos h2] at he; simp at he
          · rw [if_neg h2] at he ⊢
            have hu := zru (out := out) (k := at_.toNat) (h := h) hlt (by omega) hh.1
            have hth : there (out.set at_.toNat h) (at_, h) := ⟨h0, List.getElem?_set_self hlt⟩
            refine heightsGo_ok ins hc f _ _ ?_ ?_ ⟨by simpa using hl, ?_, ?_⟩ he
            · simp only [List.length_append]
              have l1 : (if i.op ≠ 15 ∧ i.op ≠ 18 then [(at_ + 1, h + (effect i).2 - (effect i).1)] else []).length ≤ 1 := by split <;> simp
              have l2 : (if i.op = 15 ∨ i.op = 16 then [(i.a, h + (effect i).2 - (effect i).1)] else []).length ≤ 1 := by split <;> simp
              omega
            · intro x hx
              simp only [List.mem_append] at hx
              rcases hx with (hx | hx) | hx
              · exact hq' x hx
              · split at hx
                · simp at hx; subst hx; constructor <;> simp only <;> omega
                · simp at hx
              · split at hx
                · simp at hx; subst hx; constructor <;> simp only <;> omega
                · simp at hx
            · rcases iv.start with h9 | h9
              · rcases List.mem_cons.1 h9 with h9 | h9
                · rw [h9]; exact .inr hth
                · exact .inl (by simp [h9])
              · exact .inr (there_set h9 (by omega) (Int.le_refl _))
            · intro m j k m1 m2 m3
              by_cases e : m = at_.toNat
              · subst e
                rw [hi] at m1
                cases m1
                rw [List.getElem?_set_self hlt] at m2
                cases m2
                have ea : ((at_.toNat : Nat) : Int) = at_ := Int.toNat_of_nonneg h0
                refine ⟨by omega, fun h18 => by omega, by unfold after; omega, fun x hx => .inl ?_⟩
                unfold succs after at hx
                rw [ea] at hx
                rw [List.append_assoc]
                exact List.mem_append_right _ hx
              · rw [List.getElem?_set_ne (fun h => e h.symm)] at m2
                obtain ⟨a, b, c, d⟩ := iv.at_ m j k m1 m2 m3
                have hbj := zmu j (hc j (List.mem_of_getElem? m1))
                refine ⟨a, b, c, fun x hx => ?_⟩
                have hx2 : 0 ≤ x.2 := by
                  have : x.2 = after j k := by
                    unfold succs at hx
                    rcases List.mem_append.1 hx with h | h
                    · split at h
                      · simp at h; rw [h]
                      · simp at h
                    · split at h
                      · simp at h; rw [h]
                      · simp at h
                  rw [this]; unfold after; omega
                rcases d x hx with h | h
                · rcases List.mem_cons.1 h with h | h
                  · rw [h]; exact .inr hth
                  · exact .inl (by simp [h])
                · exact .inr (there_set h (by omega) hx2)
theorem heights_ok {ins : List Ins} (hc : Calm ins) (h : (heights ins).2 = 0) : HeiOk ins (heights ins).1 := by
  refine heightsGo_ok ins hc _ _ _ ?_ ?_ ⟨by simp, .inl (by simp), fun m i k h1 h2 h3 => ?_⟩ h
  · unfold zkv; simp [List.countP_replicate]; omega
  · intro x hx; simp at hx; subst hx; simp
  · have := List.mem_of_getElem? h2
    have := List.eq_of_mem_replicate this
    omega
end VM
end Go.Proofs.Ytpbnaaoilgohkaa
set_option maxRecDepth 8000
namespace Go.Proofs.Ytpbnaaoilgohkaa
namespace VM
theorem WrongOk.mono {v : Val} {N M : Int} (h : WrongOk v N) (hn : N ≤ M) : WrongOk v M := ⟨h.kind, h.int, h.len, fun k => by have := h.cell k; omega, h.txt, h.non⟩
structure FrOk (p : Prg) (N : Nat) (f : Frm) : Prop where
  fn0 : 0 ≤ f.fn
  at0 : 0 ≤ f.at_
  code : f.fn.toNat < p.codes.length
  ins : f.at_.toNat < (codeAt p f.fn).ins.length
  vars : (f.vars.length : Int) = (codeAt p f.fn).vars
  vv : ∀ v ∈ f.vars, WrongOk v N
  sv : ∀ v ∈ f.stack, WrongOk v N
def hts (p : Prg) (f : Frm) : List Int := (heights (codeAt p f.fn).ins).1
def Still (p : Prg) (f : Frm) : Prop := (hts p f)[f.at_.toNat]? = some (f.stack.length : Int)
structure Waits (p : Prg) (f : Frm) (fn : Int) : Prop where
  pos : 0 < f.at_
  op : ((codeAt p f.fn).ins.getD (f.at_.toNat - 1) ⟨0, 0, 0⟩).op = 17
  to : ((codeAt p f.fn).ins.getD (f.at_.toNat - 1) ⟨0, 0, 0⟩).a = fn
  seen : 0 ≤ (hts p f).getD (f.at_.toNat - 1) 0
  hei : (hts p f)[f.at_.toNat]? = some ((f.stack.length : Int) + 1)
inductive WChain (p : Prg) : List Frm → Int → Prop
  | nil (fn : Int) : WChain p [] fn
  | snoc (gs : List Frm) (g : Frm) (fn : Int) : WChain p gs g.fn → Waits p g fn → WChain p (gs ++ [g]) fn
structure Live (a : Agt) (fs : List Frm) (f : Frm) : Prop where
  fr : a.frames = fs ++ [f]
  prog : program a.prog = 0
  id : 0 ≤ a.id ∧ a.id ≤ 1073741824
  trip : 0 ≤ a.trip ∧ a.trip ≤ 1073741824
  fuel : 0 ≤ a.permit.fuel ∧ a.permit.fuel ≤ 2000
  room : 0 ≤ a.permit.room
  hops : 0 ≤ a.permit.hops ∧ a.permit.hops ≤ 12
  flen : fs.length < 12
  hlen : (a.heap.length : Int) + a.permit.room ≤ 60
  ok : ∀ g ∈ fs ++ [f], FrOk a.prog a.heap.length g
  chain : WChain a.prog fs f.fn
  still : Still a.prog f
  cells : ∀ c ∈ a.heap, WrongOk c.left a.heap.length ∧ WrongOk c.right a.heap.length
structure Now (p : Prg) (f : Frm) (i : Ins) : Prop where
  at_ : (codeAt p f.fn).ins[f.at_.toNat]? = some i
  num : numbers p (codeAt p f.fn) i = 0
  pops : (effect i).1 ≤ f.stack.length
  ret : i.op = 18 → f.stack.length = 1
  most : after i f.stack.length ≤ 16
  next : ∀ x ∈ succs f.at_ i f.stack.length, there (hts p f) x
theorem code_mem {p : Prg} {n : Int} (h : n.toNat < p.codes.length) : codeAt p n ∈ p.codes := by
  unfold codeAt
  rw [List.getD_eq_getElem?_getD, List.getElem?_eq_getElem h]
  exact List.getElem_mem h
theorem program_nums {p : Prg} (h : program p = 0) : ∀ c ∈ p.codes, ∀ i ∈ c.ins, numbers p c i = 0 := by
  unfold program at h
  split at h
  · omega
  split at h
  · omega
  split at h
  · omega
  split at h
  · omega
  split at h
  · omega
  intro c hc i hi
  have he := zbf h c hc
  unfold codeErr at he
  by_cases hn : firstErr (numbers p c) c.ins ≠ 0
  · rw [if_pos hn] at he; exact absurd he hn
  · exact zbf (by omega) i hi
theorem Live.now {a : Agt} {fs : List Frm} {f : Frm} (l : Live a fs f) : Now a.prog f (insAt a.prog f) := by
  have ok := l.ok f (by simp)
  obtain ⟨pr, _⟩ := zch l.prog
  obtain ⟨_, calm, hz⟩ := pr _ (code_mem ok.code)
  have hk := heights_ok calm hz
  have hi : (codeAt a.prog f.fn).ins[f.at_.toNat]? = some (insAt a.prog f) := by
    unfold insAt
    rw [List.getD_eq_getElem?_getD, List.getElem?_eq_getElem ok.ins]; rfl
  have ea : ((f.at_.toNat : Nat) : Int) = f.at_ := Int.toNat_of_nonneg ok.at0
  obtain ⟨h1, h2, h3, h4⟩ := hk.at_ _ _ _ hi l.still (by omega)
  rw [ea] at h4
  exact ⟨hi, program_nums l.prog _ (code_mem ok.code) _ (List.mem_of_getElem? hi), h1, fun h => by have := h2 h; omega, h3, h4⟩
theorem numbers_ok {p : Prg} {c : Cod} {i : Ins} (h : numbers p c i = 0) : 1 ≤ i.op ∧ i.op ≤ 19 ∧ numOk p c i = true ∧ (i.op ≠ 17 → i.b = 0) := by
  unfold numbers at h
  split at h
  · omega
  split at h
  · omega
  rename_i h1 h2
  refine ⟨by omega, by omega, ?_, fun hb => ?_⟩
  · cases hn : numOk p c i with
    | true => rfl
    | false => exact absurd (.inl hn) h2
  · exact Classical.byContradiction fun hx => h2 (.inr ⟨hb, hx⟩)
theorem firstErr_app {α : Type} {f : α → Int} {l m : List α} (h : firstErr f (l ++ m) = 0) : (∀ x ∈ l, f x = 0) ∧ ∀ x ∈ m, f x = 0 := by
  have := zbf h
  exact ⟨fun x hx => this x (by simp [hx]), fun x hx => this x (by simp [hx])⟩
theorem chain_of {p : Prg} {l : List Frm} : ∀ (k : Nat) (f : Frm), l[k]? = some f → (∀ (j : Nat) (g : Frm), j < k → l[j]? = some g → Waits p g (((l[j + 1]?).map (·.fn)).getD 0)) → WChain p (l.take k) f.fn
  | 0, f, _, _ => by rw [List.take_zero]; exact .nil _
  | k + 1, f, hf, hw => by
    have hk : k < l.length := by have := (List.getElem?_eq_some_iff.1 hf).1; omega
    have hg : l[k]? = some l[k] := List.getElem?_eq_getElem hk
    have ih := chain_of (p := p) k l[k] hg fun j g hj hjg => hw j g (by omega) hjg
    have w := hw k _ (by omega) hg
    rw [hf] at w
    have e : l.take (k + 1) = l.take k ++ [l[k]] := by rw [List.take_add_one, hg]; rfl
    rw [e]
    exact .snoc _ _ _ ih w
end VM
end Go.Proofs.Ytpbnaaoilgohkaa
set_option maxRecDepth 8000
namespace Go.Proofs.Ytpbnaaoilgohkaa
namespace VM
theorem hts_len {p : Prg} {f : Frm} (hp : program p = 0) (hc : f.fn.toNat < p.codes.length) : (hts p f).length = (codeAt p f.fn).ins.length := by
  obtain ⟨pr, _⟩ := zch hp
  obtain ⟨_, calm, hz⟩ := pr _ (code_mem hc)
  exact (zfo calm hz).1
theorem FrOk.mono {p : Prg} {N M : Nat} {f : Frm} (h : FrOk p N f) (hn : N ≤ M) : FrOk p M f :=
  ⟨h.fn0, h.at0, h.code, h.ins, h.vars, fun v hv => (h.vv v hv).mono (by omega), fun v hv => (h.sv v hv).mono (by omega)⟩
theorem Live.on {a : Agt} {fs : List Frm} {f : Frm} (l : Live a fs f) {k : Int} {vs st : List Val} {h : List Cl} {m : Pmt} (hk : there (hts a.prog f) (k, st.length)) (hvl : vs.length = f.vars.length) (hv : ∀ v ∈ vs, WrongOk v h.length) (hs : ∀ v ∈ st, WrongOk v h.length)
    (hh : a.heap.length ≤ h.length) (hc : ∀ c ∈ h, WrongOk c.left h.length ∧ WrongOk c.right h.length) (m1 : 0 ≤ m.fuel ∧ m.fuel ≤ 2000) (m2 : 0 ≤ m.room) (m3 : 0 ≤ m.hops ∧ m.hops ≤ 12) (hl : (h.length : Int) + m.room ≤ 60) :
    Live { a with frames := fs ++ [⟨f.fn, k, vs, st⟩], heap := h, permit := m } fs ⟨f.fn, k, vs, st⟩ := by
  have ok := l.ok f (by simp)
  obtain ⟨k0, k1⟩ := hk
  have klt := (List.getElem?_eq_some_iff.1 k1).1
  rw [hts_len l.prog ok.code] at klt
  refine ⟨rfl, l.prog, l.id, l.trip, m1, m2, m3, l.flen, hl, fun g hg => ?_, l.chain, k1, hc⟩
  rcases List.mem_append.1 hg with hg | hg
  · exact (l.ok g (by simp [hg])).mono hh
  · simp only [List.mem_singleton] at hg
    subst hg
    exact ⟨ok.fn0, k0, ok.code, klt, by have := ok.vars; simp only; omega, hv, hs⟩
theorem WChain.last {p : Prg} {gs : List Frm} {g : Frm} {fn : Int} (h : WChain p (gs ++ [g]) fn) : WChain p gs g.fn ∧ Waits p g fn := by
  generalize hl : gs ++ [g] = l at h
  cases h with
  | nil => simp at hl
  | snoc gs' g' _ h1 h2 =>
    obtain ⟨rfl, h⟩ := List.append_inj' hl rfl
    cases h
    exact ⟨h1, h2⟩
theorem Now.go {p : Prg} {f : Frm} {i : Ins} (n : Now p f i) (h1 : i.op ≠ 15) (h2 : i.op ≠ 18) : there (hts p f) (f.at_ + 1, after i f.stack.length) :=
  n.next _ (by unfold succs; simp [h1, h2])
end VM
end Go.Proofs.Ytpbnaaoilgohkaa
set_option maxRecDepth 8000
namespace Go.Proofs.Ytpbnaaoilgohkaa
open Go Go.RowKit
end Go.Proofs.Ytpbnaaoilgohkaa
set_option maxRecDepth 8000
namespace Go.Proofs.Ytpbnaaoilgohkaa
open Go Go.RowKit
@[simp] theorem zaub : eqsT 55 = true := by kernel_rfl
@[simp] theorem zasm : eqsT 58 = true := by kernel_rfl
end Go.Proofs.Ytpbnaaoilgohkaa
set_option maxRecDepth 8000
namespace Go.Proofs.Ytpbnaaoilgohkaa
open Go Go.RowKit
inductive Rn (R : Nat → Prop) (gn g0 : Nat) : AV → AV → Prop
  | same (v : AV) : Bel R v → Rn R gn g0 v v
  | slc (off len : Nat) : Rn R gn g0 (.slc gn off len) (.slc g0 off len)
  | ptr (off : Nat) : Rn R gn g0 (.ptr gn off) (.ptr g0 off)
  | amap : Rn R gn g0 (.amap gn) (.amap g0)
  | agg (xs ys : List AV) : ys.length = xs.length → (∀ (j : Nat) (v u : AV), xs[j]? = some v → ys[j]? = some u → Rn R gn g0 v u) → Rn R gn g0 (.agg xs) (.agg ys)
def RnO (R : Nat → Prop) (gn g0 : Nat) : AObj → AObj → Prop
  | .row s cs, .row s' ds => s' = s ∧ ds.length = cs.length ∧ ∀ (j : Nat) (v u : AV), cs[j]? = some v → ds[j]? = some u → Rn R gn g0 v u
  | .mp es, .mp fs => fs.length = es.length ∧ ∀ (j : Nat) (v u : AV × AV), es[j]? = some v → fs[j]? = some u → Rn R gn g0 v.1 u.1 ∧ Rn R gn g0 v.2 u.2
  | _, _ => False
theorem VRel.rn {K : zq} {ρ ρ2 : Nat → Loc} {A A2 R : Nat → Prop} {gn g0 : Nat} {v u : AV} {c : Value} (h : VRel K ρ A v c) (hr : Rn R gn g0 v u) (hR : ∀ g, R g → A g → ρ2 g = ρ g ∧ A2 g) (hA : ∀ g, R g → A g) (hg : ρ2 g0 = ρ gn ∧ A2 g0) : VRel K ρ2 A2 u c := by
  induction hr generalizing c with
  | same _ hb => exact (h.restrict hb).mono (fun _ _ h => h) fun g hg => hR g hg (hA g hg)
  | slc off len =>
    cases h with
    | slc _ _ _ cap a h1 h2 h3 => exact .slc g0 off len cap a hg.2 h2 (by rw [hg.1]; exact h3)
  | ptr off =>
    cases h with
    | ptr _ _ a h1 h2 => exact .ptr g0 off a hg.2 (by rw [hg.1]; exact h2)
  | amap =>
    cases h with
    | amap _ r h1 h2 => exact .amap g0 r hg.2 (by rw [hg.1]; exact h2)
  | agg xs ys hl _ ih =>
    cases h with
    | agg _ cs h1 h2 =>
      exact .agg ys cs (by omega) fun j u c hu hc => by
        have hlt := (List.getElem?_eq_some_iff.1 hu).1
        have hx : xs[j]? = some (xs[j]'(by omega)) := List.getElem?_eq_getElem (by omega)
        exact ih j _ u hx hu (h2 j _ c hx hc)
theorem zal.rn {K : zq} {ρ ρ2 : Nat → Loc} {A A2 R : Nat → Prop} {gn g0 : Nat} {o o' : AObj} {w : World} {l : Loc} (h : zal K ρ A w l o) (hr : RnO R gn g0 o o') (hR : ∀ g, R g → A g → ρ2 g = ρ g ∧ A2 g) (hA : ∀ g, R g → A g) (hg : ρ2 g0 = ρ gn ∧ A2 g0) : zal K ρ2 A2 w l o' := by
  cases o with
  | row s cs =>
    cases o' with
    | mp fs | it _ _ _ => exact hr.elim
    | row s' ds =>
      obtain ⟨rfl, hl, hc⟩ := hr
      obtain ⟨c, e, lo, hi, h1, h0, h2, h3, h4, h5⟩ := h
      refine ⟨c, e, lo, hi, h1, h0, h2, h3, by rw [hl]; exact h4, fun j u hu => ?_⟩
      have hj : j < cs.length := by have := (List.getElem?_eq_some_iff.1 hu).1; omega
      have hv : cs[j]? = some cs[j] := List.getElem?_eq_getElem hj
      obtain ⟨cv, a1, a2⟩ := h5 j _ hv
      exact ⟨cv, a1, a2.rn (hc j _ u hv hu) hR hA hg⟩
  | mp es =>
    cases o' with
    | row s' ds | it _ _ _ => exact hr.elim
    | mp fs =>
      obtain ⟨hl, hc⟩ := hr
      obtain ⟨en, cl, h1, h2, h3, h4⟩ := h
      refine ⟨en, cl, h1, by rw [hl]; exact h2, fun j u e hu he => ?_, h4⟩
      have hj : j < es.length := by have := (List.getElem?_eq_some_iff.1 hu).1; omega
      have hv : es[j]? = some es[j] := List.getElem?_eq_getElem hj
      obtain ⟨a1, a2⟩ := h3 j _ e hv he
      obtain ⟨b1, b2⟩ := hc j _ u hv hu
      exact ⟨a1.rn b1 hR hA hg, a2.rn b2 hR hA hg⟩
  | it _ _ _ => exact hr.elim
theorem zmy {D : zl} : ∀ {H : Heap} {g : Nat}, g ∉ domD D → (H.apply D) g = H g := by
  induction D with
  | nil => intros; rfl
  | cons d r ih =>
    obtain ⟨g', o⟩ := d
    intro H g hg
    simp only [domD, List.map_cons, List.mem_cons, not_or] at hg
    show ((H.put g' o).apply r) g = H g
    rw [ih (by simpa [domD] using hg.2), Heap.put_ne _ _ hg.1]
theorem LC.of_calls1 {P : Program} {f : FuncId} {args : List AV} {r : AV} {H0 : Heap} {rd : List Nat} {D : zl} {g0 : Nat} (hrd : ∀ g ∈ rd, (H0 g).isSome = true) (hdom : ∀ g ∈ domD D, g ∈ rd ∨ g = g0)
    (h : ∀ H nx, (∀ g ∈ rd, H g = H0 g ∧ g < nx) → za P f args H nx fun v H' nx' => ∃ gn, nx ≤ gn ∧ gn < nx' ∧ Rn (fun x => x ∈ rd) gn g0 v r ∧ (∀ g, g < nx → g ∉ domD D → H' g = H g) ∧
      (∀ g o, g ∈ domD D → g ≠ g0 → (H.apply D) g = some o → ∃ o', H' g = some o' ∧ RnO (fun x => x ∈ rd) gn g0 o' o) ∧ (∃ o o', (H.apply D) g0 = some o ∧ H' gn = some o' ∧ RnO (fun x => x ∈ rd) gn g0 o' o)) : LC P f args H0 rd [g0] D r := by
  intro A ρ H w cargs ⟨N0, hN0⟩ s ha hag hfresh
  obtain ⟨N, hN, hg0N⟩ : ∃ N, (∀ g, A g → g < N) ∧ g0 < N := ⟨max N0 (g0 + 1), fun g hg => by have := hN0 g hg; omega, by omega⟩
  have hg0 : ¬ A g0 := hfresh g0 (by simp)
  have sN : Sim (· < N) ρ H w := ⟨fun g o ho => hN g (s.live g o ho), fun g o ho => (s.obj g o ho).mono rfl (fun _ _ h => h) (fun g hg => ⟨rfl, hN g hg⟩), s.inj, s.lay⟩
  have aN : LRel (Kof ρ H w) ρ (· < N) args cargs.toList := ⟨ha.1, fun j v c hv hc => (ha.2 j v c hv hc).mono (fun _ _ h => h) (fun g hg => ⟨rfl, hN g hg⟩)⟩
  have hrdA : ∀ g ∈ rd, A g := fun g hg => by
    obtain ⟨o, ho⟩ := Option.isSome_iff_exists.1 (hrd g hg)
    exact s.live g o ((hag g hg).trans ho)
  refine zw (h H N (fun g hg => ⟨hag g hg, hN g (hrdA g hg)⟩) ρ w cargs sN aN) fun cv w' ⟨v, H', nx', ρ', ⟨gn, hgN, hgn, hv, hsame, hchg, onew, onew', hn1, hn2, hn3⟩, q3, q4, q5⟩ => ?_
  have hρ : ∀ g, g < N → ρ' g = ρ g := fun g hg => (q5.agree g hg).1
  let ρ2 : Nat → Loc := fun g => if g = g0 then ρ' gn else ρ' g
  have h20 : ρ2 g0 = ρ' gn := if_pos rfl
  have h2 : ∀ g, g ≠ g0 → ρ2 g = ρ' g := fun g hg => if_neg hg
  have hAne : ∀ g, A g → g ≠ g0 := fun g hg e => hg0 (e ▸ hg)
  have hR : ∀ g, g ∈ rd → g < nx' → ρ2 g = ρ' g ∧ (A g ∨ g ∈ [g0]) := fun g hg _ => ⟨h2 g (hAne g (hrdA g hg)), .inl (hrdA g hg)⟩
  have hRA : ∀ g, g ∈ rd → g < nx' := fun g hg => by have := hN g (hrdA g hg); omega
  have hG : ρ2 g0 = ρ' gn ∧ (A g0 ∨ g0 ∈ [g0]) := ⟨h20, .inr (by simp)⟩
  -- who stands for whom
  have lv : ∀ g o, (H.apply D) g = some o → (A g ∨ g ∈ [g0]) ∧ ∃ g' o', H' g' = some o' ∧ ρ2 g = ρ' g' ∧ (g = g0 → g' = gn) ∧ (g ≠ g0 → g' = g ∧ A g) ∧
      (∀ K, zal K ρ' (· < nx') w' (ρ' g') o' → zal K ρ2 (fun x => A x ∨ x ∈ [g0]) w' (ρ2 g) o) := fun g o ho => by
    by_cases hgg : g = g0
    · subst hgg
      rw [hn1] at ho
      obtain rfl := Option.some.inj ho
      exact ⟨.inr (by simp), gn, onew', hn2, h20, fun _ => rfl, fun h => absurd rfl h, fun K hk => by rw [h20]; exact hk.rn hn3 hR hRA hG⟩
    · by_cases hg : g ∈ domD D
      · obtain ⟨o', h1, h3⟩ := hchg g o hg hgg ho
        have hA : A g := by
          rcases hdom g hg with h | h
          · exact hrdA g h
          · exact absurd h hgg
        exact ⟨.inl hA, g, o', h1, h2 g hgg, fun h => absurd h hgg, fun _ => ⟨rfl, hA⟩, fun K hk => by rw [h2 g hgg]; exact hk.rn h3 hR hRA hG⟩
      · rw [zmy hg] at ho
        have hA := s.live g o ho
        refine ⟨.inl hA, g, o, by rw [hsame g (hN g hA) hg]; exact ho, h2 g hgg, fun h => absurd h hgg, fun _ => ⟨rfl, hA⟩, fun K hk => ?_⟩
        rw [h2 g hgg]
        exact (hk.restrict (s.obj g o ho).bel).mono rfl (fun _ _ h => h) (fun x hx => ⟨h2 x (hAne x hx), .inl hx⟩)
  have hK : ∀ b o, Kof ρ' H' w' b = some o → Kof ρ2 (H.apply D) w' b = some o := fun b o hb => by
    obtain ⟨k1, k2⟩ := zu.1 hb
    refine zu.2 ⟨fun g hg => ?_, k2⟩
    obtain ⟨o1, ho1⟩ := Option.isSome_iff_exists.1 hg
    obtain ⟨_, g', o', e1, e2, _⟩ := lv g o1 ho1
    rw [e2]
    exact k1 g' (by rw [e1]; rfl)
  refine ⟨ρ2, ⟨fun g o ho => (lv g o ho).1, fun g o ho => ?_, fun x y hx hy hxy => ?_, q3.lay.mono hK⟩, ?_, ⟨fun g hg => ⟨(h2 g (hAne g hg)).trans (hρ g (hN g hg)), .inl hg⟩, fun b o hb => hK b o (q5.k b o hb), q5.os, q5.tape, q5.output, q5.size⟩⟩
  · obtain ⟨_, g', o', e1, _, _, _, e4⟩ := lv g o ho
    exact (e4 _ (q3.obj g' o' e1)).mono rfl hK (fun _ h => ⟨rfl, h⟩)
  · obtain ⟨o1, ho1⟩ := Option.isSome_iff_exists.1 hx
    obtain ⟨o2, ho2⟩ := Option.isSome_iff_exists.1 hy
    obtain ⟨_, x', p1, e1, e2, e3, e4, _⟩ := lv x o1 ho1
    obtain ⟨_, y', p2, f1, f2, f3, f4, _⟩ := lv y o2 ho2
    rw [e2, f2] at hxy
    have hxy' := q3.inj x' y' (by rw [e1]; rfl) (by rw [f1]; rfl) hxy
    by_cases hx0 : x = g0
    · by_cases hy0 : y = g0
      · rw [hx0, hy0]
      · have := (f4 hy0).1
        have hAy := hN y (f4 hy0).2
        have := e3 hx0
        omega
    · by_cases hy0 : y = g0
      · have := (e4 hx0).1
        have hAx := hN x (e4 hx0).2
        have := f3 hy0
        omega
      · rw [← (e4 hx0).1, ← (f4 hy0).1]; exact hxy'
  · exact (q4.rn hv hR hRA hG).mono hK (fun g hg => ⟨rfl, hg⟩)
end Go.Proofs.Ytpbnaaoilgohkaa
set_option maxRecDepth 8000
namespace Go.Proofs.Ytpbnaaoilgohkaa
open Go Go.RowKit
def zbe : Nat → List Nat → List (AV × AV)
  | _, [] => []
  | k, n :: r => (.int .i64 n, .int .i64 k) :: zbe (k + 1) r
def zgr (o : List Nat) : List (AV × AV) := zbe 0 o
def zao (o : List Nat) : List AV := o.map fun (n : Nat) => AV.int .i64 (n : Int)
@[simp] theorem zara (o : List Nat) : (zao o).length = o.length := by simp [zao]
theorem zzg (o : List Nat) (n : Nat) : zgr (o ++ [n]) = zgr o ++ [(.int .i64 n, .int .i64 o.length)] := by
  have : ∀ k, zbe k (o ++ [n]) = zbe k o ++ [(.int .i64 n, .int .i64 (k + o.length : Nat))] := by
    induction o with
    | nil => intro k; rfl
    | cons a r ih => intro k; simp only [List.cons_append, zbe, ih (k + 1), List.length_cons]; rw [show k + 1 + r.length = k + (r.length + 1) by omega]
  simpa [zgr] using this 0
theorem zsw (o : List Nat) (n : Nat) : zaq (.int .i64 n) (zgr o) = some (if n ∈ o then some (o.idxOf n, .int .i64 (o.idxOf n : Nat)) else none) := by
  have : ∀ k, zaq (.int .i64 n) (zbe k o) = some (if n ∈ o then some (o.idxOf n, .int .i64 (k + o.idxOf n : Nat)) else none) := by
    induction o with
    | nil => intro k; simp [zbe]
    | cons a r ih =>
      intro k
      rw [zbe, zmt]
      by_cases h : n = a
      · subst h; simp
      · have h1 : ¬ ((n : Int) = a) := by omega
        have h2 : ¬ (a = n) := fun e => h e.symm
        rw [if_neg h1, ih (k + 1)]
        by_cases hm : n ∈ r
        · simp [hm, h]
          have hb : (a == n) = false := by simpa using h2
          rw [List.idxOf_cons, hb, cond_false]
          omega
        · simp [hm, h]
  simpa [zgr] using this 0
structure zgm (H : Heap) (g1 g2 gm gr : Nat) (o : List Nat) : Prop where
  m1 : H g1 = some (.row 1 [.amap gm])
  mm : H gm = some (.mp (zgr o))
  m2 : H g2 = some (.row 1 [if o = [] then .nils else .slc gr 0 o.length])
  mr : o ≠ [] → H gr = some (.row 1 (zao o))
  d12 : g1 ≠ g2
  d1m : g1 ≠ gm
  d2m : g2 ≠ gm
  dr : o ≠ [] → gr ≠ g1 ∧ gr ≠ g2 ∧ gr ≠ gm
theorem zlv {o : List Nat} {v : Val} (h : v.kind = 2 ∧ v.n.toNat ∉ o) : VM.meet o v = o ++ [v.n.toNat] := if_pos h
theorem zpm {o : List Nat} {v : Val} (h : ¬ (v.kind = 2 ∧ v.n.toNat ∉ o)) : VM.meet o v = o := if_neg h
set_option maxHeartbeats 2000000 in
theorem zxi (v : Val) (o : List Nat) (hv : v.kind = 2 → 0 ≤ v.n) (ho : (o.length + 1) * 8 ≤ 140737488355328) {H : Heap} {nx g1 g2 gm gr : Nat} (st : zgm H g1 g2 gm gr o) (l1 : g1 < nx) (l2 : g2 < nx) (lm : gm < nx) (lr : o ≠ [] → gr < nx) :
    za Try.prog 58 [.agg v.avs, .ptr g1 0, .ptr g2 0] H nx fun r H' nx' => r = .agg (VM.put (VM.meet o v) v).avs ∧ nx ≤ nx' ∧
      (¬ (v.kind = 2 ∧ v.n.toNat ∉ o) → ∀ g, g < nx → H' g = H g) ∧
      ((v.kind = 2 ∧ v.n.toNat ∉ o) → ∃ gn, nx ≤ gn ∧ gn < nx' ∧ H' gm = some (.mp (zgr (o ++ [v.n.toNat]))) ∧ H' g2 = some (.row 1 [.slc gn 0 (o.length + 1)]) ∧ H' gn = some (.row 1 (zao (o ++ [v.n.toNat]))) ∧ (o ≠ [] → H' gr = none) ∧
        ∀ g, g < nx → g ≠ gm → g ≠ g2 → (o ≠ [] → g ≠ gr) → H' g = H g) := by
  refine zxv _ _ _ H nx _ ?_
  obtain ⟨k, n, s⟩ := v
  obtain ⟨m1, mm, m2, mr, d12, d1m, d2m, dr⟩ := st
  have n1 : g1 ≠ nx := by omega
  have n1' : g1 ≠ nx + 1 := by omega
  have n2 : g2 ≠ nx := by omega
  have n2' : g2 ≠ nx + 1 := by omega
  have n2'' : g2 ≠ nx + 2 := by omega
  have nm : gm ≠ nx := by omega
  have nm' : gm ≠ nx + 1 := by omega
  have keep2 : ∀ (a b : Option AObj) g, g < nx → ((H.put nx a).put (nx + 1) b) g = H g := fun a b g hg => by
    rw [Heap.put_ne _ _ (by omega), Heap.put_ne _ _ (by omega)]
  by_cases hk : k = 2
  case neg =>
    have e : VM.put (VM.meet o ⟨k, n, s⟩) ⟨k, n, s⟩ = ⟨k, n, s⟩ := if_neg hk
    simp [zed, Val.avs, hk, e]
    intro g hg
    repeat rw [if_neg (by omega)]
  subst hk
  obtain ⟨m, rfl⟩ : ∃ m : Nat, n = m := ⟨n.toNat, by have := hv rfl; simp only at this; omega⟩
  simp only [Int.toNat_natCast, true_and] at *
  by_cases hmo : m ∈ o
  · have e1 : VM.meet o ⟨2, m, s⟩ = o := zpm (by simp [hmo])
    have e : VM.put (VM.meet o ⟨2, m, s⟩) ⟨2, m, s⟩ = ⟨2, (o.idxOf m : Nat), s⟩ := by rw [e1]; rfl
    simp [zed, Val.avs, e, n1, n1', nm, nm', m1, mm, zsw, hmo]
    intro g hg
    repeat rw [if_neg (by omega)]
  · have e1 : VM.meet o ⟨2, m, s⟩ = o ++ [m] := zlv (by simp [hmo])
    have e : VM.put (VM.meet o ⟨2, m, s⟩) ⟨2, m, s⟩ = ⟨2, o.length, s⟩ := by
      rw [e1]; unfold VM.put; simp only [if_true, Int.toNat_natCast]
      rw [List.idxOf_append, if_neg hmo]; simp
    by_cases h0 : o = []
    · subst h0
      simp at m2
      have ne_0 : g1 ≠ g2 ∧ g2 ≠ g1 ∧ g1 ≠ gm ∧ gm ≠ g1 ∧ g2 ≠ gm ∧ gm ≠ g2 ∧ g1 ≠ nx ∧ nx ≠ g1 ∧ g1 ≠ nx + 1 ∧ nx + 1 ≠ g1 ∧ g1 ≠ nx + 2 ∧ nx + 2 ≠ g1 ∧ g1 ≠ nx + 3 ∧ nx + 3 ≠ g1 ∧ g2 ≠ nx ∧ nx ≠ g2 ∧ g2 ≠ nx + 1 ∧ nx + 1 ≠ g2 ∧ g2 ≠ nx + 2 ∧ nx + 2 ≠ g2 ∧ g2 ≠ nx + 3 ∧ nx + 3 ≠ g2 ∧ gm ≠ nx ∧ nx ≠ gm ∧ gm ≠ nx + 1 ∧ nx + 1 ≠ gm ∧ gm ≠ nx + 2 ∧ nx + 2 ≠ gm ∧ gm ≠ nx + 3 ∧ nx + 3 ≠ gm := ⟨by omega, by omega, by omega, by omega, by omega, by omega, by omega, by omega, by omega, by omega, by omega, by omega, by omega, by omega, by omega, by omega, by omega, by omega, by omega, by omega, by omega, by omega, by omega, by omega, by omega, by omega, by omega, by omega, by omega, by omega⟩
      simp [zed, Val.avs, e, m1, mm, m2, zsw, ne_0]
      refine ⟨by omega, nx + 3, by omega, by omega, by simpa using (zzg [] m).symm, rfl, ?_, fun g hg h1 h2 => ?_⟩
      · simp [zao, ne_0]
      · repeat rw [if_neg (by omega)]
    · obtain ⟨r1, r2, r3⟩ := dr h0
      have mr' := mr h0
      have lr' := lr h0
      simp [h0] at m2
      have ne_1 : g1 ≠ g2 ∧ g2 ≠ g1 ∧ g1 ≠ gm ∧ gm ≠ g1 ∧ g1 ≠ gr ∧ gr ≠ g1 ∧ g2 ≠ gm ∧ gm ≠ g2 ∧ g2 ≠ gr ∧ gr ≠ g2 ∧ gm ≠ gr ∧ gr ≠ gm ∧ g1 ≠ nx ∧ nx ≠ g1 ∧ g1 ≠ nx + 1 ∧ nx + 1 ≠ g1 ∧ g1 ≠ nx + 2 ∧ nx + 2 ≠ g1 ∧ g1 ≠ nx + 3 ∧ nx + 3 ≠ g1 ∧ g2 ≠ nx ∧ nx ≠ g2 ∧ g2 ≠ nx + 1 ∧ nx + 1 ≠ g2 ∧ g2 ≠ nx + 2 ∧ nx + 2 ≠ g2 ∧ g2 ≠ nx + 3 ∧ nx + 3 ≠ g2 ∧ gm ≠ nx ∧ nx ≠ gm ∧ gm ≠ nx + 1 ∧ nx + 1 ≠ gm ∧ gm ≠ nx + 2 ∧ nx + 2 ≠ gm ∧ gm ≠ nx + 3 ∧ nx + 3 ≠ gm ∧ gr ≠ nx ∧ nx ≠ gr ∧ gr ≠ nx + 1 ∧ nx + 1 ≠ gr ∧ gr ≠ nx + 2 ∧ nx + 2 ≠ gr ∧ gr ≠ nx + 3 ∧ nx + 3 ≠ gr := ⟨by omega, by omega, by omega, by omega, by omega, by omega, by omega, by omega, by omega, by omega, by omega, by omega, by omega, by omega, by omega, by omega, by omega, by omega, by omega, by omega, by omega, by omega, by omega, by omega, by omega, by omega, by omega, by omega, by omega, by omega, by omega, by omega, by omega, by omega, by omega, by omega, by omega, by omega, by omega, by omega, by omega, by omega, by omega, by omega⟩
      simp [zed, Val.avs, e, m1, mm, m2, mr', zsw, hmo, ne_1]
      have htk : List.take o.length (zao o) = zao o := List.take_of_length_le (by simp)
      refine ⟨ho, by omega, nx + 3, by omega, by omega, (zzg o m).symm, rfl, ?_, fun g hg h1 h2 h3 => ?_⟩
      · simp [htk, ne_1]
        simp [zao]
      · have h3' := h3 h0
        repeat rw [if_neg (by omega)]
end Go.Proofs.Ytpbnaaoilgohkaa
set_option maxRecDepth 8000
namespace Go.Proofs.Ytpbnaaoilgohkaa
open Go Go.RowKit
theorem zej {sz : Nat} : ∀ {xs : List (List AV)}, (∀ x ∈ xs, x.length = sz) → xs.flatten.length = xs.length * sz
  | [], _ => by simp
  | y :: r, hs => by rw [List.flatten_cons, List.length_append, zej fun z hz => hs z (by simp [hz]), hs y (by simp), List.length_cons, Nat.succ_mul, Nat.add_comm]
theorem zme {sz : Nat} : ∀ {xs : List (List AV)}, (∀ x ∈ xs, x.length = sz) → ∀ {i : Nat} {x : List AV}, xs[i]? = some x → (xs.flatten.drop (i * sz)).take sz = x
  | [], _, i, x, hx => by simp at hx
  | y :: r, hs, 0, x, hx => by
    simp at hx; subst hx
    rw [Nat.zero_mul, List.drop_zero, List.flatten_cons, List.take_append_of_le_length (by rw [hs y (by simp)]; omega), List.take_of_length_le (by rw [hs y (by simp)]; omega)]
  | y :: r, hs, i + 1, x, hx => by
    have hy : y.length = sz := hs y (by simp)
    rw [List.flatten_cons, Nat.succ_mul, List.drop_append, List.drop_of_length_le (by omega), List.nil_append, show i * sz + sz - y.length = i * sz by omega]
    exact zme (fun z hz => hs z (by simp [hz])) (by simpa using hx)
inductive zak (H : Heap) (nx sz : Nat) (xs : List (List AV)) : AV → Prop
  | ro : zak H nx sz xs (.ro xs)
  | slc (g : Nat) : g < nx → H g = some (.row sz xs.flatten) → zak H nx sz xs (.slc g 0 xs.length)
  | nils : xs = [] → zak H nx sz xs .nils
theorem zak.keep {H H' : Heap} {nx nx' sz : Nat} {xs : List (List AV)} {a : AV} (h : zak H nx sz xs a) (hk : ∀ g, g < nx → H' g = H g) (hn : nx ≤ nx') : zak H' nx' sz xs a := by
  cases h with
  | ro => exact .ro
  | slc g h1 h2 => exact .slc g (by omega) (by rw [hk g h1]; exact h2)
  | nils h => exact .nils h
theorem zak.len {H : Heap} {nx sz : Nat} {xs : List (List AV)} {a : AV} (h : zak H nx sz xs a) {k : AV → Prop} : LNL a k = k (.int .i64 xs.length) := by
  cases h with
  | ro => simp
  | slc g h1 h2 => simp
  | nils h => subst h; simp
theorem zak.ld {H : Heap} {nx sz : Nat} {xs : List (List AV)} {a : AV} (h : zak H nx sz xs a) (hs : ∀ x ∈ xs, x.length = sz) {ki : IntKind} {i : Nat} {x : List AV} (hx : xs[i]? = some x) {k : AV → Prop} (hk : k (.agg x)) : IA sz a (.int ki i) fun p => LD true sz p H k := by
  obtain ⟨hi, hx'⟩ := List.getElem?_eq_some_iff.1 hx
  have hxl : x.length = sz := hs x (List.mem_of_getElem? hx)
  cases h with
  | ro =>
    rw [zaol]
    have e : xs.getD i [] = x := by simp [List.getD_eq_getElem?_getD, hx]
    simp only [Int.toNat_natCast, e, zaim]
    refine ⟨by omega, by omega, hxl, by omega, ?_⟩
    rw [List.drop_zero, List.take_of_length_le (by omega)]
    exact hk
  | slc g h1 h2 =>
    rw [zaqb]
    simp only [Int.toNat_natCast, zamr, h2, rowk]
    refine ⟨by omega, by omega, ?_, ?_⟩
    · rw [zej hs]
      have : (i + 1) * sz ≤ xs.length * sz := Nat.mul_le_mul_right _ hi
      rw [Nat.succ_mul] at this; omega
    · rw [Nat.zero_add, zme hs hx]; exact hk
  | nils h => subst h; simp at hx
theorem zak.src {H : Heap} {nx sz : Nat} {xs : List (List AV)} {a : AV} (h : zak H nx sz xs a) (hs : ∀ x ∈ xs, x.length = sz) : ∃ rd, zg sz H a = some (xs.length, xs.flatten, rd) := by
  cases h with
  | ro => exact ⟨[], zpg hs⟩
  | slc g h1 h2 =>
    refine ⟨[g], ?_⟩
    have hl := zej hs
    simp only [zg, h2, Nat.zero_add, List.drop_zero]
    rw [if_pos (by omega), List.take_of_length_le (by omega)]
  | nils h => subst h; exact ⟨[], rfl⟩
theorem zak.frz {H : Heap} {nx sz : Nat} {xs : List (List AV)} {a : AV} (h : zak H nx sz xs a) (hs : ∀ x ∈ xs, x.length = sz) (hf : ∀ x ∈ xs, ∀ v ∈ x, flat v = true ∧ Bel (fun _ => False) v) (hro : Bel (fun _ => False) (.ro xs)) : Frz H 0 a (.ro xs) := by
  have hb : ∀ c ∈ xs.flatten, Bel (fun x => x < 0) c := by
    intro c hc
    obtain ⟨x, hx, hcx⟩ := List.mem_flatten.1 hc
    exact (hf x hx c hcx).2.mono fun _ h => h.elim
  cases h with
  | ro => exact .same _ (hro.mono fun _ h => h.elim)
  | slc g h1 h2 => exact Frz.row (Nat.zero_le _) h2 rfl hs rfl hb
  | nils h => subst h; exact .nils
end Go.Proofs.Ytpbnaaoilgohkaa
set_option maxRecDepth 8000
namespace Go.Proofs.Ytpbnaaoilgohkaa
open Go Go.RowKit
def rowV (l : List Val) : List AV := (l.map Val.avs).flatten
def rowC (h : List Cl) : List AV := (h.map Cl.avs).flatten
theorem zda (l : List Val) : ∀ x ∈ l.map Val.avs, x.length = 3 := by intro x hx; obtain ⟨v, _, rfl⟩ := List.mem_map.1 hx; rfl
theorem zfh (l : List Cl) : ∀ x ∈ l.map Cl.avs, x.length = 6 := by intro x hx; obtain ⟨v, _, rfl⟩ := List.mem_map.1 hx; rfl
@[simp] theorem zlt (l : List Val) : (rowV l).length = l.length * 3 := by rw [rowV, zej (zda l)]; simp
@[simp] theorem zatq (l : List Cl) : (rowC l).length = l.length * 6 := by rw [rowC, zej (zfh l)]; simp
theorem zbp (v : Val) : ∀ c ∈ v.avs, scal c = true := by intro c hc; simp [Val.avs] at hc; rcases hc with rfl | rfl | rfl <;> rfl
theorem zahb (c : Cl) : ∀ x ∈ c.avs, scal x = true := by
  intro x hx
  rcases List.mem_append.1 hx with h | h
  · exact zbp _ _ h
  · exact zbp _ _ h
theorem zgo (l : List Val) : ∀ c ∈ rowV l, scal c = true := by
  intro c hc
  obtain ⟨x, hx, hcx⟩ := List.mem_flatten.1 hc
  obtain ⟨v, _, rfl⟩ := List.mem_map.1 hx
  exact zbp v c hcx
theorem zwx (l : List Cl) : ∀ c ∈ rowC l, scal c = true := by
  intro c hc
  obtain ⟨x, hx, hcx⟩ := List.mem_flatten.1 hc
  obtain ⟨v, _, rfl⟩ := List.mem_map.1 hx
  exact zahb v c hcx
theorem zck {c : AV} (h : scal c = true) : c.one = true := by cases c <;> first | (cases h; done) | rfl
theorem zajm {c : AV} (h : scal c = true) : flat c = true := by cases c <;> first | (cases h; done) | simp
theorem zbq {c : AV} {A : Nat → Prop} (h : scal c = true) : Bel A c := by cases c <;> first | (cases h; done) | exact .int _ _ | exact .str _ | exact .bool _
theorem zamk (l : List Val) : (rowV l).all AV.one = true := List.all_eq_true.2 fun c hc => zck (zgo l c hc)
theorem zaml (l : List Cl) : (rowC l).all AV.one = true := List.all_eq_true.2 fun c hc => zck (zwx l c hc)
theorem zgu {xs : List (List AV)} {A : Nat → Prop} (h : ∀ x ∈ xs, ∀ c ∈ x, scal c = true) : Bel A (.ro xs) := .ro xs fun i x j v hx hv => zbq (h x (List.mem_of_getElem? hx) v (List.mem_of_getElem? hv))
theorem zjn (l : List Val) : ∀ x ∈ l.map Val.avs, ∀ c ∈ x, scal c = true := by intro x hx; obtain ⟨v, _, rfl⟩ := List.mem_map.1 hx; exact zbp v
theorem zwz (l : List Cl) : ∀ x ∈ l.map Cl.avs, ∀ c ∈ x, scal c = true := by intro x hx; obtain ⟨v, _, rfl⟩ := List.mem_map.1 hx; exact zahb v
theorem zak.frzV {H : Heap} {nx : Nat} {l : List Val} {a : AV} (h : zak H nx 3 (l.map Val.avs) a) : Frz H 0 a (.ro (l.map Val.avs)) :=
  h.frz (zda l) (fun x hx v hv => ⟨zajm (zjn l x hx v hv), zbq (zjn l x hx v hv)⟩) (zgu (zjn l))
theorem zog {esz bytes : Nat} {xs : List (List AV)} {a : AV} {H : Heap} {nx : Nat} (ha : zak H nx esz xs a) (hs : ∀ x ∈ xs, x.length = esz) (ho : xs.flatten.all AV.one = true) (hb : xs.length * bytes ≤ 140737488355328)
    {Q : AV → Heap → Nat → Prop} (h0 : xs = [] → Q .nils H nx) (h1 : ∀ H', H' (nx + 1) = some (.row esz xs.flatten) → (∀ g, g < nx → H' g = H g) → Q (.slc (nx + 1) 0 xs.length) H' (nx + 2)) :
    BL BinOp.eql a AV.nils fun v1 => CNDC v1 (Q AV.nils H nx) (APP esz bytes (AV.slc nx 0 0) a (H.put nx (some (AObj.row esz []))) (nx + 1) fun v2 H3 nx4 => Q v2 H3 nx4) := by
  have app : APP esz bytes (AV.slc nx 0 0) a (H.put nx (some (AObj.row esz []))) (nx + 1) fun v2 H3 nx4 => Q v2 H3 nx4 := by
    obtain ⟨rd, hsrc⟩ := (ha.keep (H' := H.put nx (some (AObj.row esz []))) (nx' := nx + 1) (fun g hg => Heap.put_ne _ _ (by omega)) (by omega)).src hs
    rw [zjx, hsrc]
    simp only [optk, Heap.put_at, rowk, Nat.zero_mul, Nat.zero_add, List.length_nil, List.drop_zero, List.take_nil, List.nil_append]
    refine ⟨trivial, ho, by omega, by omega, ?_⟩
    refine h1 _ (Heap.put_at _ _ _) fun g hg => ?_
    rw [Heap.put_ne _ _ (by omega), Heap.put_ne _ _ (by omega), Heap.put_ne _ _ (by omega)]
  cases ha with
  | ro =>
    rw [zars]
    refine ⟨fun h => ?_, fun h => ?_⟩
    · rw [zafd]; exact ⟨h0 h, app⟩
    · rw [zaky]; exact app
  | slc g g1 g2 =>
    rw [zaqg]
    refine ⟨fun h => ?_, fun h => ?_⟩
    · rw [zafd]; exact ⟨h0 (List.eq_nil_of_length_eq_zero h), app⟩
    · rw [zaky]; exact app
  | nils h => rw [zaqh, zaqf]; exact h0 h
theorem zakz {l : List Val} (hl : l.length * 32 ≤ 140737488355328) {a : AV} {H : Heap} {nx : Nat} (ha : zak H nx 3 (l.map Val.avs) a) {Q : AV → Heap → Nat → Prop}
    (h0 : l.map Val.avs = [] → Q .nils H nx) (h1 : ∀ H', H' (nx + 1) = some (.row 3 (l.map Val.avs).flatten) → (∀ g, g < nx → H' g = H g) → Q (.slc (nx + 1) 0 (l.map Val.avs).length) H' (nx + 2)) : zeq a H nx Q := by
  unfold zeq
  exact zog (Q := Q) ha (zda l) (zamk l) (by simpa using hl) h0 h1
theorem zadb (l : List Val) (hl : l.length * 32 ≤ 140737488355328) {a : AV} {H : Heap} {nx : Nat} (ha : zak H nx 3 (l.map Val.avs) a) :
    za Try.prog 56 [a] H nx fun v H' nx' => nx ≤ nx' ∧ Keep nx H' H ∧ ((l = [] ∧ v = .nils) ∨ ∃ g, nx ≤ g ∧ g < nx' ∧ v = .slc g 0 l.length ∧ H' g = some (.row 3 (rowV l))) := by
  refine zph _ H nx _ ?_
  refine zakz hl ha (fun h => ?_) fun H' h1 h2 => ?_
  · exact ⟨by omega, by simp, .inl ⟨by simpa using h, rfl⟩⟩
  · exact ⟨by omega, h2, .inr ⟨nx + 1, by omega, by omega, by simp, h1⟩⟩
end Go.Proofs.Ytpbnaaoilgohkaa
set_option maxRecDepth 8000
namespace Go.Proofs.Ytpbnaaoilgohkaa
namespace VM
def OkV (N : Nat) (v : Val) : Prop := v.kind = 2 → 0 ≤ v.n ∧ v.n.toNat < N
def OkH (h : List Cl) : Prop := ∀ (n : Nat) (c : Cl), h[n]? = some c → OkV h.length c.left ∧ OkV h.length c.right
structure Good (N : Nat) (o : List Nat) : Prop where
  nd : o.Nodup
  lt : ∀ n ∈ o, n < N
theorem Good.len {N : Nat} {o : List Nat} (h : Good N o) : o.length ≤ N := by
  have := h.nd.length_le_of_subset (l₂ := List.range N) (fun n hn => List.mem_range.2 (h.lt n hn))
  simpa using this
theorem Good.nil {N : Nat} : Good N [] := ⟨List.nodup_nil, fun n h => by simp at h⟩
theorem Good.meet {N : Nat} {o : List Nat} {v : Val} (h : Good N o) (hv : OkV N v) : Good N (meet o v) := by
  unfold VM.meet
  split
  · rename_i hc
    refine ⟨?_, fun n hn => ?_⟩
    · rw [List.nodup_append]
      exact ⟨h.nd, by simp, fun a ha b hb e => hc.2 (by simp at hb; rw [← hb, ← e]; exact ha)⟩
    · rcases List.mem_append.1 hn with h' | h'
      · exact h.lt n h'
      · simp at h'; rw [h']; exact (hv hc.1).2
  · exact h
theorem meet_pre (o : List Nat) (v : Val) : o <+: meet o v := by
  unfold meet; split
  · exact List.prefix_append _ _
  · exact List.prefix_refl _
theorem mem_meet (o : List Nat) (v : Val) (h : v.kind = 2) : v.n.toNat ∈ meet o v := by
  unfold meet; split
  · simp
  · rename_i hc; exact Classical.byContradiction fun hn => hc ⟨h, hn⟩
theorem drain_pre (h : List Cl) : ∀ (f : Nat) (o : List Nat) (d : Nat), o <+: drain h f o d
  | 0, o, d => List.prefix_refl _
  | f + 1, o, d => by
    unfold drain
    split
    · exact List.prefix_refl _
    · split
      · exact List.prefix_refl _
      · exact ((meet_pre _ _).trans (meet_pre _ _)).trans (drain_pre h f _ _)
theorem drain_good {h : List Cl} (hh : OkH h) : ∀ (f : Nat) (o : List Nat) (d : Nat), Good h.length o → Good h.length (drain h f o d)
  | 0, o, d, g => g
  | f + 1, o, d, g => by
    unfold drain
    split
    · exact g
    · split
      · exact g
      · rename_i c hc
        exact drain_good hh f _ _ ((g.meet (hh _ c hc).1).meet (hh _ c hc).2)
theorem orderGo_pre (h : List Cl) : ∀ (l : List Val) (o : List Nat), o <+: orderGo h l o
  | [], o => List.prefix_refl _
  | v :: r, o => ((meet_pre o v).trans (drain_pre h _ _ _)).trans (orderGo_pre h r _)
theorem orderGo_good {h : List Cl} (hh : OkH h) : ∀ (l : List Val) (o : List Nat), (∀ v ∈ l, OkV h.length v) → Good h.length o → Good h.length (orderGo h l o)
  | [], o, _, g => g
  | v :: r, o, hl, g => orderGo_good hh r _ (fun x hx => hl x (by simp [hx])) (drain_good hh _ _ _ (g.meet (hl v (by simp))))
theorem drain_step {h : List Cl} {f : Nat} {o : List Nat} {d n : Nat} {c : Cl} (hn : o[d]? = some n) (hc : h[n]? = some c) : drain h (f + 1) o d = drain h f (meet (meet o c.left) c.right) (d + 1) := by
  rw [drain]; simp only [hn, hc]
theorem drain_end {h : List Cl} {f : Nat} {o : List Nat} {d : Nat} (hd : o.length ≤ d) : drain h f o d = o := by
  cases f with
  | zero => rfl
  | succ f => rw [drain, List.getElem?_eq_none hd]
theorem idx_pre {o F : List Nat} (h : o <+: F) {n : Nat} (hn : n ∈ o) : o.idxOf n = F.idxOf n := by
  obtain ⟨t, rfl⟩ := h
  rw [List.idxOf_append, if_pos hn]
theorem put_pre {o F : List Nat} (h : o <+: F) {v : Val} (hv : v.kind = 2 → v.n.toNat ∈ o) : put o v = put F v := by
  unfold put
  split
  · rename_i hk; rw [idx_pre h (hv hk)]
  · rfl
theorem drain_more {h : List Cl} : ∀ (f : Nat) (o : List Nat) (d : Nat), (drain h f o d).length ≤ d + f → ∀ f', f ≤ f' → drain h f' o d = drain h f o d
  | 0, o, d, hl, f', _ => drain_end (by simpa [drain] using hl)
  | f + 1, o, d, hl, f', hf => by
    obtain ⟨f'', rfl⟩ : ∃ f'', f' = f'' + 1 := ⟨f' - 1, by omega⟩
    cases hn : o[d]? with
    | none => rw [drain_end (List.getElem?_eq_none_iff.1 hn), drain_end (List.getElem?_eq_none_iff.1 hn)]
    | some n =>
      cases hc : h[n]? with
      | none => rw [drain, drain]; simp only [hn, hc]
      | some c =>
        rw [drain_step hn hc] at hl ⊢
        rw [drain_step hn hc]
        exact drain_more f _ _ (by omega) f'' (by omega)
def In (o : List Nat) (v : Val) : Prop := v.kind = 2 → v.n.toNat ∈ o
def Shut (h : List Cl) (o : List Nat) (d : Nat) : Prop := ∀ (j n : Nat) (c : Cl), j < d → o[j]? = some n → h[n]? = some c → In o c.left ∧ In o c.right
theorem In.pre {o F : List Nat} {v : Val} (h : In o v) (p : o <+: F) : In F v := fun hk => p.subset (h hk)
theorem drain_shut {h : List Cl} : ∀ (f : Nat) (o : List Nat) (d : Nat), (∀ n ∈ drain h f o d, n < h.length) → d ≤ o.length → Shut h o d → (drain h f o d).length ≤ d + f → Shut h (drain h f o d) (drain h f o d).length
  | 0, o, d, _, hd, hs, hl => by
    have : o.length = d := by have : (drain h 0 o d).length = o.length := rfl; omega
    show Shut h o o.length
    rw [this]; exact hs
  | f + 1, o, d, hlt, hd, hs, hl => by
    cases hn : o[d]? with
    | none =>
      have e : drain h (f + 1) o d = o := by rw [drain, hn]
      have : o.length = d := by have := List.getElem?_eq_none_iff.1 hn; omega
      rw [e, this]; exact hs
    | some n =>
      cases hc : h[n]? with
      | none =>
        have e : drain h (f + 1) o d = o := by rw [drain]; simp only [hn, hc]
        rw [e] at hlt
        have := hlt n (List.mem_of_getElem? hn)
        rw [List.getElem?_eq_getElem this] at hc; cases hc
      | some c =>
        have e := drain_step (f := f) hn hc
        rw [e] at hlt hl ⊢
        have p := (meet_pre o c.left).trans (meet_pre (meet o c.left) c.right)
        have hd' := (List.getElem?_eq_some_iff.1 hn).1
        refine drain_shut f _ _ hlt (by have := p.length_le; omega) (fun j n' c' hj hj' hc' => ?_) (by omega)
        have hjo : o[j]? = some n' := by
          obtain ⟨t, ht⟩ := p
          rw [← ht, List.getElem?_append_left (by omega)] at hj'
          exact hj'
        by_cases hjd : j = d
        · subst hjd
          rw [hn] at hjo
          obtain rfl := Option.some.inj hjo
          rw [hc] at hc'
          obtain rfl := Option.some.inj hc'
          exact ⟨fun hk => (meet_pre _ _).subset (mem_meet o _ hk), fun hk => mem_meet _ _ hk⟩
        · obtain ⟨a, b⟩ := hs j n' c' (by omega) hjo hc'
          exact ⟨a.pre p, b.pre p⟩
theorem orderGo_shut {h : List Cl} (hh : OkH h) : ∀ (l : List Val) (o : List Nat), (∀ v ∈ l, OkV h.length v) → Good h.length o → Shut h o o.length → Shut h (orderGo h l o) (orderGo h l o).length ∧ ∀ v ∈ l, In (orderGo h l o) v
  | [], o, _, _, hs => ⟨hs, fun v hv => by simp at hv⟩
  | v :: r, o, hl, g, hs => by
    have g1 := g.meet (hl v (by simp))
    have g2 := drain_good hh (h.length - o.length) (meet o v) o.length g1
    have hlen := g.len
    have p := meet_pre o v
    have s2 : Shut h (drain h (h.length - o.length) (meet o v) o.length) _ := drain_shut (h.length - o.length) (meet o v) o.length g2.lt p.length_le (fun j n c hj hn hc => by
      have hjo : o[j]? = some n := by
        obtain ⟨t, ht⟩ := p
        rw [← ht, List.getElem?_append_left hj] at hn
        exact hn
      obtain ⟨a, b⟩ := hs j n c hj hjo hc
      exact ⟨a.pre p, b.pre p⟩) (by have := g2.len; omega)
    obtain ⟨q1, q2⟩ := orderGo_shut hh r _ (fun x hx => hl x (by simp [hx])) g2 s2
    refine ⟨q1, fun x hx => ?_⟩
    rcases List.mem_cons.1 hx with rfl | hx
    · exact fun hk => (orderGo_pre h r _).subset ((drain_pre h _ _ _).subset (mem_meet o _ hk))
    · exact q2 x hx
def ren (π : Nat → Nat) (v : Val) : Val := if v.kind = 2 then { v with n := (π v.n.toNat : Nat) } else v
theorem ren_kind (π : Nat → Nat) (v : Val) : (ren π v).kind = v.kind := by unfold ren; split <;> rfl
structure Turn (h g : List Cl) (π : Nat → Nat) (D : Nat → Prop) : Prop where
  inj : ∀ a b, D a → D b → π a = π b → a = b
  cell : ∀ n, D n → ∃ c, h[n]? = some c ∧ g[π n]? = some ⟨ren π c.left, ren π c.right⟩ ∧ (c.left.kind = 2 → D c.left.n.toNat) ∧ (c.right.kind = 2 → D c.right.n.toNat)
theorem meet_turn {h g : List Cl} {π : Nat → Nat} {D : Nat → Prop} (t : Turn h g π D) {o : List Nat} {v : Val} (ho : ∀ n ∈ o, D n) (hv : v.kind = 2 → D v.n.toNat) : meet (o.map π) (ren π v) = (meet o v).map π ∧ ∀ n ∈ meet o v, D n := by
  by_cases hk : v.kind = 2
  · have e : (ren π v).n.toNat = π v.n.toNat := by unfold ren; rw [if_pos hk]; simp
    have hm : π v.n.toNat ∈ o.map π ↔ v.n.toNat ∈ o := by
      constructor
      · intro h
        obtain ⟨a, ha, he⟩ := List.mem_map.1 h
        rw [← t.inj a _ (ho a ha) (hv hk) he]; exact ha
      · exact fun h => List.mem_map_of_mem h
    unfold meet
    rw [ren_kind, e]
    by_cases hi : v.n.toNat ∈ o
    · rw [if_neg (fun h => h.2 (hm.2 hi)), if_neg (fun h => h.2 hi)]; exact ⟨rfl, ho⟩
    · rw [if_pos ⟨hk, fun h => hi (hm.1 h)⟩, if_pos ⟨hk, hi⟩]
      refine ⟨by simp, fun n hn => ?_⟩
      rcases List.mem_append.1 hn with h' | h'
      · exact ho n h'
      · simp at h'; rw [h']; exact hv hk
  · unfold meet
    rw [ren_kind, if_neg (fun h => hk h.1), if_neg (fun h => hk h.1)]; exact ⟨rfl, ho⟩
theorem drain_turn {h g : List Cl} {π : Nat → Nat} {D : Nat → Prop} (t : Turn h g π D) : ∀ (f : Nat) (o : List Nat) (d : Nat), (∀ n ∈ o, D n) → drain g f (o.map π) d = (drain h f o d).map π ∧ ∀ n ∈ drain h f o d, D n
  | 0, o, d, ho => ⟨rfl, ho⟩
  | f + 1, o, d, ho => by
    cases hn : o[d]? with
    | none =>
      have e1 : drain h (f + 1) o d = o := by rw [drain, hn]
      have e2 : drain g (f + 1) (o.map π) d = o.map π := by rw [drain, List.getElem?_map, hn]; rfl
      rw [e1, e2]; exact ⟨rfl, ho⟩
    | some n =>
      obtain ⟨c, hc, hg, dl, dr⟩ := t.cell n (ho n (List.mem_of_getElem? hn))
      have hn' : (o.map π)[d]? = some (π n) := by rw [List.getElem?_map, hn]; rfl
      rw [drain_step hn hc, drain_step hn' hg]
      obtain ⟨m1, m2⟩ := meet_turn t ho dl
      obtain ⟨m3, m4⟩ := meet_turn t m2 dr
      rw [m1, m3]
      exact drain_turn t f _ _ m4
theorem orderGo_turn {h g : List Cl} {π : Nat → Nat} {D : Nat → Prop} (t : Turn h g π D) (hh : OkH h) (hg : OkH g) : ∀ (l : List Val) (o : List Nat), (∀ v ∈ l, OkV h.length v) → (∀ v ∈ l, v.kind = 2 → D v.n.toNat) → (∀ v ∈ l, OkV g.length (ren π v)) →
    Good h.length o → Good g.length (o.map π) → (∀ n ∈ o, D n) → orderGo g (l.map (ren π)) (o.map π) = (orderGo h l o).map π ∧ ∀ n ∈ orderGo h l o, D n
  | [], o, _, _, _, _, _, ho => ⟨rfl, ho⟩
  | v :: r, o, hl, hd, hl', g1, g2, ho => by
    obtain ⟨m1, m2⟩ := meet_turn t ho (hd v (by simp))
    have e1 := drain_good hh (h.length - o.length) (meet o v) o.length (g1.meet (hl v (by simp)))
    have e2 := drain_good hg (g.length - (o.map π).length) (meet (o.map π) (ren π v)) (o.map π).length (g2.meet (hl' v (by simp)))
    have l1 := g1.len
    have l2 := g2.len
    obtain ⟨F, f1, f2⟩ : ∃ F, h.length - o.length ≤ F ∧ g.length - (o.map π).length ≤ F := ⟨max (h.length - o.length) (g.length - (o.map π).length), by omega, by omega⟩
    have x1 := drain_more (h := h) (h.length - o.length) (meet o v) o.length (by have := e1.len; omega) F f1
    have x2 := drain_more (h := g) (g.length - (o.map π).length) (meet (o.map π) (ren π v)) (o.map π).length (by have := e2.len; omega) F f2
    have x3 := drain_turn t F (meet o v) o.length m2
    have key : drain g (g.length - (o.map π).length) (meet (o.map π) (ren π v)) (o.map π).length = (drain h (h.length - o.length) (meet o v) o.length).map π := by
      rw [← x1, ← x2, m1, List.length_map, x3.1]
    show orderGo g (r.map (ren π)) (drain g (g.length - (o.map π).length) (meet (o.map π) (ren π v)) (o.map π).length) = (orderGo h r (drain h (h.length - o.length) (meet o v) o.length)).map π ∧ ∀ n ∈ orderGo h r (drain h (h.length - o.length) (meet o v) o.length), D n
    rw [key]
    refine orderGo_turn t hh hg r _ (fun x hx => hl x (by simp [hx])) (fun x hx => hd x (by simp [hx])) (fun x hx => hl' x (by simp [hx])) e1 ?_ ?_
    · rw [← key]; exact e2
    · rw [← x1]; exact x3.2
end VM
end Go.Proofs.Ytpbnaaoilgohkaa
set_option maxRecDepth 8000
namespace Go.Proofs.Ytpbnaaoilgohkaa
open Go Go.RowKit
theorem zagl (o : List Nat) : ∀ (j : Nat) (kv : AV × AV), (zgr o)[j]? = some kv → scal kv.1 = true ∧ scal kv.2 = true := by
  have : ∀ k (j : Nat) (kv : AV × AV), (zbe k o)[j]? = some kv → scal kv.1 = true ∧ scal kv.2 = true := by
    induction o with
    | nil => intro k j kv h; simp [zbe] at h
    | cons a r ih =>
      intro k j kv h
      cases j with
      | zero => simp [zbe] at h; subst h; exact ⟨rfl, rfl⟩
      | succ j => exact ih (k + 1) j kv (by simpa [zbe] using h)
  exact this 0
theorem zagk (o : List Nat) : ∀ (j : Nat) (v : AV), (zao o)[j]? = some v → scal v = true := by
  intro j v h
  unfold zao at h
  rw [List.getElem?_map] at h
  obtain ⟨a, _, rfl⟩ := Option.map_eq_some_iff.1 h
  rfl
theorem zabu {R : Nat → Prop} {gn g0 : Nat} {v u : AV} (h : scal v = true) (e : u = v) : Rn R gn g0 v u := by subst e; exact .same _ (zbq h)
theorem zaeo (v : Val) (o : List Nat) (hv : v.kind = 2 → 0 ≤ v.n) (ho : (o.length + 1) * 8 ≤ 140737488355328) (hne : o ≠ []) {H : Heap} {nx g1 g2 gm gr : Nat} (st : zgm H g1 g2 gm gr o) (l1 : g1 < nx) (l2 : g2 < nx) (lm : gm < nx) (lr : gr < nx) {k : Kt}
    (h0 : ¬ (v.kind = 2 ∧ v.n.toNat ∉ o) → k (.agg (VM.put (VM.meet o v) v).avs) [g1, g2, gm, gr] [] [])
    (h1 : v.kind = 2 ∧ v.n.toNat ∉ o → k (.agg (VM.put (VM.meet o v) v).avs) [g1, g2, gm, gr] [nx] [(gm, some (.mp (zgr (o ++ [v.n.toNat])))), (gr, none), (g2, some (.row 1 [.slc nx 0 (o.length + 1)])), (nx, some (.row 1 (zao (o ++ [v.n.toNat]))))]) :
    zj Try.prog (.clo 58 [.ptr g1 0, .ptr g2 0]) [.agg v.avs] H nx k := by
  have hsome : ∀ g ∈ [g1, g2, gm, gr], (H g).isSome = true := by
    intro g hg
    simp at hg
    rcases hg with rfl | rfl | rfl | rfl
    · rw [st.m1]; rfl
    · rw [st.m2]; rfl
    · rw [st.mm]; rfl
    · rw [st.mr hne]; rfl
  have move : ∀ H' : Heap, (∀ g ∈ [g1, g2, gm, gr], H' g = H g) → zgm H' g1 g2 gm gr o := fun H' ha =>
    ⟨by rw [ha g1 (by simp)]; exact st.m1, by rw [ha gm (by simp)]; exact st.mm, by rw [ha g2 (by simp)]; exact st.m2, fun h => by rw [ha gr (by simp)]; exact st.mr h, st.d12, st.d1m, st.d2m, st.dr⟩
  obtain ⟨r1, r2, r3⟩ := st.dr hne
  by_cases hnew : v.kind = 2 ∧ v.n.toNat ∉ o
  · refine ⟨_, [g1, g2, gm, gr], [nx], _, .inr (.inl rfl), LC.of_calls1 hsome ?_ ?_, h1 hnew⟩
    · intro g hg
      simp at hg ⊢
      rcases hg with rfl | rfl | rfl | rfl <;> simp
    · intro H' n' ha
      have st' := move H' fun g hg => (ha g hg).1
      refine (zxi v o hv ho st' (ha g1 (by simp)).2 (ha g2 (by simp)).2 (ha gm (by simp)).2 (fun _ => (ha gr (by simp)).2)).mono fun w H'' n'' ⟨q1, q2, _, q4⟩ => ?_
      obtain ⟨gn, p1, p2, p3, p4, p5, p6, p7⟩ := q4 hnew
      have a2 := st.d2m
      subst q1
      refine ⟨gn, p1, p2, .same _ (.agg _ fun j x hx => zbq (zbp _ x (List.mem_of_getElem? hx))), fun g hg hd => ?_, fun g ob hg hne0 hap => ?_, ?_⟩
      · simp at hd
        exact p7 g hg hd.1 hd.2.2.1 fun _ => hd.2.1
      · have b1 : nx ≠ gm := by omega
        have b2 : nx ≠ g2 := by omega
        have b3 : nx ≠ gr := by omega
        simp at hg
        rcases hg with rfl | rfl | rfl | rfl
        · simp [Ne.symm a2, Ne.symm b1, Ne.symm r3] at hap
          subst hap
          exact ⟨_, p3, rfl, fun j x u hx hu => by
            rw [hx] at hu; cases hu
            obtain ⟨s1, s2⟩ := zagl _ j x hx
            exact ⟨zabu s1 rfl, zabu s2 rfl⟩⟩
        · simp [r2, Ne.symm b3] at hap
        · simp [Ne.symm b2] at hap
          subst hap
          refine ⟨_, p4, rfl, rfl, fun j x u hx hu => ?_⟩
          match j, hx, hu with
          | 0, hx, hu => cases hx; cases hu; exact .slc 0 _
        · exact absurd rfl hne0
      · refine ⟨.row 1 (zao (o ++ [v.n.toNat])), _, by simp, p5, rfl, rfl, fun j x u hx hu => ?_⟩
        rw [hx] at hu; cases hu
        exact zabu (zagk _ j x hx) rfl
  · refine zj.of_qcr [g1, g2, gm, gr] hsome (fun H' n' ha => ?_) ?_ (h0 hnew)
    · have st' := move H' fun g hg => (ha g hg).1
      refine za.pure ((zxi v o hv ho st' (ha g1 (by simp)).2 (ha g2 (by simp)).2 (ha gm (by simp)).2 (fun _ => (ha gr (by simp)).2)).mono fun w H'' n'' ⟨q1, q2, q3, _⟩ => ?_)
      subst q1
      exact ⟨by simp, q3 hnew⟩
    · exact .agg _ fun j x hx => zbq (zbp _ x (List.mem_of_getElem? hx))
end Go.Proofs.Ytpbnaaoilgohkaa
set_option maxRecDepth 8000
namespace Go.Proofs.Ytpbnaaoilgohkaa
open Go Go.RowKit
theorem zaox {L : List Val} {i : Nat} {v : Val} (h : L[i]? = some v) : ((rowV L).drop (i * 3)).take 3 = v.avs := zme (zda L) (by rw [List.getElem?_map, h]; rfl)
theorem zxd (v : Val) (L : List Val) : rowV (v :: L) = v.avs ++ rowV L := by simp [rowV]
theorem zajv (L : List Cl) (c : Cl) : rowC (L ++ [c]) = rowC L ++ c.avs := by simp [rowC]
theorem zaju (L : List Val) (c : Val) : rowV (L ++ [c]) = rowV L ++ c.avs := by simp [rowV]
theorem zaeg : ∀ {L : List Val} {i : Nat} {v : Val}, i < L.length → (rowV L).take (i * 3) ++ v.avs ++ (rowV L).drop (i * 3 + 3) = rowV (L.set i v)
  | [], i, v, h => by simp at h
  | w :: L, 0, v, h => by simp [zxd, List.drop_append, List.drop_of_length_le]
  | w :: L, i + 1, v, h => by
    have ih := zaeg (L := L) (i := i) (v := v) (by simpa using h)
    rw [List.set_cons_succ, zxd, zxd, ← ih, Nat.succ_mul, List.take_append, List.drop_append, List.take_of_length_le (by simp), List.drop_of_length_le (by simp)]
    simp [List.append_assoc]
def zbt (F : List Nat) (h : List Cl) (n : Nat) : Cl := VM.putC F ((h[n]?).getD ⟨VM.vzero, VM.vzero⟩)
theorem zadd {h : List Cl} {l : List Val} (hF : ∀ n ∈ VM.order h l, n < h.length) : VM.canonC h l = (VM.order h l).map (zbt (VM.order h l) h) := by
  unfold VM.canonC
  generalize VM.order h l = F at *
  have : ∀ o : List Nat, (∀ n ∈ o, n < h.length) → (o.filterMap fun n => (h[n]?).map (VM.putC F)) = o.map (zbt F h) := by
    intro o
    induction o with
    | nil => intro _; rfl
    | cons n r ih =>
      intro ho
      have hn := ho n (by simp)
      rw [List.filterMap_cons, List.getElem?_eq_getElem hn]
      simp only [Option.map_some, List.map_cons]
      rw [ih fun x hx => ho x (by simp [hx])]
      simp [zbt, hn]
  exact this F hF
theorem zgm.keep {H H' : Heap} {g1 g2 gm gr nx : Nat} {o : List Nat} (h : zgm H g1 g2 gm gr o) (l1 : g1 < nx) (l2 : g2 < nx) (lm : gm < nx) (lr : o ≠ [] → gr < nx) (hk : ∀ g, g < nx → H' g = H g) : zgm H' g1 g2 gm gr o :=
  ⟨by rw [hk g1 l1]; exact h.m1, by rw [hk gm lm]; exact h.mm, by rw [hk g2 l2]; exact h.m2, fun ho => by rw [hk gr (lr ho)]; exact h.mr ho, h.d12, h.d1m, h.d2m, h.dr⟩
theorem zgm.next {H H' : Heap} {g1 g2 gm gr gn nx : Nat} {o : List Nat} {n : Nat} (h : zgm H g1 g2 gm gr o) (l1 : g1 < nx) (l2 : g2 < nx) (lm : gm < nx) (lr : o ≠ [] → gr < nx) (hgn : nx ≤ gn) (p3 : H' gm = some (.mp (zgr (o ++ [n])))) (p4 : H' g2 = some (.row 1 [.slc gn 0 (o.length + 1)]))
    (p5 : H' gn = some (.row 1 (zao (o ++ [n])))) (p7 : H' g1 = H g1) : zgm H' g1 g2 gm gn (o ++ [n]) :=
  ⟨by rw [p7]; exact h.m1, p3, by rw [p4]; simp, fun _ => p5, h.d12, h.d1m, h.d2m, fun _ => ⟨by omega, by omega, by omega⟩⟩
theorem zaaz (v : Val) (o : List Nat) (hv : v.kind = 2 → 0 ≤ v.n) (ho : (o.length + 1) * 8 ≤ 140737488355328) {H : Heap} {nx g1 g2 gm gr : Nat} (st : zgm H g1 g2 gm gr o) (l1 : g1 < nx) (l2 : g2 < nx) (lm : gm < nx) (lr : o ≠ [] → gr < nx) :
    za Try.prog 58 [.agg v.avs, .ptr g1 0, .ptr g2 0] H nx fun r H' nx' => r = .agg (VM.put (VM.meet o v) v).avs ∧ nx ≤ nx' ∧ ∃ gr', zgm H' g1 g2 gm gr' (VM.meet o v) ∧ (VM.meet o v ≠ [] → gr' < nx' ∧ ((o ≠ [] ∧ gr' = gr) ∨ nx ≤ gr')) ∧
      ∀ g, g < nx → g ≠ gm → g ≠ g2 → (o ≠ [] → g ≠ gr) → H' g = H g := by
  refine (zxi v o hv ho st l1 l2 lm lr).mono fun w H' nx' ⟨q1, q2, q3, q4⟩ => ⟨q1, q2, ?_⟩
  by_cases hnew : v.kind = 2 ∧ v.n.toNat ∉ o
  · obtain ⟨gn, p1, p2, p3, p4, p5, _, p7⟩ := q4 hnew
    rw [zlv hnew]
    exact ⟨gn, st.next l1 l2 lm lr p1 p3 p4 p5 (p7 g1 l1 st.d1m st.d12 fun h => Ne.symm (st.dr h).1), fun _ => ⟨p2, .inr p1⟩, p7⟩
  · rw [zpm hnew]
    have k := q3 hnew
    exact ⟨gr, st.keep l1 l2 lm lr k, fun h => ⟨by have := lr h; omega, .inl ⟨h, rfl⟩⟩, fun g hg _ _ _ => k g hg⟩
end Go.Proofs.Ytpbnaaoilgohkaa
set_option maxRecDepth 8000
namespace Go.Proofs.Ytpbnaaoilgohkaa
open Go Go.RowKit
structure zcp (h : List Cl) (l : List Val) (F : List Nat) (H0 : Heap) (nx i d : Nat) (o : List Nat) (a2 : AV) (H : Heap) (n gr go gv : Nat) : Prop where
  num : zgm H (nx + 1) (nx + 2) nx gr o
  lr : o ≠ [] → nx + 3 ≤ gr ∧ gr < n ∧ gv ≠ gr
  out : (d = 0 ∧ a2 = .nils) ∨ (0 < d ∧ a2 = .slc go 0 d ∧ H go = some (.row 6 (rowC ((o.take d).map (zbt F h)))) ∧ nx + 3 ≤ go ∧ go < n ∧ go ≠ gv ∧ go ≠ gr)
  vs : H gv = some (.row 3 (rowV ((l.take i).map (VM.put F) ++ l.drop i)))
  lv : nx + 3 ≤ gv ∧ gv < n
  keep : Keep nx H H0
  good : VM.Good h.length o
  dle : d ≤ o.length
theorem zcp.more {h : List Cl} {l : List Val} {F : List Nat} {H0 : Heap} {nx i d : Nat} {o : List Nat} {a2 : AV} {H : Heap} {n gr go gv : Nat} (st : zcp h l F H0 nx i d o a2 H n gr go gv) {H1 : Heap} {n1 : Nat} (hn : n ≤ n1) (hk : ∀ g, g < n → H1 g = H g) : zcp h l F H0 nx i d o a2 H1 n1 gr go gv := by
  have l1 := st.lv
  refine ⟨st.num.keep (nx := n) (by omega) (by omega) (by omega) (fun ho => (st.lr ho).2.1) hk, fun ho => ?_, ?_, by rw [hk gv l1.2]; exact st.vs, by omega, fun g hg => by rw [hk g (by omega)]; exact st.keep g hg, st.good, st.dle⟩
  · have := st.lr ho; omega
  · rcases st.out with h | ⟨p1, p2, p3, p4, p5, p6⟩
    · exact .inl h
    · exact .inr ⟨p1, p2, by rw [hk go p5]; exact p3, p4, by omega, p6⟩
theorem zalu {o o' : List Nat} (h : o <+: o') {d : Nat} (hd : d ≤ o.length) : o'.take d = o.take d := by
  obtain ⟨t, rfl⟩ := h
  rw [List.take_append_of_le_length hd]
theorem zcp.meet {h : List Cl} {l : List Val} {F : List Nat} {H0 : Heap} {nx i d : Nat} {o : List Nat} {a2 : AV} {H : Heap} {n gr go gv : Nat} (st : zcp h l F H0 nx i d o a2 H n gr go gv) {v : Val} (hv : VM.OkV h.length v) {H' : Heap} {n' gr' : Nat} (hn : n ≤ n')
    (q1 : zgm H' (nx + 1) (nx + 2) nx gr' (VM.meet o v)) (q2 : VM.meet o v ≠ [] → gr' < n' ∧ ((o ≠ [] ∧ gr' = gr) ∨ n ≤ gr')) (q3 : ∀ g, g < n → g ≠ nx → g ≠ nx + 2 → (o ≠ [] → g ≠ gr) → H' g = H g) : zcp h l F H0 nx i d (VM.meet o v) a2 H' n' gr' go gv := by
  have l1 := st.lv
  have p := VM.meet_pre o v
  have hgv : H' gv = H gv := q3 gv l1.2 (by omega) (by omega) fun ho => (st.lr ho).2.2
  refine ⟨q1, fun ho => ?_, ?_, by rw [hgv]; exact st.vs, by omega, fun g hg => ?_, st.good.meet hv, Nat.le_trans st.dle p.length_le⟩
  · obtain ⟨a, b⟩ := q2 ho
    rcases b with ⟨b1, rfl⟩ | b
    · have := st.lr b1; omega
    · omega
  · rcases st.out with h | ⟨p1, p2, p3, p4, p5, p6, p7⟩
    · exact .inl h
    · have ho : o ≠ [] := by intro e; subst e; have := st.dle; simp at this; omega
      refine .inr ⟨p1, p2, ?_, p4, by omega, p6, ?_⟩
      · rw [q3 go p5 (by omega) (by omega) fun _ => p7, zalu p st.dle]; exact p3
      · have hm : VM.meet o v ≠ [] := by
          intro e; rw [e] at p; exact ho (List.prefix_nil.1 p)
        rcases (q2 hm).2 with ⟨_, rfl⟩ | b
        · exact p7
        · omega
  · rw [q3 g (by omega) (by omega) (by omega) fun ho => by have := st.lr ho; omega]; exact st.keep g hg
theorem zyf {o : List Nat} {gr : Nat} {k : AV → Prop} : LNL (if o = [] then AV.nils else .slc gr 0 o.length) k = k (.int .i64 o.length) := by
  by_cases h : o = []
  · subst h; simp
  · rw [if_neg h]; simp
theorem zrw {o : List Nat} {d n : Nat} (h : o[d]? = some n) : (zao o)[d]? = some (.int .i64 n) := by simp [zao, h]
theorem zbs {A : Prop} {m : List Nat} : ∀ {l : List Nat}, (∀ g ∈ l, g ∉ m) → A → zb l m A
  | [], _, a => by rw [zakw]; exact a
  | g :: r, h, a => by rw [zaja]; exact ⟨h g (by simp), zbs (fun x hx => h x (by simp [hx])) a⟩
theorem zcp.outs {h : List Cl} {l : List Val} {F : List Nat} {H0 : Heap} {nx i d : Nat} {o : List Nat} {a2 : AV} {H : Heap} {n gr go gv : Nat} (st : zcp h l F H0 nx i d o a2 H n gr go gv) {H' : Heap} {gn n' : Nat} (hd : d < o.length) (hgn : n ≤ gn) (hn' : gn < n')
    (h1 : H' gn = some (.row 6 (rowC ((o.take (d + 1)).map (zbt F h))))) (h2 : ∀ g, g < n → (0 < d → g ≠ go) → H' g = H g) : zcp h l F H0 nx i (d + 1) o (.slc gn 0 (d + 1)) H' n' gr gn gv := by
  have l1 := st.lv
  have ho : o ≠ [] := by intro e; subst e; simp at hd
  obtain ⟨r1, r2, r3⟩ := st.lr ho
  have go1 : 0 < d → nx + 3 ≤ go ∧ go < n ∧ go ≠ gv ∧ go ≠ gr := fun h0 => by
    rcases st.out with ⟨p, _⟩ | ⟨_, _, _, p⟩
    · omega
    · exact p
  have e1 := h2 (nx + 1) (by omega) (fun h0 => by have := go1 h0; omega)
  have e2 := h2 (nx + 2) (by omega) (fun h0 => by have := go1 h0; omega)
  have e3 := h2 nx (by omega) (fun h0 => by have := go1 h0; omega)
  have e4 := h2 gr (by omega) (fun h0 => by have := go1 h0; omega)
  have e5 := h2 gv (by omega) (fun h0 => by have := go1 h0; omega)
  refine ⟨⟨by rw [e1]; exact st.num.m1, by rw [e3]; exact st.num.mm, by rw [e2]; exact st.num.m2, fun _ => by rw [e4]; exact st.num.mr ho, by omega, by omega, by omega, fun _ => by omega⟩, fun _ => by omega, .inr ⟨by omega, rfl, h1, by omega, hn', by omega, by omega⟩, by rw [e5]; exact st.vs, by omega, fun g hg => ?_, st.good, by omega⟩
  rw [h2 g (by omega) (fun h0 => by have := go1 h0; omega)]
  exact st.keep g hg
theorem zgn {α : Type} {l : List α} {i : Nat} {v : α} (h : l[i]? = some v) : l.take (i + 1) = l.take i ++ [v] := by
  rw [List.take_add_one, h]; rfl
theorem zaov {α : Type} (a : List α) (v u : α) (b : List α) : (a ++ v :: b).set a.length u = a ++ u :: b := by simp
theorem zaoy {l : List Val} {F : List Nat} {i : Nat} {v : Val} (h : l[i]? = some v) : ((l.take i).map (VM.put F) ++ l.drop i).set i (VM.put F v) = (l.take (i + 1)).map (VM.put F) ++ l.drop (i + 1) := by
  obtain ⟨hi, hv⟩ := List.getElem?_eq_some_iff.1 h
  have e : l.drop i = v :: l.drop (i + 1) := by rw [← hv]; exact List.drop_eq_getElem_cons hi
  have hlen : ((l.take i).map (VM.put F)).length = i := by simp; omega
  have := zaov ((l.take i).map (VM.put F)) v (VM.put F v) (l.drop (i + 1))
  rw [hlen] at this
  rw [e, this, zgn h, List.map_append]; simp
theorem zamv {l : List Val} {F : List Nat} {i : Nat} {v : Val} (h : l[i]? = some v) : ((l.take i).map (VM.put F) ++ l.drop i)[i]? = some v := by
  obtain ⟨hi, hv⟩ := List.getElem?_eq_some_iff.1 h
  rw [List.getElem?_append_right (by simp; omega)]
  have e3 : i - ((l.take i).map (VM.put F)).length = 0 := by simp; omega
  rw [e3, List.getElem?_drop]; simpa using h
theorem zanw {h : List Cl} {F o : List Nat} {n : Nat} {c : Cl} (hc : h[n]? = some c) (hp : VM.meet (VM.meet o c.left) c.right <+: F) : (⟨VM.put (VM.meet o c.left) c.left, VM.put (VM.meet (VM.meet o c.left) c.right) c.right⟩ : Cl) = zbt F h n := by
  unfold zbt VM.putC
  rw [hc, VM.put_pre ((VM.meet_pre _ _).trans hp) (VM.mem_meet o c.left), VM.put_pre hp (VM.mem_meet _ c.right)]
  rfl
theorem zvr {o : List Nat} {d n : Nat} (f : Nat → Cl) (h : o[d]? = some n) : (o.take (d + 1)).map f = (o.take d).map f ++ [f n] := by
  rw [zgn h, List.map_append]; rfl
end Go.Proofs.Ytpbnaaoilgohkaa
