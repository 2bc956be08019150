/- The plain law of wire: numbers as bytes, and back; no program in sight. -/
namespace Go.Proofs.Ytckhbfbbpdjmdaa
namespace WM

abbrev Bytes := List UInt8

/-- What a number is written as, twice as much, or one less than twice as much above 0. -/
def zig (n : Int) : Nat := if n < 0 then (-(2 * n) - 1).toNat else (2 * n).toNat
def zag (u : Nat) : Int := if u % 2 = 1 then -((u / 2 : Nat) : Int) - 1 else ((u / 2 : Nat) : Int)

def enc : Nat → Nat → Bytes
  | 0, u => [UInt8.ofNat u]
  | f + 1, u => if 128 ≤ u then UInt8.ofNat (u % 128 + 128) :: enc f (u / 128) else [UInt8.ofNat u]

def num (n : Int) : Bytes := enc 9 (zig n)

/-- GetNum behind i bytes, of which u came. The errors: 3 range, 8 end, 2 form. -/
def getFrom : Nat → Nat → Bytes → Int × Int × Int
  | _, _, [] => (0, 0, 8)
  | i, u, c :: r =>
    if 9 < i ∨ (i = 9 ∧ 1 < c.toNat) then (0, 0, 3)
    else if 128 ≤ c.toNat then getFrom (i + 1) (u + c.toNat % 128 * 2 ^ (7 * i)) r
    else if c.toNat = 0 ∧ 0 < i then (0, 0, 2)
    else (zag (u + c.toNat % 128 * 2 ^ (7 * i)), (i : Int) + 1, 0)

def getNum (b : Bytes) : Int × Int × Int := getFrom 0 0 b

theorem zag_zig (n : Int) : zag (zig n) = n := by
  unfold zag zig
  split <;> split <;> omega

theorem zig_zag (u : Nat) : zig (zag u) = u := by
  unfold zag zig
  split <;> split <;> omega

theorem zig_lt (n : Int) (h : -9223372036854775808 ≤ n) (h' : n ≤ 9223372036854775807) : zig n < 2 ^ 64 := by
  unfold zig
  split <;> omega

theorem enc_ne (f u : Nat) : enc f u ≠ [] := by
  cases f <;> simp [enc]
  split <;> simp

theorem enc_length (f u : Nat) : (enc f u).length ≤ f + 1 := by
  induction f generalizing u with
  | zero => simp [enc]
  | succ f ih =>
    simp only [enc]
    split
    · simp; exact ih _
    · simp

theorem toNat_ofNat_lt {n : Nat} (h : n < 256) : (UInt8.ofNat n).toNat = n := by
  simp [UInt8.toNat_ofNat']; omega

/-- What was written comes back, whatever stands behind. -/
theorem getFrom_enc (f : Nat) : ∀ (i acc u : Nat) (r : Bytes), i + f = 9 → u < 2 ^ (64 - 7 * i) → (i = 0 ∨ u ≠ 0) →
    getFrom i acc (enc f u ++ r) = (zag (acc + u * 2 ^ (7 * i)), ((i + (enc f u).length : Nat) : Int), 0) := by
  induction f with
  | zero =>
    intro i acc u r hi hu h0
    have hi9 : i = 9 := by omega
    subst hi9
    have hu2 : u < 2 := by simpa using hu
    have hb : (UInt8.ofNat u).toNat = u := toNat_ofNat_lt (by omega)
    simp only [enc, List.cons_append, List.nil_append, getFrom, hb]
    rw [if_neg (by omega), if_neg (by omega), if_neg (by omega)]
    have hm : u % 128 = u := Nat.mod_eq_of_lt (by omega)
    rw [hm]
    simp
  | succ f ih =>
    intro i acc u r hi hu h0
    simp only [enc]
    split
    · rename_i hge
      have hb : (UInt8.ofNat (u % 128 + 128)).toNat = u % 128 + 128 := toNat_ofNat_lt (by omega)
      simp only [List.cons_append, getFrom, hb]
      rw [if_neg (by omega), if_pos (by omega)]
      have hm : (u % 128 + 128) % 128 = u % 128 := by omega
      rw [hm]
      have hpow : (2 : Nat) ^ (64 - 7 * i) = 2 ^ (64 - 7 * (i + 1)) * 128 := by
        rw [show (128 : Nat) = 2 ^ 7 from rfl, ← Nat.pow_add]
        congr 1
        omega
      rw [ih (i + 1) _ (u / 128) r (by omega) (by rw [hpow] at hu; exact Nat.div_lt_of_lt_mul (by rw [Nat.mul_comm]; exact hu)) (.inr (by omega))]
      have hsum : acc + u % 128 * 2 ^ (7 * i) + u / 128 * 2 ^ (7 * (i + 1)) = acc + u * 2 ^ (7 * i) := by
        have e7 : (2 : Nat) ^ (7 * (i + 1)) = 128 * 2 ^ (7 * i) := by
          rw [show 7 * (i + 1) = 7 + 7 * i by omega, Nat.pow_add]
        rw [e7, Nat.add_assoc, ← Nat.mul_assoc, ← Nat.add_mul]
        congr 2
        omega
      rw [hsum]
      simp only [List.length_cons]
      congr 2
      congr 1
      omega
    · rename_i hlt
      have hb : (UInt8.ofNat u).toNat = u := toNat_ofNat_lt (by omega)
      simp only [List.cons_append, List.nil_append, getFrom, hb]
      rw [if_neg (by omega), if_neg (by omega), if_neg (by omega)]
      have hm : u % 128 = u := Nat.mod_eq_of_lt (by omega)
      rw [hm]
      simp

theorem getNum_num (n : Int) (h : -9223372036854775808 ≤ n) (h' : n ≤ 9223372036854775807) (r : Bytes) :
    getNum (num n ++ r) = (n, ((num n).length : Int), 0) := by
  unfold getNum num
  rw [getFrom_enc 9 0 0 (zig n) r rfl (by simpa using zig_lt n h h') (.inl rfl)]
  simp [zag_zig]

/-- No byte less is enough. -/
theorem getFrom_cut (f : Nat) : ∀ (i acc u : Nat), i + f = 9 → getFrom i acc (enc f u).dropLast = (0, 0, 8) := by
  induction f with
  | zero => intro i acc u _; simp [enc, getFrom]
  | succ f ih =>
    intro i acc u hi
    simp only [enc]
    split
    · rw [List.dropLast_cons_of_ne_nil (enc_ne _ _)]
      have hb : (UInt8.ofNat (u % 128 + 128)).toNat = u % 128 + 128 := toNat_ofNat_lt (by omega)
      simp only [getFrom, hb]
      rw [if_neg (by omega), if_pos (by omega)]
      exact ih _ _ _ (by omega)
    · simp [getFrom]

theorem getNum_cut (n : Int) : getNum (num n).dropLast = (0, 0, 8) := getFrom_cut 9 0 0 _ rfl

/-- What is read: its error is none, or nothing is told beside it. -/
theorem getFrom_err : ∀ (b : Bytes) (i u : Nat), (getFrom i u b).2.2 ≠ 0 → (getFrom i u b).1 = 0 ∧ (getFrom i u b).2.1 = 0 := by
  intro b
  induction b with
  | nil => intro i u _; simp [getFrom]
  | cons c r ih =>
    intro i u h
    simp only [getFrom] at h ⊢
    split at h
    · simp_all
    · rename_i h1
      rw [if_neg h1]
      split at h
      · rename_i h2
        rw [if_pos h2]
        exact ih _ _ h
      · rename_i h2
        rw [if_neg h2]
        split at h
        · rename_i h3
          rw [if_pos h3]; simp
        · simp at h

/-- Bytes that are a number's are its own. -/
theorem getFrom_ok : ∀ (b : Bytes) (i acc : Nat), i ≤ 9 → acc < 2 ^ (7 * i) → (getFrom i acc b).2.2 = 0 →
    ∃ (k v : Nat), k ≤ b.length ∧ 1 ≤ k ∧ (getFrom i acc b).2.1 = ((i + k : Nat) : Int) ∧ v < 2 ^ (64 - 7 * i) ∧ (0 < i → v ≠ 0) ∧
      (getFrom i acc b).1 = zag (acc + v * 2 ^ (7 * i)) ∧ enc (9 - i) v = b.take k := by
  intro b
  induction b with
  | nil => intro i acc _ _ h; simp [getFrom] at h
  | cons c r ih =>
    intro i acc hi ha h
    have hc : c.toNat < 256 := c.toNat_lt
    simp only [getFrom] at h ⊢
    split at h
    · simp at h
    · rename_i h1
      rw [if_neg h1]
      split at h
      · rename_i h2
        rw [if_pos h2]
        have hi8 : i ≤ 8 := by omega
        have e7 : (2 : Nat) ^ (7 * (i + 1)) = 128 * 2 ^ (7 * i) := by
          rw [show 7 * (i + 1) = 7 + 7 * i by omega, Nat.pow_add]
        have hpos : 0 < (2 : Nat) ^ (7 * i) := Nat.pow_pos (by omega)
        obtain ⟨k, v, hk, hk1, hn, hv, hv0, hz, he⟩ := ih (i + 1) (acc + c.toNat % 128 * 2 ^ (7 * i)) (by omega) (by
          rw [e7]
          have : c.toNat % 128 * 2 ^ (7 * i) ≤ 127 * 2 ^ (7 * i) := Nat.mul_le_mul_right _ (by omega)
          omega) h
        have hv1 := hv0 (by omega)
        refine ⟨k + 1, v * 128 + c.toNat % 128, by simp; omega, by omega, by rw [hn]; congr 1; omega, ?_, by omega, ?_, ?_⟩
        · have hpow : (2 : Nat) ^ (64 - 7 * i) = 2 ^ (64 - 7 * (i + 1)) * 128 := by
            rw [show (128 : Nat) = 2 ^ 7 from rfl, ← Nat.pow_add]
            congr 1
            omega
          rw [hpow]
          omega
        · rw [hz]
          congr 1
          rw [e7, Nat.add_mul, ← Nat.mul_assoc]
          omega
        · rw [show 9 - i = (9 - (i + 1)) + 1 by omega]
          simp only [enc]
          rw [if_pos (by omega), show (v * 128 + c.toNat % 128) / 128 = v by omega, he, show (v * 128 + c.toNat % 128) % 128 + 128 = c.toNat by omega]
          simp
      · rename_i h2
        rw [if_neg h2]
        split at h
        · simp at h
        · rename_i h3
          rw [if_neg h3]
          have hm : c.toNat % 128 = c.toNat := Nat.mod_eq_of_lt (by omega)
          refine ⟨1, c.toNat, by simp, by omega, by simp, ?_, by omega, by rw [hm], ?_⟩
          · by_cases h9 : i = 9
            · subst h9; simp; omega
            · have h128 : (2 : Nat) ^ 7 ≤ 2 ^ (64 - 7 * i) := Nat.pow_le_pow_right (by omega) (by omega)
              omega
          · have hofn : UInt8.ofNat c.toNat = c := by simp
            cases hh : 9 - i with
            | zero => simp [enc]
            | succ f => simp only [enc]; rw [if_neg (by omega)]; simp

theorem getNum_i64 (b : Bytes) (h : (getNum b).2.2 = 0) : -9223372036854775808 ≤ (getNum b).1 ∧ (getNum b).1 ≤ 9223372036854775807 := by
  obtain ⟨k, v, hk, hk1, hn, hv, _, hz, he⟩ := getFrom_ok b 0 0 (by omega) (by simp) h
  unfold getNum
  rw [hz]
  unfold zag
  simp at hv ⊢
  split <;> omega

theorem getNum_ok (b : Bytes) (h : (getNum b).2.2 = 0) : ∃ k : Nat, k ≤ b.length ∧ 1 ≤ k ∧ (getNum b).2.1 = (k : Int) ∧ num (getNum b).1 = b.take k := by
  obtain ⟨k, v, hk, hk1, hn, hv, _, hz, he⟩ := getFrom_ok b 0 0 (by omega) (by simp) h
  refine ⟨k, hk, hk1, by simpa [getNum] using hn, ?_⟩
  unfold num getNum
  rw [hz, zig_zag]
  simpa using he

/-- GetText: its text, how many bytes, and the error. -/
def getText (b : Bytes) (most : Int) : Bytes × Int × Int :=
  if (getNum b).2.2 ≠ 0 then ([], 0, (getNum b).2.2)
  else if (getNum b).1 < 0 ∨ most < (getNum b).1 then ([], 0, 4)
  else if (b.length : Int) - (getNum b).2.1 < (getNum b).1 then ([], 0, 8)
  else ((b.drop (getNum b).2.1.toNat).take (getNum b).1.toNat, (getNum b).2.1 + (getNum b).1, 0)

def rot5 (u : Nat) : Nat := (u * 32 % 4294967296) ||| (u / 134217728)
def sumStep (s : Nat) (c : UInt8) : Nat := rot5 (s ^^^ c.toNat) * 16777619 % 4294967296
def sum (b : Bytes) : Nat := b.foldl sumStep 2166136261

theorem getNum_bounds (b : Bytes) : 0 ≤ (getNum b).2.1 ∧ (getNum b).2.1 ≤ b.length := by
  by_cases h : (getNum b).2.2 = 0
  · obtain ⟨k, hk, hk1, hn, _⟩ := getNum_ok b h
    omega
  · have := getFrom_err b 0 0 h
    unfold getNum
    omega

end WM
end Go.Proofs.Ytckhbfbbpdjmdaa
