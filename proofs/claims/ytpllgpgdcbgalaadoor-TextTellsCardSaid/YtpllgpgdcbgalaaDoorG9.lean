/- The program's parser: words, names, quoted texts. The parser's statements: their kinds. The parser's statements: their parts. The parser's statements: their expressions; statements as a whole. The parser's statements, as a whole. The parser's functions: their parameters. The parser: texts as a whole. The parser: what Parse tells. Names that are there: what a program's functions have wrong, as a plain function; lists of names. scope: expressions. The program's parser: lists of expressions. The program's parser: expressions. -/
import Derived.Test.YtpllgpgdcbgalaaDoorG8
import Derived.Test.YtpllgpgdcbgalaaDoorG7
set_option linter.unusedSimpArgs false
set_option linter.unusedVariables false
set_option maxRecDepth 8000
namespace Go.Proofs.YtpllgpgdcbgalaaDoor
open Go Go.RowKit
theorem zsw (c : UInt8) : decide (0 ≤ Lib.indexByte [32, 10, 40, 41, 39] c) = !VM.wordC c := by
  unfold VM.wordC
  by_cases h1 : c = 32
  · subst h1; decide
  by_cases h2 : c = 10
  · subst h2; decide
  by_cases h3 : c = 40
  · subst h3; decide
  by_cases h4 : c = 41
  · subst h4; decide
  by_cases h5 : c = 39
  · subst h5; decide
  have e : ∀ k : UInt8, c ≠ k → (k == c) = false ∧ (c == k) = false := fun k h => ⟨by simpa using fun e => h e.symm, by simpa using h⟩
  simp [Lib.indexByte, e 32 h1, e 10 h2, e 40 h3, e 41 h4, e 39 h5]
section
variable {g : Nat} {s : Str} {st : VM.St} {H : Heap} {n : Nat} {Q : QT}
theorem zwx (a w t : Str) (e : Int) : PT (a ++ w ++ t) (t, e) = .row 3 [.str (a ++ w ++ t), .int .i64 ((a.length + w.length : Nat) : Int), .int .i64 e] := by
  rw [zil, List.length_append]
set_option maxHeartbeats 1000000 in
theorem znd (hl : s.length ≤ 1500) (hs : st.1 <:+ s) (hg : H g = some (PT s st)) (hq : Q (.str (VM.wF st).1) (H.put g (some (PT s (VM.wF st).2))) n) : za Tryd.prog 64 [.ptr g 0] H n Q := by
  refine zlw _ _ _ _ ?_
  unfold zhh
  refine zrv hl hs hg ?_
  have hs' := zbd hs
  have hw : ∀ a b, VM.trim st.1 = a ++ b → (∀ x ∈ a, VM.wordC x = true) → (∀ c r, b = c :: r → VM.wordC c = false) → VM.wF st = (a, if a = [] then VM.badF (if b = [] then 8 else 2) (b, st.2) else (b, st.2)) := by
    intro a b h1 h2 h3
    have := zjt h2 h3
    unfold VM.wF
    rw [h1, this.1, this.2]
    by_cases ha : a = []
    · subst ha; simp
    · simp [ha]
  generalize VM.trim st.1 = t at *
  obtain ⟨p, rfl⟩ := hs'
  have hg' : (H.put g (some (PT (p ++ t) (t, st.2)))) g = some (.row 3 [.str (p ++ t), .int .i64 (p.length : Int), .int .i64 st.2]) := by rw [Heap.put_at, zil]
  have hP0 : ∀ o, (H.put g (some (PT (p ++ t) (t, st.2)))).put g o = H.put g o := fun o => Heap.put_put ..
  generalize H.put g (some (PT (p ++ t) (t, st.2))) = HX at *
  simp [zhi, hg']
  refine LP.mk (fun m xs H' n' => xs = [.ptr g 0, .int .i64 (p.length : Int)] ∧ n' = n ∧ ∃ a b, t = a ++ b ∧ (∀ x ∈ a, VM.wordC x = true) ∧ m = b.length ∧ H' = HX.put g (some (.row 3 [.str (p ++ t), .int .i64 ((p.length + a.length : Nat) : Int), .int .i64 st.2]))) t.length ⟨rfl, rfl, [], t, rfl, by simp, rfl, by rw [Heap.put_same]; simpa using hg'⟩ ?_
  rintro m xs H' n' ⟨rfl, rfl, a, b, rfl, ha, rfl, rfl⟩
  have hR : (HX.put g (some (.row 3 [.str (p ++ (a ++ b)), .int .i64 ((p.length + a.length : Nat) : Int), .int .i64 st.2]))) g = some (.row 3 [.str (p ++ (a ++ b)), .int .i64 ((p.length + a.length : Nat) : Int), .int .i64 st.2]) := Heap.put_at _ _ _
  have hP : ∀ o, (HX.put g (some (.row 3 [.str (p ++ (a ++ b)), .int .i64 ((p.length + a.length : Nat) : Int), .int .i64 st.2]))).put g o = H.put g o := fun o => by rw [Heap.put_put, hP0]
  have hRX : HX.put g (some (.row 3 [.str (p ++ (a ++ b)), .int .i64 ((p.length + a.length : Nat) : Int), .int .i64 st.2])) = H.put g (some (.row 3 [.str (p ++ (a ++ b)), .int .i64 ((p.length + a.length : Nat) : Int), .int .i64 st.2])) := hP0 _
  have hlen : (p ++ (a ++ b)).length = p.length + a.length + b.length := by simp only [List.length_append]; omega
  have htd : ((p ++ (a ++ b)).take (p.length + a.length)).drop p.length = a := by
    rw [List.take_append, List.take_of_length_le (by omega)]
    simp
  have hE : ∀ e, PT (p ++ (a ++ b)) (b, e) = .row 3 [.str (p ++ (a ++ b)), .int .i64 ((p.length + a.length : Nat) : Int), .int .i64 e] := fun e => by
    have := zwx p a b e
    rw [List.append_assoc] at this
    exact this
  generalize hHY : HX.put g (some (.row 3 [.str (p ++ (a ++ b)), .int .i64 ((p.length + a.length : Nat) : Int), .int .i64 st.2])) = HY at *
  have hsl : (p ++ (a ++ b)).length ≤ 1500 := hl
  -- where the word ends
  have fin : (∀ c r, b = c :: r → VM.wordC c = false) → (a = [] → za Tryd.prog 63 [.ptr g 0, .int .i64 (if b = [] then 8 else 2)] HY n' (zac [.ptr g 0, .int .i64 (p.length : Int)] Q)) ∧ (a ≠ [] → Q (.str a) HY n') := by
    intro hb
    have h := hw a b rfl ha hb
    rw [h] at hq
    refine ⟨fun e => ?_, fun e => ?_⟩
    · subst e
      simp only [if_true] at hq
      refine zaw (s := p ++ ([] ++ b)) (st := (b, st.2)) (by rw [hR, hE]) ?_
      rw [hP]
      unfold VM.badF at hq ⊢
      generalize (if (b, st.2).2 = 0 then (if b = [] then (8 : Int) else 2) else (b, st.2).2) = k at *
      have hx : (H.put g (some (PT (p ++ ([] ++ b)) (b, k)))) g = some (.row 3 [.str (p ++ ([] ++ b)), .int .i64 ((p.length + 0 : Nat) : Int), .int .i64 k]) := by rw [Heap.put_at, hE]; rfl
      have hp0 : (0 : Int) ≤ p.length := by omega
      have hq' : Q (.str []) (H.put g (some (PT (p ++ ([] ++ b)) (b, k)))) n' := hq
      generalize H.put g (some (PT (p ++ ([] ++ b)) (b, k))) = HZ at *
      simp at hx
      simp [zac, hx]
      exact ⟨by omega, hq'⟩
    · simp only [if_neg e] at hq
      rw [hRX, ← hE]
      exact hq
  clear hw hHY hRX
  obtain ⟨N, hN⟩ : ∃ N, N = p.length + a.length := ⟨_, rfl⟩
  rw [← hN] at hR hlen htd hE
  have hal : N ≤ 1500 := by rw [hlen] at hsl; omega
  have h0 : (0 : Int) ≤ p.length := by omega
  have hpN : (p.length : Int) ≤ N := by omega
  cases b with
  | nil =>
    obtain ⟨f1, f2⟩ := fin (by simp)
    have hL : ((p ++ (a ++ [])).length : Int) = N := by rw [hlen]; simp
    generalize hS : p ++ (a ++ []) = S at *
    by_cases e : a = []
    · subst e
      have f1' := f1 rfl
      have heq : (p.length : Int) = N := by rw [hN]; simp
      simp at f1'
      simp [zaq, hR, hL, heq, f1']
    · have f2' := f2 e
      have hne : ¬ (p.length : Int) = N := fun h => e (List.length_eq_zero_iff.1 (by omega))
      simp [zaq, hR, hL, hne, htd, hpN, f2']
  | cons c r =>
    have hL : ((p ++ (a ++ c :: r)).length : Int) = N + (r.length + 1) := by rw [hlen]; simp
    have hlt : (N : Int) < N + (r.length + 1) := by omega
    have hle : (N : Int) ≤ N + (r.length + 1) := by omega
    have hwr : IntKind.i64.wrap ((N : Int) + 1) = (N : Int) + 1 := i64w (by omega)
    have hon : ((p ++ (a ++ c :: r)).take (N + 1)).drop N = [c] := by
      have : (p ++ (a ++ c :: r)) = (p ++ a) ++ c :: r := by simp
      rw [this, List.take_append, List.take_of_length_le (by simp; omega), List.drop_append, List.drop_of_length_le (by simp; omega)]
      have : N + 1 - (p ++ a).length = 1 := by simp; omega
      rw [this]
      have : N - (p ++ a).length = 0 := by simp; omega
      rw [this]; simp
    have hle1 : (N : Int) + 1 ≤ N + (r.length + 1) := by omega
    have hPP := hP
    generalize hS : p ++ (a ++ c :: r) = S at *
    by_cases hc : VM.wordC c = true
    · simp [zaq, hR, hL, hlt, hwr, hle1, hon]
      refine ⟨by omega, zj.of_qc (zot _ c) (.bool _) ?_⟩
      rw [zsw, hc]
      simp [zcb, hR, hwr, hP]
      refine ⟨r.length, by omega, a ++ [c], r, by simp, fun x hx => ?_, rfl, ?_⟩
      · rcases List.mem_append.1 hx with h | h
        · exact ha x h
        · rw [List.mem_singleton.1 h]; exact hc
      · rw [hP0]
        have : (p.length : Int) + ((a ++ [c]).length : Nat) = (N : Int) + 1 := by rw [hN]; simp; omega
        rw [this]
    · obtain ⟨f1, f2⟩ := fin (by rintro c' r' h; cases h; simpa using hc)
      have hc' : VM.wordC c = false := by simpa using hc
      simp [zaq, hR, hL, hlt, hwr, hle1, hon]
      refine ⟨by omega, zj.of_qc (zot _ c) (.bool _) ?_⟩
      rw [zsw, hc']
      by_cases e : a = []
      · subst e
        have f1' := f1 rfl
        have heq : (p.length : Int) = N := by rw [hN]; simp
        have hnl : ¬ ((N : Int) + (r.length + 1) ≤ N) := by omega
        simp at f1'
        rw [heq] at f1'
        simp [zcb, hR, hL, heq, hnl, f1']
      · have f2' := f2 e
        have hne : ¬ (p.length : Int) = N := fun h => e (List.length_eq_zero_iff.1 (by omega))
        simp [zcb, hR, hL, hne, htd, hpN, hle, f2']
end
theorem zrr (s : Str) (hs : s.length ≤ maxLen) : QC Tryd.prog 24 [.str s] (.bool (VM.word s)) := by
  refine fun H nx => zqk _ H nx _ ?_
  simp only [maxLen] at hs
  by_cases h12 : 12 < s.length
  · have h12' : (12 : Int) < s.length := by omega
    have e : VM.word s = false := by
      have : ¬ s.length ≤ 12 := by omega
      simp [VM.word, this]
    simp [zkq, h12', e]
  have h12' : ¬ (12 : Int) < s.length := by omega
  simp [zkq, h12']
  refine LP.mk (fun n xs H' nx' => ∃ i : Nat, i ≤ s.length ∧ n = s.length - i ∧ xs = [.str s, .int .i64 s.length, .int .i64 i] ∧ H = H' ∧ nx = nx' ∧ s.all VM.wordByte = (s.drop i).all VM.wordByte) s.length ⟨0, by omega, by omega, rfl, rfl, rfl, rfl⟩ ?_
  rintro n xs H' nx' ⟨i, hi, rfl, rfl, rfl, rfl, hall⟩
  rw [zrb] at hall
  simp [zoi]
  refine ⟨fun h => ?_, fun h => ?_⟩
  · rw [dif_pos h] at hall
    have hb : VM.wordByte s[i] = false → VM.word s = false := fun hb => by simp [VM.word, hall, hb]
    simp [h]
    refine ⟨fun h1 => hb (by simp [VM.wordByte]; omega), fun h1 => ⟨fun h2 => hb (by simp [VM.wordByte]; omega), fun h2 => ⟨fun h3 => hb (by simp [VM.wordByte]; omega), fun h3 => ?_⟩⟩⟩
    rw [i64w (by omega)]
    refine ⟨s.length - (i + 1), by omega, i + 1, by omega, rfl, by simp, ?_⟩
    have : VM.wordByte s[i] = true := by simp [VM.wordByte]; omega
    rw [hall, this]; rfl
  · rw [dif_neg (by omega)] at hall
    have : s.length ≤ 12 := by omega
    simp [VM.word, hall, this]
def kw : Str := [32, 108, 101, 116, 32, 115, 101, 116, 32, 105, 102, 32, 119, 104, 105, 108, 101, 32, 115, 97, 121, 32, 114, 101, 116, 117, 114, 110, 32, 112, 117, 116, 108, 32, 112, 117, 116, 114, 32, 100, 111, 32, 99, 101, 108, 108, 32, 108, 101, 102, 116, 32, 114, 105, 103, 104, 116, 32, 97, 115, 107, 32, 104, 101, 114, 101, 32, 103, 111, 32]
theorem zry (sub : Str) : ∀ l : Str, 0 ≤ Lib.index l sub ↔ ∃ i, i ≤ l.length ∧ sub.isPrefixOf (l.drop i) = true
  | [] => by
    cases sub with
    | nil => simp [Lib.index]
    | cons c r => simp [Lib.index]
  | b :: l => by
    have ih := zry sub l
    unfold Lib.index
    by_cases hp : sub.isPrefixOf (b :: l) = true
    · rw [if_pos hp]
      exact ⟨fun _ => ⟨0, by omega, hp⟩, fun _ => by omega⟩
    · rw [if_neg hp]
      have hge : -1 ≤ Lib.index l sub := by
        clear ih hp
        induction l with
        | nil => unfold Lib.index; split <;> omega
        | cons x l ih =>
          unfold Lib.index
          split
          · omega
          · split
            · omega
            · omega
      constructor
      · intro h
        split at h
        · omega
        · rename_i hne
          have hne' : Lib.index l sub ≠ -1 := by simpa using hne
          obtain ⟨i, h1, h2⟩ := ih.1 (by omega)
          exact ⟨i + 1, by simp; omega, by simpa using h2⟩
      · rintro ⟨i, h1, h2⟩
        cases i with
        | zero => exact absurd (by simpa using h2) hp
        | succ i =>
          have : 0 ≤ Lib.index l sub := ih.2 ⟨i, by simpa using h1, by simpa using h2⟩
          rw [if_neg (by simp; omega)]
          omega
theorem zym : ∀ i, i < 71 → ∀ r, kw.drop i = 32 :: r → (r.takeWhile (· != 32) ∈ VM.keys ∨ r.takeWhile (· != 32) = []) := by
  intro i hi r hr
  have key : ∀ i < 71, (match kw.drop i with | 32 :: r => decide (r.takeWhile (· != 32) ∈ VM.keys ∨ r.takeWhile (· != 32) = []) | _ => true) = true := by decide +kernel
  have := key i hi
  rw [hr] at this
  simpa using this
theorem zaah : ∀ w ∈ VM.keys, 0 ≤ Lib.index kw (32 :: w ++ [32]) := by decide +kernel
theorem zpu {s : Str} (h0 : s ≠ []) (hb : ∀ c ∈ s, c ≠ 32) : Lib.contains kw (32 :: s ++ [32]) = decide (s ∈ VM.keys) := by
  unfold Lib.contains
  rw [decide_eq_decide]
  constructor
  · intro h
    obtain ⟨i, h1, h2⟩ := (zry _ kw).1 h
    have hlt : i < 71 := by have : kw.length = 70 := rfl; omega
    rw [List.isPrefixOf_iff_prefix] at h2
    obtain ⟨t, ht⟩ := h2
    have hw := zym i hlt (s ++ 32 :: t) (by rw [← ht]; simp)
    have e : (s ++ 32 :: t).takeWhile (· != 32) = s := (zjt (p := (· != 32)) (a := s) (b := 32 :: t) (fun x hx => by simpa using hb x hx) (by rintro c r h; cases h; rfl)).1
    rw [e] at hw
    exact hw.resolve_right h0
  · exact zaah s
theorem znk (s : Str) (hs : s.length ≤ maxLen) : QC Tryd.prog 23 [.str s] (.bool (VM.name s)) := by
  refine fun H nx => zql _ H nx _ ?_
  simp only [maxLen] at hs
  by_cases h1 : s.length < 1
  · have h1' : (s.length : Int) < 1 := by omega
    have e : VM.name s = false := by
      have : ¬ 0 < s.length := by omega
      rw [zie]; simp [this]
    simp [zgk, h1', e]
  have h1' : ¬ (s.length : Int) < 1 := by omega
  by_cases h8 : 8 < s.length
  · have h8' : (8 : Int) < s.length := by omega
    have e : VM.name s = false := by
      have : ¬ s.length < 9 := by omega
      rw [zie]; simp [this]
    simp [zgk, h1', h8', e]
  have h8' : ¬ (8 : Int) < s.length := by omega
  have hkw : AV.str kw = AV.str [32, 108, 101, 116, 32, 115, 101, 116, 32, 105, 102, 32, 119, 104, 105, 108, 101, 32, 115, 97, 121, 32, 114, 101, 116, 117, 114, 110, 32, 112, 117, 116, 108, 32, 112, 117, 116, 114, 32, 100, 111, 32, 99, 101, 108, 108, 32, 108, 101, 102, 116, 32, 114, 105, 103, 104, 116, 32, 97, 115, 107, 32, 104, 101, 114, 101, 32, 103, 111, 32] := rfl
  have hnd : VM.name s = (decide (s ∉ VM.keys) && s.all zbb) := by
    have a : 0 < s.length := by omega
    have b : s.length < 9 := by omega
    rw [zie]; simp [a, b]
  simp only [zgk, ← hkw]
  simp [h1', h8']
  refine ⟨by omega, by omega, ?_⟩
  have hlk : kw.length < 4294967281 := by decide
  refine (ztt kw (32 :: (s ++ [32])) hlk).call ?_
  have loop : Lib.contains kw (32 :: (s ++ [32])) = false → s ∉ VM.keys ∨ s.all zbb = false → LP (zgl fun v H' n' => v = AV.bool (VM.name s) ∧ H' = H ∧ n' = nx) [.str s, .int .i64 s.length, .int .i64 0] H nx := by
    intro _ hk
    refine LP.mk (fun m xs H'' n'' => ∃ i : Nat, i ≤ s.length ∧ m = s.length - i ∧ xs = [.str s, .int .i64 s.length, .int .i64 i] ∧ H'' = H ∧ n'' = nx ∧ s.all zbb = (s.drop i).all zbb) s.length ⟨0, by omega, by omega, rfl, rfl, rfl, rfl⟩ ?_
    rintro m xs H'' n'' ⟨j, hj, rfl, rfl, rfl, rfl, hall⟩
    rw [zrb] at hall
    by_cases hlt : j < s.length
    · rw [dif_pos hlt] at hall
      have hb : zbb s[j] = false → VM.name s = false := fun hb => by rw [hnd]; simp [hall, hb]
      simp [zgl, hlt]
      refine ⟨fun h1 => hb (by simp [zbb]; omega), fun h1 => ⟨fun h2 => hb (by simp [zbb]; omega), fun h2 => ?_⟩⟩
      rw [i64w (by omega)]
      refine ⟨s.length - (j + 1), by omega, j + 1, by omega, rfl, by simp, ?_⟩
      have : zbb s[j] = true := by simp [zbb]; omega
      rw [hall, this]; rfl
    · rw [dif_neg hlt] at hall
      have hn : VM.name s = true := by
        rw [hnd, hall]
        have := hk.resolve_right (by rw [hall]; simp)
        simp [this]
      have hji : ¬ (j : Int) < s.length := by omega
      simp [zgl, hlt, hn]
  have hs0 : s ≠ [] := fun e => by rw [e] at h1; simp at h1
  cases hc : Lib.contains kw (32 :: (s ++ [32])) with
  | true =>
    have e : VM.name s = false := by
      rw [hnd]
      by_cases hl : s.all zbb = true
      · have hb : ∀ c ∈ s, c ≠ 32 := fun c hc e => by
          have := List.all_eq_true.1 hl c hc
          rw [e] at this
          simp [zbb] at this
        have := zpu hs0 hb
        rw [List.cons_append, hc] at this
        have : s ∈ VM.keys := by simpa using this.symm
        simp [this]
      · simp [hl]
    simp [zkr, e]
  | false =>
    have fin := loop hc (by
      by_cases hl : s.all zbb = true
      · left
        have hb : ∀ c ∈ s, c ≠ 32 := fun c hc e => by
          have := List.all_eq_true.1 hl c hc
          rw [e] at this
          simp [zbb] at this
        have := zpu hs0 hb
        rw [List.cons_append, hc] at this
        simpa using this.symm
      · right; simpa using hl)
    simp [zkr]
    exact fin
section
variable {g : Nat} {s : Str} {st : VM.St} {H : Heap} {n : Nat} {Q : QT}
theorem zqa (hl : s.length ≤ 1500) (hs : st.1 <:+ s) (hg : H g = some (PT s st)) (hq : Q (.str (VM.nF st).1) (H.put g (some (PT s (VM.nF st).2))) n) : za Tryd.prog 44 [.ptr g 0] H n Q := by
  refine zlz _ _ _ _ ?_
  unfold zhp
  have hw := zij st
  have hle := hs.length_le
  refine znd hl hs hg ?_
  unfold zhq
  refine (znk (VM.wF st).1 (by unfold maxLen; omega)).call ?_
  have hP : ∀ o, (H.put g (some (PT s (VM.wF st).2))).put g o = H.put g o := fun o => Heap.put_put ..
  have hg2 : (H.put g (some (PT s (VM.wF st).2))) g = some (PT s (VM.wF st).2) := Heap.put_at _ _ _
  unfold VM.nF at hq
  by_cases h : VM.name (VM.wF st).1 = true
  · simp only [h, if_true] at hq
    simp [zdu, h, hq]
  · simp only [h] at hq
    have h' : VM.name (VM.wF st).1 = false := by simpa using h
    simp [zdu, h']
    refine zaw hg2 ?_
    rw [hP]
    simp [zhr]
    exact hq
theorem zz {s : Str} {st : VM.St} {c : Int} (h : st.1 <:+ s) : (VM.mustF c st).1 <:+ s := by
  have := zbd h
  unfold VM.mustF
  split
  · exact (List.drop_suffix 1 _).trans this
  · exact this
theorem zng {s : Str} {st : VM.St} (h : st.1 <:+ s) : (VM.wF st).2.1 <:+ s := by
  have := zbd h
  unfold VM.wF
  dsimp only
  split
  · exact this
  · exact (List.dropWhile_suffix _).trans this
theorem zsq {s : Str} {st : VM.St} (h : st.1 <:+ s) : (VM.nF st).2.1 <:+ s := by
  have := zng h
  unfold VM.nF
  dsimp only
  split <;> exact this
theorem zabb (l : Str) : (39 ∈ l → Lib.indexByte l 39 = ((l.takeWhile (· != 39)).length : Int)) ∧ (39 ∉ l → Lib.indexByte l 39 = -1) := by
  induction l with
  | nil => exact ⟨fun h => absurd h (by simp), fun _ => rfl⟩
  | cons c r ih =>
    unfold Lib.indexByte
    by_cases hc : c = 39
    · subst hc
      simp
    · have h1 : (c == 39) = false := by simpa using hc
      have h2 : (c != 39) = true := by simpa using hc
      rw [h1]
      simp only [List.takeWhile_cons, h2, if_true, Bool.false_eq_true, if_false, List.length_cons]
      refine ⟨fun h => ?_, fun h => ?_⟩
      · have h39 : 39 ∈ r := by
          rcases List.mem_cons.1 h with h | h
          · exact absurd h.symm hc
          · exact h
        rw [ih.1 h39, if_neg (by simp)]
        omega
      · have h39 : 39 ∉ r := fun h' => h (List.mem_cons_of_mem _ h')
        rw [ih.2 h39]; simp
set_option maxHeartbeats 1000000 in
theorem zvj {t : Str} {e : Int} (hl : s.length ≤ 1500) (hs : (39 :: t) <:+ s) (hg : H g = some (PT s (39 :: t, e)))
    (hq : ∀ w st', (VM.quotedF (39 :: t) e) = (.mk 2 0 w [], st') → Q (.str w) (H.put g (some (PT s st'))) n) : za Tryd.prog 85 [.ptr g 0] H n Q := by
  refine zkp _ _ _ _ ?_
  obtain ⟨p, rfl⟩ := hs
  have hg' : H g = some (.row 3 [.str (p ++ 39 :: t), .int .i64 (p.length : Int), .int .i64 e]) := by rw [hg, zil]
  have hpl : p.length ≤ 1500 := by rw [List.length_append] at hl; omega
  have htl : t.length ≤ 1500 := by rw [List.length_append, List.length_cons] at hl; omega
  have hwr : IntKind.i64.wrap ((p.length : Int) + 1) = (p.length : Int) + 1 := i64w (by omega)
  have hlen : ((p ++ 39 :: t).length : Int) = p.length + (t.length + 1) := by simp
  have hdr : (p ++ 39 :: t).drop (p.length + 1) = t := by
    rw [show p ++ 39 :: t = (p ++ [39]) ++ t by simp, List.drop_append_of_le_length (by simp), List.drop_of_length_le (by simp)]; rfl
  have hE : ∀ (a b : Str) (e : Int), a ++ b = t → PT (p ++ 39 :: t) (b, e) = .row 3 [.str (p ++ 39 :: t), .int .i64 ((p.length + 1 + a.length : Nat) : Int), .int .i64 e] := fun a b e hab => by
    have := zwx (p ++ [39]) a b e
    subst hab
    simp only [List.append_assoc, List.cons_append, List.nil_append, List.length_append, List.length_cons, List.length_nil] at this
    exact this
  have hle1 : (p.length : Int) + 1 ≤ p.length + (t.length + 1) := by omega
  have h01 : (0 : Int) ≤ (p.length : Int) + 1 := by omega
  unfold VM.quotedF at hq
  rw [show (39 :: t : Str).drop 1 = t from rfl] at hq
  have i39 := zabb t
  have c39 : (39 : Int).toNat.toUInt8 = 39 := rfl
  generalize hS : p ++ 39 :: t = S at *
  simp [zfr, hg', hwr, hlen, hle1]
  refine ⟨h01, zj.of_qc (ztj _ 39) (.int _ _) ?_⟩
  rw [hdr, c39]
  have hR : (H.put g (some (.row 3 [.str S, .int .i64 ((p.length : Int) + 1), .int .i64 e]))) g = some (.row 3 [.str S, .int .i64 ((p.length : Int) + 1), .int .i64 e]) := Heap.put_at _ _ _
  have hP : ∀ o, (H.put g (some (.row 3 [.str S, .int .i64 ((p.length : Int) + 1), .int .i64 e]))).put g o = H.put g o := fun o => Heap.put_put ..
  have hR2 : (H.put g (some (.row 3 [.str S, .int .i64 ((p.length : Int) + 1), .int .i64 e]))) g = some (PT S (t, e)) := by rw [hR, hE [] t e rfl]; simp
  generalize H.put g (some (.row 3 [.str S, .int .i64 ((p.length : Int) + 1), .int .i64 e])) = HX at *
  by_cases h39 : 39 ∈ t
  · rw [if_pos h39] at hq
    have hx := i39.1 h39
    have hspl : t.takeWhile (· != 39) ++ t.dropWhile (· != 39) = t := List.takeWhile_append_dropWhile
    obtain ⟨r, hr⟩ : ∃ r, t.dropWhile (· != 39) = 39 :: r := by
      cases hd : t.dropWhile (· != 39) with
      | nil =>
        rw [hd, List.append_nil] at hspl
        have h40 : 39 ∈ t.takeWhile (· != 39) := by rw [hspl]; exact h39
        have := List.all_eq_true.1 (List.all_takeWhile (p := (· != (39 : UInt8))) (l := t)) 39 h40
        simp at this
      | cons c r =>
        have := List.head_dropWhile_not (p := (· != (39 : UInt8))) (l := t) (by rw [hd]; simp)
        have hc : c = 39 := by simpa [hd] using this
        exact ⟨r, by rw [hc]⟩
    rw [hr] at hspl hq
    rw [hx]
    generalize t.takeWhile (· != 39) = w at *
    have hwl : w.length + 1 + r.length = t.length := by rw [← hspl]; simp; omega
    have hn0 : ¬ (w.length : Int) < 0 := by omega
    have hwr2 : IntKind.i64.wrap ((p.length : Int) + 1 + w.length) = (p.length : Int) + 1 + w.length := i64w (by omega)
    have hwr3 : IntKind.i64.wrap ((w.length : Int) + 1) = (w.length : Int) + 1 := i64w (by omega)
    have hwr4 : IntKind.i64.wrap ((p.length : Int) + 1 + ((w.length : Int) + 1)) = (p.length : Int) + 1 + ((w.length : Int) + 1) := i64w (by omega)
    have hb1 : (p.length : Int) + 1 ≤ (p.length : Int) + 1 + w.length := by omega
    have hb2 : (p.length : Int) + 1 + w.length ≤ (p.length : Int) + (t.length + 1) := by omega
    have htn : ((p.length : Int) + 1 + w.length).toNat = p.length + 1 + w.length := by omega
    have hmid : (S.take (p.length + 1 + w.length)).drop (p.length + 1) = w := by
      rw [List.drop_take, hdr, ← hspl, show p.length + 1 + w.length - (p.length + 1) = w.length by omega]; simp
    have hS2 : ∀ e, PT S (r, e) = .row 3 [.str S, .int .i64 ((p.length : Int) + 1 + ((w.length : Int) + 1)), .int .i64 e] := fun e => by
      rw [hE (w ++ [39]) r e (by rw [← hspl]; simp)]
      congr 4
      simp
    simp [zco, hn0, hR, hwr2, hwr3, hwr4, hP, hb1, hb2, hlen, hmid, htn]
    refine ⟨h01, ?_⟩
    rw [← hS2]
    refine (zrr w (by unfold maxLen; omega)).call ?_
    have hg3 : (H.put g (some (PT S (r, e)))) g = some (PT S (r, e)) := Heap.put_at _ _ _
    have hP3 : ∀ o, (H.put g (some (PT S (r, e)))).put g o = H.put g o := fun o => Heap.put_put ..
    by_cases hwd : VM.word w = true
    · have := hq w (r, e) (by rw [if_pos hwd]; rfl)
      simp [zcp, hwd]
      exact this
    · have := hq w (VM.badF 2 (r, e)) (by rw [if_neg hwd]; rfl)
      simp [zcp, hwd]
      refine zaw hg3 ?_
      rw [hP3]
      exact this
  · rw [if_neg h39] at hq
    have hq' := hq [] (VM.badF 8 (t, e)) rfl
    rw [i39.2 h39]
    simp [zco]
    refine zaw hR2 ?_
    rw [hP]
    exact hq'
end
end Go.Proofs.YtpllgpgdcbgalaaDoor
set_option maxRecDepth 8000
namespace Go.Proofs.YtpllgpgdcbgalaaDoor
open Go Go.RowKit
theorem zaae {g : Nat} {es : List (AV × AV)} {key v : AV} {H H0 : Heap} {kh : Heap → Prop} (hH : H g = some (.mp es)) (hy : ∀ y, y ≠ g → H y = H0 y) (hf : zaa key es = some none)
    (hk : ∀ H', H' g = some (.mp (es ++ [(key, v)])) → (∀ y, y ≠ g → H' y = H0 y) → kh H') : MU (.amap g) key v H kh := by
  rw [mu_p, hH, mapk, hf, optk]
  exact hk _ (Heap.put_at _ _ _) fun y hne => by rw [Heap.put_ne _ _ hne]; exact hy y hne
def zpc : List (Str × Int) := [([108, 101, 116], 1), ([115, 101, 116], 2), ([105, 102], 3), ([119, 104, 105, 108, 101], 4), ([115, 97, 121], 5), ([114, 101, 116, 117, 114, 110], 6), ([112, 117, 116, 108], 7), ([112, 117, 116, 114], 8), ([100, 111], 9)]
def zrj : List (AV × AV) := zpc.map fun p => (.str p.1, .int .i64 p.2)
theorem zxf (w : Str) : ∃ r, zaa (.str w) zrj = some r ∧ (match r with | some (_, v) => v | none => .int .i64 0) = .int .i64 (VM.stKind w) := by
  by_cases h1 : w = [108, 101, 116]
  · subst h1; exact ⟨some (0, .int .i64 1), rfl, rfl⟩
  by_cases h2 : w = [115, 101, 116]
  · subst h2; exact ⟨some (1, .int .i64 2), rfl, rfl⟩
  by_cases h3 : w = [105, 102]
  · subst h3; exact ⟨some (2, .int .i64 3), rfl, rfl⟩
  by_cases h4 : w = [119, 104, 105, 108, 101]
  · subst h4; exact ⟨some (3, .int .i64 4), rfl, rfl⟩
  by_cases h5 : w = [115, 97, 121]
  · subst h5; exact ⟨some (4, .int .i64 5), rfl, rfl⟩
  by_cases h6 : w = [114, 101, 116, 117, 114, 110]
  · subst h6; exact ⟨some (5, .int .i64 6), rfl, rfl⟩
  by_cases h7 : w = [112, 117, 116, 108]
  · subst h7; exact ⟨some (6, .int .i64 7), rfl, rfl⟩
  by_cases h8 : w = [112, 117, 116, 114]
  · subst h8; exact ⟨some (7, .int .i64 8), rfl, rfl⟩
  by_cases h9 : w = [100, 111]
  · subst h9; exact ⟨some (8, .int .i64 9), rfl, rfl⟩
  refine ⟨none, ?_, ?_⟩
  · simp [zrj, zpc, h1, h2, h3, h4, h5, h6, h7, h8, h9]
  · simp [VM.stKind, h1, h2, h3, h4, h5, h6, h7, h8, h9]
set_option maxHeartbeats 1000000 in
theorem zyc {n m g : Nat} {dz : Int} {w : Str} {H : Heap} {Q : QT} (hk : ∀ H', H' (m + 1) = some (.row 5 [.int .i64 (VM.stKind w), .str [], .nils, .nils, .nils]) → (∀ y, y ≠ m → y ≠ m + 1 → H' y = H y) → JN (zbs Q) (zbt (.int .i64 (VM.stKind w)) (.ptr g 0) H' m (.int .i64 dz) n)) :
    zev Q (.ptr g 0) (.int .i64 dz) n (.str w) H m := by
  simp only [zev, puth, zwa, true_and]
  have hH : (H.put m (some (.mp []))) m = some (.mp []) := Heap.put_at _ _ _
  have hy : ∀ y, y ≠ m → (H.put m (some (.mp []))) y = H y := fun y hne => Heap.put_ne _ _ hne
  generalize H.put m (some (.mp [])) = H1 at *
  repeat (refine zaae hH hy (by rfl) ?_; clear hH hy; clear H1; intro H1 hH hy)
  simp only [List.nil_append, List.cons_append] at hH
  obtain ⟨r, h1, h2⟩ := zxf w
  have hH' : H1 m = some (.mp zrj) := hH
  simp only [lk_p, hH', mapk, h1, optk, cond_false]
  have fin : ∀ v, v = .int .i64 (VM.stKind w) → JN (zbs Q) (zbt v (.ptr g 0) ((H1.put (m + 1) (some (.row 5 [v, .str [], .nils, .nils, .nils])))) m (.int .i64 dz) n) := by
    rintro v rfl
    refine hk _ (Heap.put_at _ _ _) fun y h1 h2 => ?_
    rw [Heap.put_ne _ _ h2]; exact hy y h1
  cases r with
  | none =>
    have := fin _ h2
    simp
    exact this
  | some p =>
    obtain ⟨i, v⟩ := p
    simp only at h2
    subst h2
    have := fin _ rfl
    simp
    exact this
end Go.Proofs.YtpllgpgdcbgalaaDoor
set_option maxRecDepth 8000
namespace Go.Proofs.YtpllgpgdcbgalaaDoor
open Go Go.RowKit
namespace VM
def tailF (d : Nat) (k : Int) (nm : Str) (a : List Ex × St) : Sm × St :=
  if k = 3 then
    (.mk k nm a.1 (manyF (stmtF d) (mustF 40 a.2)).1 (manyF (stmtF d) (mustF 40 (manyF (stmtF d) (mustF 40 a.2)).2)).1, mustF 41 (manyF (stmtF d) (mustF 40 (manyF (stmtF d) (mustF 40 a.2)).2)).2)
  else if k = 4 then (.mk k nm a.1 (manyF (stmtF d) a.2).1 [], (manyF (stmtF d) a.2).2)
  else (.mk k nm a.1 [] [], mustF 41 a.2)
end VM
inductive Lst : List Sm → AV → Prop
  | nils : Lst [] .nils
  | ro (l : List Sm) : Lst l (.ro (l.map Sm.avs))
theorem Lst.frz {H : Heap} {n : Nat} {l : List Sm} {A : AV} (h : Lst l A) : Frz H n A (.ro (l.map Sm.avs)) := by
  cases h with
  | nils => exact .nils
  | ro => exact .same _ (zft fun x hx v hv => by obtain ⟨y, _, rfl⟩ := List.mem_map.1 hx; exact zlb _ y v hv)
theorem Lst.one {l : List Sm} {A : AV} (h : Lst l A) : A.one = true := by cases h <;> rfl
theorem Lst.sure {l : List Sm} {A : AV} (h : Lst l A) : A.sure = true := by cases h <;> rfl
structure SmE (H0 : Heap) (n g : Nat) (k : Int) (nm : Str) (ar : List Ex) (A2 A3 : AV) (st : VM.St) (H : Heap) (m : Nat) : Prop where
  rb : ∃ cs, H n = some (.row 5 cs) ∧ cs.length = 5
  rx : ∃ A, H (n + 2) = some (.row 5 [.int .i64 k, .str nm, A, A2, A3]) ∧ RowS Ex.avs 4 H (n + 3) m ar A
  rg : H g = some (PR st)
  gb : g < n
  bm : n + 3 ≤ m
  keep : ∀ y, y < n → y ≠ g → H y = H0 y
  short : st.1.length ≤ 1500
section
variable {H0 H : Heap} {n g m : Nat} {k : Int} {nm : Str} {ar : List Ex} {A2 A3 : AV} {st st' : VM.St} {Q : QT}
theorem SmE.state (h : SmE H0 n g k nm ar A2 A3 st H m) (hf : VM.Flow st st') : SmE H0 n g k nm ar A2 A3 st' (H.put g (some (PR st'))) m := by
  have hb := h.gb
  obtain ⟨A, h4, h5⟩ := h.rx
  obtain ⟨cs, h6, h7⟩ := h.rb
  exact ⟨⟨cs, by rw [Heap.put_ne _ _ (by omega)]; exact h6, h7⟩, ⟨A, by rw [Heap.put_ne _ _ (by omega)]; exact h4, h5.keep (Nat.le_refl _) fun y hy _ => Heap.put_ne _ _ (by omega)⟩, Heap.put_at _ _ _, hb, h.bm, fun y hy hne => by rw [Heap.put_ne _ _ hne]; exact h.keep y hy hne, Nat.le_trans hf.1 h.short⟩
theorem SmE.cells {k' : Int} {nm' : Str} {B2 B3 : AV} {A : AV} (h : SmE H0 n g k nm ar A2 A3 st H m) (hA : H (n + 2) = some (.row 5 [.int .i64 k, .str nm, A, A2, A3])) : SmE H0 n g k' nm' ar B2 B3 st (H.put (n + 2) (some (.row 5 [.int .i64 k', .str nm', A, B2, B3]))) m := by
  have hb := h.gb
  obtain ⟨A', h4, h5⟩ := h.rx
  rw [hA] at h4
  cases h4
  obtain ⟨cs, h6, h7⟩ := h.rb
  exact ⟨⟨cs, by rw [Heap.put_ne _ _ (by omega)]; exact h6, h7⟩, ⟨A, Heap.put_at _ _ _, h5.keep (Nat.le_refl _) fun y hy _ => Heap.put_ne _ _ (by omega)⟩, by rw [Heap.put_ne _ _ (by omega)]; exact h.rg, hb, h.bm, fun y hy hne => by rw [Heap.put_ne _ _ (by omega)]; exact h.keep y hy hne, h.short⟩
theorem SmE.done {t e : List Sm} {A : AV} (h : SmE H0 n g k nm ar A2 A3 st H m) (hA : H (n + 2) = some (.row 5 [.int .i64 k, .str nm, A, A2, A3])) (h2 : Lst t A2) (h3 : Lst e A3) (hq : ExQ H0 n g (.agg (Sm.mk k nm ar t e).avs) st Q) (o : Option AObj) (m' : Nat) : Q (.agg [.int .i64 k, .str nm, A, A2, A3]) (H.put n o) m' := by
  have hb := h.gb
  obtain ⟨A', q1, q2⟩ := h.rx
  rw [hA] at q1
  cases q1
  refine hq _ _ _ ?_ (by rw [Heap.put_ne _ _ (by omega)]; exact h.rg) fun y hy hne => by rw [Heap.put_ne _ _ (by omega)]; exact h.keep y hy hne
  rw [zis]
  exact FL.agg (.cons (.same _ (.int _ _)) (.cons (.same _ (.str _)) (.cons (q2.frz zbc zlc (by omega) fun y hy _ => Heap.put_ne _ _ (by omega)) (.cons h2.frz (.cons h3.frz .nil)))))
theorem zuu {x0 x1 x3 x5 x6 v : AV} {t e : List Sm} (h : SmE H0 n g k nm ar A2 A3 st H m) (h2 : Lst t A2) (h3 : Lst e A3) (hq : ExQ H0 n g (.agg (Sm.mk k nm ar t e).avs) st Q) : zcv [x0, x1, .ptr n 0, x3, .ptr (n + 2) 0, x5, x6] Q v H m := by
  obtain ⟨A, rx, ra⟩ := h.rx
  obtain ⟨cs, rb, rbl⟩ := h.rb
  simp [zcv, rx, rb, rbl, ra.one, h2.one, h3.one]
  exact h.done rx h2 h3 hq _ _
end
set_option maxHeartbeats 1000000 in
theorem zws {d : Nat} (hd : d ≤ 11) (hS : zoy d) {H0 H : Heap} {n g m : Nat} {k cnt i : Int} {nm : Str} {ar : List Ex} {st : VM.St} {Q : QT} {K : J3} (h : SmE H0 n g k nm ar .nils .nils st H m) (hi : ¬ i < cnt)
    (hq : ExQ H0 n g (.agg (VM.tailF d k nm (ar, st)).1.avs) (VM.tailF d k nm (ar, st)).2 Q) : zy Q K [.ptr g 0, .int .i64 (10 - (d : Int)), .ptr n 0, .int .i64 k, .ptr (n + 2) 0, .int .i64 cnt, .int .i64 i] H m := by
  have hw : IntKind.i64.wrap (10 - (d : Int) + 1) = 11 - (d : Int) := by rw [i64w (by omega)]; omega
  unfold VM.tailF at hq
  by_cases h3 : k = 3
  · rw [if_pos h3] at hq
    subst h3
    simp [zy, hi]
    refine zen (by decide) h.rg ?_
    have f1 := VM.flow_must 40 st
    have h1 := h.state f1
    generalize H.put g (some (PR (VM.mustF 40 st))) = H1 at h1 ⊢
    simp [zke, hw]
    refine hS _ g H1 m _ h1.short h1.rg ?_
    have f2 := (VM.nice_many (VM.nice_stmt d)).flow (VM.mustF 40 st)
    have h2 := h1.state f2
    generalize H1.put g _ = H2 at h2 ⊢
    obtain ⟨A, rx, ra⟩ := h2.rx
    simp [zkf, rx]
    have h3 := h2.cells (k' := 3) (nm' := nm) (B2 := .ro ((VM.manyF (VM.stmtF d) (VM.mustF 40 st)).1.map Sm.avs)) (B3 := .nils) rx
    generalize H2.put (n + 2) _ = H3 at h3 ⊢
    generalize VM.manyF (VM.stmtF d) (VM.mustF 40 st) = t at *
    refine zen (by decide) h3.rg ?_
    have h4 := h3.state (VM.flow_must 40 t.2)
    generalize H3.put g _ = H4 at h4 ⊢
    simp [zkg, hw]
    refine hS _ g H4 m _ h4.short h4.rg ?_
    have h5 := h4.state ((VM.nice_many (VM.nice_stmt d)).flow (VM.mustF 40 t.2))
    generalize H4.put g _ = H5 at h5 ⊢
    obtain ⟨B, ry, rb⟩ := h5.rx
    simp [zkh, ry]
    have h6 := h5.cells (k' := 3) (nm' := nm) (B2 := .ro (t.1.map Sm.avs)) (B3 := .ro ((VM.manyF (VM.stmtF d) (VM.mustF 40 t.2)).1.map Sm.avs)) ry
    generalize H5.put (n + 2) _ = H6 at h6 ⊢
    generalize VM.manyF (VM.stmtF d) (VM.mustF 40 t.2) = e at *
    refine zen (by decide) h6.rg ?_
    exact zuu (h6.state (VM.flow_must 41 e.2)) (.ro t.1) (.ro e.1) hq
  · rw [if_neg h3] at hq
    by_cases h4 : k = 4
    · rw [if_pos h4] at hq
      subst h4
      simp [zy, hi, hw]
      refine hS _ g H m _ h.short h.rg ?_
      have h1 := h.state ((VM.nice_many (VM.nice_stmt d)).flow st)
      generalize H.put g _ = H1 at h1 ⊢
      obtain ⟨A, rx, ra⟩ := h1.rx
      have h2 := h1.cells (k' := 4) (nm' := nm) (B2 := .ro ((VM.manyF (VM.stmtF d) st).1.map Sm.avs)) (B3 := .nils) rx
      have hb := h1.gb
      obtain ⟨cs, rb, rbl⟩ := h2.rb
      have hrb : H1 n = some (.row 5 cs) := by rw [← rb, Heap.put_ne _ _ (by omega)]
      have ne_0 : g ≠ n ∧ n ≠ g ∧ g ≠ n + 2 ∧ n + 2 ≠ g ∧ n ≠ n + 2 ∧ n + 2 ≠ n := ⟨by omega, by omega, by omega, by omega, by omega, by omega⟩
      simp [zkd, rx, hrb, rbl, ra.one, ne_0]
      exact h2.done (Heap.put_at _ _ _) (.ro _) .nils hq _ _
    · rw [if_neg h4] at hq
      simp [zy, hi, h3, h4]
      refine zen (by decide) h.rg ?_
      exact zuu (h.state (VM.flow_must 41 st)) .nils .nils hq
end Go.Proofs.YtpllgpgdcbgalaaDoor
set_option maxRecDepth 8000
namespace Go.Proofs.YtpllgpgdcbgalaaDoor
open Go Go.RowKit
theorem SmE.next {H0 H HF : Heap} {n g m : Nat} {k : Int} {nm : Str} {ar : List Ex} {A2 A3 : AV} {st st' : VM.St} (h : SmE H0 n g k nm ar A2 A3 st H m) (x : Ex) (hle : st'.1.length ≤ st.1.length) (f1 : HF g = some (PR st')) (f2 : HF (n + 2) = some (.row 5 [.int .i64 k, .str nm, .slc (m + 1) 0 (ar.length + 1), A2, A3])) (f3 : HF (m + 1) = some (.row 4 ((ar ++ [x]).map Ex.avs).flatten))
    (f4 : ∀ y, y < n + 2 → y ≠ g → HF y = H y) : SmE H0 n g k nm (ar ++ [x]) A2 A3 st' HF (m + 2) := by
  have hb := h.gb
  have hbm := h.bm
  have hsh := h.short
  obtain ⟨cs, h6, h7⟩ := h.rb
  refine ⟨⟨cs, by rw [f4 _ (by omega) (by omega)]; exact h6, h7⟩, ⟨_, f2, ?_⟩, f1, hb, by omega, fun y hy hne => by rw [f4 y (by omega) hne]; exact h.keep y hy hne, by omega⟩
  have := RowS.row (f := Ex.avs) (sz := 4) (H := HF) (lo := n + 3) (hi := m + 2) (l := ar ++ [x]) (ga := m + 1) (by omega) (by omega) f3
  rw [List.length_append] at this
  exact this
set_option maxHeartbeats 1000000 in
theorem zzx {d : Nat} (hd : d ≤ 11) (hE : zgs d) (hS : zoy d) {H0 H : Heap} {n g m : Nat} {k : Int} {nm : Str} {st : VM.St} {cnt : Nat} {Q : QT} (hc : cnt ≤ 2) (h : SmE H0 n g k nm [] .nils .nils st H m)
    (hq : ExQ H0 n g (.agg (VM.tailF d k nm (VM.timesF (VM.exprF d) cnt st)).1.avs) (VM.tailF d k nm (VM.timesF (VM.exprF d) cnt st)).2 Q) : LP (zy Q) [.ptr g 0, .int .i64 (10 - (d : Int)), .ptr n 0, .int .i64 k, .ptr (n + 2) 0, .int .i64 cnt, .int .i64 0] H m := by
  refine LP.mk (fun j xs H' n' => ∃ (i : Nat) (ar : List Ex) (s : VM.St), i + j = cnt ∧ ar.length = i ∧ xs = [.ptr g 0, .int .i64 (10 - (d : Int)), .ptr n 0, .int .i64 k, .ptr (n + 2) 0, .int .i64 cnt, .int .i64 i] ∧ SmE H0 n g k nm ar .nils .nils s H' n' ∧ VM.timesF (VM.exprF d) cnt st = (ar ++ (VM.timesF (VM.exprF d) j s).1, (VM.timesF (VM.exprF d) j s).2)) cnt ⟨0, [], st, by omega, rfl, rfl, h, rfl⟩ ?_
  rintro j xs H' n' ⟨i, ar, s, hij, hal, rfl, h, hgo⟩
  generalize hJ : (fun (xs : List AV) (H : Heap) (nx : Nat) => ∃ j', j' < j ∧ ∃ (i : Nat) (ar : List Ex) (s : VM.St), i + j' = cnt ∧ ar.length = i ∧ xs = [.ptr g 0, .int .i64 (10 - (d : Int)), .ptr n 0, .int .i64 k, .ptr (n + 2) 0, .int .i64 cnt, .int .i64 i] ∧ SmE H0 n g k nm ar .nils .nils s H nx ∧ VM.timesF (VM.exprF d) cnt st = (ar ++ (VM.timesF (VM.exprF d) j' s).1, (VM.timesF (VM.exprF d) j' s).2)) = J
  cases j with
  | zero =>
    rw [hgo] at hq
    simp only [VM.timesF, List.append_nil] at hq
    exact zws hd hS h (by omega) hq
  | succ j =>
    have hlt : i < cnt := by omega
    have hw : IntKind.i64.wrap (10 - (d : Int) + 1) = 10 - (d : Int) + 1 := i64w (by omega)
    have hwi : IntKind.i64.wrap ((i : Int) + 1) = (i : Int) + 1 := i64w (by omega)
    have hle := (VM.nice_expr d).le s
    have hb := h.gb
    have hbm := h.bm
    obtain ⟨A, rx, ra⟩ := h.rx
    have stepq : ∀ HF, SmE H0 n g k nm (ar ++ [(VM.exprF d s).1]) .nils .nils (VM.exprF d s).2 HF (n' + 2) → J [.ptr g 0, .int .i64 (10 - (d : Int)), .ptr n 0, .int .i64 k, .ptr (n + 2) 0, .int .i64 cnt, .int .i64 ((i : Int) + 1)] HF (n' + 2) := by
      intro HF hF
      rw [← hJ]
      refine ⟨j, by omega, i + 1, _, _, by omega, by rw [List.length_append, hal]; rfl, rfl, hF, ?_⟩
      rw [hgo]
      simp only [VM.timesF, List.append_assoc, List.singleton_append]
    cases ra with
    | nil =>
      simp [zy, hlt, rx, hw]
      refine zj.expr hE (by omega) h.short h.rg ?_
      have xl := zbc (VM.exprF d s).1
      have xo := zgo (VM.exprF d s).1
      generalize hxa : (VM.exprF d s).1.avs = xa at xl xo
      have xd : xa.drop 4 = [] := List.drop_of_length_le (by omega)
      have ne_0 : g ≠ n ∧ n ≠ g ∧ g ≠ n + 2 ∧ n + 2 ≠ g ∧ n ≠ n + 2 ∧ n + 2 ≠ n ∧ g ≠ n' ∧ n' ≠ g ∧ g ≠ n' + 1 ∧ n' + 1 ≠ g ∧ n ≠ n' ∧ n' ≠ n ∧ n ≠ n' + 1 ∧ n' + 1 ≠ n ∧ n + 2 ≠ n' ∧ n' ≠ n + 2 ∧ n + 2 ≠ n' + 1 ∧ n' + 1 ≠ n + 2 := ⟨by omega, by omega, by omega, by omega, by omega, by omega, by omega, by omega, by omega, by omega, by omega, by omega, by omega, by omega, by omega, by omega, by omega, by omega⟩
      simp [zfo, rx, xl, xd, hxa, hwi, ne_0]
      rw [List.take_of_length_le (by omega)]
      refine ⟨xo, stepq _ (h.next _ hle ?_ ?_ ?_ fun y hy hne => ?_)⟩
      · rw [Heap.put_ne _ _ (by omega), Heap.put_ne _ _ (by omega), Heap.put_ne _ _ (by omega), Heap.put_at]
      · rw [Heap.put_at]; rfl
      · rw [Heap.put_ne _ _ (by omega), Heap.put_at, zbr, hxa]; rfl
      · rw [Heap.put_ne _ _ (by omega), Heap.put_ne _ _ (by omega), Heap.put_ne _ _ (by omega), Heap.put_ne _ _ hne]
    | @row ar ga a1 a2 a4 =>
      simp [zy, hlt, rx, hw]
      refine zj.expr hE (by omega) h.short h.rg ?_
      have xl := zbc (VM.exprF d s).1
      have xo := zgo (VM.exprF d s).1
      generalize hxa : (VM.exprF d s).1.avs = xa at xl xo
      have xd : xa.drop 4 = [] := List.drop_of_length_le (by omega)
      have rl := zeh zbc ar
      have h1 : (ar.length + 1) * 56 ≤ 140737488355328 := by omega
      generalize hrr : (ar.map Ex.avs).flatten = rr at rl a4
      have h3 : rr.take (ar.length * 4) = rr := List.take_of_length_le (by omega)
      have ne_1 : g ≠ n ∧ n ≠ g ∧ g ≠ n + 2 ∧ n + 2 ≠ g ∧ g ≠ ga ∧ ga ≠ g ∧ n ≠ n + 2 ∧ n + 2 ≠ n ∧ n ≠ ga ∧ ga ≠ n ∧ n + 2 ≠ ga ∧ ga ≠ n + 2 ∧ g ≠ n' ∧ n' ≠ g ∧ g ≠ n' + 1 ∧ n' + 1 ≠ g ∧ n ≠ n' ∧ n' ≠ n ∧ n ≠ n' + 1 ∧ n' + 1 ≠ n ∧ n + 2 ≠ n' ∧ n' ≠ n + 2 ∧ n + 2 ≠ n' + 1 ∧ n' + 1 ≠ n + 2 ∧ ga ≠ n' ∧ n' ≠ ga ∧ ga ≠ n' + 1 ∧ n' + 1 ≠ ga := ⟨by omega, by omega, by omega, by omega, by omega, by omega, by omega, by omega, by omega, by omega, by omega, by omega, by omega, by omega, by omega, by omega, by omega, by omega, by omega, by omega, by omega, by omega, by omega, by omega, by omega, by omega, by omega, by omega⟩
      simp [zfo, rx, a4, rl, h1, h3, xl, xd, hxa, hwi, ne_1]
      rw [List.take_of_length_le (l := xa) (by omega)]
      refine ⟨xo, stepq _ (h.next _ hle ?_ ?_ ?_ fun y hy hne => ?_)⟩
      · rw [Heap.put_ne _ _ (by omega), Heap.put_ne _ _ (by omega), Heap.put_ne _ _ (by omega), Heap.put_ne _ _ (by omega), Heap.put_at]
      · rw [Heap.put_at]
      · rw [Heap.put_ne _ _ (by omega), Heap.put_at, zbr, hxa, hrr]
      · rw [Heap.put_ne _ _ (by omega), Heap.put_ne _ _ (by omega), Heap.put_ne _ _ (by omega), Heap.put_ne _ _ (by omega), Heap.put_ne _ _ hne]
theorem zvz (w : Str) : 0 ≤ VM.stKind w ∧ VM.stKind w ≤ 9 := by
  unfold VM.stKind
  repeat' split
  all_goals decide
theorem zaas {k : Int} (h : 0 ≤ k ∧ k ≤ 9) : [AV.int .i64 0, AV.int .i64 1, AV.int .i64 1, AV.int .i64 1, AV.int .i64 1, AV.int .i64 1, AV.int .i64 1, AV.int .i64 2, AV.int .i64 2, AV.int .i64 1][k.toNat]? = some (.int .i64 (VM.argsOf k)) := by
  have : k = 0 ∨ k = 1 ∨ k = 2 ∨ k = 3 ∨ k = 4 ∨ k = 5 ∨ k = 6 ∨ k = 7 ∨ k = 8 ∨ k = 9 := by omega
  rcases this with rfl | rfl | rfl | rfl | rfl | rfl | rfl | rfl | rfl | rfl <;> rfl
theorem zxs (k : Int) : VM.argsOf k ≤ 2 := by unfold VM.argsOf; split <;> (try split) <;> omega
theorem SmE.old {H0 H : Heap} {n g m m' x : Nat} {k : Int} {nm : Str} {ar : List Ex} {A2 A3 : AV} {st : VM.St} {o : Option AObj} (h : SmE H0 n g k nm ar A2 A3 st H m) (hx : m ≤ x) (hm : m ≤ m') : SmE H0 n g k nm ar A2 A3 st (H.put x o) m' := by
  have hb := h.gb
  have hbm := h.bm
  obtain ⟨A, h4, h5⟩ := h.rx
  obtain ⟨cs, h6, h7⟩ := h.rb
  exact ⟨⟨cs, by rw [Heap.put_ne _ _ (by omega)]; exact h6, h7⟩, ⟨A, by rw [Heap.put_ne _ _ (by omega)]; exact h4, h5.keep hm fun y hy _ => Heap.put_ne _ _ (by omega)⟩, by rw [Heap.put_ne _ _ (by omega)]; exact h.rg, hb, by omega, fun y hy hne => by rw [Heap.put_ne _ _ (by omega)]; exact h.keep y hy hne, h.short⟩
theorem zuw {d : Nat} (hd : d ≤ 11) (hE : zgs d) (hS : zoy d) {H0 H : Heap} {n g m : Nat} {k : Int} (hk : 0 ≤ k ∧ k ≤ 9) {nm : Str} {st : VM.St} {Q : QT} (h : SmE H0 n g k nm [] .nils .nils st H m)
    (hq : ExQ H0 n g (.agg (VM.tailF d k nm (VM.timesF (VM.exprF d) (VM.argsOf k) st)).1.avs) (VM.tailF d k nm (VM.timesF (VM.exprF d) (VM.argsOf k) st)).2 Q) : zcw Q [.ptr g 0, .int .i64 (10 - (d : Int)), .ptr n 0, .int .i64 k, .ptr (n + 2) 0] H m := by
  obtain ⟨hxb, hx⟩ := List.getElem?_eq_some_iff.1 (zaas hk)
  have h0 := hk.1
  have h10 : k < 10 := by omega
  have h1 := h.old (x := m) (m' := m + 1) (o := some (.row 1 [.int .i64 0, .int .i64 1, .int .i64 1, .int .i64 1, .int .i64 1, .int .i64 1, .int .i64 1, .int .i64 2, .int .i64 2, .int .i64 1])) (by omega) (by omega)
  simp [zcw, h0, h10, hx]
  exact zzx hd hE hS (zxs k) h1 hq
theorem zuv {d : Nat} (hd : d ≤ 11) (hE : zgs d) (hS : zoy d) {H0 H : Heap} {n g m : Nat} {k : Int} (hk : 0 ≤ k ∧ k ≤ 9) {st : VM.St} {Q : QT} (h : SmE H0 n g k [] [] .nils .nils st H m)
    (hq : ExQ H0 n g (.agg (VM.tailF d k (VM.nmF k st).1 (VM.timesF (VM.exprF d) (VM.argsOf k) (VM.nmF k st).2)).1.avs) (VM.tailF d k (VM.nmF k st).1 (VM.timesF (VM.exprF d) (VM.argsOf k) (VM.nmF k st).2)).2 Q) : zbs Q [.ptr g 0, .int .i64 (10 - (d : Int)), .ptr n 0, .int .i64 k, .ptr (n + 2) 0] H m := by
  simp [zbs]
  refine JN.same ?_
  have named : k = 1 ∨ k = 2 → za Tryd.prog 29 [.ptr g 0] H m (zcu [.ptr g 0, .int .i64 (10 - (d : Int)), .ptr n 0, .int .i64 k, .ptr (n + 2) 0] (zcw Q)) := by
    intro hk2
    have e : VM.nmF k st = VM.nF st := by unfold VM.nmF; rw [if_pos hk2]
    rw [e] at hq
    refine zvu h.short h.rg ?_
    have h1 := h.state (VM.nice_n.flow st)
    generalize H.put g _ = H1 at h1 ⊢
    obtain ⟨A, rx, ra⟩ := h1.rx
    have h2 := h1.cells (k' := k) (nm' := (VM.nF st).1) (B2 := .nils) (B3 := .nils) rx
    simp [zcu, rx]
    exact zuw hd hE hS hk h2 hq
  by_cases h1 : k = 1
  · simp [zcx, h1]
    have := named (.inl h1)
    rw [h1] at this
    exact this
  · by_cases h2 : k = 2
    · simp [zcx, h2]
      have := named (.inr h2)
      rw [h2] at this
      exact this
    · have e : VM.nmF k st = ([], st) := by unfold VM.nmF; rw [if_neg (by omega)]
      rw [e] at hq
      simp [zcx, h1, h2]
      exact zuw hd hE hS hk h hq
theorem zyd (d : Nat) {st : VM.St} (h : st.2 = 0) : VM.stmtF (d + 1) st = VM.tailF d (VM.stKind (VM.wF (VM.mustF 40 st)).1) (VM.nmF (VM.stKind (VM.wF (VM.mustF 40 st)).1) (if VM.stKind (VM.wF (VM.mustF 40 st)).1 = 0 then VM.badF 1 (VM.wF (VM.mustF 40 st)).2 else (VM.wF (VM.mustF 40 st)).2)).1
    (VM.timesF (VM.exprF d) (VM.argsOf (VM.stKind (VM.wF (VM.mustF 40 st)).1)) (VM.nmF (VM.stKind (VM.wF (VM.mustF 40 st)).1) (if VM.stKind (VM.wF (VM.mustF 40 st)).1 = 0 then VM.badF 1 (VM.wF (VM.mustF 40 st)).2 else (VM.wF (VM.mustF 40 st)).2)).2) := by
  simp only [VM.stmtF, VM.tailF]
  rw [if_neg (by simpa using h)]
end Go.Proofs.YtpllgpgdcbgalaaDoor
set_option maxRecDepth 8000
namespace Go.Proofs.YtpllgpgdcbgalaaDoor
open Go Go.RowKit
theorem zux {H : Heap} {n : Nat} : Frz H n (.agg [.int .i64 0, .str [], .nils, .nils, .nils]) (.agg VM.sm0.avs) := by
  unfold VM.sm0
  rw [zis]
  exact FL.agg (.cons (.same _ (.int _ _)) (.cons (.same _ (.str _)) (.cons .nils (.cons .nils (.cons .nils .nil)))))
set_option maxHeartbeats 1000000 in
theorem zzy : ∀ d, d ≤ 11 → zst d := by
  intro d
  induction d with
  | zero =>
    intro _ st g H n Q hs hg hq
    refine za.parser (st' := (VM.stmtF 0 st).2) hg (fun hgn => ?_) hq
    suffices main : ∀ Q : QT, ExQ H n g (.agg (VM.stmtF 0 st).1.avs) (VM.stmtF 0 st).2 Q → za Tryd.prog 51 [.ptr g 0, .int .i64 (11 - ((0 : Nat) : Int))] H n Q from main _ fun v H' n' a b c => ⟨a, b, c⟩
    intro Q hq
    refine zgx _ _ _ _ _ ?_
    simp [zfn]
    have hg0 : (H.put n (some (.row 5 [.int .i64 0, .str [], .nils, .nils, .nils]))) g = some (PR st) := by rw [Heap.put_ne _ _ (by omega)]; exact hg
    have hn0 : (H.put n (some (.row 5 [.int .i64 0, .str [], .nils, .nils, .nils]))) n = some (.row 5 [.int .i64 0, .str [], .nils, .nils, .nils]) := Heap.put_at _ _ _
    have hk0 : ∀ y, y < n → y ≠ g → (H.put n (some (.row 5 [.int .i64 0, .str [], .nils, .nils, .nils]))) y = H y := fun y hy _ => Heap.put_ne _ _ (by omega)
    generalize H.put n _ = H1 at hg0 hn0 hk0 ⊢
    refine zpf hg0 ?_
    rw [if_neg (by omega)]
    have ne_0 : g ≠ n ∧ n ≠ g := ⟨by omega, by omega⟩
    simp [zck, hn0, ne_0]
    exact hq _ _ _ zux (by rw [Heap.put_ne _ _ (by omega), Heap.put_at]; rfl) fun y hy hne => by rw [Heap.put_ne _ _ (by omega), Heap.put_ne _ _ hne]; exact hk0 y hy hne
  | succ d ih =>
    intro hd st g H n Q hs hg hq
    have hE := zaao d (by omega)
    have hS := zsz (ih (by omega))
    refine za.parser (st' := (VM.stmtF (d + 1) st).2) hg (fun hgn => ?_) hq
    suffices main : ∀ Q : QT, ExQ H n g (.agg (VM.stmtF (d + 1) st).1.avs) (VM.stmtF (d + 1) st).2 Q → za Tryd.prog 51 [.ptr g 0, .int .i64 (11 - ((d + 1 : Nat) : Int))] H n Q from main _ fun v H' n' a b c => ⟨a, b, c⟩
    intro Q hq
    have hz : (11 : Int) - ((d + 1 : Nat) : Int) = 10 - (d : Int) := by omega
    rw [hz]
    refine zgx _ _ _ _ _ ?_
    simp [zfn]
    have hg0 : (H.put n (some (.row 5 [.int .i64 0, .str [], .nils, .nils, .nils]))) g = some (PR st) := by rw [Heap.put_ne _ _ (by omega)]; exact hg
    have hn0 : (H.put n (some (.row 5 [.int .i64 0, .str [], .nils, .nils, .nils]))) n = some (.row 5 [.int .i64 0, .str [], .nils, .nils, .nils]) := Heap.put_at _ _ _
    have hk0 : ∀ y, y < n → y ≠ g → (H.put n (some (.row 5 [.int .i64 0, .str [], .nils, .nils, .nils]))) y = H y := fun y hy _ => Heap.put_ne _ _ (by omega)
    generalize H.put n _ = H1 at hg0 hn0 hk0 ⊢
    refine zpf hg0 ?_
    have hd10 : (10 : Int) - (d : Int) ≤ 10 := by omega
    have hd11 : ¬ (10 : Int) < 10 - (d : Int) := by omega
    rw [if_pos hd10, Heap.put_same hg0]
    by_cases he : st.2 = 0
    · rw [zyd d he] at hq
      simp [zck, he, hd10, hd11]
      refine zen (by decide) hg0 ?_
      have f1 := VM.flow_must 40 st
      generalize VM.mustF 40 st = s1 at f1 hq ⊢
      have hg1 : (H1.put g (some (PR s1))) g = some (PR s1) := Heap.put_at _ _ _
      have hn1 : (H1.put g (some (PR s1))) n = some (.row 5 [.int .i64 0, .str [], .nils, .nils, .nils]) := by rw [Heap.put_ne _ _ (by omega)]; exact hn0
      have hk1 : ∀ y, y < n → y ≠ g → (H1.put g (some (PR s1))) y = H y := fun y hy hne => by rw [Heap.put_ne _ _ hne]; exact hk0 y hy hne
      generalize H1.put g (some (PR s1)) = H2 at hg1 hn1 hk1 ⊢
      simp [zjq]
      have hs1 : s1.1.length ≤ 1500 := Nat.le_trans f1.1 hs
      refine w_ac (by omega) hg1 ?_
      have f2 := VM.flow_w s1
      generalize VM.wF s1 = ws at f2 hq ⊢
      obtain ⟨w, s2⟩ := ws
      simp only at f2 hq ⊢
      have hg2 : (H2.put g (some (PR s2))) g = some (PR s2) := Heap.put_at _ _ _
      have hn2 : (H2.put g (some (PR s2))) n = some (.row 5 [.int .i64 0, .str [], .nils, .nils, .nils]) := by rw [Heap.put_ne _ _ (by omega)]; exact hn1
      have hk2 : ∀ y, y < n → y ≠ g → (H2.put g (some (PR s2))) y = H y := fun y hy hne => by rw [Heap.put_ne _ _ hne]; exact hk1 y hy hne
      generalize H2.put g (some (PR s2)) = H3 at hg2 hn2 hk2 ⊢
      refine zyc fun H4 hx hy => ?_
      have kr := zvz w
      have h0 : SmE H n g (VM.stKind w) [] [] .nils .nils s2 H4 (n + 3) :=
        ⟨⟨_, by rw [hy n (by omega) (by omega)]; exact hn2, rfl⟩, ⟨.nils, hx, .nil⟩, by rw [hy g (by omega) (by omega)]; exact hg2, hgn, by omega, fun y hy1 hne => by rw [hy y (by omega) (by omega)]; exact hk2 y hy1 hne, Nat.le_trans f2.1 hs1⟩
      generalize VM.stKind w = k at *
      refine JN.same ?_
      by_cases hk : k = 0
      · rw [if_pos hk] at hq
        subst hk
        simp [zbt]
        refine zdm h0.rg ?_
        have h1 := h0.state (VM.flow_bad 1 s2)
        generalize H4.put g _ = H5 at h1 ⊢
        simp [zkc]
        exact zuv (by omega) hE hS kr h1 hq
      · rw [if_neg hk] at hq
        simp [zbt, hk]
        exact zuv (by omega) hE hS kr h0 hq
    · have e : VM.stmtF (d + 1) st = (VM.sm0, st) := by simp only [VM.stmtF]; rw [if_pos he]
      rw [e] at hq
      simp [zck, he, hn0]
      exact hq _ _ _ zux (by rw [Heap.put_ne _ _ (by omega)]; exact hg0) fun y hy hne => by rw [Heap.put_ne _ _ (by omega)]; exact hk0 y hy hne
end Go.Proofs.YtpllgpgdcbgalaaDoor
set_option maxRecDepth 8000
namespace Go.Proofs.YtpllgpgdcbgalaaDoor
open Go Go.RowKit
def strC (w : Str) : List AV := [.str w]
theorem zj.n {st : VM.St} {g n : Nat} {H : Heap} {kt : Kt} (hs : st.1.length ≤ 1500) (hg : H g = some (PR st)) (hk : kt (.str (VM.nF st).1) [g] [] [(g, some (PR (VM.nF st).2))]) : zj Tryd.prog (.clo 29 []) [.ptr g 0] H n kt :=
  ⟨_, [g], [], _, .inl rfl, LC.parser hg (fun _ => .str _) fun H n Q h1 h2 => zvu hs h1 h2, hk⟩
structure PmL (H1 : Heap) (n f0 : Nat) (nm : Str) (ps : List Str) (st : VM.St) (H : Heap) (m : Nat) : Prop where
  rf : ∃ A, H f0 = some (.row 3 [.str nm, A, .nils]) ∧ RowS strC 1 H (f0 + 1) m ps A
  rg : H n = some (PR st)
  r1 : H (n + 1) = some (.row 1 [.ptr n 0])
  nf : n + 2 ≤ f0
  fm : f0 < m
  keep : ∀ y, y < f0 → y ≠ n → H y = H1 y
  few : ps.length + VM.left st ≤ 1502
  short : st.1.length ≤ 1500
theorem PmL.put {H1 H : Heap} {n f0 m : Nat} {nm : Str} {ps : List Str} {st st' : VM.St} (h : PmL H1 n f0 nm ps st H m) (hf : VM.Flow st st') : PmL H1 n f0 nm ps st' (H.put n (some (PR st'))) m := by
  have hb := h.nf
  obtain ⟨A, h4, h5⟩ := h.rf
  exact ⟨⟨A, by rw [Heap.put_ne _ _ (by omega)]; exact h4, h5.keep (Nat.le_refl _) fun y hy _ => Heap.put_ne _ _ (by omega)⟩, Heap.put_at _ _ _, by rw [Heap.put_ne _ _ (by omega)]; exact h.r1, hb, h.fm, fun y hy hne => by rw [Heap.put_ne _ _ hne]; exact h.keep y hy hne, by have := hf.left; have := h.few; omega, Nat.le_trans hf.1 h.short⟩
theorem PmL.next {H1 H HF : Heap} {n f0 m : Nat} {nm : Str} {ps : List Str} {st st' : VM.St} (h : PmL H1 n f0 nm ps st H m) (x : Str) (hl : VM.left st' < VM.left st) (hle : st'.1.length ≤ st.1.length) (f1 : HF n = some (PR st')) (f2 : HF f0 = some (.row 3 [.str nm, .slc (m + 1) 0 (ps.length + 1), .nils])) (f3 : HF (m + 1) = some (.row 1 ((ps ++ [x]).map strC).flatten))
    (f4 : ∀ y, y < f0 → y ≠ n → HF y = H y) : PmL H1 n f0 nm (ps ++ [x]) st' HF (m + 2) := by
  have hb := h.nf
  have hx0 := h.fm
  have hfew := h.few
  have hsh := h.short
  refine ⟨⟨_, f2, ?_⟩, f1, by rw [f4 _ (by omega) (by omega)]; exact h.r1, hb, by omega, fun y hy hne => by rw [f4 y hy hne]; exact h.keep y hy hne, by rw [List.length_append]; simp only [List.length_cons, List.length_nil]; omega, by omega⟩
  have := RowS.row (f := strC) (sz := 1) (H := HF) (lo := f0 + 1) (hi := m + 2) (l := ps ++ [x]) (ga := m + 1) (by omega) (by omega) f3
  rw [List.length_append] at this
  exact this
set_option maxHeartbeats 1000000 in
theorem zxa {H1 H : Heap} {n f0 m : Nat} {nm : Str} {ps : List Str} {st : VM.St} {K : QT} (h : PmL H1 n f0 nm ps st H m) (he : st.2 = 0)
    (hk : ∀ H' n', PmL H1 n f0 nm (ps ++ [(VM.nF st).1]) (VM.nF st).2 H' n' → K (.tup []) H' n') : za Tryd.prog 31 [.ptr f0 0, .ptr (n + 1) 0] H m K := by
  refine zmy _ _ _ _ _ ?_
  have hb := h.nf
  have hbn := h.fm
  obtain ⟨A, rf, ra⟩ := h.rf
  have r1 := h.r1
  have hfew := h.few
  have hleft := VM.left_lt' VM.nice_n he
  have hle := VM.nice_n.le st
  have hsh := h.short
  have hsl : ∀ x, (strC x).length = 1 := fun _ => rfl
  cases ra with
  | nil =>
    simp [zer, rf, r1]
    refine zj.n h.short h.rg ?_
    have ne_0 : n ≠ n + 1 ∧ n + 1 ≠ n ∧ n ≠ f0 ∧ f0 ≠ n ∧ n + 1 ≠ f0 ∧ f0 ≠ n + 1 ∧ n ≠ m ∧ m ≠ n ∧ n ≠ m + 1 ∧ m + 1 ≠ n ∧ n + 1 ≠ m ∧ m ≠ n + 1 ∧ n + 1 ≠ m + 1 ∧ m + 1 ≠ n + 1 ∧ f0 ≠ m ∧ m ≠ f0 ∧ f0 ≠ m + 1 ∧ m + 1 ≠ f0 := ⟨by omega, by omega, by omega, by omega, by omega, by omega, by omega, by omega, by omega, by omega, by omega, by omega, by omega, by omega, by omega, by omega, by omega, by omega⟩
    simp [zes, rf, ne_0]
    refine hk _ _ (h.next _ (by omega) hle ?_ ?_ ?_ fun y hy hne => ?_)
    · rw [Heap.put_ne _ _ (by omega), Heap.put_ne _ _ (by omega), Heap.put_ne _ _ (by omega), Heap.put_at]
    · rw [Heap.put_at]; rfl
    · rw [Heap.put_ne _ _ (by omega), Heap.put_at]; rfl
    · rw [Heap.put_ne _ _ (by omega), Heap.put_ne _ _ (by omega), Heap.put_ne _ _ (by omega), Heap.put_ne _ _ hne]
  | @row ps ga a1 a2 a4 =>
    simp [zer, rf, r1]
    refine zj.n h.short h.rg ?_
    have rl := zeh hsl ps
    have h1 : (ps.length + 1) * 16 ≤ 140737488355328 := by omega
    generalize hrr : (ps.map strC).flatten = rr at rl a4
    have h3 : rr.take ps.length = rr := List.take_of_length_le (by omega)
    have ne_1 : n ≠ n + 1 ∧ n + 1 ≠ n ∧ n ≠ f0 ∧ f0 ≠ n ∧ n ≠ ga ∧ ga ≠ n ∧ n + 1 ≠ f0 ∧ f0 ≠ n + 1 ∧ n + 1 ≠ ga ∧ ga ≠ n + 1 ∧ f0 ≠ ga ∧ ga ≠ f0 ∧ n ≠ m ∧ m ≠ n ∧ n ≠ m + 1 ∧ m + 1 ≠ n ∧ n + 1 ≠ m ∧ m ≠ n + 1 ∧ n + 1 ≠ m + 1 ∧ m + 1 ≠ n + 1 ∧ f0 ≠ m ∧ m ≠ f0 ∧ f0 ≠ m + 1 ∧ m + 1 ≠ f0 ∧ ga ≠ m ∧ m ≠ ga ∧ ga ≠ m + 1 ∧ m + 1 ≠ ga := ⟨by omega, by omega, by omega, by omega, by omega, by omega, by omega, by omega, by omega, by omega, by omega, by omega, by omega, by omega, by omega, by omega, by omega, by omega, by omega, by omega, by omega, by omega, by omega, by omega, by omega, by omega, by omega, by omega⟩
    simp [zes, rf, a4, rl, h1, h3, ne_1]
    refine hk _ _ (h.next _ (by omega) hle ?_ ?_ ?_ fun y hy hne => ?_)
    · rw [Heap.put_ne _ _ (by omega), Heap.put_ne _ _ (by omega), Heap.put_ne _ _ (by omega), Heap.put_ne _ _ (by omega), Heap.put_at]
    · rw [Heap.put_at]
    · rw [Heap.put_ne _ _ (by omega), Heap.put_at, zbr, hrr]; rfl
    · rw [Heap.put_ne _ _ (by omega), Heap.put_ne _ _ (by omega), Heap.put_ne _ _ (by omega), Heap.put_ne _ _ (by omega), Heap.put_ne _ _ hne]
end Go.Proofs.YtpllgpgdcbgalaaDoor
set_option maxRecDepth 8000
namespace Go.Proofs.YtpllgpgdcbgalaaDoor
open Go Go.RowKit
inductive PsS (H : Heap) (lo hi gx : Nat) : List Str → AV → Prop
  | nil : PsS H lo hi gx [] .nils
  | row {l : List Str} {ga : Nat} : lo ≤ ga → ga < hi → ga ≠ gx → H ga = some (.row 1 (l.map strC).flatten) → PsS H lo hi gx l (.slc ga 0 l.length)
def rawF (p : Fnc × AV) : List AV := [.str p.1.name, p.2, .ro (p.1.body.map Sm.avs)]
inductive OutS (H : Heap) (lo hi : Nat) : List (Fnc × AV) → AV → Prop
  | nil : OutS H lo hi [] .nils
  | row {l : List (Fnc × AV)} {ga : Nat} : lo ≤ ga → ga < hi → H ga = some (.row 3 (l.map rawF).flatten) → (∀ p ∈ l, PsS H lo hi ga p.1.params p.2) → OutS H lo hi l (.slc ga 0 l.length)
theorem PsS.keep {H H' : Heap} {lo hi hi' gx gy : Nat} {l : List Str} {A : AV} (h : PsS H lo hi gx l A) (hh : hi ≤ hi') (hy : gy = gx ∨ hi ≤ gy) (hk : ∀ y, lo ≤ y → y < hi → y ≠ gx → H' y = H y) : PsS H' lo hi' gy l A := by
  cases h with
  | nil => exact .nil
  | row h1 h2 h3 h4 => exact .row h1 (by omega) (by omega) (by rw [hk _ h1 h2 h3]; exact h4)
theorem OutS.keep {H H' : Heap} {lo hi hi' : Nat} {l : List (Fnc × AV)} {A : AV} (h : OutS H lo hi l A) (hh : hi ≤ hi') (hk : ∀ y, lo ≤ y → y < hi → H' y = H y) : OutS H' lo hi' l A := by
  cases h with
  | nil => exact .nil
  | row h1 h2 h4 h5 => exact .row h1 (by omega) (by rw [hk _ h1 h2]; exact h4) fun p hp => (h5 p hp).keep hh (.inl rfl) fun y h1 h2 _ => hk y h1 h2
theorem ztg (p : Fnc × AV) : (rawF p).length = 3 := rfl
theorem PsS.frz {H : Heap} {lo hi gx N : Nat} {l : List Str} {A : AV} (h : PsS H lo hi gx l A) (hN : N ≤ lo) : Frz H N A (.ro (l.map strC)) := by
  cases h with
  | nil => exact .nils
  | @row l ga h1 h2 h3 h4 =>
    refine Frz.rowW (cells := (l.map strC).flatten) (sz := 1) (by omega) h4 (by simp) (fun x hx => ?_) (FL.same fun c hc => ?_)
    · obtain ⟨y, _, rfl⟩ := List.mem_map.1 hx; rfl
    · obtain ⟨x, hx, hc⟩ := List.mem_flatten.1 hc
      obtain ⟨y, _, rfl⟩ := List.mem_map.1 hx
      rw [List.mem_singleton.1 hc]; exact .str _
theorem zuy {H : Heap} {lo hi ga N : Nat} (hN : N ≤ lo) : ∀ {l : List (Fnc × AV)}, (∀ p ∈ l, PsS H lo hi ga p.1.params p.2) → FL H N (l.map rawF).flatten (l.map fun p => p.1.avs).flatten
  | [], _ => .nil
  | p :: r, h => by
    rw [List.map_cons, List.flatten_cons, List.map_cons, List.flatten_cons]
    refine FL.append ?_ (zuy hN fun q hq => h q (by simp [hq]))
    refine .cons (.same _ (.str _)) (.cons ((h p (by simp)).frz hN) (.cons (.same _ (zft fun x hx v hv => ?_)) .nil))
    obtain ⟨y, _, rfl⟩ := List.mem_map.1 hx
    exact zlb _ y v hv
theorem OutS.frz {H : Heap} {lo hi N : Nat} {l : List (Fnc × AV)} {A : AV} (h : OutS H lo hi l A) (hN : N ≤ lo) : Frz H N A (.ro (l.map fun p => p.1.avs)) := by
  cases h with
  | nil => exact .nils
  | @row l ga h1 h2 h4 h5 =>
    refine Frz.rowW (cells := (l.map rawF).flatten) (sz := 3) (by omega) h4 (by simp) (fun x hx => ?_) (zuy hN h5)
    obtain ⟨y, _, rfl⟩ := List.mem_map.1 hx; rfl
structure PaL (H0 : Heap) (n : Nat) (l : List (Fnc × AV)) (A : AV) (st : VM.St) (H : Heap) (m : Nat) : Prop where
  rg : H n = some (PR st)
  r1 : H (n + 1) = some (.row 1 [.ptr n 0])
  out : OutS H (n + 2) m l A
  bm : n + 2 ≤ m
  keep : ∀ y, y < n → H y = H0 y
  few : l.length + VM.left st ≤ 1502
  short : st.1.length ≤ 1500
theorem PaL.put {H0 H : Heap} {n m : Nat} {l : List (Fnc × AV)} {A : AV} {st st' : VM.St} (h : PaL H0 n l A st H m) (hf : VM.Flow st st') : PaL H0 n l A st' (H.put n (some (PR st'))) m := by
  have hb := h.bm
  exact ⟨Heap.put_at _ _ _, by rw [Heap.put_ne _ _ (by omega)]; exact h.r1, h.out.keep (Nat.le_refl _) fun y hy _ => Heap.put_ne _ _ (by omega), hb, fun y hy => by rw [Heap.put_ne _ _ (by omega)]; exact h.keep y hy, by have := hf.left; have := h.few; omega, Nat.le_trans hf.1 h.short⟩
theorem RowS.ps {H H' : Heap} {lo lo' hi hi' gx : Nat} {l : List Str} {A : AV} (h : RowS strC 1 H lo hi l A) (hl : lo' ≤ lo) (hh : hi ≤ hi') (hg : hi ≤ gx) (hk : ∀ y, lo ≤ y → y < hi → H' y = H y) : PsS H' lo' hi' gx l A := by
  cases h with
  | nil => exact .nil
  | row h1 h2 h3 => exact .row (by omega) (by omega) (by omega) (by rw [hk _ h1 h2]; exact h3)
set_option maxHeartbeats 2000000 in
theorem zvs {H0 H : Heap} {n m : Nat} {l : List (Fnc × AV)} {A : AV} {st : VM.St} {K : J3} (h : PaL H0 n l A st H m) (he : st.2 = 0)
    (hk : ∀ B H' m', PaL H0 n (l ++ [((VM.fnF st).1, B)]) (.slc m' 0 (l.length + 1)) (VM.fnF st).2 H' (m' + 1) → K [.ptr (n + 1) 0, .slc m' 0 (l.length + 1)] H' (m' + 1)) : za Tryd.prog 28 [.ptr n 0, .int .u8 40] H m (zfx [.ptr (n + 1) 0, A] K) := by
  have hb := h.bm
  refine zen (by decide) h.rg ?_
  have h1 := h.put (VM.flow_must 40 st)
  have hfn : VM.fnF st = (⟨(VM.nF (VM.mustF 40 st)).1, (VM.manyF VM.nF (VM.mustF 40 (VM.nF (VM.mustF 40 st)).2)).1, (VM.manyF (VM.stmtF 11) (VM.manyF VM.nF (VM.mustF 40 (VM.nF (VM.mustF 40 st)).2)).2).1⟩, (VM.manyF (VM.stmtF 11) (VM.manyF VM.nF (VM.mustF 40 (VM.nF (VM.mustF 40 st)).2)).2).2) := rfl
  have hleft := VM.left_lt' VM.nice_fn he
  have hfle := VM.nice_fn.le st
  rw [hfn] at hk hleft hfle
  generalize H.put n _ = H1 at h1 ⊢
  generalize VM.mustF 40 st = s1 at *
  simp [zfx, h1.r1]
  refine zvu h1.short h1.rg ?_
  have h2 := h1.put (VM.nice_n.flow s1)
  generalize H1.put n _ = H2 at h2 ⊢
  generalize VM.nF s1 = nm at *
  have ne_0 : n ≠ n + 1 ∧ n + 1 ≠ n ∧ n ≠ m ∧ m ≠ n ∧ n ≠ m + 1 ∧ m + 1 ≠ n ∧ n + 1 ≠ m ∧ m ≠ n + 1 ∧ n + 1 ≠ m + 1 ∧ m + 1 ≠ n + 1 := ⟨by omega, by omega, by omega, by omega, by omega, by omega, by omega, by omega, by omega, by omega⟩
  simp [zll, h2.r1, ne_0]
  have p0 : PmL H2 n m nm.1 [] nm.2 (H2.put m (some (.row 3 [.str nm.1, .nils, .nils]))) (m + 1) :=
    ⟨⟨_, Heap.put_at _ _ _, .nil⟩, by rw [Heap.put_ne _ _ (by omega)]; exact h2.rg, by rw [Heap.put_ne _ _ (by omega)]; exact h2.r1, hb, by omega, fun y hy _ => Heap.put_ne _ _ (by omega), by have := VM.left_le nm.2; have := h2.short; simp only [List.length_nil]; omega, h2.short⟩
  generalize H2.put m _ = H3 at p0 ⊢
  refine zen (by decide) p0.rg ?_
  have p1 := p0.put (VM.flow_must 40 nm.2)
  generalize H3.put n _ = H4 at p1 ⊢
  simp [zlm, p1.r1]
  refine zpz VM.nice_n (fun ps s H' n' => PmL H2 n m nm.1 ps s H' n') (fun _ _ _ _ h => h.rg) (fun _ _ _ _ _ h hf => h.put hf) (fun l s H' n' K h he hk => zxa h he hk) p1 fun H5 m5 p2 => ?_
  generalize VM.manyF VM.nF (VM.mustF 40 nm.2) = ps at *
  simp [zln, p2.r1]
  refine zsz (zzy 11 (by omega)) ps.2 n H5 m5 _ p2.short p2.rg ?_
  have p3 := p2.put ((VM.nice_many (VM.nice_stmt 11)).flow ps.2)
  generalize H5.put n _ = H6 at p3 ⊢
  generalize VM.manyF (VM.stmtF 11) ps.2 = b at *
  obtain ⟨B, rf, rb⟩ := p3.rf
  have hfm := p3.fm
  have hB1 := rb.one
  have out := h2.out
  have hfew := h.few
  cases out with
  | nil =>
    have ne_1 : n ≠ n + 1 ∧ n + 1 ≠ n ∧ n ≠ m ∧ m ≠ n ∧ n + 1 ≠ m ∧ m ≠ n + 1 ∧ n ≠ m5 ∧ m5 ≠ n ∧ n ≠ m5 + 1 ∧ m5 + 1 ≠ n ∧ n + 1 ≠ m5 ∧ m5 ≠ n + 1 ∧ n + 1 ≠ m5 + 1 ∧ m5 + 1 ≠ n + 1 ∧ m ≠ m5 ∧ m5 ≠ m ∧ m ≠ m5 + 1 ∧ m5 + 1 ≠ m := ⟨by omega, by omega, by omega, by omega, by omega, by omega, by omega, by omega, by omega, by omega, by omega, by omega, by omega, by omega, by omega, by omega, by omega, by omega⟩
    simp [zfy, rf, hB1, ne_1]
    refine hk B _ (m5 + 1) ⟨?_, ?_, ?_, by omega, fun y hy => ?_, ?_, ?_⟩
    · rw [Heap.put_ne _ _ (by omega), Heap.put_ne _ _ (by omega), Heap.put_ne _ _ (by omega)]; exact p3.rg
    · rw [Heap.put_ne _ _ (by omega), Heap.put_ne _ _ (by omega), Heap.put_ne _ _ (by omega)]; exact p3.r1
    · refine OutS.row (l := [(_, B)]) (by omega) (by omega) (Heap.put_at _ _ _) fun p hp => ?_
      rw [List.mem_singleton.1 hp]
      exact rb.ps (by omega) (by omega) (by omega) fun y h1 h2 => by rw [Heap.put_ne _ _ (by omega), Heap.put_ne _ _ (by omega), Heap.put_ne _ _ (by omega)]
    · rw [Heap.put_ne _ _ (by omega), Heap.put_ne _ _ (by omega), Heap.put_ne _ _ (by omega), p3.keep y (by omega) (by omega)]; exact h2.keep y hy
    · have := h.few; simp only [List.length_append, List.length_cons, List.length_nil] at *; omega
    · have := h.short; simp only at hfle ⊢; omega
  | @row l ga a1 a2 a4 a5 =>
    have hg6 : H6 ga = some (.row 3 (l.map rawF).flatten) := by rw [p3.keep ga a2 (by omega)]; exact a4
    have rl := zeh ztg l
    have h1 : (l.length + 1) * 64 ≤ 140737488355328 := by omega
    generalize hrr : (l.map rawF).flatten = rr at rl hg6
    have h3 : rr.take (l.length * 3) = rr := List.take_of_length_le (by omega)
    have ne_2 : n ≠ n + 1 ∧ n + 1 ≠ n ∧ n ≠ m ∧ m ≠ n ∧ n ≠ ga ∧ ga ≠ n ∧ n + 1 ≠ m ∧ m ≠ n + 1 ∧ n + 1 ≠ ga ∧ ga ≠ n + 1 ∧ m ≠ ga ∧ ga ≠ m ∧ n ≠ m5 ∧ m5 ≠ n ∧ n ≠ m5 + 1 ∧ m5 + 1 ≠ n ∧ n + 1 ≠ m5 ∧ m5 ≠ n + 1 ∧ n + 1 ≠ m5 + 1 ∧ m5 + 1 ≠ n + 1 ∧ m ≠ m5 ∧ m5 ≠ m ∧ m ≠ m5 + 1 ∧ m5 + 1 ≠ m ∧ ga ≠ m5 ∧ m5 ≠ ga ∧ ga ≠ m5 + 1 ∧ m5 + 1 ≠ ga := ⟨by omega, by omega, by omega, by omega, by omega, by omega, by omega, by omega, by omega, by omega, by omega, by omega, by omega, by omega, by omega, by omega, by omega, by omega, by omega, by omega, by omega, by omega, by omega, by omega, by omega, by omega, by omega, by omega⟩
    simp [zfy, rf, hB1, hg6, rl, h1, h3, ne_2]
    refine hk B _ (m5 + 1) ⟨?_, ?_, ?_, by omega, fun y hy => ?_, ?_, ?_⟩
    · rw [Heap.put_ne _ _ (by omega), Heap.put_ne _ _ (by omega), Heap.put_ne _ _ (by omega), Heap.put_ne _ _ (by omega)]; exact p3.rg
    · rw [Heap.put_ne _ _ (by omega), Heap.put_ne _ _ (by omega), Heap.put_ne _ _ (by omega), Heap.put_ne _ _ (by omega)]; exact p3.r1
    · have := OutS.row (H := (((H6.put m (some (.row 3 [.str nm.1, B, .ro (b.1.map Sm.avs)]))).put m5 (some (.row 3 [.str nm.1, B, .ro (b.1.map Sm.avs)]))).put ga none).put (m5 + 1) (some (.row 3 (rr ++ [.str nm.1, B, .ro (b.1.map Sm.avs)])))) (lo := n + 2) (hi := m5 + 1 + 1) (l := l ++ [((⟨nm.1, ps.1, b.1⟩ : Fnc), B)]) (ga := m5 + 1) (by omega) (by omega) (by rw [Heap.put_at, zbr, hrr]; rfl) fun p hp => ?_
      · rw [List.length_append] at this
        exact this
      · rcases List.mem_append.1 hp with hp | hp
        · exact (a5 p hp).keep (by omega) (.inr (by omega)) fun y h1 h2 h3 => by rw [Heap.put_ne _ _ (by omega), Heap.put_ne _ _ h3, Heap.put_ne _ _ (by omega), Heap.put_ne _ _ (by omega), p3.keep y h2 (by omega)]
        · rw [List.mem_singleton.1 hp]
          exact rb.ps (by omega) (by omega) (by omega) fun y h1 h2 => by rw [Heap.put_ne _ _ (by omega), Heap.put_ne _ _ (by omega), Heap.put_ne _ _ (by omega), Heap.put_ne _ _ (by omega)]
    · rw [Heap.put_ne _ _ (by omega), Heap.put_ne _ _ (by omega), Heap.put_ne _ _ (by omega), Heap.put_ne _ _ (by omega), p3.keep y (by omega) (by omega)]; exact h2.keep y hy
    · have := h.few; simp only [List.length_append, List.length_cons, List.length_nil] at *; omega
    · have := h.short; simp only at hfle ⊢; omega
end Go.Proofs.YtpllgpgdcbgalaaDoor
set_option maxRecDepth 8000
namespace Go.Proofs.YtpllgpgdcbgalaaDoor
open Go Go.RowKit
set_option maxHeartbeats 2000000 in
theorem zyh (s : Str) : QC Tryd.prog 10 [.str s] (.tup [.ro ((VM.parseF s).1.map Fnc.avs), .int .i64 (VM.parseF s).2]) := by
  refine QC.of' fun H n => ?_
  suffices main : ∀ Q : QT, (∀ v H' n', Frz H' n v (.tup [.ro ((VM.parseF s).1.map Fnc.avs), .int .i64 (VM.parseF s).2]) → Keep n H' H → Q v H' n') → za Tryd.prog 10 [.str s] H n Q from main _ fun v H' n' a b => ⟨a, b⟩
  intro Q hq
  refine zoe _ _ _ _ ?_
  have none_ : ∀ (e : Int), VM.parseF s = ([], e) → ∀ H' n', Keep n H' H → Q (.tup [.nils, .int .i64 e]) H' n' := by
    intro e he H' n' hK
    rw [he] at hq
    exact hq _ _ _ (.tup2 .nils (.same _ (.int _ _))) hK
  by_cases hs : 1500 < s.length
  · have hs' : (1500 : Int) < s.length := by omega
    have e : VM.parseF s = ([], 4) := by unfold VM.parseF; rw [if_pos hs]
    simp [zfu, hs']
    exact none_ 4 e H n (by simp)
  · have hs' : ¬ (1500 : Int) < s.length := by omega
    have hpf : VM.parseF s = if (VM.fnsF (s.length + 2) (s, 0)).2.2 ≠ 0 then ([], (VM.fnsF (s.length + 2) (s, 0)).2.2) else ((VM.fnsF (s.length + 2) (s, 0)).1, 0) := by unfold VM.parseF; rw [if_neg hs]
    have ne_0 : n ≠ n + 1 ∧ n + 1 ≠ n := ⟨by omega, by omega⟩
    simp [zfu, hs', ne_0]
    have h0 : PaL H n [] .nils (s, 0) ((H.put n (some (.row 2 [.str s, .int .i64 0]))).put (n + 1) (some (.row 1 [.ptr n 0]))) (n + 2) :=
      ⟨by rw [Heap.put_ne _ _ (by omega), Heap.put_at]; rfl, Heap.put_at _ _ _, .nil, by omega, fun y hy => by rw [Heap.put_ne _ _ (by omega), Heap.put_ne _ _ (by omega)], by have := VM.left_le (s, 0); simp only [List.length_nil] at *; omega, by simp only; omega⟩
    generalize Heap.put (Heap.put H n _) (n + 1) _ = H1 at h0 ⊢
    refine LP.mk (fun k xs H' n' => ∃ l A st, xs = [.ptr (n + 1) 0, A] ∧ PaL H n l A st H' n' ∧ VM.left st < k ∧ VM.fnsF (s.length + 2) (s, 0) = (l.map (·.1) ++ (VM.fnsF k st).1, (VM.fnsF k st).2)) (s.length + 2) ⟨[], _, _, rfl, h0, VM.left_le (s, 0), rfl⟩ ?_
    rintro k xs H' n' ⟨l, A, st, rfl, h, hle, hgo⟩
    generalize hJ : (fun (xs : List AV) (H' : Heap) (n' : Nat) => ∃ j, j < k ∧ ∃ l A st, xs = [.ptr (n + 1) 0, A] ∧ PaL H n l A st H' n' ∧ VM.left st < j ∧ VM.fnsF (s.length + 2) (s, 0) = (l.map (·.1) ++ (VM.fnsF j st).1, (VM.fnsF j st).2)) = J
    obtain ⟨k, rfl⟩ : ∃ j, k = j + 1 := ⟨k - 1, by omega⟩
    have r1 := h.r1
    have rg : H' n = some (.row 2 [.str st.1, .int .i64 st.2]) := h.rg
    have ne_1 : n ≠ n + 1 ∧ n + 1 ≠ n := ⟨by omega, by omega⟩
    by_cases he : st.2 = 0
    · simp [zfv, r1, rg, he, ne_1]
      refine zmr h.rg ?_
      have h1 := h.put (st' := (VM.trim st.1, st.2)) ⟨VM.trim_le _, id⟩
      generalize H'.put n _ = H2 at h1 ⊢
      have q1 := h1.r1
      have qg : H2 n = some (.row 2 [.str (VM.trim st.1), .int .i64 st.2]) := h1.rg
      by_cases hn : VM.nxt st.1 = 0
      · have e : VM.parseF s = (l.map (·.1), 0) := by
          rw [hpf, hgo]
          simp only [VM.fnsF, he, hn, ne_eq, not_true_eq_false, and_false, if_false, if_true, List.append_nil]
        simp [zfw, hn, q1, qg, he]
        refine hq _ _ _ ?_ fun y hy => h1.keep y hy
        rw [e]
        refine .tup2 ?_ (.same _ (.int _ _))
        have := h1.out.frz (N := n) (by omega)
        rw [List.map_map]
        exact this
      · simp [zfw, hn, q1]
        refine zvs h1 he fun B H3 m3 h3 => ?_
        rw [← hJ]
        have hl := VM.left_lt VM.nice_fn (st := st) he
        rw [he] at h3
        refine ⟨k, by omega, _, _, _, rfl, h3, by omega, ?_⟩
        rw [hgo]
        simp only [VM.fnsF, he, hn, ne_eq, not_false_eq_true, and_true, if_true, List.map_append, List.map_cons, List.map_nil, List.append_assoc, List.singleton_append]
    · have e : VM.parseF s = ([], st.2) := by
        rw [hpf, hgo]
        simp only [VM.fnsF, he, false_and, if_false]
        rw [if_pos he]
      simp [zfv, r1, rg, he, ne_1]
      exact none_ _ e _ _ fun y hy => h.keep y hy
end Go.Proofs.YtpllgpgdcbgalaaDoor
set_option maxRecDepth 8000
namespace Go.Proofs.YtpllgpgdcbgalaaDoor
open Go Go.RowKit
namespace VM
end VM
end Go.Proofs.YtpllgpgdcbgalaaDoor
set_option maxRecDepth 8000
namespace Go.Proofs.YtpllgpgdcbgalaaDoor
open Go Go.RowKit
def owns : AV → List Nat
  | .slc g _ _ => [g]
  | _ => []
structure LkM (gk gm : Nat) (fns : List (Str × Nat)) (vars : Int) (ws : List Str) (A : AV) (H : Heap) (m : Nat) : Prop where
  row : H gk = some (.row 3 [.amap gm, .int .i64 vars, A])
  wr : RowS strC 1 H (gk + 1) m ws A
  map : H gm = some (.mp (fns.map fun p => (.str p.1, .int .i64 p.2)))
  gg : gm < gk
  gn : gk < m
structure Ext (gk : Nat) (A : AV) (H : Heap) (m : Nat) (A' : AV) (H' : Heap) (m' : Nat) : Prop where
  le : m ≤ m'
  keep : ∀ y, y < m → y ≠ gk → y ∉ owns A → H' y = H y
  own : ∀ y ∈ owns A', y ∈ owns A ∨ m ≤ y
theorem Ext.refl (gk : Nat) (A : AV) (H : Heap) (m : Nat) : Ext gk A H m A H m := ⟨Nat.le_refl _, fun _ _ _ _ => rfl, fun _ h => .inl h⟩
theorem Ext.trans {gk m1 m2 m3 : Nat} {A1 A2 A3 : AV} {H1 H2 H3 : Heap} (h : Ext gk A1 H1 m1 A2 H2 m2) (k : Ext gk A2 H2 m2 A3 H3 m3) : Ext gk A1 H1 m1 A3 H3 m3 := by
  have h1 := h.le
  have h2 := k.le
  refine ⟨by omega, fun y hy hne hno => ?_, fun y hy => ?_⟩
  · rw [k.keep y (by omega) hne fun hy2 => (h.own y hy2).elim hno (by omega)]
    exact h.keep y hy hne hno
  · rcases k.own y hy with h3 | h3
    · exact h.own y h3
    · exact .inr (by omega)
structure NmA (gk : Nat) (A : AV) (names : List Str) (H : Heap) (m : Nat) (a : AV) : Prop where
  arg : zbg H m 1 (names.map strC) a
  far : ∀ y ∈ owns a, y ≠ gk ∧ y ∉ owns A
theorem NmA.ext {gk m m' : Nat} {A A' : AV} {H H' : Heap} {names : List Str} {a : AV} (h : NmA gk A names H m a) (e : Ext gk A H m A' H' m') : NmA gk A' names H' m' a := by
  have hle := e.le
  obtain ⟨h1, h2⟩ := h
  cases h1 with
  | ro => exact ⟨.ro, fun y hy => by simp [owns] at hy⟩
  | nils h => exact ⟨.nils h, fun y hy => by simp [owns] at hy⟩
  | slc g q1 q2 =>
    have hg := h2 g (by simp [owns])
    refine ⟨.slc g (by omega) (by rw [e.keep g q1 hg.1 hg.2]; exact q2), fun y hy => ?_⟩
    simp [owns] at hy
    subst hy
    exact ⟨hg.1, fun hy2 => (e.own _ hy2).elim hg.2 (by omega)⟩
end Go.Proofs.YtpllgpgdcbgalaaDoor
set_option maxRecDepth 8000
namespace Go.Proofs.YtpllgpgdcbgalaaDoor
open Go Go.RowKit
theorem zvg (A : Nat → Prop) (s : Str) (st : VM.St) : BelO A (PT s st) := by
  intro i y hy
  match i with
  | 0 => simp at hy; subst hy; exact .str _
  | 1 => simp at hy; subst hy; exact .int _ _
  | 2 => simp at hy; subst hy; exact .int _ _
  | i + 3 => simp at hy
theorem za.tparser {P : Program} {f : FuncId} {args : List AV} {r : AV} {s : Str} {st st' : VM.St} {g n : Nat} {H : Heap} {Q : QT} (hg : H g = some (PT s st)) (hraw : g < n → za P f args H n fun v H' _ => Frz H' n v r ∧ H' g = some (PT s st') ∧ ∀ y, y < n → y ≠ g → H' y = H y) (hq : Q r (H.put g (some (PT s st'))) n) : za P f args H n Q := by
  refine za.tidy fun hlive => ?_
  have hgn := hlive g _ hg
  refine (za.gc (R := fun v H' => v = r ∧ H' = H.put g (some (PT s st'))) (hraw hgn) fun v H' n' ⟨h1, h2, h3⟩ => ⟨r, _, ⟨rfl, rfl⟩, h1, fun y o ho => ?_⟩).mono fun v H' n' ⟨⟨h1, h2⟩, h3⟩ => by subst h1; subst h2; subst h3; exact hq
  by_cases hy : y = g
  · subst hy
    rw [Heap.put_at] at ho
    cases ho
    exact ⟨hgn, h2, .inr (zvg _ _ _)⟩
  · rw [Heap.put_ne _ _ hy] at ho
    exact ⟨hlive y o ho, by rw [h3 y (hlive y o ho) hy]; exact ho, .inl ho⟩
theorem LC.tparser {f : FuncId} {args : List AV} {r : AV} {s : Str} {g : Nat} {st st' : VM.St} {H : Heap} (hg : H g = some (PT s st)) (hr : ∀ A : Nat → Prop, Bel A r)
    (h : ∀ (H : Heap) (n : Nat) (Q : QT), H g = some (PT s st) → Q r (H.put g (some (PT s st'))) n → za Tryd.prog f args H n Q) : LC Tryd.prog f args H [g] [] [(g, some (PT s st'))] r := by
  refine LC.of_calls (fun x hx => ?_) (by simp [domD]) (fun A _ _ => hr A) (fun A _ _ x o hx ho => ?_) fun H' n' ha => ?_
  · simp at hx; subst hx; rw [hg]; rfl
  · simp [domD] at hx; subst hx
    simp at ho
    subst ho
    exact zvg _ _ _
  · obtain ⟨a1, a2⟩ := ha g (by simp)
    refine h H' n' _ (a1.trans hg) ⟨rfl, Nat.le_refl _, fun x _ hx => ?_, fun x o hx ho => ?_⟩
    · simp [domD] at hx
      exact Heap.put_ne _ _ hx
    · simp [domD] at hx; subst hx
      simp at ho
      rw [Heap.put_at, ho]
structure ElS {α : Type} (f : α → List AV) (sz : Nat) (H0 : Heap) (b g : Nat) (s : Str) (l : List α) (A : AV) (st : VM.St) (H : Heap) (n : Nat) : Prop where
  rg : H g = some (PT s st)
  row : RowS f sz H b n l A
  suf : st.1 <:+ s
  gb : g < b
  bn : b ≤ n
  keep : ∀ y, y < b → y ≠ g → H y = H0 y
  few : l.length + VM.left st ≤ 1502
theorem ElS.put {α : Type} {f : α → List AV} {sz : Nat} {H0 H : Heap} {b g n : Nat} {s : Str} {l : List α} {A : AV} {st st' : VM.St} (h : ElS f sz H0 b g s l A st H n) (hf : VM.Flow st st') (hs : st'.1 <:+ s) : ElS f sz H0 b g s l A st' (H.put g (some (PT s st'))) n := by
  have h1 := h.gb
  have h2 := h.few
  have h3 := hf.left
  exact ⟨Heap.put_at _ _ _, h.row.keep (Nat.le_refl _) fun y hy _ => Heap.put_ne _ _ (by omega), hs, h1, h.bn, fun y hy hne => by rw [Heap.put_ne _ _ hne]; exact h.keep y hy hne, by omega⟩
theorem zrw {α : Type} {m : VM.St → α × VM.St} {s : Str} (hm : ∀ st : VM.St, st.1 <:+ s → (m st).2.1 <:+ s) : ∀ (k : Nat) (st : VM.St), st.1 <:+ s → (VM.untilF m k st).2.1 <:+ s
  | 0, st, h => h
  | k + 1, st, h => by
    unfold VM.untilF
    split
    · exact zrw hm k _ (hm _ (zbd h))
    · exact zz h
theorem zee {α : Type} {m : VM.St → α × VM.St} {s : Str} (hm : ∀ st : VM.St, st.1 <:+ s → (m st).2.1 <:+ s) (st : VM.St) (h : st.1 <:+ s) : (VM.manyF m st).2.1 <:+ s := zrw hm _ st h
theorem zib {s t : Str} (k : Nat) (h : t <:+ s) : t.drop k <:+ s := (List.drop_suffix k t).trans h
theorem zef {s : Str} : ∀ (d : Nat) (st : VM.St), st.1 <:+ s → (VM.exprF d st).2.1 <:+ s
  | 0, st, h => h
  | d + 1, st, h => by
    have ht := zbd h
    unfold VM.exprF
    split
    · exact h
    · split
      · unfold VM.quotedF
        have h1 := zib 1 ht
        have h2 : (((VM.trim st.1).drop 1).dropWhile (· != 39)).drop 1 <:+ s := zib 1 ((List.dropWhile_suffix _).trans h1)
        split
        · dsimp only
          split
          · exact h2
          · exact h2
        · exact h1
      · split
        · have h3 := zng (s := s) (st := (VM.trim st.1, st.2)) ht
          unfold VM.plainF
          split <;> dsimp only <;> split <;> exact h3
        · have h3 := zng (s := s) (st := ((VM.trim st.1).drop 1, st.2)) (zib 1 ht)
          generalize VM.wF ((VM.trim st.1).drop 1, st.2) = w at h3 ⊢
          unfold VM.formF
          have key : ∀ q : VM.St, q.1 <:+ s → (VM.manyF (VM.exprF d) q).2.1 <:+ s := fun q hq => zee (zef d) q hq
          split
          · dsimp only
            split <;> exact key _ h3
          · dsimp only
            have hk : (if VM.name w.1 then w.2 else VM.badF 7 w.2).1 <:+ s := by split <;> exact h3
            generalize (if VM.name w.1 = true then w.2 else VM.badF 7 w.2) = q at hk ⊢
            split <;> exact key _ hk
def zca (s : Str) (d : Nat) : Prop := ∀ (st : VM.St) (g : Nat) (H : Heap) (n : Nat) (Q : QT), st.1 <:+ s → H g = some (PT s st) → Q (.agg (VM.exprF d st).1.avs) (H.put g (some (PT s (VM.exprF d st).2))) n → za Tryd.prog 76 [.ptr g 0, .int .i64 (11 - (d : Int))] H n Q
set_option maxHeartbeats 1000000 in
theorem zuc {d : Nat} {s : Str} (hE : zca s d) (hl : s.length ≤ 1500) {H0 H : Heap} {b g n : Nat} {st : VM.St} {Q : QT} (h : ElS Ex.avs 4 H0 b g s [] .nils st H n)
    (hq : ∀ A H' n', ElS Ex.avs 4 H0 b g s (VM.manyF (VM.exprF d) st).1 A (VM.manyF (VM.exprF d) st).2 H' n' → Q A H' n') : LP (zbk Q) [.ptr g 0, .int .i64 (11 - (d : Int)), .nils] H n := by
  have nice := VM.nice_expr d
  refine LP.mk (fun k xs H' n' => ∃ l A st1, xs = [.ptr g 0, .int .i64 (11 - (d : Int)), A] ∧ ElS Ex.avs 4 H0 b g s l A st1 H' n' ∧ VM.left st1 < k ∧ VM.manyF (VM.exprF d) st = (l ++ (VM.untilF (VM.exprF d) k st1).1, (VM.untilF (VM.exprF d) k st1).2)) (st.1.length + 2) ⟨[], .nils, st, rfl, h, VM.left_le st, rfl⟩ ?_
  rintro k xs H' n' ⟨l, A, st1, rfl, h, hle, hgo⟩
  generalize hJ : (fun (xs : List AV) (H' : Heap) (n' : Nat) => ∃ j, j < k ∧ ∃ l A st1, xs = [.ptr g 0, .int .i64 (11 - (d : Int)), A] ∧ ElS Ex.avs 4 H0 b g s l A st1 H' n' ∧ VM.left st1 < j ∧ VM.manyF (VM.exprF d) st = (l ++ (VM.untilF (VM.exprF d) j st1).1, (VM.untilF (VM.exprF d) j st1).2)) = J
  obtain ⟨k, rfl⟩ : ∃ j, k = j + 1 := ⟨k - 1, by omega⟩
  have hg' : H' g = some (.row 3 [.str s, .int .i64 ((s.length - st1.1.length : Nat) : Int), .int .i64 st1.2]) := h.rg
  have stop : VM.manyF (VM.exprF d) st = (l, VM.mustF 41 st1) → ∀ st2, VM.mustF 41 st2 = VM.mustF 41 st1 → ∀ H2 n2, ElS Ex.avs 4 H0 b g s l A st2 H2 n2 → za Tryd.prog 43 [.ptr g 0, .int .u8 41] H2 n2 (zbl Q [.ptr g 0, .int .i64 (11 - (d : Int)), A]) := by
    intro e st2 e2 H2 n2 h2
    refine zec (by decide) hl h2.suf h2.rg ?_
    have h3 := h2.put (VM.flow_must 41 st2) (zz h2.suf)
    rw [e2] at h3 ⊢
    rw [e] at hq
    simp [zbl]
    exact hq _ _ _ h3
  by_cases he : st1.2 = 0
  · simp [zbk, hg', he]
    refine zia hl h.suf h.rg ?_
    have h1 := h.put (st' := (VM.trim st1.1, st1.2)) ⟨VM.trim_le _, id⟩ (zbd h.suf)
    generalize H'.put g _ = HX at h1 ⊢
    by_cases hn : VM.nxt st1.1 = 41
    · simp [zdh, hn]
      refine stop ?_ (VM.trim st1.1, st1.2) (VM.must_trim _ _ _) _ _ h1
      rw [hgo]
      simp only [VM.untilF, hn, ne_eq, not_true_eq_false, and_false, if_false, List.append_nil]
    · simp [zdh, hn]
      rw [he] at h1
      refine hE (VM.trim st1.1, 0) g _ _ _ h1.suf h1.rg ?_
      have hl1 := VM.left_lt' nice (st := (VM.trim st1.1, 0)) rfl
      have hl2 := VM.left_lt nice (st := st1) he
      have h2 := h1.put (nice.flow _) (zef d _ h1.suf)
      have xl := zbc (VM.exprF d (VM.trim st1.1, 0)).1
      have xo := zgo (VM.exprF d (VM.trim st1.1, 0)).1
      have hfew := h1.few
      have hgo2 : VM.manyF (VM.exprF d) st = (l ++ [(VM.exprF d (VM.trim st1.1, 0)).1] ++ (VM.untilF (VM.exprF d) k (VM.exprF d (VM.trim st1.1, 0)).2).1, (VM.untilF (VM.exprF d) k (VM.exprF d (VM.trim st1.1, 0)).2).2) := by
        rw [hgo]
        simp only [VM.untilF, he, hn, ne_eq, not_false_eq_true, and_true, if_true, List.append_assoc, List.singleton_append]
      generalize HX.put g _ = HY at h2 ⊢
      generalize VM.exprF d (VM.trim st1.1, 0) = xr at *
      obtain ⟨x, st2⟩ := xr
      simp only at *
      have xt : x.avs.take 4 = x.avs := List.take_of_length_le (by omega)
      have hgb := h2.gb
      have hbn := h2.bn
      have snoc := zbr (f := Ex.avs) l x
      have rl := zeh (f := Ex.avs) (sz := 4) zbc l
      have hra := h2.row
      have fin : ∀ HZ, HZ (n' + 1) = some (.row 4 ((l ++ [x]).map Ex.avs).flatten) → (∀ y, y < n' → y ∉ owns A → HZ y = HY y) → J [.ptr g 0, .int .i64 (11 - (d : Int)), .slc (n' + 1) 0 (l.length + 1)] HZ (n' + 2) := by
        intro HZ z1 z2
        rw [← hJ]
        have hA : ∀ y ∈ owns A, b ≤ y := fun y hy => by
          cases hra with
          | nil => simp [owns] at hy
          | row q1 q2 q3 => simp [owns] at hy; omega
        refine ⟨k, by omega, l ++ [x], _, st2, rfl, ⟨?_, ?_, h2.suf, hgb, by omega, fun y hy hne => ?_, by rw [List.length_append]; simp only [List.length_cons, List.length_nil]; omega⟩, by omega, hgo2⟩
        · rw [z2 g (by omega) fun hy => by have := hA g hy; omega]; exact h2.rg
        · have := RowS.row (f := Ex.avs) (sz := 4) (H := HZ) (lo := b) (hi := n' + 2) (l := l ++ [x]) (ga := n' + 1) (by omega) (by omega) z1
          rw [List.length_append] at this
          exact this
        · rw [z2 y (by omega) fun hy2 => by have := hA y hy2; omega]; exact h2.keep y hy hne
      cases hra with
      | nil =>
        simp [zdi, xl, xt]
        refine ⟨xo, ?_⟩
        have := fin ((HY.put n' (some (.row 4 x.avs))).put (n' + 1) (some (.row 4 x.avs))) (by rw [Heap.put_at]; simp) fun y hy _ => by rw [Heap.put_ne _ _ (by omega), Heap.put_ne _ _ (by omega)]
        exact this
      | @row l ga q1 q2 q3 =>
        have h1 : (l.length + 1) * 56 ≤ 140737488355328 := by omega
        generalize hrr : (l.map Ex.avs).flatten = rr at *
        have h3 : rr.take (l.length * 4) = rr := List.take_of_length_le (by omega)
        have ne_0 : ga ≠ n' ∧ n' ≠ ga ∧ ga ≠ n' + 1 ∧ n' + 1 ≠ ga := ⟨by omega, by omega, by omega, by omega⟩
        simp [zdi, xl, xt, q3, rl, h1, h3, ne_0]
        refine ⟨xo, ?_⟩
        have := fin (((HY.put n' (some (.row 4 x.avs))).put ga none).put (n' + 1) (some (.row 4 (rr ++ x.avs)))) (by rw [Heap.put_at, snoc]) fun y hy hno => by
          simp [owns] at hno
          rw [Heap.put_ne _ _ (by omega), Heap.put_ne _ _ hno, Heap.put_ne _ _ (by omega)]
        exact this
  · simp [zbk, hg', he]
    refine stop ?_ st1 rfl _ _ h
    rw [hgo]
    simp only [VM.untilF, he, false_and, if_false, List.append_nil]
theorem zoj {d : Nat} {s : Str} (hE : zca s d) (hl : s.length ≤ 1500) {H : Heap} {g n : Nat} {st : VM.St} {Q : QT} (hs : st.1 <:+ s) (hg : H g = some (PT s st))
    (hq : Q (.ro ((VM.manyF (VM.exprF d) st).1.map Ex.avs)) (H.put g (some (PT s (VM.manyF (VM.exprF d) st).2))) n) : za Tryd.prog 88 [.ptr g 0, .int .i64 (11 - (d : Int))] H n Q := by
  refine za.tparser (st' := (VM.manyF (VM.exprF d) st).2) hg (fun hgn => ?_) hq
  refine zlh _ _ _ _ _ ?_
  unfold zgc
  have hle := hs.length_le
  refine zuc hE hl (b := n) (H0 := H) ⟨hg, .nil, hs, hgn, Nat.le_refl _, fun _ _ _ => rfl, by have := VM.left_le st; simp only [List.length_nil]; omega⟩ fun A H' n' h => ?_
  exact ⟨h.row.frz zbc (fun A x v hv => zlc A x v hv) (Nat.le_refl _) fun _ _ _ => rfl, h.rg, h.keep⟩
end Go.Proofs.YtpllgpgdcbgalaaDoor
set_option maxRecDepth 8000
namespace Go.Proofs.YtpllgpgdcbgalaaDoor
open Go Go.RowKit
section
variable {g : Nat} {s : Str} {st : VM.St} {H : Heap} {n : Nat} {Q : QT}
theorem zrt {k z want : Int} {t : Str} {l : List Ex} (hg : H g = some (PT s st)) (hq : Q (.agg (Ex.mk k z t l).avs) (H.put g (some (PT s (if (l.length : Int) = want then st else VM.badF 5 st)))) n) : za Tryd.prog 87 [.ptr g 0, .agg [.int .i64 k, .int .i64 z, .str t, .ro (l.map Ex.avs)], .int .i64 want] H n Q := by
  refine za.tparser (st' := if (l.length : Int) = want then st else VM.badF 5 st) hg (fun hgn => ?_) hq
  refine zli _ _ _ _ _ _ ?_
  have hf : ∀ H' : Heap, Frz H' n (.agg [.int .i64 k, .int .i64 z, .str t, .ro (l.map Ex.avs)]) (.agg (Ex.mk k z t l).avs) := fun H' => by
    rw [zfc]
    have := zmv (.mk k z t l) (· < n)
    rw [zfc] at this
    exact .same _ this
  have ne_0 : g ≠ n ∧ n ≠ g ∧ g ≠ n + 1 ∧ n + 1 ≠ g := ⟨by omega, by omega, by omega, by omega⟩
  by_cases h : (l.length : Int) = want
  · simp [zdk, h, hg, ne_0]
    refine ⟨hf _, fun y hy _ => ?_⟩
    have h1 : ¬ y = n + 1 := by omega
    have h2 : ¬ y = n := by omega
    simp [h1, h2]
  · simp [zdk, h]
    have hg1 : ((H.put n (some (.row 4 [.int .i64 k, .int .i64 z, .str t, .ro (l.map Ex.avs)]))).put (n + 1) (some (.row 4 [.int .i64 0, .int .i64 0, .str [], .nils]))) g = some (PT s st) := by rw [Heap.put_ne _ _ (by omega), Heap.put_ne _ _ (by omega)]; exact hg
    refine zaw hg1 ?_
    simp [zgg, ne_0]
    refine ⟨hf _, fun y hy hne => ?_⟩
    have h1 : ¬ y = n + 1 := by omega
    have h2 : ¬ y = n := by omega
    simp [h1, h2, hne]
theorem zj.texprs {d : Nat} (hE : zca s d) (hl : s.length ≤ 1500) {z : Int} {kt : Kt} (hz : z = 11 - (d : Int)) (hs : st.1 <:+ s) (hg : H g = some (PT s st))
    (hk : kt (.ro ((VM.manyF (VM.exprF d) st).1.map Ex.avs)) [g] [] [(g, some (PT s (VM.manyF (VM.exprF d) st).2))]) : zj Tryd.prog (.clo 88 []) [.ptr g 0, .int .i64 z] H n kt := by
  subst hz
  refine ⟨_, [g], [], _, .inl rfl, LC.tparser hg (fun A => zft fun x hx v hv => ?_) fun _ _ _ h1 h2 => zoj hE hl hs h1 h2, hk⟩
  obtain ⟨y, _, rfl⟩ := List.mem_map.1 hx
  exact zlc A y v hv
theorem zj.tcount {k z want : Int} {t : Str} {l : List Ex} {kt : Kt} (hg : H g = some (PT s st))
    (hk : kt (.agg (Ex.mk k z t l).avs) [g] [] [(g, some (PT s (if (l.length : Int) = want then st else VM.badF 5 st)))]) : zj Tryd.prog (.clo 87 []) [.ptr g 0, .agg [.int .i64 k, .int .i64 z, .str t, .ro (l.map Ex.avs)], .int .i64 want] H n kt :=
  ⟨_, [g], [], _, .inl rfl, LC.tparser hg (zmv _) fun _ _ _ h1 h2 => zrt h1 h2, hk⟩
end
structure TxE (s : Str) (H0 : Heap) (n g : Nat) (st : VM.St) (H : Heap) (m : Nat) : Prop where
  rg : H g = some (PT s st)
  rx : ∃ cs, H n = some (.row 4 cs) ∧ cs.length = 4
  suf : st.1 <:+ s
  gn : g < n
  nm : n < m
  keep : ∀ y, y < n → y ≠ g → H y = H0 y
def TxQ (s : Str) (H0 : Heap) (n g : Nat) (x : Ex) (st : VM.St) (Q : QT) : Prop := ∀ v H' n', Frz H' n v (.agg x.avs) → H' g = some (PT s st) → (∀ y, y < n → y ≠ g → H' y = H0 y) → Q v H' n'
section
variable {s : Str} {H0 H : Heap} {n g m : Nat} {st st' : VM.St} {Q : QT}
theorem TxE.put (h : TxE s H0 n g st H m) (hs : st'.1 <:+ s) : TxE s H0 n g st' (H.put g (some (PT s st'))) m := by
  have h1 := h.gn
  obtain ⟨cs, h2, h3⟩ := h.rx
  exact ⟨Heap.put_at _ _ _, ⟨cs, by rw [Heap.put_ne _ _ (by omega)]; exact h2, h3⟩, hs, h1, h.nm, fun y hy hne => by rw [Heap.put_ne _ _ hne]; exact h.keep y hy hne⟩
theorem TxE.new {m' y : Nat} {o : Option AObj} (h : TxE s H0 n g st H m) (hy : m ≤ y) (hm : m ≤ m') : TxE s H0 n g st (H.put y o) m' := by
  have h1 := h.gn
  have h0 := h.nm
  obtain ⟨cs, h2, h3⟩ := h.rx
  exact ⟨by rw [Heap.put_ne _ _ (by omega)]; exact h.rg, ⟨cs, by rw [Heap.put_ne _ _ (by omega)]; exact h2, h3⟩, h.suf, h1, by omega, fun z hz hne => by rw [Heap.put_ne _ _ (by omega)]; exact h.keep z hz hne⟩
theorem TxE.leaf {k z : Int} {t : Str} {o : Option AObj} (h : TxE s H0 n g st H m) (hq : TxQ s H0 n g (.mk k z t []) st Q) (m' : Nat) : Q (.agg [.int .i64 k, .int .i64 z, .str t, .nils]) (H.put n o) m' := by
  have h1 := h.gn
  refine hq _ _ _ ?_ (by rw [Heap.put_ne _ _ (by omega)]; exact h.rg) fun y hy hne => by rw [Heap.put_ne _ _ (by omega)]; exact h.keep y hy hne
  rw [zfc]
  exact FL.agg (.cons (.same _ (.int _ _)) (.cons (.same _ (.int _ _)) (.cons (.same _ (.str _)) (.cons .nils .nil))))
theorem TxE.form {x : Ex} {o : Option AObj} (h : TxE s H0 n g st H m) (hq : TxQ s H0 n g x st Q) (m' : Nat) : Q (.agg x.avs) (H.put n o) m' := by
  have h1 := h.gn
  exact hq _ _ _ (.same _ (zmv x _)) (by rw [Heap.put_ne _ _ (by omega)]; exact h.rg) fun y hy hne => by rw [Heap.put_ne _ _ (by omega)]; exact h.keep y hy hne
theorem zwo (hl : s.length ≤ 1500) (h : TxE s H0 n g st H m) (hq : TxQ s H0 n g (VM.plainF st).1 (VM.plainF st).2 Q) : za Tryd.prog 64 [.ptr g 0] H m (zdj (.ptr g 0) n Q) := by
  have hle := h.suf.length_le
  have hwl := zij st
  refine znd hl h.suf h.rg ?_
  have h1 := h.put (zng h.suf)
  generalize H.put g _ = HX at h1 ⊢
  unfold VM.plainF at hq
  generalize VM.wF st = ws at *
  obtain ⟨w, s1⟩ := ws
  simp only at *
  obtain ⟨cs, r2, r2l⟩ := h1.rx
  have gn := h1.gn
  unfold zdj
  have names : VM.numOf w = none → ∀ v, v = AV.str w → za Tryd.prog 23 [v] HX m (zai (.ptr g 0) v n Q) := by
    rintro hn v rfl
    rw [hn] at hq
    simp only at hq
    refine (znk w (by unfold maxLen; omega)).call ?_
    by_cases hnm : VM.name w = true
    · rw [if_pos hnm] at hq
      simp [zai, hnm, r2, r2l]
      exact ⟨by rintro _ ((rfl | rfl) | rfl | rfl) <;> rfl, h1.leaf hq _⟩
    · rw [if_neg hnm] at hq
      have hnm' : VM.name w = false := by simpa using hnm
      simp [zai, hnm']
      refine zaw h1.rg ?_
      have h2 := h1.put (st' := VM.badF 7 s1) h1.suf
      obtain ⟨cs, r2, r2l⟩ := h2.rx
      generalize HX.put g _ = HY at h2 r2 ⊢
      simp [zgd, r2, r2l]
      exact ⟨by rintro _ ((rfl | rfl) | rfl | rfl) <;> rfl, h2.leaf hq _⟩
  refine (zvi w (by omega)).call ?_
  unfold zss
  cases ha : Lib.atoiAll w with
  | ok v =>
    have hb := zpv ha
    simp [zbo]
    refine (zva v hb.1 hb.2).call ?_
    by_cases he : Lib.itoa v = w
    · have hn : VM.numOf w = some v := by unfold VM.numOf; rw [ha]; simp [he]
      rw [hn] at hq
      simp only at hq
      have bad : za Tryd.prog 63 [.ptr g 0, .int .i64 3] HX m (zbp (.int .i64 v) n Q) ∨ ¬ (v < -1073741824 ∨ 1073741824 < v) := by
        by_cases hr : v < -1073741824 ∨ 1073741824 < v
        · left
          rw [if_pos hr] at hq
          refine zaw h1.rg ?_
          have h2 := h1.put (st' := VM.badF 3 s1) h1.suf
          obtain ⟨cs, r2, r2l⟩ := h2.rx
          generalize HX.put g _ = HY at h2 r2 ⊢
          simp [zbp, r2, r2l]
          exact h2.leaf hq _
        · exact .inr hr
      by_cases hv1 : v < -1073741824
      · have := bad.resolve_right (by simp [hv1])
        simp [zah, he, hv1]
        exact this
      · by_cases hv2 : 1073741824 < v
        · have := bad.resolve_right (by simp [hv2])
          simp [zah, he, hv1, hv2]
          exact this
        · rw [if_neg (by omega)] at hq
          simp [zah, he, hv1, hv2, r2, r2l]
          exact h1.leaf hq _
    · have hn : VM.numOf w = none := by unfold VM.numOf; rw [ha]; simp [he]
      simp [zah, he]
      exact names hn _ rfl
  | range =>
    have hn : VM.numOf w = none := by unfold VM.numOf; rw [ha]
    simp [zbo]
    exact names hn _ rfl
  | _ =>
    have hn : VM.numOf w = none := by unfold VM.numOf; rw [ha]
    simp [zbo]
    exact names hn _ rfl
end
end Go.Proofs.YtpllgpgdcbgalaaDoor
