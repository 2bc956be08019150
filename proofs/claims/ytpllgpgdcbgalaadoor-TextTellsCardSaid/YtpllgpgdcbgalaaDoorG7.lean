/- The parser's small functions. The parser's names and words. The parser: up to a bracket. The parser as plain functions of its state: the text that is left, and what was wrong first. The parser: statements as plain functions; up to a bracket, as a plain function. A call that changes what it is handed by address, where the order is drawn. A call that changes what it is handed by address, where the order is drawn: what it leaves names no more than what was there named. The parser's expressions: one more behind those that are there. The parser's expressions: texts, numbers and names. Rows that are read: by value, or owned. Rows of one's own, by value from now on: cell by cell. The parser's expressions: forms. -/
import Derived.Test.YtpllgpgdcbgalaaDoorG5
import Derived.Test.YtpllgpgdcbgalaaDoorG6
set_option linter.unusedSimpArgs false
set_option linter.unusedVariables false
set_option maxRecDepth 8000
namespace Go.Proofs.YtpllgpgdcbgalaaDoor
open Go Go.RowKit
def PR (st : VM.St) : AObj := .row 2 [.str st.1, .int .i64 st.2]
theorem Heap.put_same {H : Heap} {g : Nat} {o : Option AObj} (h : H g = o) : H.put g o = H := by
  funext x
  by_cases hx : x = g
  · subst hx; rw [Heap.put_at, h]
  · rw [Heap.put_ne _ _ hx]
@[simp ↓ high] theorem zadm {s : Str} {ki : IntKind} {a : Int} {k : AV → Prop} : SLS (.str s) (some (.int ki a)) none k = (0 ≤ a ∧ a ≤ s.length ∧ k (.str (s.drop a.toNat))) := by
  simp [SLS, zgq, lohi, PURE, qk]
@[simp ↓ high] theorem zadn {s : Str} {ki : IntKind} {b : Int} {k : AV → Prop} : SLS (.str s) none (some (.int ki b)) k = (0 ≤ b ∧ b ≤ s.length ∧ k (.str (s.take b.toNat))) := by
  simp [SLS, zgq, lohi, PURE, qk]
@[simp ↓ high] theorem zaev {s : Str} {ki kj : IntKind} {a b : Int} {k : AV → Prop} : SLS (.str s) (some (.int ki a)) (some (.int kj b)) k = (0 ≤ a ∧ a ≤ b ∧ b ≤ s.length ∧ k (.str ((s.take b.toNat).drop a.toNat))) := by
  simp [SLS, zgq, lohi, PURE, qk]
section
variable {g : Nat} {st : VM.St} {H : Heap} {n : Nat} {Q : QT}
theorem zdm {e : Int} (hg : H g = some (PR st)) (hq : Q (.tup []) (H.put g (some (PR (VM.badF e st)))) n) : za Tryd.prog 48 [.ptr g 0, .int .i64 e] H n Q := by
  refine zof _ _ _ _ _ ?_
  unfold VM.badF at hq
  have hg' : H g = some (.row 2 [.str st.1, .int .i64 st.2]) := hg
  by_cases h : st.2 = 0
  · simp only [if_pos h, PR] at hq
    simp [zfz, hg', h, hq]
  · simp only [if_neg h, PR] at hq
    rw [Heap.put_same hg'] at hq
    simp [zfz, hg', h, hq]
theorem zcj {c d : UInt8} {z : Int} (h : c ≠ d) (hz : (d.toNat : Int) = z) : ¬ (c.toNat : Int) = z := fun e => h (UInt8.toNat_inj.1 (by omega))
theorem zed (c : UInt8) (r : Str) : VM.trim (c :: r) = if VM.blank c then VM.trim r else c :: r := by
  unfold VM.trim; rw [List.dropWhile_cons]
theorem zmr (hg : H g = some (PR st)) (hq : Q (.int .u8 (VM.nxt st.1)) (H.put g (some (PR (VM.trim st.1, st.2)))) n) : za Tryd.prog 27 [.ptr g 0] H n Q := by
  refine zoc _ _ _ _ ?_
  unfold zki
  refine LP.mk (fun m xs H' n' => xs = [.ptr g 0] ∧ n' = n ∧ ∃ s, m = s.length ∧ VM.trim s = VM.trim st.1 ∧ H' = H.put g (some (PR (s, st.2)))) st.1.length ⟨rfl, rfl, st.1, rfl, rfl, (Heap.put_same hg).symm⟩ ?_
  rintro m xs H' n' ⟨rfl, rfl, s, rfl, ht, rfl⟩
  have hg' : (H.put g (some (PR (s, st.2)))) g = some (.row 2 [.str s, .int .i64 st.2]) := Heap.put_at _ _ _
  have hnx : VM.nxt st.1 = VM.nxt s := by unfold VM.nxt; rw [ht]
  rw [hnx, ← ht] at hq
  generalize hX : Heap.put H g (some (PR (s, st.2))) = HX at hg'
  have hP : ∀ o, HX.put g o = H.put g o := fun o => by rw [← hX, Heap.put_put]
  cases s with
  | nil =>
    have hq' : Q (.int .u8 0) HX n' := by rw [← hX]; exact hq
    simp [zau, hg', hq']
  | cons c r =>
    have hl : ¬ (r.length : Int) + 1 = 0 := by omega
    by_cases h32 : c = 32
    · subst h32
      simp [zau, hg', hP, PR]
      exact ⟨by omega, r.length, by omega, r, rfl, by rw [← ht, zed]; rfl, rfl⟩
    by_cases h10 : c = 10
    · subst h10
      simp [zau, hg', hP, PR]
      exact ⟨by omega, r.length, by omega, r, rfl, by rw [← ht, zed]; rfl, rfl⟩
    have n32 : ¬ (c.toNat : Int) = 32 := zcj h32 rfl
    have n10 : ¬ (c.toNat : Int) = 10 := zcj h10 rfl
    have htr : VM.trim (c :: r) = c :: r := by rw [zed, if_neg]; simp [VM.blank, h32, h10]
    have hnx' : VM.nxt (c :: r) = if c = 0 then 1 else (c.toNat : Int) := by unfold VM.nxt; rw [htr]
    rw [htr, hnx'] at hq
    by_cases h0 : c = 0
    · subst h0
      have hq' : Q (.int .u8 1) HX n' := by rw [← hX]; exact hq
      simp [zau, hg', hl, hq']
    · have n0 : ¬ c.toNat = 0 := by have := zcj h0 (z := 0) rfl; omega
      rw [if_neg h0] at hq
      have hq' : Q (.int .u8 (c.toNat : Int)) HX n' := by rw [← hX]; exact hq
      simp [zau, hg', hl, hq', n32, n10, n0]
theorem zem {b : Str} (h : VM.nxt b ≠ 0) : ∃ c r, VM.trim b = c :: r := by
  unfold VM.nxt at h
  cases ht : VM.trim b with
  | nil => rw [ht] at h; exact absurd rfl h
  | cons c r => exact ⟨c, r, rfl⟩
theorem zen {c : Int} (hc : c ≠ 0) (hg : H g = some (PR st)) (hq : Q (.tup []) (H.put g (some (PR (VM.mustF c st)))) n) : za Tryd.prog 28 [.ptr g 0, .int .u8 c] H n Q := by
  refine zod _ _ _ _ _ ?_
  refine zmr hg ?_
  unfold VM.mustF at hq
  have hg' : (H.put g (some (PR (VM.trim st.1, st.2)))) g = some (.row 2 [.str (VM.trim st.1), .int .i64 st.2]) := Heap.put_at _ _ _
  have hg2 : (H.put g (some (PR (VM.trim st.1, st.2)))) g = some (PR (VM.trim st.1, st.2)) := hg'
  have hP : ∀ o, (H.put g (some (PR (VM.trim st.1, st.2)))).put g o = H.put g o := fun o => Heap.put_put ..
  generalize H.put g (some (PR (VM.trim st.1, st.2))) = HX at *
  by_cases h1 : VM.nxt st.1 = c
  · obtain ⟨a, r, ha⟩ := zem (by rw [h1]; exact hc)
    rw [if_pos h1, ha] at hq
    rw [ha] at hg'
    have hl : (1 : Int) ≤ r.length + 1 := by omega
    have hq' : Q (.tup []) (H.put g (some (.row 2 [.str r, .int .i64 st.2]))) n := hq
    simp [zcy, h1, hg', hP, hl, hq']
  · rw [if_neg h1] at hq
    by_cases h0 : VM.nxt st.1 = 0
    · rw [if_pos h0] at hq
      have h01 : ¬ 0 = c := fun e => hc e.symm
      simp [zcy, h0, h01]
      refine zdm hg2 ?_
      rw [hP]; exact hq
    · rw [if_neg h0] at hq
      simp [zcy, h1, h0]
      refine zdm hg2 ?_
      rw [hP]; exact hq
theorem zjt {p : UInt8 → Bool} {a b : Str} (ha : ∀ x ∈ a, p x = true) (hb : ∀ c r, b = c :: r → p c = false) : (a ++ b).takeWhile p = a ∧ (a ++ b).dropWhile p = b := by
  induction a with
  | nil =>
    cases b with
    | nil => exact ⟨rfl, rfl⟩
    | cons c r => have := hb c r rfl; simp [this]
  | cons x a ih =>
    have h := ih fun y hy => ha y (by simp [hy])
    simp [ha x (by simp), h.1, h.2]
theorem w_ac (hs : st.1.length < 4611686018427387904) (hg : H g = some (PR st)) (hq : Q (.str (VM.wF st).1) (H.put g (some (PR (VM.wF st).2))) n) : za Tryd.prog 49 [.ptr g 0] H n Q := by
  refine zpw _ _ _ _ ?_
  refine zmr hg ?_
  have htl : (VM.trim st.1).length ≤ st.1.length := VM.trim_le _
  have hw : ∀ a b, VM.trim st.1 = a ++ b → (∀ x ∈ a, VM.wordC x = true) → (∀ c r, b = c :: r → VM.wordC c = false) → VM.wF st = (a, if a = [] then VM.badF (if b = [] then 8 else 2) (b, st.2) else (b, st.2)) := by
    intro a b h1 h2 h3
    have := zjt h2 h3
    unfold VM.wF
    rw [h1, this.1, this.2]
    by_cases ha : a = []
    · subst ha; simp
    · simp [ha]
  generalize VM.trim st.1 = t at *
  have hg' : (H.put g (some (PR (t, st.2)))) g = some (.row 2 [.str t, .int .i64 st.2]) := Heap.put_at _ _ _
  have hP : ∀ o, (H.put g (some (PR (t, st.2)))).put g o = H.put g o := fun o => Heap.put_put ..
  generalize H.put g (some (PR (t, st.2))) = HX at *
  unfold znx
  refine LP.mk (fun m xs H' n' => H' = HX ∧ n' = n ∧ ∃ a b, xs = [.ptr g 0, .int .i64 (a.length : Int)] ∧ t = a ++ b ∧ (∀ x ∈ a, VM.wordC x = true) ∧ m = b.length) t.length ⟨rfl, rfl, [], t, rfl, rfl, by simp, rfl⟩ ?_
  rintro m xs H' n' ⟨rfl, rfl, a, b, rfl, ht, ha, rfl⟩
  -- where the word ends
  have fin : (∀ c r, b = c :: r → VM.wordC c = false) → (a = [] → za Tryd.prog 48 [.ptr g 0, .int .i64 (if b = [] then 8 else 2)] H' n' (zi [.ptr g 0, .int .i64 (a.length : Int)] Q)) ∧ (a ≠ [] → Q (.str a) (H.put g (some (.row 2 [.str b, .int .i64 st.2]))) n') := by
    intro hb
    have h := hw a b ht ha hb
    rw [h] at hq
    refine ⟨fun e => ?_, fun e => ?_⟩
    · subst e
      simp only [if_true] at hq
      refine zdm (st := (b, st.2)) (by rw [hg', ht]; rfl) ?_
      rw [hP]
      unfold VM.badF at hq ⊢
      generalize (if (b, st.2).2 = 0 then (if b = [] then (8 : Int) else 2) else (b, st.2).2) = k at *
      have hx : (H.put g (some (PR (b, k)))) g = some (.row 2 [.str b, .int .i64 k]) := Heap.put_at _ _ _
      have hP2 : ∀ o, (H.put g (some (PR (b, k)))).put g o = H.put g o := fun o => Heap.put_put ..
      have hq' : Q (.str []) (H.put g (some (.row 2 [.str b, .int .i64 k]))) n' := hq
      have hb0 : (0 : Int) ≤ b.length := by omega
      generalize H.put g (some (PR (b, k))) = HY at *
      simp [zi, hx, hP2, hq', hb0]
    · simp only [if_neg e] at hq
      exact hq
  have h0 : (0 : Int) ≤ a.length := by omega
  cases b with
  | nil =>
    have hl : t = a := by rw [ht, List.append_nil]
    subst hl
    obtain ⟨f1, f2⟩ := fin (by simp)
    by_cases e : t = []
    · subst e
      have f1' := f1 rfl
      simp at f1'
      simp [zci, hg', f1']
    · have f2' := f2 e
      have hne : ¬ (t.length : Int) = 0 := fun h => e (List.length_eq_zero_iff.1 (by omega))
      simp [zci, hg', hne, e, hP, f2']
  | cons c r =>
    have hl : (t.length : Int) = a.length + (r.length + 1) := by rw [ht]; simp
    have hlt : (a.length : Int) < a.length + (r.length + 1) := by omega
    have hle : (a.length : Int) ≤ a.length + (r.length + 1) := by omega
    have hx : t[a.length]? = some c := by rw [ht]; simp
    by_cases hc : VM.wordC c = true
    · have hc' := hc
      simp only [VM.wordC, Bool.not_eq_true', Bool.or_eq_false_iff, beq_eq_false_iff_ne] at hc'
      obtain ⟨⟨⟨⟨c1, c2⟩, c3⟩, c4⟩, c5⟩ := hc'
      have b1 : ¬ (c.toNat : Int) = 32 := zcj c1 rfl
      have b2 : ¬ (c.toNat : Int) = 10 := zcj c2 rfl
      have b3 : ¬ (c.toNat : Int) = 40 := zcj c3 rfl
      have b4 : ¬ (c.toNat : Int) = 41 := zcj c4 rfl
      have b5 : ¬ (c.toNat : Int) = 39 := zcj c5 rfl
      have hwr : IntKind.i64.wrap ((a.length : Int) + 1) = (a.length : Int) + 1 := i64w (by omega)
      simp [zci, hg', hl, hlt, hx, b1, b2, b3, b4, b5, hwr]
      refine ⟨r.length, by omega, a ++ [c], by rw [List.length_append]; simp, r, by rw [ht]; simp, ?_, rfl⟩
      intro x hx'
      rcases List.mem_append.1 hx' with h | h
      · exact ha x h
      · rw [List.mem_singleton.1 h]; exact hc
    · obtain ⟨f1, f2⟩ := fin (by rintro c' r' h; cases h; simpa using hc)
      have hc' : c = 32 ∨ c = 10 ∨ c = 40 ∨ c = 41 ∨ c = 39 := by
        refine Classical.byContradiction fun h => hc ?_
        simp only [not_or] at h
        simp [VM.wordC, h]
      have htk : t.take a.length = a := by rw [ht]; simp
      have hdr : t.drop a.length = c :: r := by rw [ht]; simp
      by_cases e : a = []
      · subst e
        have f1' := f1 rfl
        simp at f1'
        have hl' : (t.length : Int) = r.length + 1 := by rw [ht]; simp
        have hlt' : (0 : Int) < r.length + 1 := by omega
        have hne : ¬ (r.length : Int) + 1 = 0 := by omega
        have hx' : t[0]? = some c := by rw [ht]; simp
        clear hl hx
        rcases hc' with rfl | rfl | rfl | rfl | rfl <;> simp [zci, hg', hl', hlt', hne, hx', f1']
      · have f2' := f2 e
        have hne : ¬ (a.length : Int) = 0 := fun h => e (List.length_eq_zero_iff.1 (by omega))
        rcases hc' with rfl | rfl | rfl | rfl | rfl <;> simp [zci, hg', hl, hlt, hle, hx, hne, e, hP, htk, hdr, f2']
end
end Go.Proofs.YtpllgpgdcbgalaaDoor
set_option maxRecDepth 8000
namespace Go.Proofs.YtpllgpgdcbgalaaDoor
open Go Go.RowKit
theorem zrb {p : UInt8 → Bool} (s : Str) (i : Nat) : (s.drop i).all p = if h : i < s.length then p s[i] && (s.drop (i + 1)).all p else true := by
  split
  · rename_i h
    rw [List.drop_eq_getElem_cons h, List.all_cons]
  · rename_i h
    rw [List.drop_of_length_le (by omega)]; rfl
theorem zsv (s : Str) (hs : s.length ≤ maxLen) : QC Tryd.prog 25 [.str s] (.bool (VM.word s)) := by
  refine fun H nx => zpm _ H nx _ ?_
  simp only [maxLen] at hs
  simp [zmh]
  refine LP.mk (fun n xs H' nx' => ∃ i : Nat, i ≤ s.length ∧ n = s.length - i ∧ xs = [.str s, .int .i64 s.length, .int .i64 i] ∧ H = H' ∧ nx = nx' ∧ s.all VM.wordByte = (s.drop i).all VM.wordByte) s.length ⟨0, by omega, by omega, rfl, rfl, rfl, rfl⟩ ?_
  rintro n xs H' nx' ⟨i, hi, rfl, rfl, rfl, rfl, hall⟩
  rw [zrb] at hall
  simp [zmi]
  refine ⟨fun h => ?_, fun h => ?_⟩
  · rw [dif_pos h] at hall
    have hb : VM.wordByte s[i] = false → VM.word s = false := fun hb => by simp [VM.word, hall, hb]
    simp [h]
    refine ⟨fun h1 => hb (by simp [VM.wordByte]; omega), fun h1 => ⟨fun h2 => hb (by simp [VM.wordByte]; omega), fun h2 => ⟨fun h3 => hb (by simp [VM.wordByte]; omega), fun h3 => ?_⟩⟩⟩
    rw [i64w (by omega)]
    refine ⟨s.length - (i + 1), by omega, i + 1, by omega, rfl, by simp, ?_⟩
    have : VM.wordByte s[i] = true := by simp [VM.wordByte]; omega
    rw [hall, this]; rfl
  · rw [dif_neg (by omega)] at hall
    simp only [VM.word, hall, Bool.and_true]
    rw [Bool.eq_iff_iff]; simp; omega
def zbb (c : UInt8) : Bool := decide (97 ≤ c.toNat) && decide (c.toNat ≤ 122)
theorem zie (s : Str) : VM.name s = (decide (s ∉ VM.keys) && s.all zbb && decide (0 < s.length) && decide (s.length < 9)) := rfl
theorem zuz (s : Str) (hs : s.length ≤ maxLen) : QC Tryd.prog 14 [.str s] (.bool (VM.name s)) := by
  refine QC.of' fun H nx => ?_
  suffices main : ∀ Q : QT, (∀ H' n', Keep nx H' H → Q (.bool (VM.name s)) H' n') → za Tryd.prog 14 [.str s] H nx Q from
    main _ fun H' n' hk => ⟨by simp, hk⟩
  intro Q hq
  refine zpo _ H nx _ ?_
  simp only [maxLen] at hs
  have hkeys : AObj.row 1 (VM.keys.map AV.str) = AObj.row 1 [AV.str [108, 101, 116], AV.str [115, 101, 116], AV.str [105, 102], AV.str [119, 104, 105, 108, 101], AV.str [115, 97, 121], AV.str [114, 101, 116, 117, 114, 110], AV.str [112, 117, 116, 108], AV.str [112, 117, 116, 114], AV.str [100, 111], AV.str [99, 101, 108, 108], AV.str [108, 101, 102, 116], AV.str [114, 105, 103, 104, 116], AV.str [97, 115, 107], AV.str [104, 101, 114, 101], AV.str [103, 111]] := rfl
  simp only [zml, ← hkeys, puth]
  have hk : Keep nx (H.put nx (some (.row 1 (VM.keys.map AV.str)))) H := by simp
  have hH : (H.put nx (some (.row 1 (VM.keys.map AV.str)))) nx = some (.row 1 (VM.keys.map AV.str)) := Heap.put_at _ _ _
  generalize H.put nx (some (.row 1 (VM.keys.map AV.str))) = HX at *
  simp
  have hl : VM.keys.length = 15 := rfl
  refine LP.mk (fun m xs H' n' => ∃ i : Nat, i ≤ 15 ∧ m = 15 - i ∧ xs = [.str s, .slc nx 0 15, .int .i64 15, .int .i64 i] ∧ H' = HX ∧ n' = nx + 1 ∧ s ∉ VM.keys.take i) 15 ⟨0, by omega, by omega, rfl, rfl, rfl, by simp⟩ ?_
  rintro m xs H' n' ⟨i, hi, rfl, rfl, rfl, rfl, hno⟩
  by_cases h : i < 15
  · have hx : (VM.keys.map AV.str)[i]? = some (.str (VM.keys[i]'(by omega))) := by rw [List.getElem?_map, List.getElem?_eq_getElem (by omega)]; rfl
    have hi' : (i : Int) < 15 := by omega
    have hi0 : (0 : Int) ≤ i := by omega
    by_cases e : s = VM.keys[i]'(by omega)
    · have hn : VM.name s = false := by
        have : s ∈ VM.keys := e ▸ List.getElem_mem _
        rw [zie]; simp [this]
      have hq' := hq H' (nx + 1) hk
      rw [hn] at hq'
      simp [zek, hi', hH, hx, ← e, hq']
    · have hw : IntKind.i64.wrap ((i : Int) + 1) = (i : Int) + 1 := i64w (by omega)
      simp [zek, hi', hH, hx, e, hw]
      refine ⟨15 - (i + 1), by omega, i + 1, by omega, rfl, by simp, ?_⟩
      have hts : VM.keys.take (i + 1) = VM.keys.take i ++ [VM.keys[i]'(by omega)] := List.take_succ_eq_append_getElem _
      intro hm
      rw [hts, List.mem_append, List.mem_singleton] at hm
      exact hm.elim hno e
  · have hi' : ¬ (i : Int) < 15 := by omega
    have e15 : i = 15 := by omega
    subst e15
    have hno' : s ∉ VM.keys := by rw [List.take_of_length_le (by omega)] at hno; exact hno
    simp [zek]
    refine LP.mk (fun m xs H'' n'' => ∃ i : Nat, i ≤ s.length ∧ m = s.length - i ∧ xs = [.str s, .int .i64 s.length, .int .i64 i] ∧ H'' = H' ∧ n'' = nx + 1 ∧ s.all zbb = (s.drop i).all zbb) s.length ⟨0, by omega, by omega, rfl, rfl, rfl, rfl⟩ ?_
    rintro m xs H'' n'' ⟨j, hj, rfl, rfl, rfl, rfl, hall⟩
    rw [zrb] at hall
    have hqf : VM.name s = false → Q (.bool false) H'' (nx + 1) := fun e => e ▸ hq H'' (nx + 1) hk
    by_cases hlt : j < s.length
    · rw [dif_pos hlt] at hall
      have hb : zbb s[j] = false → VM.name s = false := fun hb => by rw [zie]; simp [hall, hb]
      simp [zel, hlt]
      refine ⟨fun h1 => hqf (hb (by simp [zbb]; omega)), fun h1 => ⟨fun h2 => hqf (hb (by simp [zbb]; omega)), fun h2 => ?_⟩⟩
      rw [i64w (by omega)]
      refine ⟨s.length - (j + 1), by omega, j + 1, by omega, rfl, by simp, ?_⟩
      have : zbb s[j] = true := by simp [zbb]; omega
      rw [hall, this]; rfl
    · rw [dif_neg hlt] at hall
      have hn : VM.name s = (decide (0 < s.length) && decide (s.length < 9)) := by rw [zie]; simp [hno', hall]
      have hji : ¬ (j : Int) < s.length := by omega
      have hq' := hq H'' (nx + 1) hk
      rw [hn] at hq'
      by_cases h0 : 0 < s.length
      · have e9 : decide ((s.length : Int) < 9) = decide (s.length < 9) := by rw [decide_eq_decide]; omega
        simp [h0, ← e9] at hq'
        simp [zel, hlt, h0, hq']
      · simp [h0] at hq'
        simp [zel, hlt, h0, hq']
end Go.Proofs.YtpllgpgdcbgalaaDoor
set_option maxRecDepth 8000
namespace Go.Proofs.YtpllgpgdcbgalaaDoor
open Go Go.RowKit
namespace VM
theorem trim_trim (b : Str) : trim (trim b) = trim b := by
  induction b with
  | nil => rfl
  | cons c r ih =>
    rw [zed]
    by_cases h : blank c = true
    · rw [if_pos h]; exact ih
    · rw [if_neg h, zed, if_neg h]
theorem nxt_trim (b : Str) : nxt (trim b) = nxt b := by unfold nxt; rw [trim_trim]
theorem must_trim (c : Int) (b : Str) (e : Int) : mustF c (trim b, e) = mustF c (b, e) := by
  unfold mustF; simp only [nxt_trim, trim_trim]
theorem must_le (c : Int) (st : St) : (mustF c st).1.length ≤ st.1.length := by
  have := trim_le st.1
  unfold mustF
  split
  · show ((trim st.1).drop 1).length ≤ _; rw [List.length_drop]; omega
  · exact this
theorem must_err (c : Int) (st : St) (h : st.2 ≠ 0) : (mustF c st).2 = st.2 := (goes_must c st).stuck h
end VM
section
variable {g : Nat} {st : VM.St} {H : Heap} {n : Nat} {Q : QT}
theorem zij (st : VM.St) : (VM.wF st).1.length ≤ st.1.length ∧ (VM.wF st).2.1.length ≤ st.1.length := by
  have h := VM.trim_le st.1
  have h1 : ((VM.trim st.1).takeWhile VM.wordC).length ≤ (VM.trim st.1).length := (List.takeWhile_sublist _).length_le
  have h2 : ((VM.trim st.1).dropWhile VM.wordC).length ≤ (VM.trim st.1).length := (List.dropWhile_sublist _).length_le
  unfold VM.wF
  refine ⟨by show ((VM.trim st.1).takeWhile VM.wordC).length ≤ _; omega, ?_⟩
  dsimp only
  split
  · exact h
  · exact Nat.le_trans h2 h
theorem zzr (st : VM.St) : (VM.nF st).1.length ≤ st.1.length ∧ (VM.nF st).2.1.length ≤ st.1.length := by
  have h := zij st
  unfold VM.nF
  refine ⟨h.1, ?_⟩
  dsimp only
  split
  · exact h.2
  · exact h.2
theorem zrh {s : Str} {K : QT} (hs : s.length ≤ 1500) (hk : K (.bool (VM.name s)) H n) : za Tryd.prog 14 [.str s] H n K := (zuz s (by unfold maxLen; omega)).call hk
theorem zvu (hs : st.1.length ≤ 1500) (hg : H g = some (PR st)) (hq : Q (.str (VM.nF st).1) (H.put g (some (PR (VM.nF st).2))) n) : za Tryd.prog 29 [.ptr g 0] H n Q := by
  refine zpx _ _ _ _ ?_
  have hl := zij st
  refine w_ac (by omega) hg ?_
  refine zrh (by omega) ?_
  have hP : ∀ o, (H.put g (some (PR (VM.wF st).2))).put g o = H.put g o := fun o => Heap.put_put ..
  have hg2 : (H.put g (some (PR (VM.wF st).2))) g = some (PR (VM.wF st).2) := Heap.put_at _ _ _
  unfold VM.nF at hq
  by_cases h : VM.name (VM.wF st).1 = true
  · simp only [h, if_true] at hq
    simp [ziy, h, hq]
  · simp only [h] at hq
    have h' : VM.name (VM.wF st).1 = false := by simpa using h
    simp [ziy, h']
    refine zdm hg2 ?_
    rw [hP]
    exact hq
theorem zpf {d : Int} (hg : H g = some (PR st)) (hq : Q (.bool (decide (d ≤ 10) && decide (st.2 = 0))) (H.put g (some (PR (if d ≤ 10 then st else VM.badF 9 st)))) n) : za Tryd.prog 68 [.ptr g 0, .int .i64 d] H n Q := by
  refine zob _ _ _ _ _ ?_
  by_cases h : d ≤ 10
  · rw [if_pos h, Heap.put_same hg] at hq
    have hg' : H g = some (.row 2 [.str st.1, .int .i64 st.2]) := hg
    have h' : ¬ 10 < d := by omega
    simp [h] at hq
    simp [zfm, h', hg', hq]
  · rw [if_neg h] at hq
    have h' : 10 < d := by omega
    simp [h] at hq
    simp [zfm, h']
    refine zdm hg ?_
    have hg' : (H.put g (some (PR (VM.badF 9 st)))) g = some (.row 2 [.str (VM.badF 9 st).1, .int .i64 (VM.badF 9 st).2]) := Heap.put_at _ _ _
    have he : ¬ (VM.badF 9 st).2 = 0 := by
      unfold VM.badF
      by_cases e : st.2 = 0 <;> simp [e]
    generalize H.put g (some (PR (VM.badF 9 st))) = HX at *
    simp [zkb, hg', he, hq]
end
end Go.Proofs.YtpllgpgdcbgalaaDoor
set_option maxRecDepth 8000
namespace Go.Proofs.YtpllgpgdcbgalaaDoor
open Go Go.RowKit
namespace VM
def untilF {α : Type} (m : St → α × St) : Nat → St → List α × St
  | 0, st => ([], st)
  | k + 1, st => if st.2 = 0 ∧ nxt st.1 ≠ 41 then ((m (trim st.1, 0)).1 :: (untilF m k (m (trim st.1, 0)).2).1, (untilF m k (m (trim st.1, 0)).2).2) else ([], mustF 41 st)
def manyF {α : Type} (m : St → α × St) (st : St) : List α × St := untilF m (st.1.length + 2) st
def quotedF (t : Str) (e : Int) : Ex × St :=
  if 39 ∈ t.drop 1 then (.mk 2 0 ((t.drop 1).takeWhile (· != 39)) [], if word ((t.drop 1).takeWhile (· != 39)) then (((t.drop 1).dropWhile (· != 39)).drop 1, e) else badF 2 (((t.drop 1).dropWhile (· != 39)).drop 1, e)) else (.mk 2 0 [] [], badF 8 (t.drop 1, e))
def plainF (st : St) : Ex × St := match numOf (wF st).1 with
  | some n => (.mk 1 n [] [], if n < -1073741824 ∨ 1073741824 < n then badF 3 (wF st).2 else (wF st).2)
  | none => (.mk 3 0 (wF st).1 [], if name (wF st).1 then (wF st).2 else badF 7 (wF st).2)
def formF (m : St → Ex × St) (w : Str) (s1 : St) : Ex × St := match headOf w with
  | some (k, n, want) => (.mk k n [] (manyF m s1).1, if (manyF m s1).1.length = want then (manyF m s1).2 else badF 5 (manyF m s1).2)
  | none => (.mk 11 0 w (manyF m (if name w then s1 else badF 7 s1)).1, if (manyF m (if name w then s1 else badF 7 s1)).1.length ≤ 4 then (manyF m (if name w then s1 else badF 7 s1)).2 else badF 5 (manyF m (if name w then s1 else badF 7 s1)).2)
def exprF : Nat → St → Ex × St
  | 0, st => (ex0, badF 9 st)
  | d + 1, st => if st.2 ≠ 0 then (ex0, st)
    else if nxt st.1 = 39 then quotedF (trim st.1) st.2
    else if nxt st.1 ≠ 40 then plainF (trim st.1, st.2)
    else formF (exprF d) (wF ((trim st.1).drop 1, st.2)).1 (wF ((trim st.1).drop 1, st.2)).2
def timesF {α : Type} (m : St → α × St) : Nat → St → List α × St
  | 0, st => ([], st)
  | k + 1, st => ((m st).1 :: (timesF m k (m st).2).1, (timesF m k (m st).2).2)
def argsOf (k : Int) : Nat := if k = 0 then 0 else if k = 7 ∨ k = 8 then 2 else 1
def nmF (k : Int) (st : St) : Str × St := if k = 1 ∨ k = 2 then nF st else ([], st)
def stmtF : Nat → St → Sm × St
  | 0, st => (sm0, badF 9 st)
  | d + 1, st => if st.2 ≠ 0 then (sm0, st)
    else
      let w := wF (mustF 40 st)
      let k := stKind w.1
      let nm := nmF k (if k = 0 then badF 1 w.2 else w.2)
      let a := timesF (exprF d) (argsOf k) nm.2
      if k = 3 then
        let t := manyF (stmtF d) (mustF 40 a.2)
        let e := manyF (stmtF d) (mustF 40 t.2)
        (.mk k nm.1 a.1 t.1 e.1, mustF 41 e.2)
      else if k = 4 then
        let t := manyF (stmtF d) a.2
        (.mk k nm.1 a.1 t.1 [], t.2)
      else (.mk k nm.1 a.1 [] [], mustF 41 a.2)
def fnF (st : St) : Fnc × St :=
  let nm := nF (mustF 40 st)
  let ps := manyF nF (mustF 40 nm.2)
  let b := manyF (stmtF 11) ps.2
  (⟨nm.1, ps.1, b.1⟩, b.2)
def fnsF : Nat → St → List Fnc × St
  | 0, st => ([], st)
  | k + 1, st => if st.2 = 0 ∧ nxt st.1 ≠ 0 then ((fnF (trim st.1, 0)).1 :: (fnsF k (fnF (trim st.1, 0)).2).1, (fnsF k (fnF (trim st.1, 0)).2).2) else ([], (if st.2 = 0 then trim st.1 else st.1, st.2))
def parseF (s : Str) : List Fnc × Int := if 1500 < s.length then ([], 4) else if (fnsF (s.length + 2) (s, 0)).2.2 ≠ 0 then ([], (fnsF (s.length + 2) (s, 0)).2.2) else ((fnsF (s.length + 2) (s, 0)).1, 0)
structure Nice {α : Type} (m : St → α × St) : Prop where
  le : ∀ st, (m st).2.1.length ≤ st.1.length
  stuck : ∀ st, st.2 ≠ 0 → (m st).2.2 ≠ 0
  eats : ∀ st, st.2 = 0 → (m st).2.2 = 0 → (m st).2.1.length < st.1.length
theorem bad_err {e : Int} {st : St} (h : e ≠ 0) : (badF e st).2 ≠ 0 := by
  unfold badF
  by_cases h2 : st.2 = 0 <;> simp [h2, h]
theorem bad_stuck {e : Int} {st : St} (h : st.2 ≠ 0) : (badF e st).2 ≠ 0 := by
  unfold badF; simp [h]
theorem must_stuck {c : Int} {st : St} (h : st.2 ≠ 0) : (mustF c st).2 ≠ 0 := by rw [must_err c st h]; exact h
theorem must_eats {c : Int} {st : St} (hc : c ≠ 0) (h : (mustF c st).2 = 0) : (mustF c st).1.length < st.1.length := by
  unfold mustF at *
  by_cases hn : nxt st.1 = c
  · rw [if_pos hn]
    obtain ⟨x, r, hx⟩ := zem (by rw [hn]; exact hc)
    have := trim_le st.1
    simp only [hx, List.drop_succ_cons, List.drop_zero, List.length_cons] at *
    omega
  · rw [if_neg hn] at h
    refine absurd h (bad_err ?_)
    split <;> decide
theorem w_stuck {st : St} (h : st.2 ≠ 0) : (wF st).2.2 ≠ 0 := by
  unfold wF
  dsimp only
  split
  · exact bad_stuck h
  · exact h
theorem w_eats {st : St} (h : (wF st).2.2 = 0) : (wF st).2.1.length < st.1.length := by
  have ht := trim_le st.1
  unfold wF at *
  dsimp only at *
  split at h
  · refine absurd h (bad_err ?_)
    split <;> decide
  · rename_i hne
    rw [if_neg hne]
    have e : (trim st.1).takeWhile wordC ++ (trim st.1).dropWhile wordC = trim st.1 := List.takeWhile_append_dropWhile
    have e2 := congrArg List.length e
    rw [List.length_append] at e2
    have := List.length_pos_iff.2 hne
    simp only
    omega
theorem n_stuck {st : St} (h : st.2 ≠ 0) : (nF st).2.2 ≠ 0 := by
  unfold nF
  dsimp only
  split
  · exact w_stuck h
  · exact bad_stuck (w_stuck h)
theorem nice_n : Nice nF where
  le st := (zzr st).2
  stuck _ h := n_stuck h
  eats st _ h := by
    unfold nF at *
    dsimp only at *
    split at h
    · rename_i hn
      rw [if_pos hn]; exact w_eats h
    · exact absurd h (bad_err (by decide))
def left (st : St) : Nat := if st.2 = 0 then st.1.length + 1 else 0
theorem left_lt {α : Type} {m : St → α × St} (hm : Nice m) {st : St} (h : st.2 = 0) : left (m (trim st.1, 0)).2 < left st := by
  unfold left
  rw [if_pos h]
  have := trim_le st.1
  split
  · rename_i h2
    have := hm.eats (trim st.1, 0) rfl h2
    simp only at this; omega
  · omega
theorem left_le (st : St) : left st < st.1.length + 2 := by unfold left; split <;> omega
theorem until_le {α : Type} {m : St → α × St} (hm : Nice m) : ∀ (k : Nat) (st : St), (untilF m k st).2.1.length ≤ st.1.length
  | 0, st => Nat.le_refl _
  | k + 1, st => by
    unfold untilF
    split
    · have := until_le hm k (m (trim st.1, 0)).2
      have h2 := hm.le (trim st.1, 0)
      have h3 := trim_le st.1
      simp only at *; omega
    · exact must_le 41 st
theorem until_end {α : Type} {m : St → α × St} (hm : Nice m) : ∀ (k : Nat) (st : St), left st < k → ((untilF m k st).2.2 = 0 → st.2 = 0 ∧ (untilF m k st).2.1.length < st.1.length)
  | 0, st, h, _ => absurd h (by omega)
  | k + 1, st, h, h2 => by
    unfold untilF at *
    split
    · rename_i hc
      rw [if_pos hc] at h2
      have hl := left_lt hm (st := st) hc.1
      obtain ⟨a, b⟩ := until_end hm k _ (by omega) h2
      have h3 := hm.le (trim st.1, 0)
      have h4 := trim_le st.1
      refine ⟨hc.1, ?_⟩
      simp only at *; omega
    · rename_i hc
      rw [if_neg hc] at h2
      refine ⟨Classical.byContradiction fun h0 => must_stuck h0 h2, must_eats (by decide) h2⟩
theorem many_le {α : Type} {m : St → α × St} (hm : Nice m) (st : St) : (manyF m st).2.1.length ≤ st.1.length := until_le hm _ st
theorem nice_many {α : Type} {m : St → α × St} (hm : Nice m) : Nice (manyF m) where
  le st := many_le hm st
  stuck st h h2 := h (until_end hm _ st (left_le st) h2).1
  eats st _ h2 := (until_end hm _ st (left_le st) h2).2
theorem quoted_le (t : Str) (e : Int) : (quotedF t e).2.1.length ≤ t.length - 1 := by
  have h1 : (t.drop 1).length = t.length - 1 := List.length_drop
  have h2 : ((t.drop 1).dropWhile (· != 39)).length ≤ (t.drop 1).length := (List.dropWhile_sublist _).length_le
  have h3 : (((t.drop 1).dropWhile (· != 39)).drop 1).length ≤ ((t.drop 1).dropWhile (· != 39)).length := by rw [List.length_drop]; omega
  unfold quotedF
  split
  · dsimp only
    split
    · show (((t.drop 1).dropWhile (· != 39)).drop 1).length ≤ _; omega
    · show (((t.drop 1).dropWhile (· != 39)).drop 1).length ≤ _; omega
  · show (t.drop 1).length ≤ _; omega
theorem plain_le (st : St) : (plainF st).2.1.length ≤ st.1.length := by
  have h := (zij st).2
  unfold plainF
  split <;> dsimp only <;> split <;> exact h
theorem plain_eats {st : St} (h : (plainF st).2.2 = 0) : (plainF st).2.1.length < st.1.length := by
  unfold plainF at *
  split at h <;> dsimp only at * <;> split at h
  · exact absurd h (bad_err (by decide))
  · rename_i h2; rw [if_neg h2]; exact w_eats h
  · rename_i h2; rw [if_pos h2]; exact w_eats h
  · exact absurd h (bad_err (by decide))
theorem form_le {m : St → Ex × St} (hm : Nice m) (w : Str) (st : St) : (formF m w st).2.1.length ≤ st.1.length := by
  unfold formF
  split <;> dsimp only
  · split <;> exact many_le hm st
  · have : ∀ s : St, s.1.length = st.1.length → (manyF m s).2.1.length ≤ st.1.length := fun s hs => hs ▸ many_le hm s
    have h1 := this (if name w then st else badF 7 st) (by split <;> rfl)
    generalize (if name w = true then st else badF 7 st) = s at h1 ⊢
    split <;> exact h1
theorem form_zero {m : St → Ex × St} (hm : Nice m) {w : Str} {st : St} (h : (formF m w st).2.2 = 0) : st.2 = 0 := by
  have key : ∀ s : St, (manyF m s).2.2 = 0 → s.2 = 0 := fun s h => Classical.byContradiction fun h0 => (nice_many hm).stuck s h0 h
  have key2 : (if name w then st else badF 7 st).2 = 0 → st.2 = 0 := fun h => by
    split at h
    · exact h
    · exact absurd h (bad_err (by decide))
  unfold formF at h
  cases hw : headOf w with
  | some p =>
    obtain ⟨k, n, want⟩ := p
    rw [hw] at h
    dsimp only at h
    split at h
    · exact key _ h
    · exact absurd h (bad_err (by decide))
  | none =>
    rw [hw] at h
    dsimp only at h
    generalize (if name w = true then st else badF 7 st) = s at h key2
    split at h
    · exact key2 (key _ h)
    · exact absurd h (bad_err (by decide))
theorem nice_expr : ∀ d, Nice (exprF d)
  | 0 => ⟨fun st => Nat.le_refl _, fun st h => bad_stuck h, fun st _ h => absurd h (bad_err (by decide))⟩
  | d + 1 => by
    have ih := nice_expr d
    have step : ∀ st : St, st.2 = 0 → nxt st.1 = 40 ∨ nxt st.1 = 39 → ∃ c r, trim st.1 = c :: r := fun st _ h => zem (by rcases h with h | h <;> rw [h] <;> decide)
    refine ⟨fun st => ?_, fun st h => ?_, fun st h h2 => ?_⟩
    · have ht := trim_le st.1
      unfold exprF
      split
      · exact Nat.le_refl _
      · split
        · have := quoted_le (trim st.1) st.2; omega
        · split
          · have := plain_le (trim st.1, st.2); simp only at this; omega
          · have h1 := form_le ih (wF ((trim st.1).drop 1, st.2)).1 (wF ((trim st.1).drop 1, st.2)).2
            have h2 := (zij ((trim st.1).drop 1, st.2)).2
            simp only [List.length_drop] at h2; omega
    · unfold exprF; rw [if_pos h]; exact h
    · have ht := trim_le st.1
      unfold exprF at *
      rw [if_neg (by simpa using h)] at *
      by_cases h39 : nxt st.1 = 39
      · rw [if_pos h39] at *
        obtain ⟨c, r, hc⟩ := step st h (.inr h39)
        have := quoted_le (trim st.1) st.2
        have hl : (trim st.1).length = r.length + 1 := by rw [hc]; rfl
        omega
      · rw [if_neg h39] at *
        by_cases h40 : nxt st.1 ≠ 40
        · rw [if_pos h40] at *
          have := plain_eats h2
          simp only at this; omega
        · rw [if_neg h40] at *
          have h1 := form_le ih (wF ((trim st.1).drop 1, st.2)).1 (wF ((trim st.1).drop 1, st.2)).2
          have h3 := w_eats (form_zero ih h2)
          simp only [List.length_drop] at h3; omega
end VM
end Go.Proofs.YtpllgpgdcbgalaaDoor
set_option maxRecDepth 8000
namespace Go.Proofs.YtpllgpgdcbgalaaDoor
open Go Go.RowKit
namespace VM
def Flow (a b : St) : Prop := b.1.length ≤ a.1.length ∧ (b.2 = 0 → a.2 = 0)
theorem Flow.refl (a : St) : Flow a a := ⟨Nat.le_refl _, id⟩
theorem Flow.trans {a b c : St} (h : Flow a b) (k : Flow b c) : Flow a c := ⟨Nat.le_trans k.1 h.1, fun e => h.2 (k.2 e)⟩
theorem not_zero {a b : Int} (h : a ≠ 0 → b ≠ 0) : b = 0 → a = 0 := fun e => Classical.byContradiction fun h0 => h h0 e
theorem flow_must (c : Int) (st : St) : Flow st (mustF c st) := ⟨must_le c st, not_zero must_stuck⟩
theorem flow_w (st : St) : Flow st (wF st).2 := ⟨(zij st).2, not_zero w_stuck⟩
theorem flow_bad (e : Int) (st : St) : Flow st (badF e st) := ⟨Nat.le_refl _, not_zero bad_stuck⟩
theorem Nice.flow {α : Type} {m : St → α × St} (h : Nice m) (st : St) : Flow st (m st).2 := ⟨h.le st, not_zero (h.stuck st)⟩
theorem flow_times {α : Type} {m : St → α × St} (h : Nice m) : ∀ (k : Nat) (st : St), Flow st (timesF m k st).2
  | 0, st => .refl _
  | k + 1, st => by unfold timesF; exact (h.flow st).trans (flow_times h k _)
theorem flow_nm (k : Int) (st : St) : Flow st (nmF k st).2 := by
  unfold nmF
  split
  · exact nice_n.flow st
  · exact .refl _
theorem nice_stmt : ∀ d, Nice (stmtF d)
  | 0 => ⟨fun st => Nat.le_refl _, fun st h => bad_stuck h, fun st _ h => absurd h (bad_err (by decide))⟩
  | d + 1 => by
    have ih := nice_stmt d
    have key : ∀ st : St, ¬ st.2 ≠ 0 → Flow (mustF 40 st) (stmtF (d + 1) st).2 := by
      intro st h
      simp only [stmtF]
      rw [if_neg h]
      have f1 := flow_w (mustF 40 st)
      generalize wF (mustF 40 st) = w at f1 ⊢
      have f2 : Flow w.2 (if stKind w.1 = 0 then badF 1 w.2 else w.2) := by
        split
        · exact flow_bad 1 _
        · exact .refl _
      generalize (if stKind w.1 = 0 then badF 1 w.2 else w.2) = s1 at f2 ⊢
      have f3 := flow_nm (stKind w.1) s1
      generalize nmF (stKind w.1) s1 = nm at f3 ⊢
      have f4 := flow_times (nice_expr d) (argsOf (stKind w.1)) nm.2
      generalize timesF (exprF d) (argsOf (stKind w.1)) nm.2 = a at f4 ⊢
      have f5 := ((f1.trans f2).trans f3).trans f4
      split
      · exact ((((f5.trans (flow_must 40 _)).trans ((nice_many ih).flow _)).trans (flow_must 40 _)).trans ((nice_many ih).flow _)).trans (flow_must 41 _)
      · split
        · exact f5.trans ((nice_many ih).flow _)
        · exact f5.trans (flow_must 41 _)
    refine ⟨fun st => ?_, fun st h => ?_, fun st h h2 => ?_⟩
    · by_cases h : st.2 ≠ 0
      · unfold stmtF; rw [if_pos h]; exact Nat.le_refl _
      · exact Nat.le_trans (key st h).1 (must_le 40 st)
    · unfold stmtF; rw [if_pos h]; exact h
    · have k := key st (by simpa using h)
      exact Nat.lt_of_le_of_lt k.1 (must_eats (by decide) (k.2 h2))
theorem nice_fn : Nice fnF := by
  have key : ∀ st : St, Flow (mustF 40 st) (fnF st).2 := fun st => by
    unfold fnF
    exact (((nice_n.flow _).trans (flow_must 40 _)).trans ((nice_many nice_n).flow _)).trans ((nice_many (nice_stmt 11)).flow _)
  refine ⟨fun st => Nat.le_trans (key st).1 (must_le 40 st), fun st h h2 => h ((flow_must 40 st).2 ((key st).2 h2)), fun st h h2 => Nat.lt_of_le_of_lt (key st).1 (must_eats (by decide) ((key st).2 h2))⟩
end VM
section
variable {g : Nat} {st : VM.St} {H : Heap} {n : Nat} {Q : QT}
theorem zpz {α : Type} {m : VM.St → α × VM.St} (hm : VM.Nice m) {fid : FuncId} {cap : List AV} (I : List α → VM.St → Heap → Nat → Prop)
    (hI : ∀ l st H n, I l st H n → H g = some (PR st))
    (hput : ∀ l st st' H n, I l st H n → VM.Flow st st' → I l st' (H.put g (some (PR st'))) n)
    (hstep : ∀ l st H n (K : QT), I l st H n → st.2 = 0 → (∀ H' n', I (l ++ [(m st).1]) (m st).2 H' n' → K (.tup []) H' n') → za Tryd.prog fid cap H n K)
    (h0 : I [] st H n) (hq : ∀ H' n', I (VM.manyF m st).1 (VM.manyF m st).2 H' n' → Q (.tup []) H' n') : za Tryd.prog 30 [.ptr g 0, .clo fid cap] H n Q := by
  refine zmz _ _ _ _ _ ?_
  unfold zjm
  refine LP.mk (fun k xs H' n' => xs = [.ptr g 0, .clo fid cap] ∧ ∃ l s1, I l s1 H' n' ∧ VM.left s1 < k ∧ VM.manyF m st = (l ++ (VM.untilF m k s1).1, (VM.untilF m k s1).2)) _ ⟨rfl, [], st, h0, VM.left_le st, rfl⟩ ?_
  rintro k xs H' n' ⟨rfl, l, s1, hi, hle, hgo⟩
  generalize hJ : (fun (xs : List AV) (H : Heap) (nx : Nat) => ∃ j, j < k ∧ xs = [.ptr g 0, .clo fid cap] ∧ ∃ l s1, I l s1 H nx ∧ VM.left s1 < j ∧ VM.manyF m st = (l ++ (VM.untilF m j s1).1, (VM.untilF m j s1).2)) = J
  match k, hle with
  | k + 1, hle =>
  have hg := hI _ _ _ _ hi
  have hg' : H' g = some (.row 2 [.str s1.1, .int .i64 s1.2]) := hg
  rw [hgo] at hq
  by_cases he : s1.2 = 0
  · simp [zet, hg', he]
    refine zmr hg ?_
    have hpeek := hput l s1 (VM.trim s1.1, s1.2) H' n' hi ⟨VM.trim_le _, id⟩
    have hg2 : (H'.put g (some (PR (VM.trim s1.1, s1.2)))) g = some (PR (VM.trim s1.1, s1.2)) := Heap.put_at _ _ _
    have hP : ∀ o, (H'.put g (some (PR (VM.trim s1.1, s1.2)))).put g o = H'.put g o := fun o => Heap.put_put ..
    generalize H'.put g (some (PR (VM.trim s1.1, s1.2))) = HX at *
    by_cases hn : VM.nxt s1.1 = 41
    · simp [zeu, hn]
      refine zen (by decide) hg2 ?_
      rw [VM.must_trim, hP]
      simp only [VM.untilF, he, hn, ne_eq, not_true_eq_false, and_false, if_false, List.append_nil] at hq
      exact hq _ _ (hput l s1 _ H' n' hi (VM.flow_must 41 s1))
    · simp [zeu, hn, CALL]
      refine hstep l (VM.trim s1.1, s1.2) HX n' _ hpeek he fun H2 n2 h3 => ?_
      rw [← hJ]
      rw [he] at h3
      have hl := VM.left_lt hm (st := s1) he
      refine ⟨k, by omega, rfl, _, _, h3, by omega, ?_⟩
      rw [hgo]
      simp only [VM.untilF, he, hn, ne_eq, not_false_eq_true, and_true, if_true, List.append_assoc, List.singleton_append]
  · simp [zet, hg', he]
    refine zen (by decide) hg ?_
    simp only [VM.untilF, he, false_and, if_false, List.append_nil] at hq
    exact hq _ _ (hput l s1 _ H' n' hi (VM.flow_must 41 s1))
end
end Go.Proofs.YtpllgpgdcbgalaaDoor
namespace Go.Proofs.YtpllgpgdcbgalaaDoor
open Go Go.RowKit
inductive Rn (R : Nat → Prop) (gn g0 : Nat) : AV → AV → Prop
  | same (v : AV) : Bel R v → Rn R gn g0 v v
  | slc (off len : Nat) : Rn R gn g0 (.slc gn off len) (.slc g0 off len)
  | ptr (off : Nat) : Rn R gn g0 (.ptr gn off) (.ptr g0 off)
  | amap : Rn R gn g0 (.amap gn) (.amap g0)
  | agg (xs ys : List AV) : ys.length = xs.length → (∀ (j : Nat) (v u : AV), xs[j]? = some v → ys[j]? = some u → Rn R gn g0 v u) → Rn R gn g0 (.agg xs) (.agg ys)
theorem zow {D : zt} : ∀ {H : Heap} {g : Nat}, g ∉ domD D → (H.apply D) g = H g := by
  induction D with
  | nil => intros; rfl
  | cons d r ih =>
    obtain ⟨g', o⟩ := d
    intro H g hg
    simp only [domD, List.map_cons, List.mem_cons, not_or] at hg
    show ((H.put g' o).apply r) g = H g
    rw [ih (by simpa [domD] using hg.2), Heap.put_ne _ _ hg.1]
end Go.Proofs.YtpllgpgdcbgalaaDoor
namespace Go.Proofs.YtpllgpgdcbgalaaDoor
open Go Go.RowKit
theorem zxt {D : zt} : ∀ {H H' : Heap} {g : Nat}, g ∈ domD D → (H.apply D) g = (H'.apply D) g := by
  induction D with
  | nil => intro H H' g hg; simp at hg
  | cons d r ih =>
    obtain ⟨g', o⟩ := d
    intro H H' g hg
    show ((H.put g' o).apply r) g = ((H'.put g' o).apply r) g
    by_cases hr : g ∈ domD r
    · exact ih hr
    · rw [zow hr, zow hr]
      have : g = g' := by simpa [hr] using hg
      subst this
      rw [Heap.put_at, Heap.put_at]
theorem LC.of_calls {P : Program} {f : FuncId} {args : List AV} {r : AV} {H0 : Heap} {rd : List Nat} {D : zt} (hrd : ∀ g ∈ rd, (H0 g).isSome = true) (hdom : ∀ g ∈ domD D, g ∈ rd) (hr : ∀ A : Nat → Prop, (∀ g ∈ rd, A g) → (∀ g ∈ rd, ∀ o, H0 g = some o → BelO A o) → Bel A r)
    (hb : ∀ A : Nat → Prop, (∀ g ∈ rd, A g) → (∀ g ∈ rd, ∀ o, H0 g = some o → BelO A o) → ∀ g o, g ∈ domD D → (H0.apply D) g = some o → BelO A o)
    (h : ∀ H nx, (∀ g ∈ rd, H g = H0 g ∧ g < nx) → za P f args H nx fun v H' nx' => v = r ∧ nx ≤ nx' ∧ (∀ g, g < nx → g ∉ domD D → H' g = H g) ∧ (∀ g o, g ∈ domD D → (H0.apply D) g = some o → H' g = some o)) : LC P f args H0 rd [] D r := by
  intro A ρ H w cargs ⟨N, hN⟩ s ha hag _
  have sN : Sim (· < N) ρ H w := ⟨fun g o ho => hN g (s.live g o ho), fun g o ho => (s.obj g o ho).mono rfl (fun _ _ h => h) (fun g hg => ⟨rfl, hN g hg⟩), s.inj, s.lay⟩
  have aN : LRel (Kof ρ H w) ρ (· < N) args cargs.toList := ⟨ha.1, fun j v c hv hc => (ha.2 j v c hv hc).mono (fun _ _ h => h) (fun g hg => ⟨rfl, hN g hg⟩)⟩
  have hrdA : ∀ g ∈ rd, A g := fun g hg => by
    obtain ⟨o, ho⟩ := Option.isSome_iff_exists.1 (hrd g hg)
    exact s.live g o ((hag g hg).trans ho)
  have hrdB : ∀ g ∈ rd, ∀ o, H0 g = some o → BelO A o := fun g hg o ho => (s.obj g o ((hag g hg).trans ho)).bel
  refine zbe (h H N (fun g hg => ⟨hag g hg, hN g (hrdA g hg)⟩) ρ w cargs sN aN) fun cv w' ⟨v, H', nx', ρ', ⟨hv, hnx, hsame, hchg⟩, q3, q4, q5⟩ => ?_
  subst hv
  have hρ : ∀ g, g < N → ρ' g = ρ g := fun g hg => (q5.agree g hg).1
  have hAe : (fun x => A x ∨ x ∈ ([] : List Nat)) = A := by funext x; simp
  have lv : ∀ g o, (H.apply D) g = some o → A g ∧ H' g = some o ∧ BelO A o := fun g o ho => by
    by_cases hg : g ∈ domD D
    · rw [zxt (H' := H0) hg] at ho
      exact ⟨hrdA g (hdom g hg), hchg g o hg ho, hb A hrdA hrdB g o hg ho⟩
    · rw [zow hg] at ho
      have hA := s.live g o ho
      exact ⟨hA, by rw [hsame g (hN g hA) hg]; exact ho, (s.obj g o ho).bel⟩
  have hK : ∀ b o, Kof ρ' H' w' b = some o → Kof ρ' (H.apply D) w' b = some o := fun b o hb => by
    obtain ⟨h1, h2⟩ := zn.1 hb
    refine zn.2 ⟨fun g hg => ?_, h2⟩
    obtain ⟨o1, ho1⟩ := Option.isSome_iff_exists.1 hg
    exact h1 g (by rw [(lv g o1 ho1).2.1]; rfl)
  refine ⟨ρ', ?_, ?_, ?_⟩
  · rw [hAe]
    refine ⟨fun g o ho => (lv g o ho).1, fun g o ho => ?_, fun x y hx hy hxy => ?_, q3.lay.mono hK⟩
    · obtain ⟨_, h1, h2⟩ := lv g o ho
      exact ((q3.obj g o h1).restrict h2).mono rfl hK (fun _ h => ⟨rfl, h⟩)
    · obtain ⟨o1, ho1⟩ := Option.isSome_iff_exists.1 hx
      obtain ⟨o2, ho2⟩ := Option.isSome_iff_exists.1 hy
      exact q3.inj x y (by rw [(lv x o1 ho1).2.1]; rfl) (by rw [(lv y o2 ho2).2.1]; rfl) hxy
  · rw [hAe]
    exact (q4.restrict (hr A hrdA hrdB)).mono hK (fun g hg => ⟨rfl, hg⟩)
  · rw [hAe]
    exact ⟨fun g hg => ⟨hρ g (hN g hg), hg⟩, fun b o hb => hK b o (q5.k b o hb), q5.os, q5.tape, q5.output, q5.size⟩
end Go.Proofs.YtpllgpgdcbgalaaDoor
set_option maxRecDepth 8000
namespace Go.Proofs.YtpllgpgdcbgalaaDoor
open Go Go.RowKit
namespace VM
theorem left_lt' {α : Type} {m : St → α × St} (hm : Nice m) {st : St} (h : st.2 = 0) : left (m st).2 < left st := by
  unfold left
  rw [if_pos h]
  split
  · rename_i h2
    have := hm.eats st h h2
    omega
  · omega
theorem Flow.left {a b : St} (h : Flow a b) : left b ≤ left a := by
  unfold VM.left
  split
  · rename_i h2
    rw [if_pos (h.2 h2)]; have := h.1; omega
  · omega
end VM
section
variable {g : Nat} {st st' : VM.St} {H : Heap} {n : Nat} {Q : QT}
theorem zvh (A : Nat → Prop) : BelO A (PR st) := by
  intro i y hy
  match i with
  | 0 => simp [PR] at hy; subst hy; exact .str _
  | 1 => simp [PR] at hy; subst hy; exact .int _ _
  | i + 2 => simp [PR] at hy
theorem za.parser {P : Program} {f : FuncId} {args : List AV} {r : AV} (hg : H g = some (PR st)) (hraw : g < n → za P f args H n fun v H' _ => Frz H' n v r ∧ H' g = some (PR st') ∧ ∀ y, y < n → y ≠ g → H' y = H y) (hq : Q r (H.put g (some (PR st'))) n) : za P f args H n Q := by
  refine za.tidy fun hlive => ?_
  have hgn := hlive g _ hg
  refine (za.gc (R := fun v H' => v = r ∧ H' = H.put g (some (PR st'))) (hraw hgn) fun v H' n' ⟨h1, h2, h3⟩ => ⟨r, _, ⟨rfl, rfl⟩, h1, fun y o ho => ?_⟩).mono fun v H' n' ⟨⟨h1, h2⟩, h3⟩ => by subst h1; subst h2; subst h3; exact hq
  by_cases hy : y = g
  · subst hy
    rw [Heap.put_at] at ho
    cases ho
    exact ⟨hgn, h2, .inr (zvh _)⟩
  · rw [Heap.put_ne _ _ hy] at ho
    exact ⟨hlive y o ho, by rw [h3 y (hlive y o ho) hy]; exact ho, .inl ho⟩
end
theorem zft {A : Nat → Prop} {l : List (List AV)} (h : ∀ x ∈ l, ∀ v ∈ x, Bel A v) : Bel A (.ro l) := .ro _ fun _ x _ v hx hv => h x (List.mem_of_getElem? hx) v (List.mem_of_getElem? hv)
mutual
theorem zlc (A : Nat → Prop) : ∀ x : Ex, ∀ v ∈ x.avs, Bel A v
  | .mk k n t ar => by
    rw [Ex.avs]
    intro v hv
    simp only [List.mem_cons, List.not_mem_nil, or_false] at hv
    rcases hv with rfl | rfl | rfl | rfl
    · exact .int _ _
    · exact .int _ _
    · exact .str _
    · exact zft (zvf A ar)
theorem zvf (A : Nat → Prop) : ∀ l : List Ex, ∀ x ∈ Ex.avsL l, ∀ v ∈ x, Bel A v
  | [] => by simp [Ex.avsL]
  | x :: r => by
    rw [Ex.avsL]
    intro y hy
    rcases List.mem_cons.1 hy with rfl | h
    · exact zlc A x
    · exact zvf A r y h
end
theorem zmv (x : Ex) (A : Nat → Prop) : Bel A (.agg x.avs) := .agg _ fun _ v hv => zlc A x v (List.mem_of_getElem? hv)
def zgs (d : Nat) : Prop := ∀ (st : VM.St) (g : Nat) (H : Heap) (n : Nat) (Q : QT), st.1.length ≤ 1500 → H g = some (PR st) → Q (.agg (VM.exprF d st).1.avs) (H.put g (some (PR (VM.exprF d st).2))) n → za Tryd.prog 69 [.ptr g 0, .int .i64 (11 - (d : Int))] H n Q
theorem LC.parser {f : FuncId} {args : List AV} {r : AV} {g : Nat} {st st' : VM.St} {H : Heap} (hg : H g = some (PR st)) (hr : ∀ A : Nat → Prop, Bel A r)
    (h : ∀ (H : Heap) (n : Nat) (Q : QT), H g = some (PR st) → Q r (H.put g (some (PR st'))) n → za Tryd.prog f args H n Q) : LC Tryd.prog f args H [g] [] [(g, some (PR st'))] r := by
  refine LC.of_calls (fun x hx => ?_) (by simp [domD]) (fun A _ _ => hr A) (fun A _ _ x o hx ho => ?_) fun H' n' ha => ?_
  · simp at hx; subst hx; rw [hg]; rfl
  · simp [domD] at hx; subst hx
    simp [Heap.put_at] at ho
    subst ho
    exact zvh _
  · obtain ⟨a1, a2⟩ := ha g (by simp)
    refine h H' n' _ (a1.trans hg) ⟨rfl, Nat.le_refl _, fun x _ hx => ?_, fun x o hx ho => ?_⟩
    · simp [domD] at hx
      exact Heap.put_ne _ _ hx
    · simp [domD] at hx; subst hx
      simp [Heap.put_at] at ho
      rw [Heap.put_at, ho]
theorem zj.expr {d : Nat} (hE : zgs d) {st : VM.St} {g n : Nat} {H : Heap} {z : Int} {kt : Kt} (hz : z = 11 - (d : Int)) (hs : st.1.length ≤ 1500) (hg : H g = some (PR st)) (hk : kt (.agg (VM.exprF d st).1.avs) [g] [] [(g, some (PR (VM.exprF d st).2))]) : zj Tryd.prog (.clo 69 []) [.ptr g 0, .int .i64 z] H n kt := by
  subst hz
  exact ⟨_, [g], [], _, .inl rfl, LC.parser hg (zmv _) fun H n Q h1 h2 => hE st g H n Q hs h1 h2, hk⟩
def rowE (l : List Ex) : List AV := (l.map Ex.avs).flatten
theorem zte (l : List Ex) : (rowE l).length = l.length * 4 := by
  unfold rowE
  induction l with
  | nil => rfl
  | cons x r ih => rw [List.map_cons, List.flatten_cons, List.length_append, ih, zbc, List.length_cons]; omega
theorem zlo (l : List Ex) (x : Ex) : rowE (l ++ [x]) = rowE l ++ x.avs := by simp [rowE]
inductive ArgS (H : Heap) (lo hi gx : Nat) : List Ex → AV → Prop
  | nil : ArgS H lo hi gx [] .nils
  | row {l : List Ex} {ga : Nat} : lo ≤ ga → ga < hi → ga ≠ gx → H ga = some (.row 4 (rowE l)) → ArgS H lo hi gx l (.slc ga 0 l.length)
structure ExL (H0 : Heap) (b g gx : Nat) (dz : Int) (c0 c1 c2 : AV) (l : List Ex) (st : VM.St) (H : Heap) (n : Nat) : Prop where
  r0 : H b = some (.row 1 [.ptr g 0])
  r1 : H (b + 1) = some (.row 1 [.int .i64 dz])
  r2 : ∃ cs, H (b + 2) = some (.row 4 cs) ∧ cs.length = 4
  rx : ∃ A, H gx = some (.row 4 [c0, c1, c2, A]) ∧ ArgS H (b + 3) n gx l A
  rg : H g = some (PR st)
  gb : g < b
  gx0 : b + 3 ≤ gx
  gx1 : gx < n
  keep : ∀ y, y < b → y ≠ g → H y = H0 y
  few : l.length + VM.left st ≤ 1502
  short : st.1.length ≤ 1500
theorem ArgS.keep {H H' : Heap} {lo hi hi' gx : Nat} {l : List Ex} {A : AV} (h : ArgS H lo hi gx l A) (hh : hi ≤ hi') (hk : ∀ y, lo ≤ y → y < hi → y ≠ gx → H' y = H y) : ArgS H' lo hi' gx l A := by
  cases h with
  | nil => exact .nil
  | row h1 h2 h3 h4 => exact .row h1 (by omega) h3 (by rw [hk _ h1 h2 h3]; exact h4)
theorem ExL.put {H0 H : Heap} {b g gx n : Nat} {dz : Int} {c0 c1 c2 : AV} {l : List Ex} {st st' : VM.St} (h : ExL H0 b g gx dz c0 c1 c2 l st H n) (hf : VM.Flow st st') : ExL H0 b g gx dz c0 c1 c2 l st' (H.put g (some (PR st'))) n := by
  have hb := h.gb
  have hx := h.gx0
  obtain ⟨cs, h2, h3⟩ := h.r2
  obtain ⟨A, h4, h5⟩ := h.rx
  exact ⟨by rw [Heap.put_ne _ _ (by omega)]; exact h.r0, by rw [Heap.put_ne _ _ (by omega)]; exact h.r1, ⟨cs, by rw [Heap.put_ne _ _ (by omega)]; exact h2, h3⟩, ⟨A, by rw [Heap.put_ne _ _ (by omega)]; exact h4, h5.keep (Nat.le_refl _) fun y hy _ _ => Heap.put_ne _ _ (by omega)⟩, Heap.put_at _ _ _, hb, hx, h.gx1, fun y hy hne => by rw [Heap.put_ne _ _ hne]; exact h.keep y hy hne, by have := hf.left; have := h.few; omega, Nat.le_trans hf.1 h.short⟩
theorem zgo (x : Ex) : ∀ v ∈ x.avs, v.one = true := by
  cases x
  rw [zfc]
  intro v hv
  simp only [List.mem_cons, List.not_mem_nil, or_false] at hv
  rcases hv with rfl | rfl | rfl | rfl <;> rfl
theorem ExL.next {H0 H HF : Heap} {b g gx n : Nat} {dz : Int} {c0 c1 c2 : AV} {l : List Ex} {st st' : VM.St} (h : ExL H0 b g gx dz c0 c1 c2 l st H n) (x : Ex) (hl : VM.left st' < VM.left st) (hle : st'.1.length ≤ st.1.length) (f1 : HF g = some (PR st')) (f2 : HF gx = some (.row 4 [c0, c1, c2, .slc (n + 1) 0 (l.length + 1)])) (f3 : HF (n + 1) = some (.row 4 (rowE (l ++ [x]))))
    (f4 : ∀ y, y < b + 3 → y ≠ g → HF y = H y) : ExL H0 b g gx dz c0 c1 c2 (l ++ [x]) st' HF (n + 2) := by
  have hb := h.gb
  have hx0 := h.gx0
  have hx1 := h.gx1
  have hfew := h.few
  have hsh := h.short
  obtain ⟨cs2, r2, r2l⟩ := h.r2
  refine ⟨by rw [f4 b (by omega) (by omega)]; exact h.r0, by rw [f4 _ (by omega) (by omega)]; exact h.r1, ⟨cs2, by rw [f4 _ (by omega) (by omega)]; exact r2, r2l⟩, ⟨_, f2, ?_⟩, f1, hb, hx0, by omega, fun y hy hne => by rw [f4 y (by omega) hne]; exact h.keep y hy hne, by rw [List.length_append]; simp only [List.length_cons, List.length_nil]; omega, by omega⟩
  have := ArgS.row (H := HF) (lo := b + 3) (hi := n + 2) (gx := gx) (l := l ++ [x]) (ga := n + 1) (by omega) (by omega) (by omega) f3
  rw [List.length_append] at this
  exact this
set_option maxHeartbeats 1000000 in
theorem zyv {d : Nat} (hE : zgs d) {H0 H : Heap} {b g gx n : Nat} {c0 c1 c2 : AV} {l : List Ex} {st : VM.St} {K : QT} (h : ExL H0 b g gx (10 - (d : Int)) c0 c1 c2 l st H n) (he : st.2 = 0) (hd : d ≤ 11)
    (hk : ∀ H' n', ExL H0 b g gx (10 - (d : Int)) c0 c1 c2 (l ++ [(VM.exprF d st).1]) (VM.exprF d st).2 H' n' → K (.tup []) H' n') : za Tryd.prog 81 [.ptr gx 0, .ptr b 0, .ptr (b + 1) 0] H n K := by
  refine zmk _ _ _ _ _ _ ?_
  have hb := h.gb
  have hx0 := h.gx0
  have hx1 := h.gx1
  obtain ⟨A, rx, ra⟩ := h.rx
  have r0 := h.r0
  have r1 := h.r1
  obtain ⟨cs2, r2, r2l⟩ := h.r2
  have hw : IntKind.i64.wrap (10 - (d : Int) + 1) = 10 - (d : Int) + 1 := i64w (by omega)
  have hfew := h.few
  have hleft := VM.left_lt' (VM.nice_expr d) he
  have hle := (VM.nice_expr d).le st
  have hsh := h.short
  cases ra with
  | nil =>
    simp [zea, rx, r0, r1, hw]
    refine zj.expr hE (by omega) h.short h.rg ?_
    have xl := zbc (VM.exprF d st).1
    have xo := zgo (VM.exprF d st).1
    generalize hxa : (VM.exprF d st).1.avs = xa at xl xo
    have xd : xa.drop 4 = [] := List.drop_of_length_le (by omega)
    have ne_0 : g ≠ b ∧ b ≠ g ∧ g ≠ b + 1 ∧ b + 1 ≠ g ∧ g ≠ b + 2 ∧ b + 2 ≠ g ∧ g ≠ gx ∧ gx ≠ g ∧ b ≠ b + 1 ∧ b + 1 ≠ b ∧ b ≠ b + 2 ∧ b + 2 ≠ b ∧ b ≠ gx ∧ gx ≠ b ∧ b + 1 ≠ b + 2 ∧ b + 2 ≠ b + 1 ∧ b + 1 ≠ gx ∧ gx ≠ b + 1 ∧ b + 2 ≠ gx ∧ gx ≠ b + 2 ∧ g ≠ n ∧ n ≠ g ∧ g ≠ n + 1 ∧ n + 1 ≠ g ∧ b ≠ n ∧ n ≠ b ∧ b ≠ n + 1 ∧ n + 1 ≠ b ∧ b + 1 ≠ n ∧ n ≠ b + 1 ∧ b + 1 ≠ n + 1 ∧ n + 1 ≠ b + 1 ∧ b + 2 ≠ n ∧ n ≠ b + 2 ∧ b + 2 ≠ n + 1 ∧ n + 1 ≠ b + 2 ∧ gx ≠ n ∧ n ≠ gx ∧ gx ≠ n + 1 ∧ n + 1 ≠ gx := ⟨by omega, by omega, by omega, by omega, by omega, by omega, by omega, by omega, by omega, by omega, by omega, by omega, by omega, by omega, by omega, by omega, by omega, by omega, by omega, by omega, by omega, by omega, by omega, by omega, by omega, by omega, by omega, by omega, by omega, by omega, by omega, by omega, by omega, by omega, by omega, by omega, by omega, by omega, by omega, by omega⟩
    simp [zeb, rx, xl, xd, hxa, ne_0]
    refine ⟨xo, hk _ _ (h.next _ (by omega) hle ?_ ?_ ?_ fun y hy hne => ?_)⟩
    · rw [Heap.put_ne _ _ (by omega), Heap.put_ne _ _ (by omega), Heap.put_ne _ _ (by omega), Heap.put_at]
    · rw [Heap.put_at]; rfl
    · rw [Heap.put_ne _ _ (by omega), Heap.put_at, zlo, hxa]; rfl
    · rw [Heap.put_ne _ _ (by omega), Heap.put_ne _ _ (by omega), Heap.put_ne _ _ (by omega), Heap.put_ne _ _ hne]
  | @row l ga a1 a2 a3 a4 =>
    simp [zea, rx, r0, r1, hw]
    refine zj.expr hE (by omega) h.short h.rg ?_
    have xl := zbc (VM.exprF d st).1
    have xo := zgo (VM.exprF d st).1
    generalize hxa : (VM.exprF d st).1.avs = xa at xl xo
    have xd : xa.drop 4 = [] := List.drop_of_length_le (by omega)
    have rl := zte l
    have h1 : (l.length + 1) * 56 ≤ 140737488355328 := by omega
    have h2 : (l.length : Int) < l.length + 1 := by omega
    have h3 : (rowE l).take (l.length * 4) = rowE l := List.take_of_length_le (by omega)
    have ne_1 : g ≠ b ∧ b ≠ g ∧ g ≠ b + 1 ∧ b + 1 ≠ g ∧ g ≠ b + 2 ∧ b + 2 ≠ g ∧ g ≠ gx ∧ gx ≠ g ∧ g ≠ ga ∧ ga ≠ g ∧ b ≠ b + 1 ∧ b + 1 ≠ b ∧ b ≠ b + 2 ∧ b + 2 ≠ b ∧ b ≠ gx ∧ gx ≠ b ∧ b ≠ ga ∧ ga ≠ b ∧ b + 1 ≠ b + 2 ∧ b + 2 ≠ b + 1 ∧ b + 1 ≠ gx ∧ gx ≠ b + 1 ∧ b + 1 ≠ ga ∧ ga ≠ b + 1 ∧ b + 2 ≠ gx ∧ gx ≠ b + 2 ∧ b + 2 ≠ ga ∧ ga ≠ b + 2 ∧ gx ≠ ga ∧ ga ≠ gx ∧ g ≠ n ∧ n ≠ g ∧ g ≠ n + 1 ∧ n + 1 ≠ g ∧ b ≠ n ∧ n ≠ b ∧ b ≠ n + 1 ∧ n + 1 ≠ b ∧ b + 1 ≠ n ∧ n ≠ b + 1 ∧ b + 1 ≠ n + 1 ∧ n + 1 ≠ b + 1 ∧ b + 2 ≠ n ∧ n ≠ b + 2 ∧ b + 2 ≠ n + 1 ∧ n + 1 ≠ b + 2 ∧ gx ≠ n ∧ n ≠ gx ∧ gx ≠ n + 1 ∧ n + 1 ≠ gx ∧ ga ≠ n ∧ n ≠ ga ∧ ga ≠ n + 1 ∧ n + 1 ≠ ga := ⟨by omega, by omega, by omega, by omega, by omega, by omega, by omega, by omega, by omega, by omega, by omega, by omega, by omega, by omega, by omega, by omega, by omega, by omega, by omega, by omega, by omega, by omega, by omega, by omega, by omega, by omega, by omega, by omega, by omega, by omega, by omega, by omega, by omega, by omega, by omega, by omega, by omega, by omega, by omega, by omega, by omega, by omega, by omega, by omega, by omega, by omega, by omega, by omega, by omega, by omega, by omega, by omega, by omega, by omega⟩
    simp [zeb, rx, a4, rl, h1, h2, h3, xl, xd, hxa, ne_1]
    have h4 : (rowE l ++ [AV.int .i64 0, .int .i64 0, .str [], .nils]).drop (l.length * 4 + 4) = [] := List.drop_of_length_le (by rw [List.length_append, rl]; simp)
    rw [h4]
    refine ⟨xo, hk _ _ (h.next _ (by omega) hle ?_ ?_ ?_ fun y hy hne => ?_)⟩
    · rw [Heap.put_ne _ _ (by omega), Heap.put_ne _ _ (by omega), Heap.put_ne _ _ (by omega), Heap.put_ne _ _ (by omega), Heap.put_at]
    · rw [Heap.put_at]
    · rw [Heap.put_ne _ _ (by omega), Heap.put_at, zlo, hxa, List.append_nil]
    · rw [Heap.put_ne _ _ (by omega), Heap.put_ne _ _ (by omega), Heap.put_ne _ _ (by omega), Heap.put_ne _ _ (by omega), Heap.put_ne _ _ hne]
end Go.Proofs.YtpllgpgdcbgalaaDoor
set_option maxRecDepth 8000
namespace Go.Proofs.YtpllgpgdcbgalaaDoor
open Go Go.RowKit
structure ExE (H0 : Heap) (n g : Nat) (dz : Int) (st : VM.St) (H : Heap) : Prop where
  r0 : H n = some (.row 1 [.ptr g 0])
  r1 : H (n + 1) = some (.row 1 [.int .i64 dz])
  r2 : H (n + 2) = some (.row 4 [.int .i64 0, .int .i64 0, .str [], .nils])
  rg : H g = some (PR st)
  gb : g < n
  keep : ∀ y, y < n → y ≠ g → H y = H0 y
def ExQ (H0 : Heap) (n g : Nat) (r : AV) (st' : VM.St) (Q : QT) : Prop := ∀ v H' n', Frz H' n v r → H' g = some (PR st') → (∀ y, y < n → y ≠ g → H' y = H0 y) → Q v H' n'
theorem ExE.put {H0 H : Heap} {n g : Nat} {dz : Int} {st st' : VM.St} (h : ExE H0 n g dz st H) : ExE H0 n g dz st' (H.put g (some (PR st'))) := by
  have hb := h.gb
  exact ⟨by rw [Heap.put_ne _ _ (by omega)]; exact h.r0, by rw [Heap.put_ne _ _ (by omega)]; exact h.r1, by rw [Heap.put_ne _ _ (by omega)]; exact h.r2, Heap.put_at _ _ _, hb, fun y hy hne => by rw [Heap.put_ne _ _ hne]; exact h.keep y hy hne⟩
theorem zyq {H : Heap} {n : Nat} {k z : Int} {t : Str} : Frz H n (.agg [.int .i64 k, .int .i64 z, .str t, .nils]) (.agg (Ex.mk k z t []).avs) := by
  rw [zfc]
  refine .agg _ _ rfl fun j v u hv hu => ?_
  match j with
  | 0 => cases hv; cases hu; exact .same _ (.int _ _)
  | 1 => cases hv; cases hu; exact .same _ (.int _ _)
  | 2 => cases hv; cases hu; exact .same _ (.str _)
  | 3 => cases hv; cases hu; exact .nils
theorem ExE.leaf {H0 H H' : Heap} {n g m : Nat} {dz k z : Int} {t : Str} {st st' : VM.St} {Q : QT} (h : ExE H0 n g dz st H) (hq : ExQ H0 n g (.agg (Ex.mk k z t []).avs) st' Q) (h1 : H' g = some (PR st')) (h2 : ∀ y, y < n → y ≠ g → H' y = H y) : Q (.agg [.int .i64 k, .int .i64 z, .str t, .nils]) H' m :=
  hq _ _ _ zyq h1 fun y hy hne => by rw [h2 y hy hne]; exact h.keep y hy hne
theorem ExE.leafP {H0 H : Heap} {n g m : Nat} {dz k z : Int} {t : Str} {st st' : VM.St} {o : Option AObj} {Q : QT} (h : ExE H0 n g dz st H) (hq : ExQ H0 n g (.agg (Ex.mk k z t []).avs) st' Q) : Q (.agg [.int .i64 k, .int .i64 z, .str t, .nils]) ((H.put g (some (PR st'))).put (n + 2) o) m := by
  have hb := h.gb
  exact h.leaf hq (by rw [Heap.put_ne _ _ (by omega), Heap.put_at]) fun y hy hne => by rw [Heap.put_ne _ _ (by omega), Heap.put_ne _ _ hne]
theorem ExE.leafN {H0 H : Heap} {n g m : Nat} {dz k z : Int} {t : Str} {st : VM.St} {o : Option AObj} {Q : QT} (h : ExE H0 n g dz st H) (hq : ExQ H0 n g (.agg (Ex.mk k z t []).avs) st Q) : Q (.agg [.int .i64 k, .int .i64 z, .str t, .nils]) (H.put (n + 2) o) m := by
  have hb := h.gb
  exact h.leaf hq (by rw [Heap.put_ne _ _ (by omega)]; exact h.rg) fun y hy _ => Heap.put_ne _ _ (by omega)
theorem zqs {k z : Int} {t : Str} : ∀ x : AV, (x = .int .i64 k ∨ x = .int .i64 z) ∨ x = .str t ∨ x = .nils → x.one = true := by
  rintro x ((rfl | rfl) | (rfl | rfl)) <;> rfl
set_option maxHeartbeats 1000000 in
theorem zww {H0 H : Heap} {n g m : Nat} {dz e : Int} {c : UInt8} {r : Str} {Q : QT} (h : ExE H0 n g dz (c :: r, e) H) (hs : r.length ≤ 1500) (hm : n + 3 ≤ m) (hq : ExQ H0 n g (.agg (VM.quotedF (c :: r) e).1.avs) (VM.quotedF (c :: r) e).2 Q) :
    LP (zbw Q) [.ptr n 0, .ptr (n + 2) 0, .int .i64 1] H m := by
  refine LP.mk (fun k xs H' n' => H' = H ∧ n' = m ∧ ∃ a b, xs = [.ptr n 0, .ptr (n + 2) 0, .int .i64 ((a.length : Int) + 1)] ∧ r = a ++ b ∧ (∀ x ∈ a, x ≠ 39) ∧ k = b.length) r.length ⟨rfl, rfl, [], r, rfl, rfl, by simp, rfl⟩ ?_
  rintro k xs H' n' ⟨rfl, rfl, a, b, rfl, hr, ha, rfl⟩
  have r0 := h.r0
  have r2 := h.r2
  have rg : H' g = some (.row 2 [.str (c :: r), .int .i64 e]) := h.rg
  have gb := h.gb
  have hl : (r.length : Int) = a.length + b.length := by rw [hr]; simp
  have htw : ∀ b', (∀ d s, b' = d :: s → d = 39) → (a ++ b').takeWhile (· != 39) = a ∧ (a ++ b').dropWhile (· != 39) = b' := fun b' hb' => zjt (p := fun x => x != 39) (fun x hx => by simpa using ha x hx) fun d s hd => by simp [hb' d s hd]
  generalize hJ : (fun (xs : List AV) (H : Heap) (nx : Nat) => ∃ k, k < b.length ∧ H = H' ∧ nx = n' ∧ ∃ a b, xs = [.ptr n 0, .ptr (n + 2) 0, .int .i64 ((a.length : Int) + 1)] ∧ r = a ++ b ∧ (∀ x ∈ a, x ≠ 39) ∧ k = b.length) = J
  cases b with
  | nil =>
    have h39 : ¬ 39 ∈ r := by rw [hr]; intro hx; simp at hx; exact ha 39 hx rfl
    have hqf : VM.quotedF (c :: r) e = (.mk 2 0 [] [], VM.badF 8 (r, e)) := by unfold VM.quotedF; simp [h39]
    rw [hqf] at hq
    have e1 : (a.length : Int) + 1 = r.length + 1 := by rw [hl]; simp
    have hle : (1 : Int) ≤ r.length + 1 := by omega
    rw [e1]
    simp [zbw]
    refine JN.same ?_
    have ne_0 : g ≠ n ∧ n ≠ g ∧ g ≠ n + 1 ∧ n + 1 ≠ g ∧ g ≠ n + 2 ∧ n + 2 ≠ g ∧ n ≠ n + 1 ∧ n + 1 ≠ n ∧ n ≠ n + 2 ∧ n + 2 ≠ n ∧ n + 1 ≠ n + 2 ∧ n + 2 ≠ n + 1 := ⟨by omega, by omega, by omega, by omega, by omega, by omega, by omega, by omega, by omega, by omega, by omega, by omega⟩
    simp [zde, r0, rg, ne_0]
    simp [zdc, r0, rg, hle, ne_0]
    refine zdm (st := (r, e)) (by rw [Heap.put_at]; rfl) ?_
    simp [zkn, r2, ne_0]
    exact h.leafP hq
  | cons d s =>
    have hx : r[a.length]? = some d := by rw [hr]; simp
    have hlt : (a.length : Int) + 1 < r.length + 1 := by rw [hl]; simp; omega
    have hne : ¬ (a.length : Int) + 1 = r.length + 1 := by omega
    have hi0 : (0 : Int) ≤ a.length + 1 := by omega
    have hix : ((a.length : Int) + 1).toNat = a.length + 1 := by omega
    have hal : a.length + 1 ≤ 1501 := by have : r.length = a.length + (s.length + 1) := by rw [hr]; simp
                                         omega
    have hwr : IntKind.i64.wrap ((a.length : Int) + 1 + 1) = (a.length : Int) + 1 + 1 := i64w (by omega)
    by_cases hd : d = 39
    · subst hd
      have hmem : 39 ∈ r := by rw [hr]; simp
      have ⟨t1, t2⟩ := htw (39 :: s) (by intro d s h; cases h; rfl)
      rw [← hr] at t1 t2
      have hqf : VM.quotedF (c :: r) e = (.mk 2 0 a [], if VM.word a then (s, e) else VM.badF 2 (s, e)) := by
        unfold VM.quotedF
        simp only [List.drop_succ_cons, List.drop_zero, if_pos hmem, t1, t2]
      rw [hqf] at hq
      have hle1 : (1 : Int) ≤ a.length + 1 := by omega
      have hle2 : (a.length : Int) + 1 ≤ r.length + 1 := by omega
      have hle3 : (a.length : Int) + 1 + 1 ≤ r.length + 1 := by omega
      have hi1 : (0 : Int) ≤ a.length + 1 + 1 := by omega
      have htn : ((a.length : Int) + 1 + 1).toNat = a.length + 2 := by omega
      have hta : List.take a.length r = a := by rw [hr]; simp
      have hda : List.drop (a.length + 1) r = s := by rw [hr]; simp
      simp [zbw]
      refine JN.same ?_
      have ne_1 : g ≠ n ∧ n ≠ g ∧ g ≠ n + 1 ∧ n + 1 ≠ g ∧ g ≠ n + 2 ∧ n + 2 ≠ g ∧ n ≠ n + 1 ∧ n + 1 ≠ n ∧ n ≠ n + 2 ∧ n + 2 ≠ n ∧ n + 1 ≠ n + 2 ∧ n + 2 ≠ n + 1 := ⟨by omega, by omega, by omega, by omega, by omega, by omega, by omega, by omega, by omega, by omega, by omega, by omega⟩
      simp [zde, r0, rg, hlt, hi0, hix, hx, ne_1]
      simp [zdc, r0, rg, hne, hle1, hle2, hle3, hi1, htn, hix, hta, hda, hwr, ne_1]
      refine (zsv a (by unfold maxLen; omega)).call ?_
      have h1 : ExE H0 n g dz (s, e) (H'.put g (some (.row 2 [.str s, .int .i64 e]))) := h.put (st' := (s, e))
      generalize H'.put g (some (.row 2 [.str s, .int .i64 e])) = HX at h1 ⊢
      have q0 := h1.r0
      have q2 := h1.r2
      by_cases hwd : VM.word a = true
      · simp only [hwd, if_true] at hq
        simp [zfq, hwd, q2]
        exact ⟨zqs, h1.leafN hq⟩
      · have hwd' : VM.word a = false := by simpa using hwd
        simp only [hwd', Bool.false_eq_true, if_false] at hq
        simp [zfq, hwd', q0]
        refine zdm h1.rg ?_
        simp [zkm, q2, ne_1]
        exact ⟨zqs, h1.leafP hq⟩
    · have hdn : ¬ (d.toNat : Int) = 39 := zcj hd rfl
      simp [zbw]
      refine JN.same ?_
      have ne_2 : g ≠ n ∧ n ≠ g ∧ g ≠ n + 1 ∧ n + 1 ≠ g ∧ g ≠ n + 2 ∧ n + 2 ≠ g ∧ n ≠ n + 1 ∧ n + 1 ≠ n ∧ n ≠ n + 2 ∧ n + 2 ≠ n ∧ n + 1 ≠ n + 2 ∧ n + 2 ≠ n + 1 := ⟨by omega, by omega, by omega, by omega, by omega, by omega, by omega, by omega, by omega, by omega, by omega, by omega⟩
      simp [zde, r0, rg, hlt, hi0, hix, hx, hdn, ne_2]
      simp [zdc, hwr, ne_2]
      rw [← hJ]
      refine ⟨s.length, by simp, rfl, rfl, a ++ [d], s, by rw [List.length_append]; simp, by rw [hr]; simp, ?_, rfl⟩
      intro x hx'
      rcases List.mem_append.1 hx' with h | h
      · exact ha x h
      · rw [List.mem_singleton.1 h]; exact hd
theorem zpv {w : Str} {v : Int} (h : Lib.atoiAll w = .ok v) : -9223372036854775808 ≤ v ∧ v ≤ 9223372036854775807 := by
  unfold Lib.atoiAll at h
  split at h
  · cases h
  · dsimp only at h
    split at h
    · cases h
    · cases h
    · rename_i u _
      split at h
      · cases h
      · split at h
        · cases h
        · cases h
          split <;> omega
set_option maxHeartbeats 1000000 in
theorem zyg {H0 H : Heap} {n g m : Nat} {dz z : Int} {st : VM.St} {Q : QT} (h : ExE H0 n g dz st H) (hs : st.1.length ≤ 1500) (hz : z ≠ 39) (hz2 : z ≠ 40) (hq : ExQ H0 n g (.agg (VM.plainF st).1.avs) (VM.plainF st).2 Q) : zan Q n (.int .u8 z) H m := by
  have r0 := h.r0
  simp [zan, hz, hz2, r0]
  have hwl := zij st
  refine w_ac (by omega) h.rg ?_
  have h1 : ExE H0 n g dz (VM.wF st).2 (H.put g (some (PR (VM.wF st).2))) := h.put
  generalize H.put g (some (PR (VM.wF st).2)) = HX at h1 ⊢
  unfold VM.plainF at hq
  generalize VM.wF st = ws at *
  obtain ⟨w, s1⟩ := ws
  simp only at *
  have q0 := h1.r0
  have q2 := h1.r2
  -- where it is no number
  have names : VM.numOf w = none → ∀ m', za Tryd.prog 14 [.str w] HX m' (zbx n (.str w) Q) := by
    intro hn m'
    rw [hn] at hq
    refine zrh (by omega) ?_
    by_cases hnm : VM.name w = true
    · simp only [hnm, if_true] at hq
      simp [zbx, hnm, q2]
      exact ⟨zqs, h1.leafN hq⟩
    · have hnm' : VM.name w = false := by simpa using hnm
      simp only [hnm', Bool.false_eq_true, if_false] at hq
      simp [zbx, hnm', q0]
      refine zdm h1.rg ?_
      have := h1.gb
      have ne_3 : g ≠ n ∧ n ≠ g ∧ g ≠ n + 1 ∧ n + 1 ≠ g ∧ g ≠ n + 2 ∧ n + 2 ≠ g ∧ n ≠ n + 1 ∧ n + 1 ≠ n ∧ n ≠ n + 2 ∧ n + 2 ≠ n ∧ n + 1 ≠ n + 2 ∧ n + 2 ≠ n + 1 := ⟨by omega, by omega, by omega, by omega, by omega, by omega, by omega, by omega, by omega, by omega, by omega, by omega⟩
      simp [zkl, q2, ne_3]
      exact ⟨zqs, h1.leafP hq⟩
  have cmp : ∀ v : Int, -9223372036854775808 ≤ v → v ≤ 9223372036854775807 → (Lib.itoa v = w → VM.numOf w = some v) → (Lib.itoa v ≠ w → VM.numOf w = none) → ∀ m', za Tryd.prog 80 [.int .i64 v] HX m' (zav (.str w) (.int .i64 v) n Q) := by
    intro v b1 b2 h3 h4 m'
    have hE1 := h1
    refine (zva v b1 b2).call ?_
    by_cases he : Lib.itoa v = w
    · rw [h3 he] at hq
      simp only at hq
      have hgb := hE1.gb
      have sh : (AV.str (Lib.itoa v)) = .str w := by rw [he]
      by_cases hv : v < -1073741824 ∨ 1073741824 < v
      · rw [if_pos hv] at hq
        have fin : ∀ m', za Tryd.prog 48 [.ptr g 0, .int .i64 3] HX m' (zda (.int .i64 v) n Q) := fun m' => by
          refine zdm hE1.rg ?_
          have ne_4 : g ≠ n ∧ n ≠ g ∧ g ≠ n + 1 ∧ n + 1 ≠ g ∧ g ≠ n + 2 ∧ n + 2 ≠ g ∧ n ≠ n + 1 ∧ n + 1 ≠ n ∧ n ≠ n + 2 ∧ n + 2 ≠ n ∧ n + 1 ≠ n + 2 ∧ n + 2 ≠ n + 1 := ⟨by omega, by omega, by omega, by omega, by omega, by omega, by omega, by omega, by omega, by omega, by omega, by omega⟩
          simp [zda, q2, ne_4]
          exact hE1.leafP hq
        by_cases hv2 : 1073741824 < v
        · simp [zav, he, hv2, q0]
          exact fin m'
        · have hv3 : v < -1073741824 := by omega
          simp [zav, he, hv2, hv3, q0]
          exact fin m'
      · rw [if_neg hv] at hq
        have hv2 : ¬ 1073741824 < v := by omega
        have hv3 : ¬ v < -1073741824 := by omega
        simp [zav, he, hv2, hv3, q2]
        exact hE1.leafN hq
    · simp [zav, he]
      exact names (h4 he) m'
  simp [zkk]
  refine (zvi w (by omega)).call ?_
  unfold zss
  cases ha : Lib.atoiAll w with
  | ok v =>
    have hb := zpv ha
    simp [zcz]
    refine cmp v hb.1 hb.2 (fun e => by unfold VM.numOf; rw [ha]; simp [e]) (fun e => by unfold VM.numOf; rw [ha]; simp [e]) m
  | range =>
    have hn : VM.numOf w = none := by unfold VM.numOf; rw [ha]
    simp [zcz]
    exact names hn m
  | _ =>
    have hn : VM.numOf w = none := by unfold VM.numOf; rw [ha]
    simp [zcz]
    exact names hn m
end Go.Proofs.YtpllgpgdcbgalaaDoor
namespace Go.Proofs.YtpllgpgdcbgalaaDoor
open Go Go.RowKit
theorem zqf {sz : Nat} : ∀ {xs : List (List AV)}, (∀ x ∈ xs, x.length = sz) → xs.flatten.length = xs.length * sz
  | [], _ => by simp
  | y :: r, hs => by rw [List.flatten_cons, List.length_append, zqf fun z hz => hs z (by simp [hz]), hs y (by simp), List.length_cons, Nat.succ_mul, Nat.add_comm]
theorem zrm {sz : Nat} : ∀ {xs : List (List AV)}, (∀ x ∈ xs, x.length = sz) → ∀ {i : Nat} {x : List AV}, xs[i]? = some x → (xs.flatten.drop (i * sz)).take sz = x
  | [], _, i, x, hx => by simp at hx
  | y :: r, hs, 0, x, hx => by
    simp at hx; subst hx
    rw [Nat.zero_mul, List.drop_zero, List.flatten_cons, List.take_append_of_le_length (by rw [hs y (by simp)]; omega), List.take_of_length_le (by rw [hs y (by simp)]; omega)]
  | y :: r, hs, i + 1, x, hx => by
    have hy : y.length = sz := hs y (by simp)
    rw [List.flatten_cons, Nat.succ_mul, List.drop_append, List.drop_of_length_le (by omega), List.nil_append, show i * sz + sz - y.length = i * sz by omega]
    exact zrm (fun z hz => hs z (by simp [hz])) (by simpa using hx)
inductive zbg (H : Heap) (nx sz : Nat) (xs : List (List AV)) : AV → Prop
  | ro : zbg H nx sz xs (.ro xs)
  | slc (g : Nat) : g < nx → H g = some (.row sz xs.flatten) → zbg H nx sz xs (.slc g 0 xs.length)
  | nils : xs = [] → zbg H nx sz xs .nils
theorem zbg.keep {H H' : Heap} {nx nx' sz : Nat} {xs : List (List AV)} {a : AV} (h : zbg H nx sz xs a) (hk : ∀ g, g < nx → H' g = H g) (hn : nx ≤ nx') : zbg H' nx' sz xs a := by
  cases h with
  | ro => exact .ro
  | slc g h1 h2 => exact .slc g (by omega) (by rw [hk g h1]; exact h2)
  | nils h => exact .nils h
theorem zbg.len {H : Heap} {nx sz : Nat} {xs : List (List AV)} {a : AV} (h : zbg H nx sz xs a) {k : AV → Prop} : LNL a k = k (.int .i64 xs.length) := by
  cases h with
  | ro => simp
  | slc g h1 h2 => simp
  | nils h => subst h; simp
theorem zbg.ld {H : Heap} {nx sz : Nat} {xs : List (List AV)} {a : AV} (h : zbg H nx sz xs a) (hs : ∀ x ∈ xs, x.length = sz) {ki : IntKind} {i : Nat} {x : List AV} (hx : xs[i]? = some x) {k : AV → Prop} (hk : k (.agg x)) : IA sz a (.int ki i) fun p => LD true sz p H k := by
  obtain ⟨hi, hx'⟩ := List.getElem?_eq_some_iff.1 hx
  have hxl : x.length = sz := hs x (List.mem_of_getElem? hx)
  cases h with
  | ro =>
    rw [zzt]
    have e : xs.getD i [] = x := by simp [List.getD_eq_getElem?_getD, hx]
    simp only [Int.toNat_natCast, e, zvw]
    refine ⟨by omega, by omega, hxl, by omega, ?_⟩
    rw [List.drop_zero, List.take_of_length_le (by omega)]
    exact hk
  | slc g h1 h2 =>
    rw [zaay]
    simp only [Int.toNat_natCast, zyl, h2, rowk]
    refine ⟨by omega, by omega, ?_, ?_⟩
    · rw [zqf hs]
      have : (i + 1) * sz ≤ xs.length * sz := Nat.mul_le_mul_right _ hi
      rw [Nat.succ_mul] at this; omega
    · rw [Nat.zero_add, zrm hs hx]; exact hk
  | nils h => subst h; simp at hx
theorem zbg.frz {H : Heap} {nx sz : Nat} {xs : List (List AV)} {a : AV} (h : zbg H nx sz xs a) (hs : ∀ x ∈ xs, x.length = sz) (hf : ∀ x ∈ xs, ∀ v ∈ x, flat v = true ∧ Bel (fun _ => False) v) (hro : Bel (fun _ => False) (.ro xs)) : Frz H 0 a (.ro xs) := by
  have hb : ∀ c ∈ xs.flatten, Bel (fun x => x < 0) c := by
    intro c hc
    obtain ⟨x, hx, hcx⟩ := List.mem_flatten.1 hc
    exact (hf x hx c hcx).2.mono fun _ h => h.elim
  cases h with
  | ro => exact .same _ (hro.mono fun _ h => h.elim)
  | slc g h1 h2 => exact Frz.row (Nat.zero_le _) h2 rfl hs rfl hb
  | nils h => subst h; exact .nils
end Go.Proofs.YtpllgpgdcbgalaaDoor
namespace Go.Proofs.YtpllgpgdcbgalaaDoor
open Go Go.RowKit
inductive FL (H : Heap) (nx : Nat) : List AV → List AV → Prop
  | nil : FL H nx [] []
  | cons {u v : AV} {us vs : List AV} : Frz H nx u v → FL H nx us vs → FL H nx (u :: us) (v :: vs)
section
variable {H : Heap} {nx : Nat}
theorem FL.append : ∀ {us vs us' vs' : List AV}, FL H nx us vs → FL H nx us' vs' → FL H nx (us ++ us') (vs ++ vs')
  | _, _, _, _, .nil, k => k
  | _, _, _, _, .cons a b, k => .cons a (b.append k)
theorem FL.same : ∀ {l : List AV}, (∀ c ∈ l, Bel (· < nx) c) → FL H nx l l
  | [], _ => .nil
  | c :: r, h => .cons (.same _ (h c (by simp))) (FL.same fun x hx => h x (by simp [hx]))
theorem FL.get : ∀ {us vs : List AV}, FL H nx us vs → ∀ {j : Nat} {v : AV}, vs[j]? = some v → ∃ u, us[j]? = some u ∧ Frz H nx u v
  | _, _, .nil, j, v, h => by simp at h
  | _, _, .cons a b, 0, v, h => by simp at h; subst h; exact ⟨_, rfl, a⟩
  | _, _, .cons a b, j + 1, v, h => by simpa using b.get (j := j) (by simpa using h)
theorem FL.len : ∀ {us vs : List AV}, FL H nx us vs → us.length = vs.length
  | _, _, .nil => rfl
  | _, _, .cons a b => by simp [b.len]
theorem Frz.rowL {g off len sz : Nat} {cells : List AV} {xs : List (List AV)} (hg : nx ≤ g) (hH : H g = some (.row sz cells)) (hl : xs.length = len) (hs : ∀ x ∈ xs, x.length = sz) (hb : off + len * sz ≤ cells.length) (hc : FL H nx ((cells.drop off).take (len * sz)) xs.flatten) :
    Frz H nx (.slc g off len) (.ro xs) := by
  have key : ∀ (i : Nat) (x : List AV) (j : Nat) (v : AV), xs[i]? = some x → x[j]? = some v → ∃ u, cells[off + i * sz + j]? = some u ∧ Frz H nx u v := fun i x j v hx hv => by
    have e1 := zrm hs hx
    have hj : j < sz := by rw [← hs x (List.mem_of_getElem? hx)]; exact (List.getElem?_eq_some_iff.1 hv).1
    have hv2 : xs.flatten[i * sz + j]? = some v := by
      have e2 := congrArg (·[j]?) e1
      simp only [List.getElem?_take, List.getElem?_drop, hj, if_true] at e2
      rw [e2]; exact hv
    obtain ⟨u, q1, q2⟩ := hc.get hv2
    refine ⟨u, ?_, q2⟩
    rw [List.getElem?_take] at q1
    split at q1
    · rw [List.getElem?_drop] at q1; rw [Nat.add_assoc]; exact q1
    · cases q1
  refine .slc g off _ sz cells _ hg hH hb hl hs (fun i j => (cells[off + i * sz + j]?).getD .junk) (fun i x j v hx hv => ?_) (fun i x j v hx hv => ?_)
  · obtain ⟨u, q1, q2⟩ := key i x j v hx hv; rw [q1]; rfl
  · obtain ⟨u, q1, q2⟩ := key i x j v hx hv; rw [q1]; exact q2
theorem Frz.rowW {g len sz : Nat} {cells : List AV} {xs : List (List AV)} (hg : nx ≤ g) (hH : H g = some (.row sz cells)) (hl : xs.length = len) (hs : ∀ x ∈ xs, x.length = sz) (hc : FL H nx cells xs.flatten) : Frz H nx (.slc g 0 len) (.ro xs) := by
  have e : cells.length = len * sz := by rw [hc.len, zqf hs, hl]
  refine .rowL hg hH hl hs (by omega) ?_
  rw [List.drop_zero, List.take_of_length_le (by omega)]; exact hc
theorem FL.agg {us vs : List AV} (h : FL H nx us vs) : Frz H nx (.agg us) (.agg vs) := by
  refine .agg _ _ h.len.symm fun j v u hv hu => ?_
  obtain ⟨w, q1, q2⟩ := h.get hu
  rw [hv] at q1; cases q1; exact q2
theorem FL.tup {us vs : List AV} (h : FL H nx us vs) : Frz H nx (.tup us) (.tup vs) := by
  refine .tup _ _ h.len.symm fun j v u hv hu => ?_
  obtain ⟨w, q1, q2⟩ := h.get hu
  rw [hv] at q1; cases q1; exact q2
end
end Go.Proofs.YtpllgpgdcbgalaaDoor
set_option maxRecDepth 8000
namespace Go.Proofs.YtpllgpgdcbgalaaDoor
open Go Go.RowKit
theorem ztk {H H' : Heap} {lo hi gx N : Nat} {l : List Ex} {A : AV} (h : ArgS H lo hi gx l A) (hN : N ≤ lo) (hk : ∀ y, lo ≤ y → y ≠ gx → H' y = H y) : Frz H' N A (.ro (l.map Ex.avs)) := by
  cases h with
  | nil => exact .nils
  | @row l ga h1 h2 h3 h4 =>
    refine Frz.rowW (cells := rowE l) (sz := 4) (by omega) (by rw [hk _ h1 h3]; exact h4) (by simp) (fun x hx => ?_) (FL.same fun c hc => ?_)
    · obtain ⟨y, _, rfl⟩ := List.mem_map.1 hx; exact zbc y
    · unfold rowE at hc
      obtain ⟨x, hx, hc⟩ := List.mem_flatten.1 hc
      obtain ⟨y, _, rfl⟩ := List.mem_map.1 hx
      exact zlc _ y c hc
def fits (want : Int) (k : Nat) : Prop := if 0 ≤ want then (k : Int) = want else k ≤ 4
instance (want : Int) (k : Nat) : Decidable (fits want k) := by unfold fits; exact inferInstance
theorem ExL.done {H0 H : Heap} {n g gx m : Nat} {dz k z : Int} {t : Str} {l : List Ex} {st : VM.St} {A : AV} {Q : QT} (h : ExL H0 n g gx dz (.int .i64 k) (.int .i64 z) (.str t) l st H m) (hA : H gx = some (.row 4 [.int .i64 k, .int .i64 z, .str t, A])) (hq : ExQ H0 n g (.agg (Ex.mk k z t l).avs) st Q) (o : Option AObj) (m' : Nat) : Q (.agg [.int .i64 k, .int .i64 z, .str t, A]) (H.put (n + 2) o) m' := by
  have hb := h.gb
  obtain ⟨A', h1, h2⟩ := h.rx
  rw [hA] at h1
  cases h1
  refine hq _ _ _ ?_ (by rw [Heap.put_ne _ _ (by omega)]; exact h.rg) fun y hy hne => by rw [Heap.put_ne _ _ (by omega)]; exact h.keep y hy hne
  rw [zfc]
  exact FL.agg (.cons (.same _ (.int _ _)) (.cons (.same _ (.int _ _)) (.cons (.same _ (.str _)) (.cons (ztk h2 (by omega) fun y hy _ => Heap.put_ne _ _ (by omega)) .nil))))
theorem zzp {H : Heap} {lo hi gx : Nat} {l : List Ex} {A : AV} (h : ArgS H lo hi gx l A) {k : AV → Prop} : LNL A k = k (.int .i64 (l.length : Int)) := by
  cases h with
  | nil => simp
  | row => simp
theorem zns {H : Heap} {lo hi gx : Nat} {l : List Ex} {A : AV} (h : ArgS H lo hi gx l A) : A.one = true := by
  cases h <;> rfl
set_option maxHeartbeats 1000000 in
theorem zyr {H0 H : Heap} {n g gx m : Nat} {dz k z want : Int} {t : Str} {l : List Ex} {st : VM.St} {v : AV} {Q : QT} (h : ExL H0 n g gx dz (.int .i64 k) (.int .i64 z) (.str t) l st H m) (hq : ExQ H0 n g (.agg (Ex.mk k z t l).avs) (if fits want l.length then st else VM.badF 5 st) Q) :
    zao [.ptr n 0, .ptr (n + 1) 0, .ptr (n + 2) 0, .ptr gx 0, .int .i64 want] Q v H m := by
  obtain ⟨A, rx, ra⟩ := h.rx
  obtain ⟨cs, r2, r2l⟩ := h.r2
  have r0 := h.r0
  have ho := zns ra
  have hlen := fun k => zzp (k := k) ra
  have gb := h.gb
  have g0 := h.gx0
  have bad : ¬ fits want l.length → za Tryd.prog 48 [.ptr g 0, .int .i64 5] H m (zbf [.ptr n 0, .ptr (n + 1) 0, .ptr (n + 2) 0, .ptr gx 0, .int .i64 want] Q) := by
    intro hf
    rw [if_neg hf] at hq
    refine zdm h.rg ?_
    have h1 := h.put (VM.flow_bad 5 st)
    obtain ⟨cs', q2, q2l⟩ := h1.r2
    obtain ⟨A', q1, q3⟩ := h1.rx
    generalize H.put g (some (PR (VM.badF 5 st))) = HX at *
    have ne_0 : n ≠ n + 1 ∧ n + 1 ≠ n ∧ n ≠ n + 2 ∧ n + 2 ≠ n ∧ n ≠ gx ∧ gx ≠ n ∧ n + 1 ≠ n + 2 ∧ n + 2 ≠ n + 1 ∧ n + 1 ≠ gx ∧ gx ≠ n + 1 ∧ n + 2 ≠ gx ∧ gx ≠ n + 2 := ⟨by omega, by omega, by omega, by omega, by omega, by omega, by omega, by omega, by omega, by omega, by omega, by omega⟩
    simp [zbf, q1, q2, q2l, ne_0]
    exact ⟨zns q3, h1.done q1 hq _ _⟩
  have good : fits want l.length → ∀ o, Q (.agg [.int .i64 k, .int .i64 z, .str t, A]) (H.put (n + 2) o) m := by
    intro hf o
    rw [if_pos hf] at hq
    exact h.done rx hq _ _
  have ne_1 : n ≠ n + 1 ∧ n + 1 ≠ n ∧ n ≠ n + 2 ∧ n + 2 ≠ n ∧ n ≠ gx ∧ gx ≠ n ∧ n + 1 ≠ n + 2 ∧ n + 2 ≠ n + 1 ∧ n + 1 ≠ gx ∧ gx ≠ n + 1 ∧ n + 2 ≠ gx ∧ gx ≠ n + 2 := ⟨by omega, by omega, by omega, by omega, by omega, by omega, by omega, by omega, by omega, by omega, by omega, by omega⟩
  by_cases hw : 0 ≤ want
  · have hw' : ¬ want < 0 := by omega
    by_cases he : (l.length : Int) = want
    · have hf : fits want l.length := by unfold fits; rw [if_pos hw]; exact he
      simp [zao, hw, hw', rx, hlen, he, r2, r2l, ne_1]
      exact ⟨ho, good hf _⟩
    · have hf : ¬ fits want l.length := by unfold fits; rw [if_pos hw]; exact he
      simp [zao, hw, hw', rx, hlen, he, r0, ne_1]
      exact bad hf
  · have hw' : want < 0 := by omega
    by_cases he : l.length ≤ 4
    · have hf : fits want l.length := by unfold fits; rw [if_neg hw]; exact he
      have he' : ¬ (4 : Int) < l.length := by omega
      simp [zao, hw, hw', rx, hlen, he', r2, r2l, ne_1]
      exact ⟨ho, good hf _⟩
    · have hf : ¬ fits want l.length := by unfold fits; rw [if_neg hw]; exact he
      have he' : (4 : Int) < l.length := by omega
      simp [zao, hw, hw', rx, hlen, he', r0, ne_1]
      exact bad hf
def ops5 : List Str := [[43], [45], [42], [60], [61]]
def ops6 : List Str := [[99, 101, 108, 108], [108, 101, 102, 116], [114, 105, 103, 104, 116], [97, 115, 107], [104, 101, 114, 101], [103, 111]]
def zip : List Int := [2, 1, 1, 1, 0, 1]
structure Hd where
  k : Int
  z : Int
  t : Str
  want : Int
def Hd.avs (h : Hd) : List AV := [.int .i64 h.k, .int .i64 h.z, .str h.t, .nils]
def st5 (w : Str) : Nat → Hd
  | 0 => ⟨11, 0, w, -1⟩
  | i + 1 => if ops5.getD i [] = w then ⟨4, i + 1, [], 2⟩ else st5 w i
def st6 (w : Str) (p : Hd) : Nat → Hd
  | 0 => p
  | i + 1 => if ops6.getD i [] = w then ⟨5 + i, 0, [], zip.getD i 0⟩ else st6 w p i
theorem zaai (w : Str) : st6 w (st5 w 5) 6 = match VM.headOf w with
    | some (k, n, want) => ⟨k, n, [], want⟩
    | none => ⟨11, 0, w, -1⟩ := by
  unfold VM.headOf
  by_cases h1 : w = [43]
  · subst h1; rfl
  by_cases h2 : w = [45]
  · subst h2; rfl
  by_cases h3 : w = [42]
  · subst h3; rfl
  by_cases h4 : w = [60]
  · subst h4; rfl
  by_cases h5 : w = [61]
  · subst h5; rfl
  by_cases h6 : w = [99, 101, 108, 108]
  · subst h6; rfl
  by_cases h7 : w = [108, 101, 102, 116]
  · subst h7; rfl
  by_cases h8 : w = [114, 105, 103, 104, 116]
  · subst h8; rfl
  by_cases h9 : w = [97, 115, 107]
  · subst h9; rfl
  by_cases h10 : w = [104, 101, 114, 101]
  · subst h10; rfl
  by_cases h11 : w = [103, 111]
  · subst h11; rfl
  simp [h1, h2, h3, h4, h5, h6, h7, h8, h9, h10, h11, st6, st5, ops5, ops6, Ne.symm h1, Ne.symm h2, Ne.symm h3, Ne.symm h4, Ne.symm h5, Ne.symm h6, Ne.symm h7, Ne.symm h8, Ne.symm h9, Ne.symm h10, Ne.symm h11]
structure FmH (H0 : Heap) (n g gx : Nat) (dz : Int) (st : VM.St) (p : Hd) (H : Heap) : Prop where
  r0 : H n = some (.row 1 [.ptr g 0])
  r1 : H (n + 1) = some (.row 1 [.int .i64 dz])
  r2 : H (n + 2) = some (.row 4 [.int .i64 0, .int .i64 0, .str [], .nils])
  rg : H g = some (PR st)
  rx : H gx = some (.row 4 p.avs)
  gb : g < n
  gx0 : n + 3 ≤ gx
  keep : ∀ y, y < n → y ≠ g → H y = H0 y
theorem FmH.put {H0 H : Heap} {n g gx x : Nat} {dz : Int} {st : VM.St} {p : Hd} {o : Option AObj} (h : FmH H0 n g gx dz st p H) (hx : gx < x) : FmH H0 n g gx dz st p (H.put x o) := by
  have h1 := h.gb
  have h2 := h.gx0
  exact ⟨by rw [Heap.put_ne _ _ (by omega)]; exact h.r0, by rw [Heap.put_ne _ _ (by omega)]; exact h.r1, by rw [Heap.put_ne _ _ (by omega)]; exact h.r2, by rw [Heap.put_ne _ _ (by omega)]; exact h.rg, by rw [Heap.put_ne _ _ (by omega)]; exact h.rx, h1, h2, fun y hy hne => by rw [Heap.put_ne _ _ (by omega)]; exact h.keep y hy hne⟩
theorem FmH.head {H0 H : Heap} {n g gx : Nat} {dz : Int} {st : VM.St} {p q : Hd} (h : FmH H0 n g gx dz st p H) : FmH H0 n g gx dz st q (H.put gx (some (.row 4 q.avs))) := by
  have h1 := h.gb
  have h2 := h.gx0
  exact ⟨by rw [Heap.put_ne _ _ (by omega)]; exact h.r0, by rw [Heap.put_ne _ _ (by omega)]; exact h.r1, by rw [Heap.put_ne _ _ (by omega)]; exact h.r2, by rw [Heap.put_ne _ _ (by omega)]; exact h.rg, Heap.put_at _ _ _, h1, h2, fun y hy hne => by rw [Heap.put_ne _ _ (by omega)]; exact h.keep y hy hne⟩
theorem FmH.state {H0 H : Heap} {n g gx : Nat} {dz : Int} {st st' : VM.St} {p : Hd} (h : FmH H0 n g gx dz st p H) : FmH H0 n g gx dz st' p (H.put g (some (PR st'))) := by
  have h1 := h.gb
  have h2 := h.gx0
  exact ⟨by rw [Heap.put_ne _ _ (by omega)]; exact h.r0, by rw [Heap.put_ne _ _ (by omega)]; exact h.r1, by rw [Heap.put_ne _ _ (by omega)]; exact h.r2, Heap.put_at _ _ _, by rw [Heap.put_ne _ _ (by omega)]; exact h.rx, h1, h2, fun y hy hne => by rw [Heap.put_ne _ _ hne]; exact h.keep y hy hne⟩
theorem FmH.exL {H0 H : Heap} {n g gx m : Nat} {dz : Int} {st : VM.St} {p : Hd} (h : FmH H0 n g gx dz st p H) (hm : gx < m) (hs : st.1.length ≤ 1500) : ExL H0 n g gx dz (.int .i64 p.k) (.int .i64 p.z) (.str p.t) [] st H m :=
  ⟨h.r0, h.r1, ⟨_, h.r2, rfl⟩, ⟨.nils, h.rx, .nil⟩, h.rg, h.gb, h.gx0, hm, h.keep, by have := VM.left_le st; simp only [List.length_nil]; omega, hs⟩
theorem zrk {d : Nat} (hE : zgs d) (hd : d ≤ 11) {H0 H : Heap} {n g gx m : Nat} {st : VM.St} {p : Hd} {Q : QT} (h : FmH H0 n g gx (10 - (d : Int)) st p H) (hm : gx < m) (hs : st.1.length ≤ 1500)
    (hq : ExQ H0 n g (.agg (Ex.mk p.k p.z p.t (VM.manyF (VM.exprF d) st).1).avs) (if fits p.want (VM.manyF (VM.exprF d) st).1.length then (VM.manyF (VM.exprF d) st).2 else VM.badF 5 (VM.manyF (VM.exprF d) st).2) Q) :
    zdb Q [.ptr n 0, .ptr (n + 1) 0, .ptr (n + 2) 0, .ptr gx 0, .int .i64 p.want] H m := by
  have r0 := h.r0
  simp [zdb, r0]
  refine zpz (VM.nice_expr d) (fun l s H' n' => ExL H0 n g gx (10 - (d : Int)) (.int .i64 p.k) (.int .i64 p.z) (.str p.t) l s H' n') (fun _ _ _ _ h => h.rg) (fun _ _ _ _ _ h hf => h.put hf) (fun l s H' n' K h he hk => zyv hE h he hd hk) (h.exL hm hs) fun H' n' h => zyr h hq
theorem zaam {d : Nat} (hE : zgs d) (hd : d ≤ 11) {H0 H : Heap} {n g gx m : Nat} {st : VM.St} {p : Hd} {w : Str} {x6 x7 x8 : AV} {Q : QT} (h : FmH H0 n g gx (10 - (d : Int)) st p H) (hm : gx < m) (hs : st.1.length ≤ 1500) (hw : w.length ≤ 1500)
    (hq : ∀ s1, s1 = (if 0 ≤ p.want then st else if VM.name w then st else VM.badF 7 st) → ExQ H0 n g (.agg (Ex.mk p.k p.z p.t (VM.manyF (VM.exprF d) s1).1).avs) (if fits p.want (VM.manyF (VM.exprF d) s1).1.length then (VM.manyF (VM.exprF d) s1).2 else VM.badF 5 (VM.manyF (VM.exprF d) s1).2) Q) :
    JN (zdb Q) (zdd [.ptr n 0, .ptr (n + 1) 0, .ptr (n + 2) 0, .str w, .ptr gx 0, .int .i64 p.want, x6, x7, x8] H m) := by
  refine JN.same ?_
  by_cases hz : 0 ≤ p.want
  · have hz' : ¬ p.want < 0 := by omega
    have q := hq _ rfl
    rw [if_pos hz] at q
    simp [zdd, hz']
    exact zrk hE hd h hm hs q
  · have hz' : p.want < 0 := by omega
    have q := hq _ rfl
    rw [if_neg hz] at q
    simp [zdd, hz']
    refine zrh hw ?_
    by_cases hn : VM.name w = true
    · rw [if_pos hn] at q
      simp [zew, hn]
      exact zrk hE hd h hm hs q
    · rw [if_neg hn] at q
      have hn' : VM.name w = false := by simpa using hn
      have r0 := h.r0
      simp [zew, hn', r0]
      refine zdm h.rg ?_
      simp [zjs]
      exact zrk hE hd h.state hm hs q
end Go.Proofs.YtpllgpgdcbgalaaDoor
