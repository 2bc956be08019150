/- Plain laws of what is wrong with programs. -/
import Derived.Test.YtckhbfbbpdjmdaaVerifyM
namespace Go.Proofs.Ytckhbfbbpdjmdaa
open Go Go.RowKit

def unset (out : List Int) : Nat := out.countP (· < 0)
theorem unset_set {out : List Int} {k : Nat} {h : Int} (hk : k < out.length) (h0 : out.getD k 0 < 0) (h1 : 0 ≤ h) : unset (out.set k h) + 1 = unset out := by
  unfold unset
  have hg : out[k] < 0 := by simpa [List.getD, hk] using h0
  have hpos : 0 < out.countP (· < 0) := List.countP_pos_iff.2 ⟨out[k], List.getElem_mem hk, by simpa using hg⟩
  rw [List.countP_set hk]
  have hnl : ¬ h < 0 := by omega
  simp [hg, hnl]
  omega

theorem effect_bd (i : Ins) (h : i.op = 17 → 0 ≤ i.b ∧ i.b ≤ 16) : 0 ≤ (VM.effect i).1 ∧ (VM.effect i).1 ≤ 16 ∧ 0 ≤ (VM.effect i).2 ∧ (VM.effect i).2 ≤ 1 := by
  unfold VM.effect
  (repeat' split) <;> simp_all

/-- What Heights asks of a code: an instruction's number of arguments is none below 0, and small. -/
def Calm (ins : List Ins) : Prop := ∀ i ∈ ins, i.op = 17 → 0 ≤ i.b ∧ i.b ≤ 16

theorem firstErr_drop {α : Type} (f : α → Int) (l : List α) (k : Nat) (x : α) (hk : l[k]? = some x) : VM.firstErr f (l.drop k) = if f x ≠ 0 then f x else VM.firstErr f (l.drop (k + 1)) := by
  obtain ⟨hlt, rfl⟩ := List.getElem?_eq_some_iff.1 hk
  rw [List.drop_eq_getElem_cons hlt]
  rfl
theorem any_drop {α : Type} (f : α → Bool) (l : List α) (k : Nat) (x : α) (hk : l[k]? = some x) : (l.drop k).any f = (f x || (l.drop (k + 1)).any f) := by
  obtain ⟨hlt, rfl⟩ := List.getElem?_eq_some_iff.1 hk
  rw [List.drop_eq_getElem_cons hlt]
  rfl
theorem all_drop {α : Type} (f : α → Bool) (l : List α) (k : Nat) (x : α) (hk : l[k]? = some x) : (l.drop k).all f = (f x && (l.drop (k + 1)).all f) := by
  obtain ⟨hlt, rfl⟩ := List.getElem?_eq_some_iff.1 hk
  rw [List.drop_eq_getElem_cons hlt]
  rfl

theorem firstErr_zero {α : Type} {f : α → Int} {l : List α} (h : VM.firstErr f l = 0) : ∀ x ∈ l, f x = 0 := by
  induction l with
  | nil => intro x hx; simp at hx
  | cons a r ih =>
    unfold VM.firstErr at h
    by_cases h0 : f a ≠ 0
    · rw [if_pos h0] at h; exact absurd h h0
    · rw [if_neg h0] at h
      intro x hx
      rcases List.mem_cons.1 hx with rfl | hx
      · omega
      · exact ih h x hx

theorem calm_of {p : Prg} {c : Cod} (hr : ∀ x ∈ p.codes, VM.codeRange x = false) (hn : ∀ i ∈ c.ins, VM.numbers p c i = 0) : Calm c.ins := by
  intro i hi h17
  have h := hn i hi
  unfold VM.numbers at h
  rw [if_neg (by omega)] at h
  by_cases hok : VM.numOk p c i = false ∨ (i.op ≠ 17 ∧ i.b ≠ 0)
  · rw [if_pos hok] at h; omega
  · have h2 : VM.numOk p c i = true := by
      cases hq : VM.numOk p c i with
      | true => rfl
      | false => exact absurd (Or.inl hq) hok
    unfold VM.numOk at h2
    simp [h17] at h2
    obtain ⟨_, h3⟩ := h2
    cases hx : p.codes[i.a.toNat]? with
    | none => rw [hx] at h3; simp at h3
    | some x =>
      rw [hx] at h3
      have h4 := hr x (List.mem_of_getElem? hx)
      unfold VM.codeRange at h4
      rw [decide_eq_false_iff_not] at h4
      simp at h3
      omega

theorem heightsGo_len (ins : List Ins) (hc : Calm ins) : ∀ (fuel : Nat) (q : List (Int × Int)) (out : List Int), q.length + 2 * unset out < fuel → (∀ x ∈ q, 0 ≤ x.2 ∧ x.2 ≤ 16) → out.length = ins.length →
    (∀ x ∈ out, -1 ≤ x ∧ x ≤ 16) → (VM.heightsGo ins fuel q out).2 = 0 → (VM.heightsGo ins fuel q out).1.length = ins.length ∧ ∀ x ∈ (VM.heightsGo ins fuel q out).1, -1 ≤ x ∧ x ≤ 16
  | 0, q, out, h, _, _, _, _ => by omega
  | f + 1, [], out, _, _, hl, ho, _ => ⟨hl, ho⟩
  | f + 1, (at_, h) :: q, out, hp, hq, hl, ho, he => by
    unfold VM.heightsGo at he ⊢
    have hh := hq (at_, h) (by simp)
    simp only at hh
    have hq' : ∀ x ∈ q, 0 ≤ x.2 ∧ x.2 ≤ 16 := fun x hx => hq x (by simp [hx])
    simp only [List.length_cons] at hp
    generalize hm : (if 0 ≤ at_ then ins[at_.toNat]? else none) = m at *
    cases m with
    | none => simp at he
    | some i =>
      have hi : ins[at_.toNat]? = some i := by
        by_cases h0 : 0 ≤ at_
        · rwa [if_pos h0] at hm
        · rw [if_neg h0] at hm; cases hm
      have hlt : at_.toNat < out.length := by rw [hl]; exact (List.getElem?_eq_some_iff.1 hi).1
      simp only at he ⊢
      by_cases hs : 0 ≤ out.getD at_.toNat 0
      · rw [if_pos hs] at he ⊢
        by_cases hne : out.getD at_.toNat 0 ≠ h
        · rw [if_pos hne] at he; simp at he
        · rw [if_neg hne] at he ⊢
          exact heightsGo_len ins hc f q out (by omega) hq' hl ho he
      · rw [if_neg hs] at he ⊢
        have hb := effect_bd i (hc i (List.mem_of_getElem? hi))
        by_cases h1 : h < (VM.effect i).1 ∨ (i.op = 18 ∧ h ≠ 1)
        · rw [if_pos h1] at he; simp at he
        · rw [if_neg h1] at he ⊢
          by_cases h2 : 16 < h + (VM.effect i).2 - (VM.effect i).1
          · rw [if_pos h2] at he; simp at he
          · rw [if_neg h2] at he ⊢
            have hu := unset_set (out := out) (k := at_.toNat) (h := h) hlt (by omega) hh.1
            refine heightsGo_len ins hc f _ _ ?_ ?_ (by simpa using hl) ?_ he
            · simp only [List.length_append]
              have l1 : (if i.op ≠ 15 ∧ i.op ≠ 18 then [(at_ + 1, h + (VM.effect i).2 - (VM.effect i).1)] else []).length ≤ 1 := by split <;> simp
              have l2 : (if i.op = 15 ∨ i.op = 16 then [(i.a, h + (VM.effect i).2 - (VM.effect i).1)] else []).length ≤ 1 := by split <;> simp
              omega
            · intro x hx
              simp only [List.mem_append] at hx
              rcases hx with (hx | hx) | hx
              · exact hq' x hx
              · split at hx
                · simp at hx; subst hx; constructor <;> simp only <;> omega
                · simp at hx
              · split at hx
                · simp at hx; subst hx; constructor <;> simp only <;> omega
                · simp at hx
            · intro x hx
              rcases List.mem_or_eq_of_mem_set hx with h9 | h9
              · exact ho x h9
              · omega

theorem heights_len {ins : List Ins} (hc : Calm ins) (h : (VM.heights ins).2 = 0) : (VM.heights ins).1.length = ins.length ∧ ∀ x ∈ (VM.heights ins).1, -1 ≤ x ∧ x ≤ 16 := by
  refine heightsGo_len ins hc _ _ _ ?_ ?_ (by simp) ?_ h
  · unfold unset; simp [List.countP_replicate]; omega
  · intro x hx; simp at hx; subst hx; simp
  · intro x hx; have := List.eq_of_mem_replicate hx; omega

/-- What a right program gives. -/
theorem program_right {p : Prg} (h : VM.program p = 0) : (∀ c ∈ p.codes, VM.codeRange c = false ∧ Calm c.ins ∧ (VM.heights c.ins).2 = 0) ∧ p.codes.length ≤ 5 ∧ p.words.length ≤ 16 := by
  unfold VM.program at h
  by_cases h1 : p.codes.length < 1 ∨ 5 < p.codes.length
  · rw [if_pos h1] at h; omega
  rw [if_neg h1] at h
  by_cases h2 : 16 < p.words.length
  · rw [if_pos h2] at h; omega
  rw [if_neg h2] at h
  split at h
  · omega
  split at h
  · omega
  by_cases h5 : p.codes.any VM.codeRange = true
  · rw [if_pos h5] at h; omega
  rw [if_neg h5] at h
  have hr : ∀ x ∈ p.codes, VM.codeRange x = false := by simpa using h5
  refine ⟨fun c hc => ?_, by omega, by omega⟩
  have he := firstErr_zero h c hc
  unfold VM.codeErr at he
  by_cases hn : VM.firstErr (VM.numbers p c) c.ins ≠ 0
  · rw [if_pos hn] at he; exact absurd he hn
  · rw [if_neg hn] at he
    exact ⟨hr c hc, calm_of hr (firstErr_zero (by omega)), he⟩
def frameRest (a : Agt) (vs st : List Val) (h : Int) : Int :=
  if h < 0 ∨ (st.length : Int) ≠ h then 10 else VM.firstErr (fun v => VM.wrong v a.heap.length) (vs ++ st)

def badPrev (a : Agt) (k : Nat) (c : Cod) (hs : List Int) (m : Nat) : Bool :=
  (!decide (k + 1 = a.frames.length) && (decide ((c.ins.getD (m - 1) ⟨0, 0, 0⟩).op ≠ 17) || decide ((c.ins.getD (m - 1) ⟨0, 0, 0⟩).a ≠ ((a.frames[k + 1]?).map (·.fn)).getD 0))) ||
    (decide (k + 1 = a.frames.length) && decide ((c.ins.getD (m - 1) ⟨0, 0, 0⟩).op ≠ 13)) || decide (hs.getD (m - 1) 0 < 0)

theorem frame_eq {a : Agt} {k n m : Nat} {away : Bool} {vs st : List Val} {c : Cod} {hs : List Int} {h : Int} (hf : a.frames[k]? = some ⟨(n : Int), (m : Int), vs, st⟩) (hc : a.prog.codes[n]? = some c)
    (hm : m < c.ins.length) (hvs : (vs.length : Int) = c.vars) (hhs : hs = (VM.heights c.ins).1) (hh : hs[m]? = some h) :
    VM.frame a k away = if (!decide (k + 1 = a.frames.length) || away) && (decide ((m : Int) = 0) || badPrev a k c hs m) then 10
      else frameRest a vs st (if (!decide (k + 1 = a.frames.length) || away) = true then h - 1 else h) := by
  have e1 : (VM.heights c.ins).1.getD m 0 = h := by rw [← hhs, List.getD_eq_getElem?_getD, hh]; rfl
  unfold VM.frame
  rw [hf]
  simp only [Int.toNat_natCast]
  rw [if_pos (by omega), hc]
  simp only
  rw [if_pos (by omega), List.getElem?_eq_getElem hm]
  simp only
  rw [if_neg (by omega), e1, ← hhs]
  rfl

theorem frame_still {a : Agt} {k n m : Nat} {vs st : List Val} {c : Cod} {hs : List Int} {h : Int} (hf : a.frames[k]? = some ⟨(n : Int), (m : Int), vs, st⟩) (hc : a.prog.codes[n]? = some c)
    (hm : m < c.ins.length) (hvs : (vs.length : Int) = c.vars) (hhs : hs = (VM.heights c.ins).1) (hh : hs[m]? = some h) (hk : k + 1 = a.frames.length) : VM.frame a k false = frameRest a vs st h := by
  rw [frame_eq hf hc hm hvs hhs hh]
  simp [hk]

theorem frame_waits {a : Agt} {k n m : Nat} {away : Bool} {vs st : List Val} {c : Cod} {hs : List Int} {h : Int} (hf : a.frames[k]? = some ⟨(n : Int), (m : Int), vs, st⟩) (hc : a.prog.codes[n]? = some c)
    (hm : m < c.ins.length) (hvs : (vs.length : Int) = c.vars) (hhs : hs = (VM.heights c.ins).1) (hh : hs[m]? = some h) (hw : k + 1 ≠ a.frames.length ∨ away = true) :
    VM.frame a k away = if m = 0 ∨ badPrev a k c hs m = true then 10 else frameRest a vs st (h - 1) := by
  rw [frame_eq hf hc hm hvs hhs hh]
  have e : (!decide (k + 1 = a.frames.length) || away) = true := by
    rcases hw with h | h <;> simp [h]
  rw [e]
  simp
end Go.Proofs.Ytckhbfbbpdjmdaa
