/- Plain laws of what is wrong with programs. Heights hold together: as many values lie ahead of an instruction as were reckoned, on whichever way it is come to. What is right never gets stuck: an agent's steps keep it right. What is right never gets stuck: the agent behind a step is right. -/
import Derived.Test.YtdmibdjokofclaaGreatDoorG6
set_option linter.unusedSimpArgs false
set_option linter.unusedVariables false
set_option maxRecDepth 8000
namespace Go.Proofs.YtdmibdjokofclaaGreatDoor
open Go Go.RowKit
def zjn (out : List Int) : Nat := out.countP (· < 0)
theorem zqd {out : List Int} {k : Nat} {h : Int} (hk : k < out.length) (h0 : out.getD k 0 < 0) (h1 : 0 ≤ h) : zjn (out.set k h) + 1 = zjn out := by
  unfold zjn
  have hg : out[k] < 0 := by simpa [List.getD, hk] using h0
  have hpos : 0 < out.countP (· < 0) := List.countP_pos_iff.2 ⟨out[k], List.getElem_mem hk, by simpa using hg⟩
  rw [List.countP_set hk]
  have hnl : ¬ h < 0 := by omega
  simp [hg, hnl]
  omega
theorem zie (i : Ins) (h : i.op = 17 → 0 ≤ i.b ∧ i.b ≤ 16) : 0 ≤ (VM.effect i).1 ∧ (VM.effect i).1 ≤ 16 ∧ 0 ≤ (VM.effect i).2 ∧ (VM.effect i).2 ≤ 1 := by
  unfold VM.effect
  (repeat' split) <;> simp_all
def Calm (ins : List Ins) : Prop := ∀ i ∈ ins, i.op = 17 → 0 ≤ i.b ∧ i.b ≤ 16
theorem zoq {α : Type} (f : α → Int) (l : List α) (k : Nat) (x : α) (hk : l[k]? = some x) : VM.firstErr f (l.drop k) = if f x ≠ 0 then f x else VM.firstErr f (l.drop (k + 1)) := by
  obtain ⟨hlt, rfl⟩ := List.getElem?_eq_some_iff.1 hk
  rw [List.drop_eq_getElem_cons hlt]
  rfl
theorem zajs {α : Type} (f : α → Bool) (l : List α) (k : Nat) (x : α) (hk : l[k]? = some x) : (l.drop k).any f = (f x || (l.drop (k + 1)).any f) := by
  obtain ⟨hlt, rfl⟩ := List.getElem?_eq_some_iff.1 hk
  rw [List.drop_eq_getElem_cons hlt]
  rfl
theorem zajt {α : Type} (f : α → Bool) (l : List α) (k : Nat) (x : α) (hk : l[k]? = some x) : (l.drop k).all f = (f x && (l.drop (k + 1)).all f) := by
  obtain ⟨hlt, rfl⟩ := List.getElem?_eq_some_iff.1 hk
  rw [List.drop_eq_getElem_cons hlt]
  rfl
theorem zdg {α : Type} {f : α → Int} {l : List α} (h : VM.firstErr f l = 0) : ∀ x ∈ l, f x = 0 := by
  induction l with
  | nil => intro x hx; simp at hx
  | cons a r ih =>
    unfold VM.firstErr at h
    by_cases h0 : f a ≠ 0
    · rw [if_pos h0] at h; exact absurd h h0
    · rw [if_neg h0] at h
      intro x hx
      rcases List.mem_cons.1 hx with rfl | hx
      · omega
      · exact ih h x hx
theorem zabv {p : Prg} {c : Cod} (hr : ∀ x ∈ p.codes, VM.codeRange x = false) (hn : ∀ i ∈ c.ins, VM.numbers p c i = 0) : Calm c.ins := by
  intro i hi h17
  have h := hn i hi
  unfold VM.numbers at h
  rw [if_neg (by omega)] at h
  by_cases hok : VM.numOk p c i = false ∨ (i.op ≠ 17 ∧ i.b ≠ 0)
  · rw [if_pos hok] at h; omega
  · have h2 : VM.numOk p c i = true := by
      cases hq : VM.numOk p c i with
      | true => rfl
      | false => exact absurd (Or.inl hq) hok
    unfold VM.numOk at h2
    simp [h17] at h2
    obtain ⟨_, h3⟩ := h2
    cases hx : p.codes[i.a.toNat]? with
    | none => rw [hx] at h3; simp at h3
    | some x =>
      rw [hx] at h3
      have h4 := hr x (List.mem_of_getElem? hx)
      unfold VM.codeRange at h4
      rw [decide_eq_false_iff_not] at h4
      simp at h3
      omega
theorem ziq (ins : List Ins) (hc : Calm ins) : ∀ (fuel : Nat) (q : List (Int × Int)) (out : List Int), q.length + 2 * zjn out < fuel → (∀ x ∈ q, 0 ≤ x.2 ∧ x.2 ≤ 16) → out.length = ins.length →
    (∀ x ∈ out, -1 ≤ x ∧ x ≤ 16) → (VM.heightsGo ins fuel q out).2 = 0 → (VM.heightsGo ins fuel q out).1.length = ins.length ∧ ∀ x ∈ (VM.heightsGo ins fuel q out).1, -1 ≤ x ∧ x ≤ 16
  | 0, q, out, h, _, _, _, _ => by omega
  | f + 1, [], out, _, _, hl, ho, _ => ⟨hl, ho⟩
  | f + 1, (at_, h) :: q, out, hp, hq, hl, ho, he => by
    unfold VM.heightsGo at he ⊢
    have hh := hq (at_, h) (by simp)
    simp only at hh
    have hq' : ∀ x ∈ q, 0 ≤ x.2 ∧ x.2 ≤ 16 := fun x hx => hq x (by simp [hx])
    simp only [List.length_cons] at hp
    generalize hm : (if 0 ≤ at_ then ins[at_.toNat]? else none) = m at *
    cases m with
    | none => simp at he
    | some i =>
      have hi : ins[at_.toNat]? = some i := by
        by_cases h0 : 0 ≤ at_
        · rwa [if_pos h0] at hm
        · rw [if_neg h0] at hm; cases hm
      have hlt : at_.toNat < out.length := by rw [hl]; exact (List.getElem?_eq_some_iff.1 hi).1
      simp only at he ⊢
      by_cases hs : 0 ≤ out.getD at_.toNat 0
      · rw [if_pos hs] at he ⊢
        by_cases hne : out.getD at_.toNat 0 ≠ h
        · rw [if_pos hne] at he; simp at he
        · rw [if_neg hne] at he ⊢
          exact ziq ins hc f q out (by omega) hq' hl ho he
      · rw [if_neg hs] at he ⊢
        have hb := zie i (hc i (List.mem_of_getElem? hi))
        by_cases h1 : h < (VM.effect i).1 ∨ (i.op = 18 ∧ h ≠ 1)
        · rw [if_pos h1] at he; simp at he
        · rw [if_neg h1] at he ⊢
          by_cases h2 : 16 < h + (VM.effect i).2 - (VM.effect i).1
          · rw [if_pos h2] at he; simp at he
          · rw [if_neg h2] at he ⊢
            have hu := zqd (out := out) (k := at_.toNat) (h := h) hlt (by omega) hh.1
            refine ziq ins hc f _ _ ?_ ?_ (by simpa using hl) ?_ he
            · simp only [List.length_append]
              have l1 : (if i.op ≠ 15 ∧ i.op ≠ 18 then [(at_ + 1, h + (VM.effect i).2 - (VM.effect i).1)] else []).length ≤ 1 := by split <;> simp
              have l2 : (if i.op = 15 ∨ i.op = 16 then [(i.a, h + (VM.effect i).2 - (VM.effect i).1)] else []).length ≤ 1 := by split <;> simp
              omega
            · intro x hx
              simp only [List.mem_append] at hx
              rcases hx with (hx | hx) | hx
              · exact hq' x hx
              · split at hx
                · simp at hx; subst hx; constructor <;> simp only <;> omega
                · simp at hx
              · split at hx
                · simp at hx; subst hx; constructor <;> simp only <;> omega
                · simp at hx
            · intro x hx
              rcases List.mem_or_eq_of_mem_set hx with h9 | h9
              · exact ho x h9
              · omega
theorem zff {ins : List Ins} (hc : Calm ins) (h : (VM.heights ins).2 = 0) : (VM.heights ins).1.length = ins.length ∧ ∀ x ∈ (VM.heights ins).1, -1 ≤ x ∧ x ≤ 16 := by
  refine ziq ins hc _ _ _ ?_ ?_ (by simp) ?_ h
  · unfold zjn; simp [List.countP_replicate]; omega
  · intro x hx; simp at hx; subst hx; simp
  · intro x hx; have := List.eq_of_mem_replicate hx; omega
theorem zag {p : Prg} (h : VM.program p = 0) : (∀ c ∈ p.codes, VM.codeRange c = false ∧ Calm c.ins ∧ (VM.heights c.ins).2 = 0) ∧ p.codes.length ≤ 5 ∧ p.words.length ≤ 16 := by
  unfold VM.program at h
  by_cases h1 : p.codes.length < 1 ∨ 5 < p.codes.length
  · rw [if_pos h1] at h; omega
  rw [if_neg h1] at h
  by_cases h2 : 16 < p.words.length
  · rw [if_pos h2] at h; omega
  rw [if_neg h2] at h
  split at h
  · omega
  split at h
  · omega
  by_cases h5 : p.codes.any VM.codeRange = true
  · rw [if_pos h5] at h; omega
  rw [if_neg h5] at h
  have hr : ∀ x ∈ p.codes, VM.codeRange x = false := by simpa using h5
  refine ⟨fun c hc => ?_, by omega, by omega⟩
  have he := zdg h c hc
  unfold VM.codeErr at he
  by_cases hn : VM.firstErr (VM.numbers p c) c.ins ≠ 0
  · rw [if_pos hn] at he; exact absurd he hn
  · rw [if_neg hn] at he
    exact ⟨hr c hc, zabv hr (zdg (by omega)), he⟩
end Go.Proofs.YtdmibdjokofclaaGreatDoor
set_option maxRecDepth 8000
namespace Go.Proofs.YtdmibdjokofclaaGreatDoor
namespace VM
def after (i : Ins) (h : Int) : Int := h + (effect i).2 - (effect i).1
def succs (at_ : Int) (i : Ins) (h : Int) : List (Int × Int) := (if i.op ≠ 15 ∧ i.op ≠ 18 then [(at_ + 1, after i h)] else []) ++ (if i.op = 15 ∨ i.op = 16 then [(i.a, after i h)] else [])
def there (hs : List Int) (x : Int × Int) : Prop := 0 ≤ x.1 ∧ hs[x.1.toNat]? = some x.2
structure HeiOk (ins : List Ins) (hs : List Int) : Prop where
  len : hs.length = ins.length
  start : there hs (0, 0)
  at_ : ∀ (m : Nat) (i : Ins) (h : Int), ins[m]? = some i → hs[m]? = some h → 0 ≤ h → (effect i).1 ≤ h ∧ (i.op = 18 → h = 1) ∧ after i h ≤ 16 ∧ ∀ x ∈ succs m i h, there hs x
structure HeiInv (ins : List Ins) (q : List (Int × Int)) (out : List Int) : Prop where
  len : out.length = ins.length
  start : (0, 0) ∈ q ∨ there out (0, 0)
  at_ : ∀ (m : Nat) (i : Ins) (h : Int), ins[m]? = some i → out[m]? = some h → 0 ≤ h → (effect i).1 ≤ h ∧ (i.op = 18 → h = 1) ∧ after i h ≤ 16 ∧ ∀ x ∈ succs m i h, x ∈ q ∨ there out x
theorem there_set {out : List Int} {k : Nat} {h : Int} {x : Int × Int} (hx : there out x) (hk : out.getD k 0 < 0) (h0 : 0 ≤ x.2) : there (out.set k h) x := by
  refine ⟨hx.1, ?_⟩
  by_cases e : x.1.toNat = k
  · subst e
    have := hx.2
    rw [List.getD_eq_getElem?_getD, this] at hk
    simp at hk; omega
  · rw [List.getElem?_set_ne (fun h => e h.symm)]; exact hx.2
theorem heightsGo_ok (ins : List Ins) (hc : Calm ins) : ∀ (fuel : Nat) (q : List (Int × Int)) (out : List Int), q.length + 2 * zjn out < fuel → (∀ x ∈ q, 0 ≤ x.2 ∧ x.2 ≤ 16) → HeiInv ins q out → (heightsGo ins fuel q out).2 = 0 → HeiOk ins (heightsGo ins fuel q out).1
  | 0, q, out, h, _, _, _ => by omega
  | f + 1, [], out, _, _, iv, _ => ⟨iv.len, by rcases iv.start with h | h; simp at h; exact h, fun m i h h1 h2 h3 => by
      obtain ⟨a, b, c, d⟩ := iv.at_ m i h h1 h2 h3
      exact ⟨a, b, c, fun x hx => (d x hx).resolve_left (by simp)⟩⟩
  | f + 1, (at_, h) :: q, out, hp, hq, iv, he => by
    unfold heightsGo at he ⊢
    have hh := hq (at_, h) (by simp)
    simp only at hh
    have hq' : ∀ x ∈ q, 0 ≤ x.2 ∧ x.2 ≤ 16 := fun x hx => hq x (by simp [hx])
    simp only [List.length_cons] at hp
    generalize hm : (if 0 ≤ at_ then ins[at_.toNat]? else none) = m at *
    cases m with
    | none => simp at he
    | some i =>
      obtain ⟨h0, hi⟩ : 0 ≤ at_ ∧ ins[at_.toNat]? = some i := by
        by_cases h0 : 0 ≤ at_
        · rw [if_pos h0] at hm; exact ⟨h0, hm⟩
        · rw [if_neg h0] at hm; cases hm
      have hl := iv.len
      have hlt : at_.toNat < out.length := by rw [hl]; exact (List.getElem?_eq_some_iff.1 hi).1
      have hget : out[at_.toNat]? = some out[at_.toNat] := List.getElem?_eq_getElem hlt
      have hgd : out.getD at_.toNat 0 = out[at_.toNat] := by rw [List.getD_eq_getElem?_getD, hget]; rfl
      simp only at he ⊢
      by_cases hs : 0 ≤ out.getD at_.toNat 0
      · rw [if_pos hs] at he ⊢
        by_cases hne : out.getD at_.toNat 0 ≠ h
        · rw [if_pos hne] at he; simp at he
        · rw [if_neg hne] at he ⊢
          have hth : there out (at_, h) := ⟨h0, by rw [hget, ← hgd]; simp only; rw [Classical.not_not.1 hne]⟩
          refine heightsGo_ok ins hc f q out (by omega) hq' ⟨hl, ?_, fun m j k h1 h2 h3 => ?_⟩ he
          · rcases iv.start with h | h
            · rcases List.mem_cons.1 h with h | h
              · rw [h]; exact .inr hth
              · exact .inl h
            · exact .inr h
          · obtain ⟨a, b, c, d⟩ := iv.at_ m j k h1 h2 h3
            refine ⟨a, b, c, fun x hx => ?_⟩
            rcases d x hx with h | h
            · rcases List.mem_cons.1 h with h | h
              · rw [h]; exact .inr hth
              · exact .inl h
            · exact .inr h
      · rw [if_neg hs] at he ⊢
        have hb := zie i (hc i (List.mem_of_getElem? hi))
        by_cases h1 : h < (effect i).1 ∨ (i.op = 18 ∧ h ≠ 1)
        · rw [if_pos h1] at he; simp at he
        · rw [if_neg h1] at he ⊢
          by_cases h2 : 16 < h + (effect i).2 - (effect i).1
          · rw [if_pos h2] at he; simp at he
          · rw [if_neg h2] at he ⊢
            have hu := zqd (out := out) (k := at_.toNat) (h := h) hlt (by omega) hh.1
            have hth : there (out.set at_.toNat h) (at_, h) := ⟨h0, List.getElem?_set_self hlt⟩
            refine heightsGo_ok ins hc f _ _ ?_ ?_ ⟨by simpa using hl, ?_, ?_⟩ he
            · simp only [List.length_append]
              have l1 : (if i.op ≠ 15 ∧ i.op ≠ 18 then [(at_ + 1, h + (effect i).2 - (effect i).1)] else []).length ≤ 1 := by split <;> simp
              have l2 : (if i.op = 15 ∨ i.op = 16 then [(i.a, h + (effect i).2 - (effect i).1)] else []).length ≤ 1 := by split <;> simp
              omega
            · intro x hx
              simp only [List.mem_append] at hx
              rcases hx with (hx | hx) | hx
              · exact hq' x hx
              · split at hx
                · simp at hx; subst hx; constructor <;> simp only <;> omega
                · simp at hx
              · split at hx
                · simp at hx; subst hx; constructor <;> simp only <;> omega
                · simp at hx
            · rcases iv.start with h9 | h9
              · rcases List.mem_cons.1 h9 with h9 | h9
                · rw [h9]; exact .inr hth
                · exact .inl (by simp [h9])
              · exact .inr (there_set h9 (by omega) (Int.le_refl _))
            · intro m j k m1 m2 m3
              by_cases e : m = at_.toNat
              · subst e
                rw [hi] at m1
                cases m1
                rw [List.getElem?_set_self hlt] at m2
                cases m2
                have ea : ((at_.toNat : Nat) : Int) = at_ := Int.toNat_of_nonneg h0
                refine ⟨by omega, fun h18 => by omega, by unfold after; omega, fun x hx => .inl ?_⟩
                unfold succs after at hx
                rw [ea] at hx
                rw [List.append_assoc]
                exact List.mem_append_right _ hx
              · rw [List.getElem?_set_ne (fun h => e h.symm)] at m2
                obtain ⟨a, b, c, d⟩ := iv.at_ m j k m1 m2 m3
                have hbj := zie j (hc j (List.mem_of_getElem? m1))
                refine ⟨a, b, c, fun x hx => ?_⟩
                have hx2 : 0 ≤ x.2 := by
                  have : x.2 = after j k := by
                    unfold succs at hx
                    rcases List.mem_append.1 hx with h | h
                    · split at h
                      · simp at h; rw [h]
                      · simp at h
                    · split at h
                      · simp at h; rw [h]
                      · simp at h
                  rw [this]; unfold after; omega
                rcases d x hx with h | h
                · rcases List.mem_cons.1 h with h | h
                  · rw [h]; exact .inr hth
                  · exact .inl (by simp [h])
                · exact .inr (there_set h (by omega) hx2)
theorem heights_ok {ins : List Ins} (hc : Calm ins) (h : (heights ins).2 = 0) : HeiOk ins (heights ins).1 := by
  refine heightsGo_ok ins hc _ _ _ ?_ ?_ ⟨by simp, .inl (by simp), fun m i k h1 h2 h3 => ?_⟩ h
  · unfold zjn; simp [List.countP_replicate]; omega
  · intro x hx; simp at hx; subst hx; simp
  · have := List.mem_of_getElem? h2
    have := List.eq_of_mem_replicate this
    omega
end VM
end Go.Proofs.YtdmibdjokofclaaGreatDoor
set_option maxRecDepth 8000
namespace Go.Proofs.YtdmibdjokofclaaGreatDoor
namespace VM
theorem WrongOk.mono {v : Val} {N M : Int} (h : WrongOk v N) (hn : N ≤ M) : WrongOk v M := ⟨h.kind, h.int, h.len, fun k => by have := h.cell k; omega, h.txt, h.non⟩
structure FrOk (p : Prg) (N : Nat) (f : Frm) : Prop where
  fn0 : 0 ≤ f.fn
  at0 : 0 ≤ f.at_
  code : f.fn.toNat < p.codes.length
  ins : f.at_.toNat < (codeAt p f.fn).ins.length
  vars : (f.vars.length : Int) = (codeAt p f.fn).vars
  vv : ∀ v ∈ f.vars, WrongOk v N
  sv : ∀ v ∈ f.stack, WrongOk v N
def hts (p : Prg) (f : Frm) : List Int := (heights (codeAt p f.fn).ins).1
def Still (p : Prg) (f : Frm) : Prop := (hts p f)[f.at_.toNat]? = some (f.stack.length : Int)
structure Waits (p : Prg) (f : Frm) (fn : Int) : Prop where
  pos : 0 < f.at_
  op : ((codeAt p f.fn).ins.getD (f.at_.toNat - 1) ⟨0, 0, 0⟩).op = 17
  to : ((codeAt p f.fn).ins.getD (f.at_.toNat - 1) ⟨0, 0, 0⟩).a = fn
  seen : 0 ≤ (hts p f).getD (f.at_.toNat - 1) 0
  hei : (hts p f)[f.at_.toNat]? = some ((f.stack.length : Int) + 1)
inductive WChain (p : Prg) : List Frm → Int → Prop
  | nil (fn : Int) : WChain p [] fn
  | snoc (gs : List Frm) (g : Frm) (fn : Int) : WChain p gs g.fn → Waits p g fn → WChain p (gs ++ [g]) fn
structure Live (a : Agt) (fs : List Frm) (f : Frm) : Prop where
  fr : a.frames = fs ++ [f]
  prog : program a.prog = 0
  id : 0 ≤ a.id ∧ a.id ≤ 1073741824
  trip : 0 ≤ a.trip ∧ a.trip ≤ 1073741824
  fuel : 0 ≤ a.permit.fuel ∧ a.permit.fuel ≤ 2000
  room : 0 ≤ a.permit.room
  hops : 0 ≤ a.permit.hops ∧ a.permit.hops ≤ 12
  flen : fs.length < 12
  hlen : (a.heap.length : Int) + a.permit.room ≤ 60
  ok : ∀ g ∈ fs ++ [f], FrOk a.prog a.heap.length g
  chain : WChain a.prog fs f.fn
  still : Still a.prog f
  cells : ∀ c ∈ a.heap, WrongOk c.left a.heap.length ∧ WrongOk c.right a.heap.length
structure Now (p : Prg) (f : Frm) (i : Ins) : Prop where
  at_ : (codeAt p f.fn).ins[f.at_.toNat]? = some i
  num : numbers p (codeAt p f.fn) i = 0
  pops : (effect i).1 ≤ f.stack.length
  ret : i.op = 18 → f.stack.length = 1
  most : after i f.stack.length ≤ 16
  next : ∀ x ∈ succs f.at_ i f.stack.length, there (hts p f) x
theorem code_mem {p : Prg} {n : Int} (h : n.toNat < p.codes.length) : codeAt p n ∈ p.codes := by
  unfold codeAt
  rw [List.getD_eq_getElem?_getD, List.getElem?_eq_getElem h]
  exact List.getElem_mem h
theorem program_nums {p : Prg} (h : program p = 0) : ∀ c ∈ p.codes, ∀ i ∈ c.ins, numbers p c i = 0 := by
  unfold program at h
  split at h
  · omega
  split at h
  · omega
  split at h
  · omega
  split at h
  · omega
  split at h
  · omega
  intro c hc i hi
  have he := zdg h c hc
  unfold codeErr at he
  by_cases hn : firstErr (numbers p c) c.ins ≠ 0
  · rw [if_pos hn] at he; exact absurd he hn
  · exact zdg (by omega) i hi
theorem Live.now {a : Agt} {fs : List Frm} {f : Frm} (l : Live a fs f) : Now a.prog f (insAt a.prog f) := by
  have ok := l.ok f (by simp)
  obtain ⟨pr, _⟩ := zag l.prog
  obtain ⟨_, calm, hz⟩ := pr _ (code_mem ok.code)
  have hk := heights_ok calm hz
  have hi : (codeAt a.prog f.fn).ins[f.at_.toNat]? = some (insAt a.prog f) := by
    unfold insAt
    rw [List.getD_eq_getElem?_getD, List.getElem?_eq_getElem ok.ins]; rfl
  have ea : ((f.at_.toNat : Nat) : Int) = f.at_ := Int.toNat_of_nonneg ok.at0
  obtain ⟨h1, h2, h3, h4⟩ := hk.at_ _ _ _ hi l.still (by omega)
  rw [ea] at h4
  exact ⟨hi, program_nums l.prog _ (code_mem ok.code) _ (List.mem_of_getElem? hi), h1, fun h => by have := h2 h; omega, h3, h4⟩
theorem numbers_ok {p : Prg} {c : Cod} {i : Ins} (h : numbers p c i = 0) : 1 ≤ i.op ∧ i.op ≤ 19 ∧ numOk p c i = true ∧ (i.op ≠ 17 → i.b = 0) := by
  unfold numbers at h
  split at h
  · omega
  split at h
  · omega
  rename_i h1 h2
  refine ⟨by omega, by omega, ?_, fun hb => ?_⟩
  · cases hn : numOk p c i with
    | true => rfl
    | false => exact absurd (.inl hn) h2
  · exact Classical.byContradiction fun hx => h2 (.inr ⟨hb, hx⟩)
end VM
end Go.Proofs.YtdmibdjokofclaaGreatDoor
set_option maxRecDepth 8000
namespace Go.Proofs.YtdmibdjokofclaaGreatDoor
namespace VM
theorem hts_len {p : Prg} {f : Frm} (hp : program p = 0) (hc : f.fn.toNat < p.codes.length) : (hts p f).length = (codeAt p f.fn).ins.length := by
  obtain ⟨pr, _⟩ := zag hp
  obtain ⟨_, calm, hz⟩ := pr _ (code_mem hc)
  exact (zff calm hz).1
theorem FrOk.mono {p : Prg} {N M : Nat} {f : Frm} (h : FrOk p N f) (hn : N ≤ M) : FrOk p M f :=
  ⟨h.fn0, h.at0, h.code, h.ins, h.vars, fun v hv => (h.vv v hv).mono (by omega), fun v hv => (h.sv v hv).mono (by omega)⟩
theorem Live.on {a : Agt} {fs : List Frm} {f : Frm} (l : Live a fs f) {k : Int} {vs st : List Val} {h : List Cl} {m : Pmt} (hk : there (hts a.prog f) (k, st.length)) (hvl : vs.length = f.vars.length) (hv : ∀ v ∈ vs, WrongOk v h.length) (hs : ∀ v ∈ st, WrongOk v h.length)
    (hh : a.heap.length ≤ h.length) (hc : ∀ c ∈ h, WrongOk c.left h.length ∧ WrongOk c.right h.length) (m1 : 0 ≤ m.fuel ∧ m.fuel ≤ 2000) (m2 : 0 ≤ m.room) (m3 : 0 ≤ m.hops ∧ m.hops ≤ 12) (hl : (h.length : Int) + m.room ≤ 60) :
    Live { a with frames := fs ++ [⟨f.fn, k, vs, st⟩], heap := h, permit := m } fs ⟨f.fn, k, vs, st⟩ := by
  have ok := l.ok f (by simp)
  obtain ⟨k0, k1⟩ := hk
  have klt := (List.getElem?_eq_some_iff.1 k1).1
  rw [hts_len l.prog ok.code] at klt
  refine ⟨rfl, l.prog, l.id, l.trip, m1, m2, m3, l.flen, hl, fun g hg => ?_, l.chain, k1, hc⟩
  rcases List.mem_append.1 hg with hg | hg
  · exact (l.ok g (by simp [hg])).mono hh
  · simp only [List.mem_singleton] at hg
    subst hg
    exact ⟨ok.fn0, k0, ok.code, klt, by have := ok.vars; simp only; omega, hv, hs⟩
theorem WChain.last {p : Prg} {gs : List Frm} {g : Frm} {fn : Int} (h : WChain p (gs ++ [g]) fn) : WChain p gs g.fn ∧ Waits p g fn := by
  generalize hl : gs ++ [g] = l at h
  cases h with
  | nil => simp at hl
  | snoc gs' g' _ h1 h2 =>
    obtain ⟨rfl, h⟩ := List.append_inj' hl rfl
    cases h
    exact ⟨h1, h2⟩
theorem Now.go {p : Prg} {f : Frm} {i : Ins} (n : Now p f i) (h1 : i.op ≠ 15) (h2 : i.op ≠ 18) : there (hts p f) (f.at_ + 1, after i f.stack.length) :=
  n.next _ (by unfold succs; simp [h1, h2])
theorem Now.jump {p : Prg} {f : Frm} {i : Ins} (n : Now p f i) (h : i.op = 15 ∨ i.op = 16) : there (hts p f) (i.a, after i f.stack.length) :=
  n.next _ (by unfold succs; simp [h])
theorem low_len (k : Nat) (st : List Val) : (low k st).length = st.length - k := by unfold low; simp
theorem low_mem {k : Nat} {st : List Val} {v : Val} (h : v ∈ low k st) : v ∈ st := List.mem_of_mem_take h
theorem top1_mem {st : List Val} (h : 1 ≤ st.length) : top1 st ∈ st := by
  unfold top1
  rw [List.getD_eq_getElem?_getD, List.getElem?_eq_getElem (by omega)]
  exact List.getElem_mem _
theorem top2_mem {st : List Val} (h : 2 ≤ st.length) : top2 st ∈ st := by
  unfold top2
  rw [List.getD_eq_getElem?_getD, List.getElem?_eq_getElem (by omega)]
  exact List.getElem_mem _
theorem zero_ok (N : Int) : WrongOk vzero N := ⟨.inl rfl, fun _ => by unfold vzero; simp, by unfold vzero; simp, fun h => by unfold vzero at h; simp at h, fun h => by unfold vzero at h; simp at h, fun _ => rfl⟩
theorem num_ok {n : Int} (h : -1073741824 ≤ n ∧ n ≤ 1073741824) (N : Int) : WrongOk ⟨0, n, []⟩ N := ⟨.inl rfl, fun _ => h, by simp, fun h => by simp at h, fun h => by simp at h, fun _ => rfl⟩
theorem text_ok (s : Str) (N : Int) : WrongOk (cText s) N := ⟨.inr (.inl rfl), fun h => by unfold cText at h; simp at h, by unfold cText; simp; omega, fun h => by unfold cText at h; simp at h, fun _ => rfl, fun h => by unfold cText at h; simp at h⟩
theorem cInt_ok (n N : Int) : WrongOk (cInt n) N := by
  unfold cInt
  apply num_ok
  have := Int.tmod_lt_of_pos n (b := 1073741825) (by omega)
  have := Int.lt_tmod_of_pos n (b := 1073741825) (by omega)
  omega
theorem bit_ok (b : Bool) (N : Int) : WrongOk (bit b) N := by
  unfold bit
  apply num_ok
  cases b <;> simp
theorem two_ok (op : Int) (a b : Val) (N : Int) : WrongOk (two op a b).1 N := by
  unfold two
  repeat' split
  all_goals first | exact zero_ok N | exact bit_ok _ N | exact text_ok _ N | exact cInt_ok _ N
theorem any_ok {v : Val} (h : WrongOk v (0 : Int)) (N : Int) : WrongOk v N := ⟨h.kind, h.int, h.len, fun k => by have := h.cell k; omega, h.txt, h.non⟩
theorem ask_ok {l : List Fct} (h : ∀ x ∈ l, WrongOk x.val (0 : Int)) (k : Str) (N : Int) : WrongOk (ask l k) N := by
  unfold ask
  cases hf : l.find? (fun f => decide (f.key = k)) with
  | none => exact zero_ok N
  | some f => exact any_ok (h f (List.mem_of_find?_eq_some hf)) N
theorem getD_mem {α : Type} {l : List α} {n : Nat} {d : α} (h : n < l.length) : l.getD n d ∈ l := by
  rw [List.getD_eq_getElem?_getD, List.getElem?_eq_getElem h]
  exact List.getElem_mem h
set_option maxHeartbeats 2000000 in
theorem opDo_live {a : Agt} {fs : List Frm} {f : Frm} {s : Spt} (l : Live a fs f) (hf : a.permit.fuel ≠ 0) (hs : ∀ x ∈ s.facts, WrongOk x.val (0 : Int)) {i : Ins} (n : Now a.prog f i) :
    (opDo { a with permit := { a.permit with fuel := a.permit.fuel - 1 } } s fs { f with at_ := f.at_ + 1 } i).2.kind = 0 → ∃ gs g, Live (opDo { a with permit := { a.permit with fuel := a.permit.fuel - 1 } } s fs { f with at_ := f.at_ + 1 } i).1 gs g := by
  obtain ⟨o1, o2, o3, o4⟩ := numbers_ok n.num
  have ok := l.ok f (by simp)
  have sv := ok.sv
  have vv := ok.vv
  have b1 := l.fuel
  have b2 := l.room
  have b3 := l.hops
  have b4 := l.hlen
  have nx := n.go
  have pops := n.pops
  obtain ⟨fn, at_, vars, stack⟩ := f
  obtain ⟨op, ia, ib⟩ := i
  simp only at *
  have hop : op = 1 ∨ op = 2 ∨ op = 3 ∨ op = 4 ∨ op = 5 ∨ op = 6 ∨ op = 7 ∨ op = 8 ∨ op = 9 ∨ op = 10 ∨ op = 11 ∨ op = 12 ∨ op = 13 ∨ op = 14 ∨ op = 15 ∨ op = 16 ∨ op = 17 ∨ op = 18 ∨ op = 19 := by omega
  have lowok : ∀ k, ∀ v ∈ low k stack, WrongOk v a.heap.length := fun k v hv => sv v (low_mem hv)
  have snoc : ∀ (st : List Val) (v : Val) (N : Nat), a.heap.length ≤ N → (∀ x ∈ st, WrongOk x a.heap.length) → WrongOk v N → ∀ x ∈ st ++ [v], WrongOk x N := fun st v N hN h1 h2 x hx => by
    rcases List.mem_append.1 hx with h | h
    · exact (h1 x h).mono (by omega)
    · simp at h; rw [h]; exact h2
  have gen : ∀ {st vs : List Val} {z k : Int} {h : List Cl} {m : Pmt}, there (hts a.prog ⟨fn, at_, vars, stack⟩) (k, z) → (st.length : Int) = z → vs.length = vars.length → (∀ v ∈ vs, WrongOk v h.length) → (∀ v ∈ st, WrongOk v h.length) →
      a.heap.length ≤ h.length → (∀ c ∈ h, WrongOk c.left h.length ∧ WrongOk c.right h.length) → (0 ≤ m.fuel ∧ m.fuel ≤ 2000) → 0 ≤ m.room → (0 ≤ m.hops ∧ m.hops ≤ 12) → ((h.length : Int) + m.room ≤ 60) →
      ∃ gs g, Live { a with frames := fs ++ [⟨fn, k, vs, st⟩], heap := h, permit := m } gs g := fun h1 hz h2 h3 h4 h5 h6 h7 h8 h9 h10 =>
    ⟨fs, _, l.on (by rw [hz]; exact h1) h2 h3 h4 h5 h6 h7 h8 h9 h10⟩
  have same : ∀ {st vs : List Val} {z k : Int}, there (hts a.prog ⟨fn, at_, vars, stack⟩) (k, z) → (st.length : Int) = z → vs.length = vars.length → (∀ v ∈ vs, WrongOk v a.heap.length) → (∀ v ∈ st, WrongOk v a.heap.length) →
      ∃ gs g, Live { a with frames := fs ++ [⟨fn, k, vs, st⟩], heap := a.heap, permit := { a.permit with fuel := a.permit.fuel - 1 } } gs g := fun h1 hz h2 h3 h4 =>
    gen h1 hz h2 h3 h4 (Nat.le_refl _) l.cells (by simp only; omega) b2 b3 b4
  have top1ok : 1 ≤ stack.length → WrongOk (top1 stack) a.heap.length := fun h => sv _ (top1_mem h)
  have top2ok : 2 ≤ stack.length → WrongOk (top2 stack) a.heap.length := fun h => sv _ (top2_mem h)
  have cellok : ∀ v : Val, WrongOk v a.heap.length → v.kind = 2 → v.n.toNat < a.heap.length := fun v h k => by have := h.cell k; omega
  have cellin : ∀ v : Val, WrongOk v a.heap.length → v.kind = 2 → WrongOk (a.heap.getD v.n.toNat cl0).left a.heap.length ∧ WrongOk (a.heap.getD v.n.toNat cl0).right a.heap.length := fun v h k => l.cells _ (getD_mem (cellok v h k))
  have ll : ∀ k, (low k stack).length = stack.length - k := fun k => low_len k stack
  rcases hop with rfl | rfl | rfl | rfl | rfl | rfl | rfl | rfl | rfl | rfl | rfl | rfl | rfl | rfl | rfl | rfl | rfl | rfl | rfl
  · -- a number
    rw [opDo_1]
    intro _
    have hn : -1073741824 ≤ ia ∧ ia ≤ 1073741824 := by unfold numOk at o3; simpa using o3
    exact same (nx (by omega) (by omega)) (by simp [after, effect]) rfl vv (snoc _ _ _ (Nat.le_refl _) sv (num_ok hn _))
  · -- a text
    rw [opDo_2]
    intro _
    exact same (nx (by omega) (by omega)) (by simp [after, effect]) rfl vv (snoc _ _ _ (Nat.le_refl _) sv (text_ok _ _))
  · -- a variable
    rw [opDo_3]
    intro _
    have hv := ok.vars
    have hn : 0 ≤ ia ∧ ia < (codeAt a.prog fn).vars := by unfold numOk isIn at o3; simpa using o3
    exact same (nx (by omega) (by omega)) (by simp [after, effect]) rfl vv (snoc _ _ _ (Nat.le_refl _) sv (vv _ (getD_mem (by simp only at hv; omega))))
  · -- a variable is set
    rw [opDo_4]
    have hp : 1 ≤ stack.length := by simp [effect] at pops; omega
    intro _
    exact same (nx (by omega) (by omega)) (by simp [after, effect, ll]; omega) (by simp) (fun v hv => by
      rcases List.mem_or_eq_of_mem_set hv with h | h
      · exact vv v h
      · rw [h]; exact top1ok hp) (lowok 1)
  · -- an operation
    rw [opDo_5]
    have hp : 2 ≤ stack.length := by simp [effect] at pops; omega
    by_cases ht : (two ia (top2 stack) (top1 stack)).2 = 0
    · rw [if_pos ht]
      intro _
      exact same (nx (by omega) (by omega)) (by simp [after, effect, ll]; omega) rfl vv (snoc _ _ _ (Nat.le_refl _) (lowok 2) (two_ok _ _ _ _))
    · rw [if_neg ht]; intro h; exact absurd h (by simp [dead])
  · -- a cell
    rw [opDo_6]
    have hp : 2 ≤ stack.length := by simp [effect] at pops; omega
    by_cases hr : a.permit.room = 0
    · rw [if_pos hr]; intro h; exact absurd h (by simp [dead])
    · rw [if_neg hr]
      intro _
      refine gen (h := a.heap ++ [⟨top2 stack, top1 stack⟩]) (m := ⟨a.permit.fuel - 1, a.permit.room - 1, a.permit.hops⟩) (nx (by omega) (by omega)) (by simp [after, effect, ll]; omega) rfl (fun v hv => (vv v hv).mono (by simp; omega)) (snoc _ _ _ (by simp) (lowok 2) ?_) (by simp) (fun c hc => ?_) (by simp only; omega) (by simp only; omega) b3 (by simp; omega)
      · exact ⟨.inr (.inr rfl), fun h => by simp at h, by simp, fun _ => by simp; omega, fun h => by simp at h, fun _ => rfl⟩
      · rcases List.mem_append.1 hc with h | h
        · obtain ⟨w1, w2⟩ := l.cells c h
          exact ⟨w1.mono (by simp; omega), w2.mono (by simp; omega)⟩
        · simp at h; subst h
          exact ⟨(top2ok hp).mono (by simp; omega), (top1ok (by omega)).mono (by simp; omega)⟩
  · -- a left part
    rw [opDo_7]
    have hp : 1 ≤ stack.length := by simp [effect] at pops; omega
    by_cases hk : (top1 stack).kind = 2
    · rw [if_neg (by simpa using hk)]
      intro _
      exact same (nx (by omega) (by omega)) (by simp [after, effect, ll]; omega) rfl vv (snoc _ _ _ (Nat.le_refl _) (lowok 1) (cellin _ (top1ok hp) hk).1)
    · rw [if_pos (by simpa using hk)]; intro h; exact absurd h (by simp [dead])
  · -- a right part
    rw [opDo_8]
    have hp : 1 ≤ stack.length := by simp [effect] at pops; omega
    by_cases hk : (top1 stack).kind = 2
    · rw [if_neg (by simpa using hk)]
      intro _
      exact same (nx (by omega) (by omega)) (by simp [after, effect, ll]; omega) rfl vv (snoc _ _ _ (Nat.le_refl _) (lowok 1) (cellin _ (top1ok hp) hk).2)
    · rw [if_pos (by simpa using hk)]; intro h; exact absurd h (by simp [dead])
  · -- a left part is set
    rw [opDo_9]
    have hp : 2 ≤ stack.length := by simp [effect] at pops; omega
    by_cases hk : (top2 stack).kind = 2
    · rw [if_neg (by simpa using hk)]
      intro _
      refine gen (h := a.heap.set (top2 stack).n.toNat { a.heap.getD (top2 stack).n.toNat cl0 with left := top1 stack }) (nx (by omega) (by omega)) (by simp [after, effect, ll]; omega) rfl (by simpa using vv) (by simpa using lowok 2) (by simp) (fun c hc => ?_) (by simp only; omega) b2 b3 (by simpa using b4)
      rw [List.length_set]
      rcases List.mem_or_eq_of_mem_set hc with h | h
      · exact l.cells c h
      · rw [h]; exact ⟨top1ok (by omega), (cellin _ (top2ok hp) hk).2⟩
    · rw [if_pos (by simpa using hk)]; intro h; exact absurd h (by simp [dead])
  · -- a right part is set
    rw [opDo_10]
    have hp : 2 ≤ stack.length := by simp [effect] at pops; omega
    by_cases hk : (top2 stack).kind = 2
    · rw [if_neg (by simpa using hk)]
      intro _
      refine gen (h := a.heap.set (top2 stack).n.toNat { a.heap.getD (top2 stack).n.toNat cl0 with right := top1 stack }) (nx (by omega) (by omega)) (by simp [after, effect, ll]; omega) rfl (by simpa using vv) (by simpa using lowok 2) (by simp) (fun c hc => ?_) (by simp only; omega) b2 b3 (by simpa using b4)
      rw [List.length_set]
      rcases List.mem_or_eq_of_mem_set hc with h | h
      · exact l.cells c h
      · rw [h]; exact ⟨(cellin _ (top2ok hp) hk).1, top1ok (by omega)⟩
    · rw [if_pos (by simpa using hk)]; intro h; exact absurd h (by simp [dead])
  · -- the place is asked
    rw [opDo_11]
    have hp : 1 ≤ stack.length := by simp [effect] at pops; omega
    by_cases hk : (top1 stack).kind = 1
    · rw [if_neg (by simpa using hk)]
      intro _
      exact same (nx (by omega) (by omega)) (by simp [after, effect, ll]; omega) rfl vv (snoc _ _ _ (Nat.le_refl _) (lowok 1) (ask_ok hs _ _))
    · rw [if_pos (by simpa using hk)]; intro h; exact absurd h (by simp [dead])
  · -- the place's name
    rw [opDo_12]
    intro _
    exact same (nx (by omega) (by omega)) (by simp [after, effect]) rfl vv (snoc _ _ _ (Nat.le_refl _) sv (text_ok _ _))
  · -- setting out
    rw [opDo_13]
    have hp : 1 ≤ stack.length := by simp [effect] at pops; omega
    by_cases hk : (top1 stack).kind = 1
    · rw [if_neg (by simpa using hk)]
      by_cases hh : a.permit.hops = 0
      · rw [if_pos hh]
        intro _
        exact same (nx (by omega) (by omega)) (by simp [after, effect, ll]; omega) rfl vv (snoc _ _ _ (Nat.le_refl _) (lowok 1) (zero_ok _))
      · rw [if_neg hh]; intro h; exact absurd h (by simp)
    · rw [if_pos (by simpa using hk)]; intro h; exact absurd h (by simp [dead])
  · -- something is said
    rw [opDo_14]
    intro h; exact absurd h (by simp)
  · -- a jump
    rw [opDo_15]
    intro _
    exact same (n.jump (.inl rfl)) (by simp [after, effect]) rfl vv sv
  · -- a branch
    rw [opDo_16]
    have hp : 1 ≤ stack.length := by simp [effect] at pops; omega
    intro _
    by_cases hz : (top1 stack).kind = 0 ∧ (top1 stack).n = 0
    · rw [if_pos hz]
      exact same (n.jump (.inr rfl)) (by simp [after, effect, ll]; omega) rfl vv (lowok 1)
    · rw [if_neg hz]
      exact same (nx (by omega) (by omega)) (by simp [after, effect, ll]; omega) rfl vv (lowok 1)
  · -- a call
    rw [opDo_17]
    by_cases hd : 12 ≤ fs.length + 1
    · rw [if_pos hd]; intro h; exact absurd h (by simp [dead])
    rw [if_neg hd]
    intro _
    have hn : (0 ≤ ia ∧ ia < a.prog.codes.length) ∧ some ib = (a.prog.codes[ia.toNat]?).map (·.params) := by unfold numOk isIn at o3; simpa using o3
    obtain ⟨⟨h0, h1⟩, h2⟩ := hn
    have hlt : ia.toNat < a.prog.codes.length := by omega
    have hcm := code_mem (p := a.prog) (n := ia) hlt
    have hpar : (codeAt a.prog ia).params = ib := by
      unfold codeAt
      rw [List.getD_eq_getElem?_getD]
      rw [List.getElem?_eq_getElem hlt] at h2 ⊢
      simp at h2; simp [h2]
    obtain ⟨pr, _⟩ := zag l.prog
    obtain ⟨crange, calm, hz⟩ := pr _ hcm
    have hk := heights_ok calm hz
    unfold codeRange at crange
    rw [decide_eq_false_iff_not, hpar] at crange
    simp [effect] at pops
    have nxt := nx (by omega) (by omega)
    have eaf : after ⟨17, ia, ib⟩ stack.length = stack.length + 1 - ib := by simp [after, effect]
    rw [eaf] at nxt
    obtain ⟨nx0, nx1⟩ := nxt
    have klt := (List.getElem?_eq_some_iff.1 nx1).1
    rw [hts_len l.prog ok.code] at klt
    have ok0 := ok.at0
    have okc := ok.code
    have okf := ok.fn0
    have okv := ok.vars
    simp only at nx0 nx1 klt ok0 okc okf okv
    have hat : (at_ + 1).toNat - 1 = at_.toNat := by omega
    have hins : (codeAt a.prog fn).ins[at_.toNat]? = some ⟨17, ia, ib⟩ := n.at_
    have hst : (hts a.prog ⟨fn, at_, vars, stack⟩)[at_.toNat]? = some (stack.length : Int) := l.still
    have hhts : ∀ (x : Int) (vs st : List Val), hts a.prog ⟨fn, x, vs, st⟩ = hts a.prog ⟨fn, at_, vars, stack⟩ := fun _ _ _ => rfl
    have hwait : Waits a.prog ⟨fn, at_ + 1, vars, low ib.toNat stack⟩ ia := by
      refine ⟨by simp only; omega, ?_, ?_, ?_, ?_⟩
      · simp only
        rw [hat, List.getD_eq_getElem?_getD, hins]; rfl
      · simp only
        rw [hat, List.getD_eq_getElem?_getD, hins]; rfl
      · simp only
        rw [hhts, hat, List.getD_eq_getElem?_getD, hst]
        simp
      · simp only
        rw [hhts, nx1, ll]
        congr 1
        omega
    have hstart : (heights (codeAt a.prog ia).ins).1[(0 : Int).toNat]? = some 0 := hk.start.2
    simp only [toF]
    refine ⟨fs ++ [⟨fn, at_ + 1, vars, low ib.toNat stack⟩], ⟨ia, 0, stack.drop (stack.length - ib.toNat) ++ List.replicate ((codeAt a.prog ia).vars - ib).toNat vzero, []⟩, rfl, l.prog, l.id, l.trip, by simp only; omega, b2, b3, by simp; omega, b4, fun g hg => ?_, WChain.snoc fs ⟨fn, at_ + 1, vars, low ib.toNat stack⟩ ia l.chain hwait, hstart, l.cells⟩
    · rcases List.mem_append.1 hg with hg | hg
      · rcases List.mem_append.1 hg with hg | hg
        · exact l.ok g (by simp [hg])
        · simp at hg; subst hg
          exact ⟨okf, nx0, okc, klt, okv, vv, lowok _⟩
      · simp at hg; subst hg
        refine ⟨h0, by simp, hlt, by simp only; omega, ?_, fun v hv => ?_, by simp⟩
        · simp only [List.length_append, List.length_drop, List.length_replicate]; omega
        · rcases List.mem_append.1 hv with h | h
          · exact sv v (List.mem_of_mem_drop h)
          · rw [List.eq_of_mem_replicate h]; exact zero_ok _
  · -- coming back
    rw [opDo_18]
    have hp : 1 ≤ stack.length := by simp [effect] at pops; omega
    cases hg : fs.getLast? with
    | none => intro h; exact absurd h (by simp)
    | some g =>
      intro _
      obtain ⟨gs, rfl⟩ := List.getLast?_eq_some_iff.1 hg
      obtain ⟨c1, c2⟩ := l.chain.last
      have okg := l.ok g (by simp)
      refine ⟨gs, { g with stack := g.stack ++ [top1 stack] }, ?_, l.prog, l.id, l.trip, by simp only [push, toF]; omega, b2, b3, by have := l.flen; simp at this; omega, b4, fun x hx => ?_, c1, ?_, l.cells⟩
      · simp [push, toF]
      · rcases List.mem_append.1 hx with h | h
        · exact l.ok x (by simp [h])
        · simp at h; subst h
          exact ⟨okg.fn0, okg.at0, okg.code, okg.ins, okg.vars, okg.vv, snoc _ _ _ (Nat.le_refl _) okg.sv (top1ok hp)⟩
      · have h1 : (hts a.prog g)[g.at_.toNat]? = some ((g.stack.length : Int) + 1) := c2.hei
        show (hts a.prog g)[g.at_.toNat]? = some (((g.stack ++ [top1 stack]).length : Nat) : Int)
        rw [h1]; simp
  · -- nothing of it
    rw [opDo_19]
    have hp : 1 ≤ stack.length := by simp [effect] at pops; omega
    intro _
    exact same (nx (by omega) (by omega)) (by simp [after, effect, ll]; omega) rfl vv (lowok 1)
theorem step_live {a : Agt} {fs : List Frm} {f : Frm} {s : Spt} (l : Live a fs f) (hs : ∀ x ∈ s.facts, WrongOk x.val (0 : Int)) (h : (step a s).2.kind = 0) : ∃ gs g, Live (step a s).1 gs g := by
  unfold step at h ⊢
  by_cases hf : a.permit.fuel = 0
  · rw [if_pos hf] at h; exact absurd h (by simp [dead])
  rw [if_neg hf] at h ⊢
  have e1 : a.frames.getLast? = some f := by rw [l.fr]; simp
  have e2 : a.frames.dropLast = fs := by rw [l.fr]; simp
  rw [e1] at h ⊢
  simp only [e2] at h ⊢
  exact opDo_live l hf hs l.now h
end VM
end Go.Proofs.YtdmibdjokofclaaGreatDoor
