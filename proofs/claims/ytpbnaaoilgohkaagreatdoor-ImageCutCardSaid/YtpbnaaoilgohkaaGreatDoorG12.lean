/- Agents as bytes, and back: what was written comes back; no part of it does. What is right never gets stuck; who begins is right: in plain words. Agents as bytes, and back: the laws. Agents as bytes, and back: there and back; a part is nothing; seen the same, written the same. The bytes of an agent that is away: the program's, and the document's. The readers: agents, in plain words. The reader: programs. The agent of bytes: frames. The agent of bytes: its beginning. Words, and instructions: what the document's functions make of them. Words, and values: what the program's functions, and the document's, make of them. Numbers of instructions. Rows of numbers. Heights: what the program's function makes of a code. -/
import Derived.Test.YtpbnaaoilgohkaaGreatDoorG10
import Derived.Test.YtpbnaaoilgohkaaGreatDoorG11
import Derived.Test.YtpbnaaoilgohkaaGreatDoorG9
import Derived.Test.YtpbnaaoilgohkaaGreatDoorG8
import Derived.Test.YtpbnaaoilgohkaaGreatDoorG5
import Derived.Test.YtpbnaaoilgohkaaGreatDoorG6
set_option linter.unusedSimpArgs false
set_option linter.unusedVariables false
set_option maxRecDepth 8000
namespace Go.Proofs.YtpbnaaoilgohkaaGreatDoor
namespace VM
def Reads {α : Type} (m : Rd α) (B : Str) (a : α) : Prop := ∀ r, m (B ++ r) = .ok a r
theorem Reads.pure {α : Type} (a : α) : Reads (Rd.pure a) [] a := fun _ => rfl
theorem Reads.bind {α β : Type} {m : Rd α} {k : α → Rd β} {B C : Str} {a : α} {b : β} (h : Reads m B a) (h2 : Reads (k a) C b) : Reads (m.bind k) (B ++ C) b := fun r => by
  unfold Rd.bind
  rw [List.append_assoc, h (C ++ r)]
  exact h2 r
theorem Reads.bind0 {α β : Type} {m : Rd α} {k : α → Rd β} {B : Str} {a : α} {b : β} (h : Reads m B a) (h2 : Reads (k a) [] b) : Reads (m.bind k) B b := by
  have := h.bind h2
  rwa [List.append_nil] at this
theorem reads_num {n : Int} (h : -9223372036854775808 ≤ n ∧ n ≤ 9223372036854775807) : Reads rNum (WM.num n) n := fun r => by
  unfold rNum
  rw [WM.getNum_num n h.1 h.2 r]
  simp
theorem reads_count {n : Nat} {most : Int} (h : (n : Int) ≤ most) (hm : most ≤ 9223372036854775807) : Reads (rCount most) (WM.num n) n := fun r => by
  unfold rCount
  rw [reads_num (n := (n : Int)) (by omega) r]
  simp only
  rw [if_neg (by omega)]
theorem reads_text {s : Str} {most : Int} (h : (s.length : Int) ≤ most) (hm : most ≤ 9223372036854775807) : Reads (rText most) (textB s) s := fun r => by
  have hg : WM.getNum (textB s ++ r) = ((s.length : Int), ((WM.num s.length).length : Int), 0) := by
    unfold textB
    rw [List.append_assoc]
    exact WM.getNum_num (s.length : Int) (by omega) (by omega) (s ++ r)
  have ht : WM.getText (textB s ++ r) most = (s, ((WM.num s.length).length : Int) + s.length, 0) := by
    unfold WM.getText
    rw [hg]
    simp only
    rw [if_neg (by simp), if_neg (by omega), if_neg (by simp [textB]; omega)]
    simp [textB]
  unfold rText
  rw [ht]
  simp only [ne_eq, not_true_eq_false, if_false]
  congr 1
  have : ((((WM.num s.length).length : Int) + s.length).toNat) = (textB s).length := by simp [textB]; omega
  rw [this, List.drop_left]
theorem reads_many {α : Type} {m : Rd α} {enc : α → Str} : ∀ {l : List α}, (∀ x ∈ l, Reads m (enc x) x) → Reads (rMany m l.length) (l.flatMap enc) l
  | [], _ => Reads.pure []
  | x :: r, h => by
    have h1 := h x (by simp)
    have h2 := reads_many (l := r) fun y hy => h y (by simp [hy])
    rw [List.flatMap_cons]
    exact h1.bind (h2.bind0 (Reads.pure _))
theorem reads_val {v : Val} {N : Int} (w : WrongOk v N) (hN : N ≤ 4096) : Reads rVal (valB v) v := by
  unfold rVal valB
  have hk : -9223372036854775808 ≤ v.kind ∧ v.kind ≤ 9223372036854775807 := by rcases w.kind with h | h | h <;> omega
  refine (reads_num hk).bind ?_
  by_cases h1 : v.kind = 1
  · rw [if_pos h1, if_pos h1]
    have hl := w.len
    refine (reads_text (by omega) (by omega)).bind0 ?_
    have e : (⟨v.kind, 0, v.text⟩ : Val) = v := by
      have := w.txt h1
      obtain ⟨k, n, t⟩ := v
      simp at this
      simp [this]
    rw [e]; exact Reads.pure v
  · rw [if_neg h1, if_neg h1]
    have hn : -9223372036854775808 ≤ v.n ∧ v.n ≤ 9223372036854775807 := by
      rcases w.kind with h | h | h
      · have := w.int h; omega
      · exact absurd h h1
      · have := w.cell h; omega
    refine (reads_num hn).bind0 ?_
    have e : (⟨v.kind, v.n, []⟩ : Val) = v := by
      have := w.non h1
      obtain ⟨k, n, t⟩ := v
      simp at this
      simp [this]
    rw [e]; exact Reads.pure v
theorem reads_vals {l : List Val} {N most : Int} (w : ∀ v ∈ l, WrongOk v N) (hN : N ≤ 4096) (hl : (l.length : Int) ≤ most) (hm : most ≤ 4096) : Reads (rVals most) (valsB l) l := by
  unfold rVals valsB
  refine (reads_count hl (by omega)).bind ?_
  rw [Int.toNat_natCast]
  exact reads_many fun v hv => reads_val (w v hv) hN
theorem reads_ins {i : Ins} (h1 : -9223372036854775808 ≤ i.op ∧ i.op ≤ 9223372036854775807) (h2 : -9223372036854775808 ≤ i.a ∧ i.a ≤ 9223372036854775807) (h3 : -9223372036854775808 ≤ i.b ∧ i.b ≤ 9223372036854775807) : Reads rIns (insB i) i := by
  unfold rIns insB
  rw [List.append_assoc]
  exact (reads_num h1).bind ((reads_num h2).bind ((reads_num h3).bind0 (Reads.pure i)))
structure PrgOk (p : Prg) : Prop where
  words : p.words.length ≤ 16
  word : ∀ w ∈ p.words, w.length ≤ 12
  codes : p.codes.length ≤ 5
  code : ∀ c ∈ p.codes, c.ins.length ≤ 200 ∧ (0 ≤ c.params ∧ c.params ≤ 100) ∧ (0 ≤ c.vars ∧ c.vars ≤ 100) ∧ ∀ i ∈ c.ins, (-9223372036854775808 ≤ i.op ∧ i.op ≤ 9223372036854775807) ∧ (-9223372036854775808 ≤ i.a ∧ i.a ≤ 9223372036854775807) ∧ (-9223372036854775808 ≤ i.b ∧ i.b ≤ 9223372036854775807)
theorem reads_cod {c : Cod} (h : c.ins.length ≤ 200 ∧ (0 ≤ c.params ∧ c.params ≤ 100) ∧ (0 ≤ c.vars ∧ c.vars ≤ 100) ∧ ∀ i ∈ c.ins, (-9223372036854775808 ≤ i.op ∧ i.op ≤ 9223372036854775807) ∧ (-9223372036854775808 ≤ i.a ∧ i.a ≤ 9223372036854775807) ∧ (-9223372036854775808 ≤ i.b ∧ i.b ≤ 9223372036854775807)) : Reads rCod (codB c) c := by
  obtain ⟨h1, h2, h3, h4⟩ := h
  unfold rCod codB
  rw [List.append_assoc, List.append_assoc]
  refine (reads_num (by omega)).bind ((reads_num (by omega)).bind ((reads_count (by omega) (by omega)).bind ?_))
  rw [Int.toNat_natCast]
  exact (reads_many fun i hi => reads_ins (h4 i hi).1 (h4 i hi).2.1 (h4 i hi).2.2).bind0 (Reads.pure c)
theorem reads_prg {p : Prg} (h : PrgOk p) : Reads rPrg (prgB p) p := by
  obtain ⟨h1, h2, h3, h4⟩ := h
  unfold rPrg prgB
  rw [List.append_assoc, List.append_assoc]
  refine (reads_count (by omega) (by omega)).bind ?_
  rw [Int.toNat_natCast]
  refine (reads_many fun w hw => reads_text (by have := h2 w hw; omega) (by omega)).bind ((reads_count (by omega) (by omega)).bind ?_)
  rw [Int.toNat_natCast]
  exact (reads_many fun c hc => reads_cod (h4 c hc)).bind0 (Reads.pure p)
theorem reads_frm {f : Frm} {N : Int} (h1 : -9223372036854775808 ≤ f.fn ∧ f.fn ≤ 9223372036854775807) (h2 : -9223372036854775808 ≤ f.at_ ∧ f.at_ ≤ 9223372036854775807) (h3 : f.vars.length ≤ 8) (h4 : f.stack.length ≤ 16) (hN : N ≤ 4096) (v3 : ∀ v ∈ f.vars, WrongOk v N) (v4 : ∀ v ∈ f.stack, WrongOk v N) : Reads rFrm (frmB f) f := by
  unfold rFrm frmB
  rw [List.append_assoc, List.append_assoc]
  exact (reads_num h1).bind ((reads_num h2).bind ((reads_vals v3 hN (by omega) (by omega)).bind ((reads_vals v4 hN (by omega) (by omega)).bind0 (Reads.pure f))))
theorem reads_cl {c : Cl} {N : Int} (hN : N ≤ 4096) (h1 : WrongOk c.left N) (h2 : WrongOk c.right N) : Reads rCl (clB c) c := by
  unfold rCl clB
  exact (reads_val h1 hN).bind ((reads_val h2 hN).bind0 (Reads.pure c))
theorem prg_ok {p : Prg} (h : program p = 0) : PrgOk p := by
  obtain ⟨pr, pc, pw⟩ := zbv h
  have nums := program_nums h
  have hw : ∀ w ∈ p.words, w.length ≤ 12 := fun w hw => by
    unfold program at h
    by_cases h1 : p.codes.length < 1 ∨ 5 < p.codes.length
    · rw [if_pos h1] at h; omega
    rw [if_neg h1] at h
    by_cases h2 : 16 < p.words.length
    · rw [if_pos h2] at h; omega
    rw [if_neg h2] at h
    by_cases h3 : p.words.all word = false
    · rw [if_pos h3] at h; omega
    have := List.all_eq_true.1 (by simpa using h3 : p.words.all word = true) w hw
    unfold word at this
    rw [Bool.and_eq_true, decide_eq_true_eq] at this
    exact this.1
  refine ⟨pw, hw, pc, fun c hc => ?_⟩
  obtain ⟨cr, calm, _⟩ := pr c hc
  unfold codeRange at cr
  rw [decide_eq_false_iff_not] at cr
  refine ⟨by omega, by omega, by omega, fun i hi => ?_⟩
  obtain ⟨q1, q2, q3, q4⟩ := numbers_ok (nums c hc i hi)
  have ha : -1073741824 ≤ i.a ∧ i.a ≤ 1073741824 := by
    unfold numOk isIn at q3
    split at q3 <;> (try split at q3) <;> (try split at q3) <;> (try split at q3) <;> (try split at q3) <;> (try split at q3) <;> simp at q3 <;> omega
  have hb : 0 ≤ i.b ∧ i.b ≤ 16 := by
    by_cases h17 : i.op = 17
    · exact calm i hi h17
    · have := q4 h17; omega
  omega
end VM
end Go.Proofs.YtpbnaaoilgohkaaGreatDoor
set_option maxRecDepth 8000
namespace Go.Proofs.YtpbnaaoilgohkaaGreatDoor
namespace VM
end VM
end Go.Proofs.YtpbnaaoilgohkaaGreatDoor
set_option maxRecDepth 8000
namespace Go.Proofs.YtpbnaaoilgohkaaGreatDoor
namespace VM
theorem roots_ok {a : Agt} {fs : List Frm} {f : Frm} (l : Gone a fs f) : right a.heap (roots a) = true := by
  refine ok_right (fun v hv => ?_) l.cells
  unfold roots at hv
  obtain ⟨g, hg, hv⟩ := List.mem_flatMap.1 hv
  rw [l.fr] at hg
  have ok := l.ok g hg
  rcases List.mem_append.1 hv with h | h
  · exact ok.vv v h
  · exact ok.sv v h
theorem pack_gone {a : Agt} {fs : List Frm} {f : Frm} (l : Gone a fs f) : Gone (pack a) (fs.map fun g => { g with vars := g.vars.map (put (order a.heap (roots a))), stack := g.stack.map (put (order a.heap (roots a))) }) { f with vars := f.vars.map (put (order a.heap (roots a))), stack := f.stack.map (put (order a.heap (roots a))) } := by
  have hr := roots_ok l
  obtain ⟨c1, c2, c3, _⟩ := canon_law hr
  have cv := right_okV c3
  have cc := right_okC c3
  have hlen := l.hlen
  have room := l.room
  refine ⟨by simp [pack, l.fr], l.prog, l.id, l.trip, l.fuel, l.room, l.hops, by simpa using l.flen, ?_, fun g hg => ?_, ?_, ⟨l.went.pos, l.went.op, l.went.seen, ?_⟩, cc⟩
  · show ((canonC a.heap (roots a)).length : Int) + a.permit.room ≤ 60
    omega
  · have : ∃ g0 ∈ fs ++ [f], g = { g0 with vars := g0.vars.map (put (order a.heap (roots a))), stack := g0.stack.map (put (order a.heap (roots a))) } := by
      rcases List.mem_append.1 hg with h | h
      · obtain ⟨g0, h0, rfl⟩ := List.mem_map.1 h
        exact ⟨g0, by simp [h0], rfl⟩
      · simp at h; exact ⟨f, by simp, h⟩
    obtain ⟨g0, h0, rfl⟩ := this
    have ok := l.ok g0 h0
    have mem : ∀ v, v ∈ g0.vars ++ g0.stack → put (order a.heap (roots a)) v ∈ canonV a.heap (roots a) := fun v hv => by
      refine List.mem_map_of_mem ?_
      unfold roots
      exact List.mem_flatMap.2 ⟨g0, by rw [l.fr]; exact h0, hv⟩
    refine ⟨ok.fn0, ok.at0, ok.code, ok.ins, by have := ok.vars; simpa [pack] using this, fun v hv => ?_, fun v hv => ?_⟩
    · obtain ⟨u, hu, rfl⟩ := List.mem_map.1 hv
      exact cv _ (mem u (by simp [hu]))
    · obtain ⟨u, hu, rfl⟩ := List.mem_map.1 hv
      exact cv _ (mem u (by simp [hu]))
  · have key : ∀ {gs : List Frm} {fn : Int}, WChain a.prog gs fn → WChain a.prog (gs.map fun g => { g with vars := g.vars.map (put (order a.heap (roots a))), stack := g.stack.map (put (order a.heap (roots a))) }) fn := by
      intro gs fn h
      induction h with
      | nil fn => exact .nil fn
      | snoc gs g fn _ hw ih =>
        rw [List.map_append]
        exact .snoc _ _ _ ih ⟨hw.pos, hw.op, hw.to, hw.seen, by have := hw.hei; unfold hts at this ⊢; simp only [List.length_map]; exact this⟩
    exact key l.chain
  · have := l.went.hei
    unfold hts at this ⊢
    simp only [List.length_map]
    exact this
theorem i64_small {n : Int} (h : 0 ≤ n ∧ n ≤ 1073741824) : -9223372036854775808 ≤ n ∧ n ≤ 9223372036854775807 := by omega
theorem reads_agt {a : Agt} {fs : List Frm} {f : Frm} (l : Gone a fs f) {s : Int} (hs : -9223372036854775808 ≤ s ∧ s ≤ 9223372036854775807) (hst : ∀ g ∈ a.frames, g.vars.length ≤ 8 ∧ g.stack.length ≤ 16) : Reads rAgt (agtB a ++ WM.num s) a := by
  have hlen : a.frames.length ≤ 12 := by rw [l.fr]; simp; have := l.flen; omega
  have hh : a.heap.length ≤ 60 := by have := l.hlen; have := l.room; omega
  have fu := l.fuel
  have ho := l.hops
  have hroom := l.room
  have hhl := l.hlen
  have po := prg_ok l.prog
  unfold rAgt agtB
  simp only [List.append_assoc]
  refine (reads_num (i64_small l.id)).bind ((reads_num (i64_small l.trip)).bind ((reads_num (by omega)).bind ((reads_num (by omega)).bind ((reads_num (by omega)).bind ((reads_prg po).bind ((reads_count (by omega) (by omega)).bind ?_))))))
  rw [Int.toNat_natCast]
  refine (reads_many fun g hg => ?_).bind ((reads_count (by omega) (by omega)).bind ?_)
  · have ok := l.ok g (by rw [← l.fr]; exact hg)
    have hp := po.codes
    have hc := (po.code _ (code_mem ok.code)).1
    exact reads_frm (N := a.heap.length) (by have := ok.fn0; have := ok.code; omega) (by have := ok.at0; have := ok.ins; omega) (hst g hg).1 (hst g hg).2 (by omega) ok.vv ok.sv
  · rw [Int.toNat_natCast]
    refine (reads_many fun c hc => reads_cl (N := a.heap.length) (by omega) (l.cells c hc).1 (l.cells c hc).2).bind ((reads_num hs).bind0 (Reads.pure a))
def Firm {α : Type} (m : Rd α) : Prop := ∀ b a r c, m b = .ok a r → m (b ++ c) = .ok a (r ++ c)
theorem Firm.pure {α : Type} (a : α) : Firm (Rd.pure a) := fun b x r c h => by cases h; rfl
theorem Firm.bind {α β : Type} {m : Rd α} {k : α → Rd β} (h : Firm m) (h2 : ∀ a, Firm (k a)) : Firm (m.bind k) := fun b x r c hx => by
  unfold Rd.bind at hx ⊢
  split at hx
  · rename_i a r' hm
    rw [h _ _ _ c hm]
    exact h2 a _ _ _ c hx
  · cases hx
theorem Firm.many {α : Type} {m : Rd α} (h : Firm m) : ∀ n, Firm (rMany m n)
  | 0 => Firm.pure []
  | n + 1 => h.bind fun a => (Firm.many h n).bind fun l => Firm.pure _
theorem getFrom_firm : ∀ (b : Str) (i u : Nat) (c : Str), (WM.getFrom i u b).2.2 = 0 → WM.getFrom i u (b ++ c) = WM.getFrom i u b
  | [], i, u, c, h => by simp [WM.getFrom] at h
  | x :: r, i, u, c, h => by
    rw [List.cons_append]
    unfold WM.getFrom at h ⊢
    split
    · rename_i h1; rw [if_pos h1] at h
    · rename_i h1
      rw [if_neg h1] at h
      split
      · rename_i h2; rw [if_pos h2] at h; exact getFrom_firm r _ _ c h
      · rename_i h2; rw [if_neg h2] at h
theorem firm_num : Firm rNum := fun b a r c h => by
  unfold rNum at h ⊢
  split at h
  · cases h
  · rename_i hz
    cases h
    have hz' := Classical.not_not.1 hz
    have e : WM.getNum (b ++ c) = WM.getNum b := getFrom_firm b 0 0 c hz'
    obtain ⟨k, hk, _, hn, _⟩ := WM.getNum_ok b hz'
    rw [e, if_neg hz, hn, Int.toNat_natCast, List.drop_append_of_le_length hk]
theorem firm_count (most : Int) : Firm (rCount most) := fun b a r c h => by
  unfold rCount at h ⊢
  split at h
  · rename_i n r' hm
    rw [firm_num _ _ _ c hm]
    simp only
    split at h
    · cases h
    · rename_i hx; cases h; rw [if_neg hx]
  · cases h
theorem getText_firm {b c : Str} {most : Int} (h : (WM.getText b most).2.2 = 0) : WM.getText (b ++ c) most = WM.getText b most ∧ (WM.getText b most).2.1.toNat ≤ b.length := by
  unfold WM.getText at h ⊢
  by_cases h1 : (WM.getNum b).2.2 ≠ 0
  · rw [if_pos h1] at h; exact absurd h h1
  rw [if_neg h1] at h
  have e : WM.getNum (b ++ c) = WM.getNum b := getFrom_firm b 0 0 c (Classical.not_not.1 h1)
  obtain ⟨k, hk, _, hn, _⟩ := WM.getNum_ok b (Classical.not_not.1 h1)
  by_cases h2 : (WM.getNum b).1 < 0 ∨ most < (WM.getNum b).1
  · rw [if_pos h2] at h; simp at h
  rw [if_neg h2] at h
  by_cases h3 : (b.length : Int) - (WM.getNum b).2.1 < (WM.getNum b).1
  · rw [if_pos h3] at h; simp at h
  have h4 : ¬ (((b ++ c).length : Int) - (WM.getNum b).2.1 < (WM.getNum b).1) := by rw [List.length_append]; omega
  rw [e, if_neg h1, if_neg h1, if_neg h2, if_neg h2, if_neg h4, if_neg h3]
  refine ⟨?_, by simp only; omega⟩
  rw [hn, Int.toNat_natCast, List.drop_append_of_le_length hk, List.take_append_of_le_length (by rw [List.length_drop]; omega)]
theorem firm_text (most : Int) : Firm (rText most) := fun b a r c h => by
  unfold rText at h ⊢
  split at h
  · cases h
  · rename_i hz
    cases h
    obtain ⟨e, hl⟩ := getText_firm (c := c) (Classical.not_not.1 hz)
    rw [e, if_neg hz, List.drop_append_of_le_length hl]
theorem firm_val : Firm rVal := firm_num.bind fun k => by
  by_cases h : k = 1
  · rw [if_pos h]; exact (firm_text 60).bind fun s => Firm.pure _
  · rw [if_neg h]; exact firm_num.bind fun n => Firm.pure _
theorem firm_vals (most : Int) : Firm (rVals most) := (firm_count most).bind fun n => firm_val.many _
theorem firm_ins : Firm rIns := firm_num.bind fun _ => firm_num.bind fun _ => firm_num.bind fun _ => Firm.pure _
theorem firm_cod : Firm rCod := firm_num.bind fun _ => firm_num.bind fun _ => (firm_count 200).bind fun _ => (firm_ins.many _).bind fun _ => Firm.pure _
theorem firm_prg : Firm rPrg := (firm_count 16).bind fun _ => ((firm_text 12).many _).bind fun _ => (firm_count 5).bind fun _ => (firm_cod.many _).bind fun _ => Firm.pure _
theorem firm_frm : Firm rFrm := firm_num.bind fun _ => firm_num.bind fun _ => (firm_vals 8).bind fun _ => (firm_vals 16).bind fun _ => Firm.pure _
theorem firm_cl : Firm rCl := firm_val.bind fun _ => firm_val.bind fun _ => Firm.pure _
theorem firm_agt : Firm rAgt := firm_num.bind fun _ => firm_num.bind fun _ => firm_num.bind fun _ => firm_num.bind fun _ => firm_num.bind fun _ => firm_prg.bind fun _ => (firm_count 12).bind fun _ => (firm_frm.many _).bind fun _ => (firm_count 60).bind fun _ => (firm_cl.many _).bind fun _ => firm_num.bind fun _ => Firm.pure _
end VM
end Go.Proofs.YtpbnaaoilgohkaaGreatDoor
set_option maxRecDepth 8000
namespace Go.Proofs.YtpbnaaoilgohkaaGreatDoor
namespace VM
theorem gone_stk {a : Agt} {fs : List Frm} {f : Frm} (l : Gone a fs f) : ∀ g ∈ a.frames, g.vars.length ≤ 8 ∧ g.stack.length ≤ 16 := by
  have key : ∀ g ∈ fs ++ [f], ∀ x : Int, (hts a.prog g)[g.at_.toNat]? = some x → (g.stack.length : Int) ≤ x → g.vars.length ≤ 8 ∧ g.stack.length ≤ 16 := fun g hg x hx hle => by
    have ok := l.ok g hg
    obtain ⟨cr, calm, hz⟩ := (zbv l.prog).1 _ (code_mem ok.code)
    unfold codeRange at cr
    rw [decide_eq_false_iff_not] at cr
    have hm := (zeh calm hz).2 _ (List.mem_of_getElem? hx)
    have := ok.vars
    omega
  intro g hg
  rw [l.fr] at hg
  rcases List.mem_append.1 hg with h | h
  · obtain ⟨k, hk, rfl⟩ := List.getElem_of_mem h
    have w := chain_get l.chain f rfl k _ (List.getElem?_eq_getElem hk)
    exact key _ hg _ w.hei (by omega)
  · simp at h; subst h
    exact key _ hg _ l.went.hei (by omega)
theorem sum_lt (b : Str) : WM.sum b < 4294967296 := by
  unfold WM.sum
  have : ∀ (l : Str) (s : Nat), s < 4294967296 → l.foldl WM.sumStep s < 4294967296 := by
    intro l
    induction l with
    | nil => intro s h; exact h
    | cons c r ih => intro s _; exact ih _ (by unfold WM.sumStep; exact Nat.mod_lt _ (by decide))
  exact this b _ (by decide)
theorem reads_image {a : Agt} {fs : List Frm} {f : Frm} (l : Gone a fs f) (r : Str) : rAgt (image a ++ r) = .ok (pack a) r := by
  have hs := sum_lt (agtB (pack a))
  exact reads_agt (pack_gone l) (s := (WM.sum (agtB (pack a)) : Int)) (by omega) (gone_stk (pack_gone l)) r
def Honest {α : Type} (m : Rd α) : Prop := ∀ b e, m b = .no e → e ≠ 0
theorem Honest.pure {α : Type} (a : α) : Honest (Rd.pure a) := fun b e h => by cases h
theorem Honest.bind {α β : Type} {m : Rd α} {k : α → Rd β} (h : Honest m) (h2 : ∀ a, Honest (k a)) : Honest (m.bind k) := fun b e hx => by
  unfold Rd.bind at hx
  split at hx
  · exact h2 _ _ _ hx
  · rename_i e' hm; cases hx; exact h _ _ hm
theorem Honest.many {α : Type} {m : Rd α} (h : Honest m) : ∀ n, Honest (rMany m n)
  | 0 => Honest.pure []
  | n + 1 => h.bind fun a => (Honest.many h n).bind fun l => Honest.pure _
theorem honest_num : Honest rNum := fun b e h => by
  unfold rNum at h
  split at h
  · rename_i hz; cases h; exact hz
  · cases h
theorem honest_count (most : Int) : Honest (rCount most) := fun b e h => by
  unfold rCount at h
  split at h
  · split at h
    · cases h; decide
    · cases h
  · rename_i e' hm; cases h; exact honest_num _ _ hm
theorem honest_text (most : Int) : Honest (rText most) := fun b e h => by
  unfold rText at h
  split at h
  · rename_i hz; cases h; exact hz
  · cases h
theorem honest_val : Honest rVal := honest_num.bind fun k => by
  by_cases h : k = 1
  · rw [if_pos h]; exact (honest_text 60).bind fun s => Honest.pure _
  · rw [if_neg h]; exact honest_num.bind fun n => Honest.pure _
theorem honest_vals (most : Int) : Honest (rVals most) := (honest_count most).bind fun n => honest_val.many _
theorem honest_ins : Honest rIns := honest_num.bind fun _ => honest_num.bind fun _ => honest_num.bind fun _ => Honest.pure _
theorem honest_cod : Honest rCod := honest_num.bind fun _ => honest_num.bind fun _ => (honest_count 200).bind fun _ => (honest_ins.many _).bind fun _ => Honest.pure _
theorem honest_prg : Honest rPrg := (honest_count 16).bind fun _ => ((honest_text 12).many _).bind fun _ => (honest_count 5).bind fun _ => (honest_cod.many _).bind fun _ => Honest.pure _
theorem honest_frm : Honest rFrm := honest_num.bind fun _ => honest_num.bind fun _ => (honest_vals 8).bind fun _ => (honest_vals 16).bind fun _ => Honest.pure _
theorem honest_cl : Honest rCl := honest_val.bind fun _ => honest_val.bind fun _ => Honest.pure _
theorem honest_agt : Honest rAgt := honest_num.bind fun _ => honest_num.bind fun _ => honest_num.bind fun _ => honest_num.bind fun _ => honest_num.bind fun _ => honest_prg.bind fun _ => (honest_count 12).bind fun _ => (honest_frm.many _).bind fun _ => (honest_count 60).bind fun _ => (honest_cl.many _).bind fun _ => honest_num.bind fun _ => Honest.pure _
theorem parse_open {b : Str} {x : Agt} (h : parse b = (x, 0)) : rAgt b = .ok x [] ∧ agent x true = 0 ∧ image x = b := by
  unfold parse at h
  split at h
  · rename_i e he
    have := honest_agt _ _ he
    rw [Prod.mk.injEq] at h
    exact absurd h.2 this
  · rename_i a r hr
    split at h
    · rw [Prod.mk.injEq] at h; exact absurd h.2 (by decide)
    · rename_i h1
      split at h
      · rename_i h2; rw [Prod.mk.injEq] at h; exact absurd h.2 h2
      · rename_i h2
        split at h
        · rw [Prod.mk.injEq] at h; exact absurd h.2 (by decide)
        · rename_i h3
          rw [Prod.mk.injEq] at h
          obtain ⟨rfl, _⟩ := h
          rw [Classical.not_not.1 h1] at hr
          exact ⟨hr, Classical.not_not.1 h2, Classical.not_not.1 h3⟩
theorem parse_more {a : Agt} {fs : List Frm} {f : Frm} (l : Gone a fs f) {more : Str} (hm : more ≠ []) : (parse (image a ++ more)).2 = 2 := by
  unfold parse
  rw [reads_image l more]
  simp only
  rw [if_pos hm]
theorem parse_cut {a : Agt} {fs : List Frm} {f : Frm} (l : Gone a fs f) {n : Nat} (hn : n < (image a).length) : (parse ((image a).take n)).2 ≠ 0 := fun h0 => by
  have h : parse ((image a).take n) = ((parse ((image a).take n)).1, 0) := by rw [← h0]
  obtain ⟨h1, _, _⟩ := parse_open h
  have h2 := firm_agt _ _ _ ((image a).drop n) h1
  rw [List.take_append_drop, List.nil_append] at h2
  have h3 := reads_image l []
  rw [List.append_nil, h2] at h3
  injection h3 with _ h4
  have := congrArg List.length h4
  rw [List.length_drop] at this
  simp at this
  omega
end VM
end Go.Proofs.YtpbnaaoilgohkaaGreatDoor
set_option maxRecDepth 8000
namespace Go.Proofs.YtpbnaaoilgohkaaGreatDoor
open Go Go.RowKit
theorem znp {v : Val} {N : Int} (h : VM.WrongOk v N) (hN : N ≤ 4096) : I64v v ∧ v.text.length ≤ 4096 := by
  have hl := h.len
  refine ⟨⟨?_, ?_⟩, by omega⟩
  · rcases h.kind with k | k | k <;> omega
  · rcases h.kind with k | k | k
    · have := h.int k; omega
    · have := h.txt k; omega
    · have := h.cell k; omega
theorem zws {a : Agt} {fs : List Frm} {f : Frm} (l : VM.Gone a fs f) : zajz a := by
  have po := VM.prg_ok l.prog
  have hl := l.hlen
  have hr := l.room
  have st := VM.gone_stk l
  have fl := l.flen
  have h1 := l.id
  have h2 := l.trip
  have h3 := l.fuel
  have h4 := l.hops
  refine ⟨⟨⟨by have := po.words; omega, fun w hw => by have := po.word w hw; omega⟩, by have := po.codes; omega, fun c hc => ?_⟩, ⟨by omega, by omega⟩, ⟨by omega, by omega⟩, ⟨⟨by omega, by omega⟩, ⟨by omega, by omega⟩, ⟨by omega, by omega⟩⟩, ⟨by rw [l.fr]; simp; omega, fun g hg => ?_⟩, ⟨by omega, fun c hc => ?_⟩⟩
  · obtain ⟨q1, q2, q3, q4⟩ := po.code c hc
    exact ⟨by omega, ⟨by omega, by omega⟩, ⟨by omega, by omega⟩, fun i hi => ⟨(q4 i hi).1, (q4 i hi).2.1, (q4 i hi).2.2⟩⟩
  · have ok := l.ok g (by rw [← l.fr]; exact hg)
    have sg := st g hg
    have hc := po.codes
    have c1 := ok.code
    have c2 := ok.fn0
    have c3 := ok.at0
    have c4 := ok.ins
    have c5 := (po.code _ (VM.code_mem ok.code)).1
    refine ⟨⟨by omega, by omega⟩, ⟨by omega, by omega⟩, ⟨fun v hv => znp (ok.vv v hv) (by omega), by omega⟩, ⟨fun v hv => znp (ok.sv v hv) (by omega), by omega⟩⟩
  · obtain ⟨w1, w2⟩ := l.cells c hc
    exact ⟨znp w1 (by omega), znp w2 (by omega)⟩
theorem zagp {a : Agt} {fs : List Frm} {f : Frm} (l : VM.Gone a fs f) : zaaj a := by
  have po := VM.prg_ok l.prog
  have hl := l.hlen
  have hr := l.room
  have st := VM.gone_stk l
  have fl := l.flen
  exact ⟨by have := po.codes; omega, fun c hc => by have := (po.code c hc).1; omega, by have := po.words; omega, by rw [l.fr]; simp; omega, by omega, fun g hg => by have := st g hg; omega⟩
theorem zagq {a : Agt} {fs : List Frm} {f : Frm} (l : VM.Gone a fs f) : (zn a.frames).length ≤ 4096 := by
  have sk := VM.gone_stk l
  have fl : a.frames.length ≤ 12 := by rw [l.fr]; simp; have := l.flen; omega
  have key : ∀ gs : List Frm, (∀ g ∈ gs, g.vars.length ≤ 8 ∧ g.stack.length ≤ 16) → (zn gs).length ≤ gs.length * 24 := by
    intro gs
    induction gs with
    | nil => intro _; simp [zn]
    | cons g r ih =>
      intro h
      have := ih fun x hx => h x (by simp [hx])
      have h0 := h g (by simp)
      simp [zn] at this ⊢
      omega
  have := key a.frames sk
  omega
theorem zzb {a : Agt} {fs : List Frm} {f : Frm} (l : VM.Gone a fs f) : QC Tryz.prog 9 [.agg a.avs] (.ro (bsR (VM.image a))) := by
  have fl : a.frames.length ≤ 12 := by rw [l.fr]; simp; have := l.flen; omega
  exact zamz (zagp l) l.fr (by omega) (zagq l) (VM.roots_ok l) (zws (VM.pack_gone l))
end Go.Proofs.YtpbnaaoilgohkaaGreatDoor
set_option maxRecDepth 8000
namespace Go.Proofs.YtpbnaaoilgohkaaGreatDoor
open Go Go.RowKit
namespace VM
structure Counts (cnt : Int → St → Int × St) : Prop where
  goes : ∀ most, 0 ≤ most → ∀ st, Goes (rCount most) st (cnt most st).1 (cnt most st).2
  short : ∀ most, Short (cnt most)
  range : ∀ most, 0 ≤ most → ∀ st, 0 ≤ (cnt most st).1 ∧ (cnt most st).1 ≤ most
theorem counts_rd : Counts rdCount := ⟨fun most _ st => goes_count most st, short_count, fun _ h st => rdCount_range h st⟩
def insOf (st : St) : Ins × St := (⟨(rdNum st).1, (rdNum (rdNum st).2).1, (rdNum (rdNum (rdNum st).2).2).1⟩, (rdNum (rdNum (rdNum st).2).2).2)
theorem goes_ins (st : St) : Goes rIns st (insOf st).1 (insOf st).2 := (goes_num _).bind ((goes_num _).bind ((goes_num _).bind (Goes.pure _ _)))
theorem short_ins : Short insOf := fun st => Nat.le_trans (short_num _) (Nat.le_trans (short_num _) (short_num st))
section
variable {cnt : Int → St → Int × St}
def listOf {α : Type} (cnt : Int → St → Int × St) (most : Int) (m : St → α × St) (st : St) : List α × St := rdMany m (cnt most st).1.toNat (cnt most st).2
theorem goes_list {α : Type} (hc : Counts cnt) {most : Int} (h0 : 0 ≤ most) {r : Rd α} {m : St → α × St} (h : ∀ st, Goes r st (m st).1 (m st).2) (st : St) : Goes ((rCount most).bind fun n => rMany r n.toNat) st (listOf cnt most m st).1 (listOf cnt most m st).2 :=
  (hc.goes most h0 st).bind (goes_many h _ _)
theorem short_list {α : Type} (hc : Counts cnt) (most : Int) {m : St → α × St} (h : Short m) : Short (listOf cnt most m) := fun st => Nat.le_trans (short_many h _ _) (hc.short most st)
def codOf (cnt : Int → St → Int × St) (st : St) : Cod × St :=
  (⟨(rdNum st).1, (rdNum (rdNum st).2).1, (listOf cnt 200 insOf (rdNum (rdNum st).2).2).1⟩, (listOf cnt 200 insOf (rdNum (rdNum st).2).2).2)
theorem goes_cod (hc : Counts cnt) (st : St) : Goes rCod st (codOf cnt st).1 (codOf cnt st).2 :=
  (goes_num _).bind ((goes_num _).bind ((hc.goes 200 (by omega) _).bind ((goes_many goes_ins _ _).bind (Goes.pure _ _))))
theorem short_cod (hc : Counts cnt) : Short (codOf cnt) := fun st => Nat.le_trans (short_list hc 200 short_ins _) (Nat.le_trans (short_num _) (short_num st))
def prgOf (cnt : Int → St → Int × St) (st : St) : Prg × St :=
  (⟨(listOf cnt 5 (codOf cnt) (listOf cnt 16 (rdText 12) st).2).1, (listOf cnt 16 (rdText 12) st).1⟩, (listOf cnt 5 (codOf cnt) (listOf cnt 16 (rdText 12) st).2).2)
theorem goes_prg (hc : Counts cnt) (st : St) : Goes rPrg st (prgOf cnt st).1 (prgOf cnt st).2 :=
  (hc.goes 16 (by omega) _).bind ((goes_many (goes_text 12) _ _).bind ((hc.goes 5 (by omega) _).bind ((goes_many (goes_cod hc) _ _).bind (Goes.pure _ _))))
theorem short_prg (hc : Counts cnt) : Short (prgOf cnt) := fun st => Nat.le_trans (short_list hc 5 (short_cod hc) _) (short_list hc 16 (short_text 12) st)
def frmOf (cnt : Int → St → Int × St) (st : St) : Frm × St :=
  let a := rdNum st
  let b := rdNum a.2
  let v := listOf cnt 8 rdVal b.2
  let s := listOf cnt 16 rdVal v.2
  (⟨a.1, b.1, v.1, s.1⟩, s.2)
theorem goes_frm (hc : Counts cnt) (st : St) : Goes rFrm st (frmOf cnt st).1 (frmOf cnt st).2 :=
  (goes_num _).bind ((goes_num _).bind ((goes_list hc (by omega) goes_val _).bind ((goes_list hc (by omega) goes_val _).bind (Goes.pure _ _))))
theorem short_frm (hc : Counts cnt) : Short (frmOf cnt) := fun st => Nat.le_trans (short_list hc 16 short_val _) (Nat.le_trans (short_list hc 8 short_val _) (Nat.le_trans (short_num _) (short_num st)))
def clOf (st : St) : Cl × St := (⟨(rdVal st).1, (rdVal (rdVal st).2).1⟩, (rdVal (rdVal st).2).2)
theorem goes_cl (st : St) : Goes rCl st (clOf st).1 (clOf st).2 := (goes_val _).bind ((goes_val _).bind (Goes.pure _ _))
theorem short_cl : Short clOf := fun st => Nat.le_trans (short_val _) (short_val st)
def agtOf (cnt : Int → St → Int × St) (st : St) : Agt × St :=
  let i := rdNum st
  let t := rdNum i.2
  let u := rdNum t.2
  let c := rdNum u.2
  let h := rdNum c.2
  let p := prgOf cnt h.2
  let f := listOf cnt 12 (frmOf cnt) p.2
  let k := listOf cnt 60 clOf f.2
  let s := rdNum k.2
  (⟨i.1, t.1, p.1, f.1, k.1, ⟨u.1, c.1, h.1⟩⟩, s.2)
theorem goes_agt (hc : Counts cnt) (st : St) : Goes rAgt st (agtOf cnt st).1 (agtOf cnt st).2 :=
  (goes_num _).bind ((goes_num _).bind ((goes_num _).bind ((goes_num _).bind ((goes_num _).bind ((goes_prg hc _).bind ((hc.goes 12 (by omega) _).bind ((goes_many (goes_frm hc) _ _).bind ((hc.goes 60 (by omega) _).bind ((goes_many goes_cl _ _).bind ((goes_num _).bind (Goes.pure _ _)))))))))))
def answerOf (b : Str) (r : Agt × St) : Agt × Int :=
  if r.2.2 ≠ 0 then (agt0, r.2.2) else if r.2.1 ≠ [] then (agt0, 2) else if agent r.1 true ≠ 0 then (agt0, agent r.1 true) else if image r.1 ≠ b then (agt0, 2) else (r.1, 0)
theorem answer_parse (hc : Counts cnt) (b : Str) : answerOf b (agtOf cnt (b, 0)) = parse b := by
  have g := goes_agt hc (b, 0)
  unfold answerOf parse
  generalize agtOf cnt (b, 0) = r at *
  cases hr : rAgt b with
  | ok a q =>
    obtain ⟨e1, e2⟩ := g.good rfl _ _ hr
    rw [e1, e2]
    simp
  | no e =>
    obtain ⟨e1, e2⟩ := g.bad rfl _ hr
    rw [e2]
    rw [if_pos e1]
end
end VM
end Go.Proofs.YtpbnaaoilgohkaaGreatDoor
set_option maxRecDepth 8000
namespace Go.Proofs.YtpbnaaoilgohkaaGreatDoor
open Go Go.RowKit
def rowW (l : List Str) : List AV := l.map AV.str
set_option maxRecDepth 20000 in
set_option maxHeartbeats 4000000 in
theorem zala {p n : Nat} {st : VM.St} {N : Nat} {H : Heap} {Q : QT} (hpn : p < n) (hN : N ≤ 4096) (hb : st.1.length ≤ 4611686018427387904)
    (h1 : H p = some (PRd st)) (h2 : H (n + 1) = some (.row 2 [.nils, .nils])) (hx : ∃ z, H n = some (.row 2 z) ∧ z.length = 2)
    (hq : ∀ H' n' W, n + 2 ≤ n' → H' p = some (PRd (VM.rdMany (VM.rdText 12) N st).2) → H' (n + 1) = some (.row 2 [.nils, W]) → Slot H' 1 N (rowW (VM.rdMany (VM.rdText 12) N st).1) W → (∀ y ∈ own W, n + 2 ≤ y ∧ y < n') → (∃ z, H' n = some (.row 2 z) ∧ z.length = 2) → (∀ y, y < n → y ≠ p → H' y = H y) →
      za Tryz.prog 21 [.ptr p 0, .int .i64 5] H' n' (zdc Q [.ptr p 0, .ptr n 0, .ptr (n + 1) 0, .int .i64 N, .int .i64 N])) :
    LP (zbx Q) [.ptr p 0, .ptr n 0, .ptr (n + 1) 0, .int .i64 N, .int .i64 0] H (n + 2) := by
  refine LP.mk (fun k xs H' n' => ∃ (i : Nat) (W : AV), k = N - i ∧ i ≤ N ∧ xs = [.ptr p 0, .ptr n 0, .ptr (n + 1) 0, .int .i64 N, .int .i64 i] ∧ n + 2 ≤ n' ∧ H' p = some (PRd (VM.rdMany (VM.rdText 12) i st).2) ∧ H' (n + 1) = some (.row 2 [.nils, W]) ∧ Slot H' 1 i (rowW (VM.rdMany (VM.rdText 12) i st).1) W ∧ (∀ y ∈ own W, n + 2 ≤ y ∧ y < n') ∧ (∃ z, H' n = some (.row 2 z) ∧ z.length = 2) ∧ (∀ y, y < n → y ≠ p → H' y = H y)) N ⟨0, .nils, rfl, by omega, rfl, Nat.le_refl _, h1, h2, .inl ⟨rfl, .inl rfl⟩, by simp [own], hx, fun _ _ _ => rfl⟩ ?_
  rintro k xs H' n' ⟨i, W, rfl, hik, rfl, hn, hp, hr, sl, ow, hz, kp⟩
  have sm := VM.short_many (VM.short_text 12) i st
  by_cases hlt : i < N
  · have hadd : IntKind.i64.wrap ((i : Int) + 1) = ((i + 1 : Nat) : Int) := by rw [i64w (by omega)]; rfl
    have ll := VM.rdMany_len (VM.rdText 12) i st
    have er : VM.rdMany (VM.rdText 12) (i + 1) st = ((VM.rdMany (VM.rdText 12) i st).1 ++ [(VM.rdText 12 (VM.rdMany (VM.rdText 12) i st).2).1], (VM.rdText 12 (VM.rdMany (VM.rdText 12) i st).2).2) := rfl
    generalize VM.rdMany (VM.rdText 12) i st = q at *
    generalize hv : VM.rdText 12 q.2 = v at *
    simp [zbx, hlt, hr]
    refine zt.rd hp (fun A => .str v.1) (fun Hx nx Qx g1 g2 => zabe g1 (by omega) (by rw [hv]; exact g2)) ?_
    have s1 : Slot ((H'.put p (some (PRd v.2))).put n' (some (.row 1 [.str v.1]))) 1 i (rowW q.1) W := sl.keep fun y hy => by
      have := ow y hy
      rw [Heap.put_ne _ _ (by omega), Heap.put_ne _ _ (by omega)]
    have pn : ¬ p = n + 1 := by omega
    simp [zgi]
    refine s1.append (new := [.str v.1]) (by simp [rowW, ll]) (Heap.put_at _ _ _) rfl (by simp) (by omega) fun rd D q1 q2 q3 => ?_
    have r3 : (((H'.put p (some (PRd v.2))).put n' (some (.row 1 [.str v.1]))).apply D) (n + 1) = some (.row 2 [.nils, W]) := by
      rw [q3 (n + 1) (fun h => by have := ow _ h; omega) (by omega), Heap.put_ne _ _ (by omega), Heap.put_ne _ _ (by omega)]; exact hr
    have oth : ∀ y, y < n' → y ∉ own W → y ≠ p → (((H'.put p (some (PRd v.2))).put n' (some (.row 1 [.str v.1]))).apply D) y = H' y := fun y h1 h2 h3 => by
      rw [q3 y h2 (by omega), Heap.put_ne _ _ (by omega), Heap.put_ne _ _ h3]
    have rp : (((H'.put p (some (PRd v.2))).put n' (some (.row 1 [.str v.1]))).apply D) p = some (PRd v.2) := by
      rw [q3 p (fun h => by have := ow _ h; omega) (by omega), Heap.put_ne _ _ (by omega), Heap.put_at]
    have e1 : ((i + 1 : Nat) : Int) = (i : Int) + 1 := by omega
    simp [r3]
    refine ⟨fun h => absurd h pn, by omega, N - (i + 1), by omega, i + 1, rfl, by omega, hadd, by omega, ?_, ?_, fun y hy => ?_, ?_, fun y h3 h4 => ?_⟩
    · rw [if_neg pn, er]; exact rp
    · rw [er]
      refine Slot.full ?_ (by simp [rowW, ll])
      rw [Heap.put_ne _ _ (by omega), q2]
      simp [rowW]
    · have e : y = n' + 1 := by simpa [own] using hy
      omega
    · rw [oth n (by omega) (fun h => by have := ow _ h; omega) (by omega)]; exact hz
    · rw [if_neg (by omega), oth y (by omega) (fun h => by have := ow _ h; omega) h4]
      exact kp y h3 h4
  · obtain rfl : i = N := by omega
    simp [zbx]
    exact hq _ _ _ hn hp hr sl ow hz kp
def zec (l : List Ins) : List AV := (l.map Ins.avs).flatten
theorem zwv (l : List Ins) : (zec l).length = l.length * 3 := by
  unfold zec
  induction l with
  | nil => rfl
  | cons x r ih => rw [List.map_cons, List.flatten_cons, List.length_append, ih, List.length_cons]; simp [Ins.avs]; omega
theorem zadb (l : List Ins) (x : Ins) : zec (l ++ [x]) = zec l ++ x.avs := by simp [zec]
set_option maxRecDepth 20000 in
set_option maxHeartbeats 4000000 in
theorem zalc {p r n : Nat} {st : VM.St} {N : Nat} {pa va : Int} {H : Heap} {K33 : J3} {x1 x2 x4 x5 : AV} (hpr : p < r) (hrn : r < n) (hN : N ≤ 4096) (hb : st.1.length ≤ 4611686018427387904)
    (h1 : H p = some (PRd st)) (h2 : H r = some (.row 3 [.int .i64 pa, .int .i64 va, .nils]))
    (hq : ∀ (K50 : J3) H' n' I, n ≤ n' → H' p = some (PRd (VM.rdMany VM.insOf N st).2) → H' r = some (.row 3 [.int .i64 pa, .int .i64 va, I]) → Slot H' 3 N (zec (VM.rdMany VM.insOf N st).1) I → (∀ y ∈ own I, n ≤ y ∧ y < n') → (∀ y, y < n → y ≠ p → y ≠ r → H' y = H y) →
      zas K33 K50 [.ptr p 0, x1, x2, .ptr r 0, x4, x5, .int .i64 N, .int .i64 N] H' n') :
    LP (zas K33) [.ptr p 0, x1, x2, .ptr r 0, x4, x5, .int .i64 N, .int .i64 0] H n := by
  refine LP.mk (fun k xs H' n' => ∃ (i : Nat) (I : AV), k = N - i ∧ i ≤ N ∧ xs = [.ptr p 0, x1, x2, .ptr r 0, x4, x5, .int .i64 N, .int .i64 i] ∧ n ≤ n' ∧ H' p = some (PRd (VM.rdMany VM.insOf i st).2) ∧ H' r = some (.row 3 [.int .i64 pa, .int .i64 va, I]) ∧ Slot H' 3 i (zec (VM.rdMany VM.insOf i st).1) I ∧ (∀ y ∈ own I, n ≤ y ∧ y < n') ∧ (∀ y, y < n → y ≠ p → y ≠ r → H' y = H y)) N ⟨0, .nils, rfl, by omega, rfl, Nat.le_refl _, h1, h2, .inl ⟨rfl, .inl rfl⟩, by simp [own], fun _ _ _ _ => rfl⟩ ?_
  rintro k xs H' n' ⟨i, I, rfl, hik, rfl, hn, hp, hr, sl, ow, kp⟩
  have sm := VM.short_many VM.short_ins i st
  by_cases hlt : i < N
  · have hadd : IntKind.i64.wrap ((i : Int) + 1) = ((i + 1 : Nat) : Int) := by rw [i64w (by omega)]; rfl
    have ll := VM.rdMany_len VM.insOf i st
    have er : VM.rdMany VM.insOf (i + 1) st = ((VM.rdMany VM.insOf i st).1 ++ [(VM.insOf (VM.rdMany VM.insOf i st).2).1], (VM.insOf (VM.rdMany VM.insOf i st).2).2) := rfl
    generalize VM.rdMany VM.insOf i st = q at *
    have a1 := VM.short_num q.2
    have a2 := VM.short_num (VM.rdNum q.2).2
    have hi : VM.insOf q.2 = (⟨(VM.rdNum q.2).1, (VM.rdNum (VM.rdNum q.2).2).1, (VM.rdNum (VM.rdNum (VM.rdNum q.2).2).2).1⟩, (VM.rdNum (VM.rdNum (VM.rdNum q.2).2).2).2) := rfl
    rw [hi] at er
    have pr : ¬ p = r := by omega
    simp [zas, hlt, hr]
    refine zt.rd hp (fun A => .int _ _) (fun Hx nx Qx g1 g2 => zbt g1 (by omega) g2) ?_
    generalize VM.rdNum q.2 = v1 at *
    simp [zgf]
    refine zt.rd (Heap.put_at _ _ _) (fun A => .int _ _) (fun Hx nx Qx g1 g2 => zbt g1 (by omega) g2) ?_
    generalize VM.rdNum v1.2 = v2 at *
    simp [zgg]
    refine zt.rd (Heap.put_at _ _ _) (fun A => .int _ _) (fun Hx nx Qx g1 g2 => zbt g1 (by omega) g2) ?_
    generalize VM.rdNum v2.2 = v3 at *
    simp [zgh]
    have s1 : Slot ((H'.put p (some (PRd v3.2))).put n' (some (.row 3 (Ins.mk v1.1 v2.1 v3.1).avs))) 3 i (zec q.1) I := sl.keep fun y hy => by
      have := ow y hy
      rw [Heap.put_ne _ _ (by omega), Heap.put_ne _ _ (by omega)]
    refine s1.append (new := (Ins.mk v1.1 v2.1 v3.1).avs) (by rw [zwv]; omega) (Heap.put_at _ _ _) rfl (by simp [Ins.avs]) (by omega) fun rd D q1 q2 q3 => ?_
    have oth : ∀ y, y < n' → y ∉ own I → y ≠ p → (((H'.put p (some (PRd v3.2))).put n' (some (.row 3 (Ins.mk v1.1 v2.1 v3.1).avs))).apply D) y = H' y := fun y h1 h2 h3 => by
      rw [q3 y h2 (by omega), Heap.put_ne _ _ (by omega), Heap.put_ne _ _ h3]
    have rp : (((H'.put p (some (PRd v3.2))).put n' (some (.row 3 (Ins.mk v1.1 v2.1 v3.1).avs))).apply D) p = some (PRd v3.2) := by
      rw [q3 p (fun h => by have := ow _ h; omega) (by omega), Heap.put_ne _ _ (by omega), Heap.put_at]
    have rr : (((H'.put p (some (PRd v3.2))).put n' (some (.row 3 (Ins.mk v1.1 v2.1 v3.1).avs))).apply D) r = some (.row 3 [.int .i64 pa, .int .i64 va, I]) := by
      rw [oth r (by omega) (fun h => by have := ow _ h; omega) (by omega)]; exact hr
    simp only [Ins.avs] at q2 oth rp rr
    rw [rr, rowk]
    simp
    generalize Heap.apply _ D = Z at *
    refine ⟨fun h => absurd h pr, fun h => absurd h pr, fun h => absurd h pr, by omega, N - (i + 1), by omega, i + 1, rfl, by omega, hadd, by omega, ?_, ?_, fun y hy => ?_, fun y h3 h4 h5 => ?_⟩
    · rw [if_neg pr, er]; exact rp
    · rw [er, zadb]
      refine Slot.full ?_ (by simp [zwv, Ins.avs, ll]; omega)
      rw [Heap.put_ne _ _ (by omega)]; exact q2
    · have e : y = n' + 1 := by simpa [own] using hy
      omega
    · rw [if_neg h5, oth y (by omega) (fun h => by have := ow _ h; omega) h4]
      exact kp y h3 h4 h5
  · obtain rfl : i = N := by omega
    exact hq _ _ _ _ hn hp hr sl ow kp
def zee (H : Heap) (cs : List Cod) (ss : List AV) : Prop := ss.length = cs.length ∧ ∀ (k : Nat) (c : Cod) (s : AV), cs[k]? = some c → ss[k]? = some s → Slot H 3 c.ins.length (zec c.ins) s
def crow : List Cod → List AV → List AV
  | c :: cs, s :: ss => .int .i64 c.params :: .int .i64 c.vars :: s :: crow cs ss
  | _, _ => []
theorem zacc : ∀ {cs : List Cod} {ss : List AV}, ss.length = cs.length → (crow cs ss).length = cs.length * 3
  | [], [], _ => rfl
  | c :: cs, s :: ss, h => by simp [crow, zacc (cs := cs) (ss := ss) (by simpa using h)]; omega
  | [], s :: ss, h => by simp at h
  | c :: cs, [], h => by simp at h
theorem zzi : ∀ {cs : List Cod} {ss : List AV} {c : Cod} {s : AV}, ss.length = cs.length → crow (cs ++ [c]) (ss ++ [s]) = crow cs ss ++ [.int .i64 c.params, .int .i64 c.vars, s]
  | [], [], c, s, _ => rfl
  | d :: cs, t :: ss, c, s, h => by simp [crow, zzi (cs := cs) (ss := ss) (c := c) (s := s) (by simpa using h)]
  | [], s :: ss, _, _, h => by simp at h
  | c :: cs, [], _, _, h => by simp at h
theorem zaeo : ∀ {cs : List Cod} {ss : List AV} {i : Nat} {c : Cod} {s : AV}, cs[i]? = some c → ss[i]? = some s → (crow cs ss)[i * 3]? = some (.int .i64 c.params) ∧ (crow cs ss)[i * 3 + 1]? = some (.int .i64 c.vars) ∧ (crow cs ss)[i * 3 + 2]? = some s
  | [], _, i, c, s, h, _ => by simp at h
  | _ :: _, [], i, c, s, _, h => by simp at h
  | d :: cs, t :: ss, 0, c, s, h1, h2 => by simp at h1 h2; subst h1; subst h2; simp [crow]
  | d :: cs, t :: ss, i + 1, c, s, h1, h2 => by
    have := zaeo (cs := cs) (ss := ss) (i := i) (by simpa using h1) (by simpa using h2)
    have e : ∀ j, (i + 1) * 3 + j = i * 3 + j + 1 + 1 + 1 := fun j => by omega
    have e0 : (i + 1) * 3 = i * 3 + 1 + 1 + 1 := by omega
    rw [e 1, e 2, e0]
    simpa [crow] using this
def ownc (ss : List AV) : List Nat := ss.flatMap own
theorem zaig (ss : List AV) (t : AV) : ownc (ss ++ [t]) = ownc ss ++ own t := by simp [ownc]
theorem zee.keep {H H' : Heap} {cs : List Cod} {ss : List AV} (h : zee H cs ss) (hk : ∀ g ∈ ownc ss, H' g = H g) : zee H' cs ss :=
  ⟨h.1, fun k c s hc hs => (h.2 k c s hc hs).keep fun g hg => hk g (List.mem_flatMap.2 ⟨s, List.mem_of_getElem? hs, hg⟩)⟩
theorem zee.snoc {H : Heap} {cs : List Cod} {ss : List AV} {c : Cod} {s : AV} (h : zee H cs ss) (h1 : Slot H 3 c.ins.length (zec c.ins) s) : zee H (cs ++ [c]) (ss ++ [s]) := by
  refine ⟨by simp [h.1], fun k c' s' hc hs => ?_⟩
  by_cases hk : k < cs.length
  · rw [List.getElem?_append_left hk] at hc
    rw [List.getElem?_append_left (by rw [h.1]; exact hk)] at hs
    exact h.2 k c' s' hc hs
  · have hk' : k = cs.length := by have := (List.getElem?_eq_some_iff.1 hc).1; simp at this; omega
    subst hk'
    rw [List.getElem?_append_right (Nat.le_refl _)] at hc
    rw [List.getElem?_append_right (by rw [h.1]; exact Nat.le_refl _), h.1] at hs
    simp at hc hs
    subst hc; subst hs
    exact h1
theorem zalp (l : List Ins) : ∀ x ∈ l.map Ins.avs, ∀ c ∈ x, scal c = true := by
  intro x hx c hc
  obtain ⟨i, _, rfl⟩ := List.mem_map.1 hx
  simp [Ins.avs] at hc
  rcases hc with rfl | rfl | rfl <;> rfl
theorem zee.frz {H : Heap} {nx : Nat} {cs : List Cod} {ss : List AV} {a : AV} (h : zee H cs ss) (sl : Slot H 3 cs.length (crow cs ss) a) (hg : ∀ g ∈ own a, nx ≤ g) (ho : ∀ x ∈ ownc ss, nx ≤ x) : Frz H nx a (.ro (cs.map Cod.avs)) := by
  rcases sl with ⟨h0, rfl | rfl⟩ | ⟨g, cc, rfl, h1, h2, h3⟩
  · rw [List.eq_nil_of_length_eq_zero h0]; exact .nils
  · rw [List.eq_nil_of_length_eq_zero h0]; exact .zs
  have key : ∀ (i : Nat) (x : List AV) (j : Nat) (v : AV), (cs.map Cod.avs)[i]? = some x → x[j]? = some v → ∃ u, cc[0 + i * 3 + j]? = some u ∧ Frz H nx u v := fun i x j v hx hv => by
    rw [List.getElem?_map] at hx
    obtain ⟨c, hc, rfl⟩ := Option.map_eq_some_iff.1 hx
    have hi := (List.getElem?_eq_some_iff.1 hc).1
    have hs : ss[i]? = some (ss[i]'(by rw [h.1]; exact hi)) := List.getElem?_eq_getElem _
    have a := h.2 i c _ hc hs
    obtain ⟨q0, q1, q2⟩ := zaeo hc hs
    have hm := List.mem_of_getElem? hs
    have up : ∀ (j : Nat) (u : AV), j < 3 → (crow cs ss)[i * 3 + j]? = some u → cc[0 + i * 3 + j]? = some u := fun j u hj hu => by
      rw [← h2, List.getElem?_take, if_pos (by omega)] at hu; rw [Nat.zero_add]; exact hu
    match j, hv with
    | 0, hv => cases hv; exact ⟨_, up 0 _ (by omega) q0, .same _ (.int _ _)⟩
    | 1, hv => cases hv; exact ⟨_, up 1 _ (by omega) q1, .same _ (.int _ _)⟩
    | 2, hv => cases hv; exact ⟨_, up 2 _ (by omega) q2, Slot.frzN (sz := 3) (xs := c.ins.map Ins.avs) (by simpa [zec] using a) (fun x hx => ho x (List.mem_flatMap.2 ⟨_, hm, hx⟩)) (fun x hx => by obtain ⟨i, _, rfl⟩ := List.mem_map.1 hx; rfl) (zalp _)⟩
    | j + 3, hv => simp [Cod.avs] at hv
  refine .slc g 0 _ 3 cc _ (hg g (by simp [own])) h1 (by omega) (by simp) (fun x hx => ?_) (fun i j => (cc[0 + i * 3 + j]?).getD .junk) (fun i x j v hx hv => ?_) (fun i x j v hx hv => ?_)
  · obtain ⟨f, _, rfl⟩ := List.mem_map.1 hx; rfl
  · obtain ⟨u, q1, q2⟩ := key i x j v hx hv; rw [q1]; rfl
  · obtain ⟨u, q1, q2⟩ := key i x j v hx hv; rw [q1]; exact q2
set_option maxRecDepth 20000 in
set_option maxHeartbeats 4000000 in
theorem zalb {p n m0 : Nat} {st : VM.St} {K : Nat} {W : AV} {H : Heap} {Q : QT} (hpn : p < n) (hnm : n + 1 < m0) (hK : K ≤ 4096) (hb : st.1.length ≤ 4611686018427387904)
    (h1 : H p = some (PRd st)) (h2 : H (n + 1) = some (.row 2 [.nils, W])) (hW : W.cells = [W] ∧ W.one = true ∧ W.sure = true) (hx : ∃ z, H n = some (.row 2 z) ∧ z.length = 2)
    (hq : ∀ H' n' C ss, H' p = some (PRd (VM.rdMany (VM.codOf VM.rdCount) K st).2) → Slot H' 3 K (crow (VM.rdMany (VM.codOf VM.rdCount) K st).1 ss) C → zee H' (VM.rdMany (VM.codOf VM.rdCount) K st).1 ss → (∀ y ∈ own C, m0 ≤ y) → (∀ y ∈ ownc ss, m0 ≤ y) → (∀ y, y < m0 → y ≠ p → y ≠ n → y ≠ n + 1 → H' y = H y) → Q (.agg [C, W]) H' n') :
    LP (zar Q) [.ptr p 0, .ptr n 0, .ptr (n + 1) 0, .int .i64 K, .int .i64 0] H m0 := by
  refine LP.mk (fun k xs H' n' => ∃ (i : Nat) (C : AV) (ss : List AV), k = K - i ∧ i ≤ K ∧ xs = [.ptr p 0, .ptr n 0, .ptr (n + 1) 0, .int .i64 K, .int .i64 i] ∧ m0 ≤ n' ∧ H' p = some (PRd (VM.rdMany (VM.codOf VM.rdCount) i st).2) ∧ H' (n + 1) = some (.row 2 [C, W]) ∧ Slot H' 3 i (crow (VM.rdMany (VM.codOf VM.rdCount) i st).1 ss) C ∧ zee H' (VM.rdMany (VM.codOf VM.rdCount) i st).1 ss ∧ (∀ y ∈ own C, m0 ≤ y ∧ y < n') ∧ (∀ y ∈ ownc ss, m0 ≤ y ∧ y < n' ∧ y ∉ own C) ∧ (∀ y, y < m0 → y ≠ p → y ≠ n + 1 → H' y = H y)) K ⟨0, .nils, [], rfl, by omega, rfl, Nat.le_refl _, h1, h2, .inl ⟨rfl, .inl rfl⟩, ⟨rfl, fun k c s hc => by simp [VM.rdMany] at hc⟩, by simp [own], by simp [ownc], fun _ _ _ _ => rfl⟩ ?_
  rintro k xs H' n' ⟨i, C, ss, rfl, hik, rfl, hn, hp, hr, sl, cm, ow, oc, kp⟩
  have sm := VM.short_many (VM.short_cod VM.counts_rd) i st
  by_cases hlt : i < K
  · suffices key : ∀ K33 : J3, (∀ H' n' C ss, i + 1 ≤ K → m0 ≤ n' → H' p = some (PRd (VM.rdMany (VM.codOf VM.rdCount) (i + 1) st).2) → H' (n + 1) = some (.row 2 [C, W]) → Slot H' 3 (i + 1) (crow (VM.rdMany (VM.codOf VM.rdCount) (i + 1) st).1 ss) C → zee H' (VM.rdMany (VM.codOf VM.rdCount) (i + 1) st).1 ss → (∀ y ∈ own C, m0 ≤ y ∧ y < n') → (∀ y ∈ ownc ss, m0 ≤ y ∧ y < n' ∧ y ∉ own C) → (∀ y, y < m0 → y ≠ p → y ≠ n + 1 → H' y = H y) → K33 [.ptr p 0, .ptr n 0, .ptr (n + 1) 0, .int .i64 K, .int .i64 (i + 1 : Nat)] H' n') →
        zar Q K33 [.ptr p 0, .ptr n 0, .ptr (n + 1) 0, .int .i64 K, .int .i64 i] H' n' from
      key _ fun H' n' C ss g1 g2 g3 g4 g5 g6 g7 g8 g9 => ⟨K - (i + 1), by omega, i + 1, C, ss, rfl, g1, rfl, g2, g3, g4, g5, g6, g7, g8, g9⟩
    intro K33 hK33
    have hadd : IntKind.i64.wrap ((i : Int) + 1) = ((i + 1 : Nat) : Int) := by rw [i64w (by omega)]; rfl
    have ll := VM.rdMany_len (VM.codOf VM.rdCount) i st
    have er : VM.rdMany (VM.codOf VM.rdCount) (i + 1) st = ((VM.rdMany (VM.codOf VM.rdCount) i st).1 ++ [(VM.codOf VM.rdCount (VM.rdMany (VM.codOf VM.rdCount) i st).2).1], (VM.codOf VM.rdCount (VM.rdMany (VM.codOf VM.rdCount) i st).2).2) := rfl
    rw [er] at hK33
    generalize VM.rdMany (VM.codOf VM.rdCount) i st = q at *
    have a1 := VM.short_num q.2
    have a2 := VM.short_num (VM.rdNum q.2).2
    have a3 := VM.short_count 200 (VM.rdNum (VM.rdNum q.2).2).2
    have rg := VM.rdCount_range (most := 200) (by omega) (VM.rdNum (VM.rdNum q.2).2).2
    have hi : VM.codOf VM.rdCount q.2 = (⟨(VM.rdNum q.2).1, (VM.rdNum (VM.rdNum q.2).2).1, (VM.rdMany VM.insOf (VM.rdCount 200 (VM.rdNum (VM.rdNum q.2).2).2).1.toNat (VM.rdCount 200 (VM.rdNum (VM.rdNum q.2).2).2).2).1⟩, (VM.rdMany VM.insOf (VM.rdCount 200 (VM.rdNum (VM.rdNum q.2).2).2).1.toNat (VM.rdCount 200 (VM.rdNum (VM.rdNum q.2).2).2).2).2) := rfl
    rw [hi] at hK33
    simp [zar, hlt]
    refine zbt hp (by omega) ?_
    generalize VM.rdNum q.2 = v1 at *
    simp [zgc]
    refine zbt (Heap.put_at _ _ _) (by omega) ?_
    generalize VM.rdNum v1.2 = v2 at *
    rw [put_put]
    simp [zgd]
    refine zhv (st := v2.2) (by rw [Heap.put_ne _ _ (by omega), Heap.put_at]) (by omega) ?_
    generalize VM.rdCount 200 v2.2 = v3 at *
    obtain ⟨N, hN⟩ := Int.eq_ofNat_of_zero_le rg.1
    rw [hN] at hK33 ⊢
    simp only [Int.toNat_natCast] at hK33
    simp only [zge]
    generalize hX : Heap.put _ p _ = X
    have y1 : X p = some (PRd v3.2) := by rw [← hX, Heap.put_at]
    have y2 : X n' = some (.row 3 [.int .i64 v1.1, .int .i64 v2.1, .nils]) := by rw [← hX, Heap.put_ne _ _ (by omega), Heap.put_at]
    have yk : ∀ y, y < n' → y ≠ p → X y = H' y := fun y e1 e2 => by rw [← hX, Heap.put_ne _ _ e2, Heap.put_ne _ _ (by omega), Heap.put_ne _ _ e2]
    clear hX
    have l3 := VM.rdMany_len VM.insOf N v3.2
    refine zalc (r := n') (st := v3.2) (by omega) (by omega) (by omega) (by omega) y1 y2 fun K50 H5 n5 I g1 g2 g3 g4 g5 g6 => ?_
    generalize VM.rdMany VM.insOf N v3.2 = u at *
    have r5 : H5 (n + 1) = some (.row 2 [C, W]) := by rw [g6 (n + 1) (by omega) (by omega) (by omega), yk (n + 1) (by omega) (by omega)]; exact hr
    have oI := g4.one
    simp [zas, r5, g3]
    have rc : (crow q.1 ss).length = i * 3 := by rw [zacc cm.1, ll]
    have s1 : Slot (H5.put n5 (some (.row 3 [.int .i64 v1.1, .int .i64 v2.1, I]))) 3 i (crow q.1 ss) C := sl.keep fun y hy => by
      have := ow y hy
      rw [Heap.put_ne _ _ (by omega), g6 y (by omega) (by omega) (by omega), yk y (by omega) (by omega)]
    refine s1.app (new := [.int .i64 v1.1, .int .i64 v2.1, I]) rc (Heap.put_at _ _ _) rfl (by simp [oI.2.1]) (by omega) fun H6 q1 q2 => ?_
    have old : ∀ y, y < n' → y ≠ p → y ∉ own C → H6 y = H' y := fun y e1 e2 e3 => by
      rw [q2 y e3 (by omega), Heap.put_ne _ _ (by omega), g6 y (by omega) e2 (by omega), yk y e1 e2]
    have r6 : H6 (n + 1) = some (.row 2 [C, W]) := by rw [old (n + 1) (by omega) (by omega) fun h => (by have := ow _ h; omega)]; exact hr
    rw [r6, rowk]
    simp [hadd]
    have e1 : crow (q.1 ++ [⟨v1.1, v2.1, u.1⟩]) (ss ++ [I]) = crow q.1 ss ++ [.int .i64 v1.1, .int .i64 v2.1, I] := zzi cm.1
    refine hK33 _ _ _ (ss ++ [I]) (by omega) (by omega) ?_ (Heap.put_at _ _ _) ?_ (zee.snoc (cm.keep fun y hy => ?_) ?_) (fun y hy => ?_) (fun y hy => ?_) fun y e2 e3 e4 => ?_
    · rw [Heap.put_ne _ _ (by omega), q2 p (fun h => by have := ow _ h; omega) (by omega), Heap.put_ne _ _ (by omega)]; exact g2
    · rw [e1]
      refine Slot.full ?_ (by simp [rc]; omega)
      rw [Heap.put_ne _ _ (by omega)]; exact q1
    · have := oc y hy
      rw [Heap.put_ne _ _ (by omega)]
      exact old y this.2.1 (by omega) this.2.2
    · show Slot _ 3 u.1.length (zec u.1) I
      rw [l3]
      refine g4.keep fun y hy => ?_
      have := g5 y hy
      rw [Heap.put_ne _ _ (by omega), q2 y (fun h => by have := ow _ h; omega) (by omega), Heap.put_ne _ _ (by omega)]
    · have e : y = n5 + 1 := by simpa [own] using hy
      omega
    · rw [zaig] at hy
      rcases List.mem_append.1 hy with hy | hy
      · have := oc y hy
        exact ⟨this.1, by omega, by simp [own]; omega⟩
      · have := g5 y hy
        exact ⟨by omega, by omega, by simp [own]; omega⟩
    · rw [Heap.put_ne _ _ e4, old y (by omega) e3 fun h => (by have := ow _ h; omega)]
      exact kp y e2 e3 e4
  · obtain rfl : i = K := by omega
    obtain ⟨z, z1, z2⟩ := hx
    have hz : H' n = some (.row 2 z) := (kp n (by omega) (by omega) (by omega)).trans z1
    have oc1 := sl.one
    simp [zar, hr, hz, z2]
    refine ⟨⟨oc1.2.1, hW.2.1⟩, hq _ _ C ss ?_ (sl.keep fun y hy => Heap.put_ne _ _ (by have := ow y hy; omega)) (cm.keep fun y hy => Heap.put_ne _ _ (by have := oc y hy; omega)) (fun y hy => (ow y hy).1) (fun y hy => (oc y hy).1) fun y e1 e2 e3 e4 => ?_⟩
    · rw [Heap.put_ne _ _ (by omega)]; exact hp
    · rw [Heap.put_ne _ _ e3]; exact kp y e1 e2 e4
theorem zaic (l : List Str) : (l.map fun w => [AV.str w]).flatten = rowW l := by
  induction l with
  | nil => rfl
  | cons c r ih => simp [rowW] at ih ⊢; exact ih
set_option maxRecDepth 20000 in
set_option maxHeartbeats 2000000 in
theorem zada {p n : Nat} {st : VM.St} {H : Heap} {Q : QT} (hg : H p = some (PRd st)) (hb : st.1.length ≤ 4611686018427387904) (hq : Q (.agg (VM.prgOf VM.rdCount st).1.avs) (H.put p (some (PRd (VM.prgOf VM.rdCount st).2))) n) : za Tryz.prog 20 [.ptr p 0] H n Q := by
  refine za.rd hg (fun hpn => ?_) hq
  refine zky _ H n _ ?_
  have sc := VM.short_count 16 st
  have rg := VM.rdCount_range (most := 16) (by omega) st
  simp [zga]
  refine zhv (st := st) (by rw [Heap.put_ne _ _ (by omega), Heap.put_ne _ _ (by omega)]; exact hg) hb ?_
  unfold VM.prgOf VM.listOf
  generalize VM.rdCount 16 st = c at *
  obtain ⟨N, hN⟩ := Int.eq_ofNat_of_zero_le rg.1
  rw [hN]
  simp only [Int.toNat_natCast, zgb]
  generalize hX : Heap.put _ p _ = X
  have y1 : X p = some (PRd c.2) := by rw [← hX, Heap.put_at]
  have y2 : X (n + 1) = some (.row 2 [.nils, .nils]) := by rw [← hX, Heap.put_ne _ _ (by omega), Heap.put_at]
  have y3 : X n = some (.row 2 [.nils, .nils]) := by rw [← hX, Heap.put_ne _ _ (by omega), Heap.put_ne _ _ (by omega), Heap.put_at]
  have yk : ∀ y, y < n → y ≠ p → X y = H y := fun y e1 e2 => by rw [← hX, Heap.put_ne _ _ e2, Heap.put_ne _ _ (by omega), Heap.put_ne _ _ (by omega)]
  clear hX
  have sw := VM.short_many (VM.short_text 12) N c.2
  have lw := VM.rdMany_len (VM.rdText 12) N c.2
  refine zala hpn (by omega) (by omega) y1 y2 ⟨_, y3, rfl⟩ fun H1 n1 W g0 g1 g2 g3 g4 g5 g6 => ?_
  generalize VM.rdMany (VM.rdText 12) N c.2 = u at *
  have sc2 := VM.short_count 5 u.2
  have rg2 := VM.rdCount_range (most := 5) (by omega) u.2
  refine zhv g1 (by omega) ?_
  generalize VM.rdCount 5 u.2 = d at *
  obtain ⟨K, hK⟩ := Int.eq_ofNat_of_zero_le rg2.1
  rw [hK]
  simp only [Int.toNat_natCast, zdc]
  have lk := VM.rdMany_len (VM.codOf VM.rdCount) K d.2
  obtain ⟨z, z1, z2⟩ := g5
  refine zalb (m0 := n1) (st := d.2) hpn (by omega) (by omega) (by omega) (Heap.put_at _ _ _) (by rw [Heap.put_ne _ _ (by omega)]; exact g2) g3.one ⟨z, by rw [Heap.put_ne _ _ (by omega)]; exact z1, z2⟩ fun H2 n2 C ss k1 k2 k3 k4 k5 k6 => ?_
  generalize VM.rdMany (VM.codOf VM.rdCount) K d.2 = e at *
  subst lk
  refine ⟨?_, k1, fun y h1 h2 => ?_⟩
  · have fC := k3.frz k2 (nx := n) (fun y hy => by have := k4 y hy; omega) (fun y hy => by have := k5 y hy; omega)
    have fW : Frz H2 n W (.ro (u.1.map fun w => [AV.str w])) := by
      refine Slot.frzN (sz := 1) (xs := u.1.map fun w => [AV.str w]) ?_ (fun y hy => by have := g4 y hy; omega) (fun x hx => by obtain ⟨w, _, rfl⟩ := List.mem_map.1 hx; rfl) (ztl _)
      rw [zaic, List.length_map, lw]
      exact g3.keep fun y hy => by
        have := g4 y hy
        rw [k6 y (by omega) (by omega) (by omega) (by omega), Heap.put_ne _ _ (by omega)]
    refine .agg _ _ rfl fun j v w hv hw => ?_
    match j with
    | 0 => cases hv; cases hw; exact fC
    | 1 => cases hv; cases hw; exact fW
    | j + 2 => simp at hv
  · rw [k6 y (by omega) h2 (by omega) (by omega), Heap.put_ne _ _ h2, g6 y h1 h2]
    exact yk y h1 h2
end Go.Proofs.YtpbnaaoilgohkaaGreatDoor
set_option maxRecDepth 8000
namespace Go.Proofs.YtpbnaaoilgohkaaGreatDoor
open Go Go.RowKit
def zix (l : List Frm) : List AV := (l.map Frm.avs).flatten
theorem zyu (l : List Frm) : (zix l).length = l.length * 4 := by
  unfold zix
  induction l with
  | nil => rfl
  | cons x r ih => rw [List.map_cons, List.flatten_cons, List.length_append, ih, List.length_cons]; simp [Frm.avs]; omega
theorem zafx (l : List Frm) (x : Frm) : zix (l ++ [x]) = zix l ++ x.avs := by simp [zix]
set_option maxRecDepth 20000 in
set_option maxHeartbeats 4000000 in
theorem zale {a0 : AV} {z p g n : Nat} {st : VM.St} {K : Nat} {v0 v1 v2 v3 v6 v7 v8 : AV} {H : Heap} {Q : QT} (hpg : p < g) (hgn : g < n) (hK : K ≤ 4096) (hb : st.1.length ≤ 4611686018427387904)
    (h1 : H p = some (PRd st)) (h2 : H g = some (.row 9 [v0, v1, v2, v3, .nils, .nils, v6, v7, v8]))
    (hq : ∀ H' n' F, n ≤ n' → H' p = some (PRd (VM.rdMany (VM.frmOf VM.rdCount) K st).2) → H' g = some (.row 9 [v0, v1, v2, v3, F, .nils, v6, v7, v8]) → Slot H' 4 K (zix (VM.rdMany (VM.frmOf VM.rdCount) K st).1) F → (∀ y ∈ own F, n ≤ y ∧ y < n') → (∀ y, y < n → y ≠ p → y ≠ g → H' y = H y) →
      za Tryz.prog 21 [.ptr p 0, .int .i64 60] H' n' (zjd Q [a0, .ptr z 0, .ptr p 0, .ptr g 0, .int .i64 K, .int .i64 K])) :
    LP (zfj Q) [a0, .ptr z 0, .ptr p 0, .ptr g 0, .int .i64 K, .int .i64 0] H n := by
  refine LP.mk (fun k xs H' n' => ∃ (i : Nat) (F : AV), k = K - i ∧ i ≤ K ∧ xs = [a0, .ptr z 0, .ptr p 0, .ptr g 0, .int .i64 K, .int .i64 i] ∧ n ≤ n' ∧ H' p = some (PRd (VM.rdMany (VM.frmOf VM.rdCount) i st).2) ∧ H' g = some (.row 9 [v0, v1, v2, v3, F, .nils, v6, v7, v8]) ∧ Slot H' 4 i (zix (VM.rdMany (VM.frmOf VM.rdCount) i st).1) F ∧ (∀ y ∈ own F, n ≤ y ∧ y < n') ∧ (∀ y, y < n → y ≠ p → y ≠ g → H' y = H y)) K ⟨0, .nils, rfl, by omega, rfl, Nat.le_refl _, h1, h2, .inl ⟨rfl, .inl rfl⟩, by simp [own], fun _ _ _ _ => rfl⟩ ?_
  rintro k xs H' n' ⟨i, F, rfl, hik, rfl, hn, hp, hr, sl, ow, kp⟩
  have sm := VM.short_many (VM.short_frm VM.counts_rd) i st
  by_cases hlt : i < K
  · have hadd : IntKind.i64.wrap ((i : Int) + 1) = ((i + 1 : Nat) : Int) := by rw [i64w (by omega)]; rfl
    have ll := VM.rdMany_len (VM.frmOf VM.rdCount) i st
    have er : VM.rdMany (VM.frmOf VM.rdCount) (i + 1) st = ((VM.rdMany (VM.frmOf VM.rdCount) i st).1 ++ [(VM.frmOf VM.rdCount (VM.rdMany (VM.frmOf VM.rdCount) i st).2).1], (VM.frmOf VM.rdCount (VM.rdMany (VM.frmOf VM.rdCount) i st).2).2) := rfl
    generalize VM.rdMany (VM.frmOf VM.rdCount) i st = q at *
    have a1 := VM.short_num q.2
    have a2 := VM.short_num (VM.rdNum q.2).2
    have a3 := VM.short_vals 8 (VM.rdNum (VM.rdNum q.2).2).2
    have hi : VM.frmOf VM.rdCount q.2 = (⟨(VM.rdNum q.2).1, (VM.rdNum (VM.rdNum q.2).2).1, (VM.rdVals 8 (VM.rdNum (VM.rdNum q.2).2).2).1, (VM.rdVals 16 (VM.rdVals 8 (VM.rdNum (VM.rdNum q.2).2).2).2).1⟩, (VM.rdVals 16 (VM.rdVals 8 (VM.rdNum (VM.rdNum q.2).2).2).2).2) := rfl
    rw [hi] at er
    simp [zfj, hlt]
    refine zbt hp (by omega) ?_
    generalize VM.rdNum q.2 = w1 at *
    simp [zpy]
    refine zbt (Heap.put_at _ _ _) (by omega) ?_
    generalize VM.rdNum w1.2 = w2 at *
    rw [put_put]
    simp [zpz]
    refine zwt (st := w2.2) (by omega) (by rw [Heap.put_ne _ _ (by omega), Heap.put_at]) (by omega) ?_
    generalize VM.rdVals 8 w2.2 = w3 at *
    have pn : ¬ n' = p := by omega
    simp [zqa, pn]
    refine zwt (st := w3.2) (by omega) (by rw [Heap.put_ne _ _ (by omega), Heap.put_at]) (by omega) ?_
    generalize VM.rdVals 16 w3.2 = w4 at *
    generalize hX : Heap.put _ p (some (PRd w4.2)) = X
    have y1 : X p = some (PRd w4.2) := by rw [← hX, Heap.put_at]
    have y2 : X n' = some (.row 4 [.int .i64 w1.1, .int .i64 w2.1, .ro (w3.1.map Val.avs), .nils]) := by rw [← hX, Heap.put_ne _ _ (by omega), Heap.put_at]
    have yk : ∀ y, y < n' → y ≠ p → X y = H' y := fun y e1 e2 => by rw [← hX, Heap.put_ne _ _ e2, Heap.put_ne _ _ (by omega), Heap.put_ne _ _ e2, Heap.put_ne _ _ (by omega), Heap.put_ne _ _ e2]
    clear hX
    have yg : X g = some (.row 9 [v0, v1, v2, v3, F, .nils, v6, v7, v8]) := by rw [yk g (by omega) (by omega)]; exact hr
    have gn : ¬ n' = g := by omega
    have gn' : ¬ g = n' := by omega
    simp [zqb, y2, yg, gn, gn']
    generalize hY : Heap.put _ (n' + 1) _ = Y
    have s1 : Slot Y 4 i (zix q.1) F := sl.keep fun y hy => by
      have := ow y hy
      rw [← hY, Heap.put_ne _ _ (by omega), Heap.put_ne _ _ (by omega), yk y (by omega) (by omega)]
    have t1 : Y (n' + 1) = some (.row 4 (Frm.mk w1.1 w2.1 w3.1 w4.1).avs) := by rw [← hY, Heap.put_at]; rfl
    have t2 : Y p = some (PRd w4.2) := by rw [← hY, Heap.put_ne _ _ (by omega), Heap.put_ne _ _ (by omega)]; exact y1
    have t3 : ∀ y, y < n' → y ≠ p → Y y = H' y := fun y e1 e2 => by rw [← hY, Heap.put_ne _ _ (by omega), Heap.put_ne _ _ (by omega)]; exact yk y e1 e2
    clear hY
    refine s1.app (new := (Frm.mk w1.1 w2.1 w3.1 w4.1).avs) (by rw [zyu]; omega) t1 rfl (by simp [Frm.avs]) (by omega) fun H6 q1 q2 => ?_
    have r6 : H6 g = some (.row 9 [v0, v1, v2, v3, F, .nils, v6, v7, v8]) := by
      rw [q2 g (fun h => by have := ow _ h; omega) (by omega), t3 g (by omega) (by omega)]; exact hr
    rw [r6, rowk]
    simp [hadd]
    have pg : ¬ p = g := by omega
    refine ⟨K - (i + 1), by omega, i + 1, rfl, by omega, by omega, by omega, ?_, ?_, fun y hy => ?_, fun y h3 h4 h5 => ?_⟩
    · rw [if_neg pg, er, q2 p (fun h => by have := ow _ h; omega) (by omega)]; exact t2
    · rw [er, zafx]
      refine Slot.full ?_ (by simp [zyu, Frm.avs, ll]; omega)
      rw [Heap.put_ne _ _ (by omega)]; exact q1
    · have e : y = n' + 1 + 1 := by simpa [own] using hy
      omega
    · rw [if_neg h5, q2 y (fun h => by have := ow _ h; omega) (by omega), t3 y (by omega) h4]
      exact kp y h3 h4 h5
  · obtain rfl : i = K := by omega
    simp [zfj]
    exact hq _ _ _ hn hp hr sl ow kp
def ziy (l : List Cl) : List AV := (l.map Cl.avs).flatten
theorem zyv (l : List Cl) : (ziy l).length = l.length * 6 := by
  unfold ziy
  induction l with
  | nil => rfl
  | cons x r ih => rw [List.map_cons, List.flatten_cons, List.length_append, ih, List.length_cons]; simp [Cl.avs, Val.avs]; omega
theorem zafy (l : List Cl) (x : Cl) : ziy (l ++ [x]) = ziy l ++ x.avs := by simp [ziy]
set_option maxRecDepth 20000 in
set_option maxHeartbeats 4000000 in
theorem zalf {a0 : AV} {z p g n : Nat} {st : VM.St} {K : Nat} {v0 v1 v2 v3 v4 v6 v7 v8 : AV} {H : Heap} {Q : QT} (hpg : p < g) (hgn : g < n) (hK : K ≤ 4096) (hb : st.1.length ≤ 4611686018427387904)
    (h1 : H p = some (PRd st)) (h2 : H g = some (.row 9 [v0, v1, v2, v3, v4, .nils, v6, v7, v8]))
    (hq : ∀ H' n' F, n ≤ n' → H' p = some (PRd (VM.rdMany VM.clOf K st).2) → H' g = some (.row 9 [v0, v1, v2, v3, v4, F, v6, v7, v8]) → Slot H' 6 K (ziy (VM.rdMany VM.clOf K st).1) F → (∀ y ∈ own F, n ≤ y ∧ y < n') → (∀ y, y < n → y ≠ p → y ≠ g → H' y = H y) →
      za Tryz.prog 19 [.ptr p 0] H' n' (zdg Q [a0, .ptr z 0, .ptr p 0, .ptr g 0, .int .i64 K, .int .i64 K])) :
    LP (zfk Q) [a0, .ptr z 0, .ptr p 0, .ptr g 0, .int .i64 K, .int .i64 0] H n := by
  refine LP.mk (fun k xs H' n' => ∃ (i : Nat) (F : AV), k = K - i ∧ i ≤ K ∧ xs = [a0, .ptr z 0, .ptr p 0, .ptr g 0, .int .i64 K, .int .i64 i] ∧ n ≤ n' ∧ H' p = some (PRd (VM.rdMany VM.clOf i st).2) ∧ H' g = some (.row 9 [v0, v1, v2, v3, v4, F, v6, v7, v8]) ∧ Slot H' 6 i (ziy (VM.rdMany VM.clOf i st).1) F ∧ (∀ y ∈ own F, n ≤ y ∧ y < n') ∧ (∀ y, y < n → y ≠ p → y ≠ g → H' y = H y)) K ⟨0, .nils, rfl, by omega, rfl, Nat.le_refl _, h1, h2, .inl ⟨rfl, .inl rfl⟩, by simp [own], fun _ _ _ _ => rfl⟩ ?_
  rintro k xs H' n' ⟨i, F, rfl, hik, rfl, hn, hp, hr, sl, ow, kp⟩
  have sm := VM.short_many VM.short_cl i st
  by_cases hlt : i < K
  · have hadd : IntKind.i64.wrap ((i : Int) + 1) = ((i + 1 : Nat) : Int) := by rw [i64w (by omega)]; rfl
    have ll := VM.rdMany_len VM.clOf i st
    have er : VM.rdMany VM.clOf (i + 1) st = ((VM.rdMany VM.clOf i st).1 ++ [(VM.clOf (VM.rdMany VM.clOf i st).2).1], (VM.clOf (VM.rdMany VM.clOf i st).2).2) := rfl
    generalize VM.rdMany VM.clOf i st = q at *
    have a1 := VM.short_val q.2
    have hi : VM.clOf q.2 = (⟨(VM.rdVal q.2).1, (VM.rdVal (VM.rdVal q.2).2).1⟩, (VM.rdVal (VM.rdVal q.2).2).2) := rfl
    rw [hi] at er
    simp [zfk, hlt]
    refine ztn hp (by omega) ?_
    generalize VM.rdVal q.2 = w1 at *
    have gn : ¬ n' = g ∧ ¬ g = n' ∧ ¬ g = p ∧ ¬ p = g ∧ ¬ n' = p := by omega
    simp [zpw, Val.avs, hr, gn]
    refine zt.rd (st := w1.2) (by rw [Heap.put_ne _ _ (by omega), Heap.put_at]) (fun A => ztm _) (fun Hx nx Qx g1 g2 => ztn g1 (by omega) g2) ?_
    generalize VM.rdVal w1.2 = w2 at *
    simp [zpx, Val.avs]
    generalize hY : Heap.put _ (n' + 1) _ = Y
    have t1 : Y (n' + 1) = some (.row 6 (Cl.mk w1.1 w2.1).avs) := by rw [← hY, Heap.put_at]; rfl
    have t2 : Y p = some (PRd w2.2) := by rw [← hY, Heap.put_ne _ _ (by omega), Heap.put_at]
    have t3 : ∀ y, y < n' → y ≠ p → Y y = H' y := fun y e1 e2 => by rw [← hY, Heap.put_ne _ _ (by omega), Heap.put_ne _ _ e2, Heap.put_ne _ _ (by omega), Heap.put_ne _ _ e2]
    clear hY
    have s1 : Slot Y 6 i (ziy q.1) F := sl.keep fun y hy => by
      have := ow y hy
      rw [t3 y (by omega) (by omega)]
    refine s1.append (new := (Cl.mk w1.1 w2.1).avs) (by rw [zyv]; omega) t1 rfl (by simp [Cl.avs, Val.avs]) (by omega) fun rd D q1 q2 q3 => ?_
    have r6 : (Y.apply D) g = some (.row 9 [v0, v1, v2, v3, v4, F, v6, v7, v8]) := by
      rw [q3 g (fun h => by have := ow _ h; omega) (by omega), t3 g (by omega) (by omega)]; exact hr
    have rp : (Y.apply D) p = some (PRd w2.2) := by rw [q3 p (fun h => by have := ow _ h; omega) (by omega)]; exact t2
    have rk : ∀ y, y < n → y ≠ p → (Y.apply D) y = H' y := fun y e1 e2 => by
      rw [q3 y (fun h => by have := ow _ h; omega) (by omega), t3 y (by omega) e2]
    rw [r6, rowk]
    simp [hadd]
    generalize Y.apply D = Z at *
    have pg : ¬ p = g := by omega
    refine ⟨fun h => absurd h pg, by omega, by omega, K - (i + 1), by omega, i + 1, rfl, by omega, by omega, by omega, ?_, ?_, fun y hy => ?_, fun y h3 h4 h5 => ?_⟩
    · rw [if_neg pg, er]; exact rp
    · rw [er, zafy]
      refine Slot.full ?_ (by simp [zyv, Cl.avs, Val.avs, ll]; omega)
      rw [Heap.put_ne _ _ (by omega)]; exact q2
    · have e : y = n' + 1 + 1 := by simpa [own] using hy
      omega
    · rw [if_neg h5, rk y h3 h4]
      exact kp y h3 h4 h5
  · obtain rfl : i = K := by omega
    simp [zfk]
    exact hq _ _ _ hn hp hr sl ow kp
end Go.Proofs.YtpbnaaoilgohkaaGreatDoor
set_option maxRecDepth 8000
namespace Go.Proofs.YtpbnaaoilgohkaaGreatDoor
open Go Go.RowKit
def zagt : List AV := [.int .i64 0, .int .i64 0, .nils, .nils, .nils, .nils, .int .i64 0, .int .i64 0, .int .i64 0]
set_option maxRecDepth 20000 in
set_option maxHeartbeats 4000000 in
theorem zadg {b : Str} {H : Heap} {nx : Nat} {Q : QT} (hb : b.length ≤ 4611686018427387904)
    (hq : ∀ H' n' F C v r, r = VM.agtOf VM.rdCount (b, 0) → nx + 3 ≤ n' → H' (nx + 1) = some (PRd r.2) → H' (nx + 2) = some (.row 9 (zap r.1.id r.1.trip r.1.prog F C r.1.permit)) → Slot H' 4 r.1.frames.length (zix r.1.frames) F → Slot H' 6 r.1.heap.length (ziy r.1.heap) C → (∀ y ∈ own F, nx + 3 ≤ y ∧ y < n') → (∀ y ∈ own C, nx + 3 ≤ y ∧ y < n') → H' nx = some (.row 9 zagt) → Keep nx H' H →
      zdg Q [.ro (bsR b), .ptr nx 0, .ptr (nx + 1) 0, .ptr (nx + 2) 0, .int .i64 r.1.heap.length, .int .i64 r.1.heap.length] v H' n') :
    zjs (.ro (bsR b)) H nx Q := by
  have hq := fun H' n' F C v => hq H' n' F C v _ rfl
  unfold zjs
  simp
  unfold VM.agtOf VM.listOf at hq
  simp only at hq
  refine zbt (st := (b, 0)) (Heap.put_at _ _ _) hb ?_
  have a1 := VM.short_num (b, 0)
  generalize VM.rdNum (b, 0) = i at *
  simp only at a1
  simp [zoh]
  refine zbt (st := i.2) (Heap.put_at _ _ _) (by omega) ?_
  have a2 := VM.short_num i.2
  generalize VM.rdNum i.2 = t at *
  rw [put_put]
  simp [zoi]
  refine zbt (st := t.2) (by rw [Heap.put_ne _ _ (by omega), Heap.put_at]) (by omega) ?_
  have a3 := VM.short_num t.2
  generalize VM.rdNum t.2 = u at *
  simp [zoj]
  refine zbt (st := u.2) (Heap.put_at _ _ _) (by omega) ?_
  have a4 := VM.short_num u.2
  generalize VM.rdNum u.2 = c at *
  rw [put_put]
  simp [zok]
  refine zbt (st := c.2) (Heap.put_at _ _ _) (by omega) ?_
  have a5 := VM.short_num c.2
  generalize VM.rdNum c.2 = h at *
  rw [put_put]
  simp [zol]
  refine ⟨by rintro x ((rfl | rfl) | rfl) <;> rfl, ?_⟩
  refine zada (st := h.2) (by rw [Heap.put_ne _ _ (by omega), Heap.put_at]) (by omega) ?_
  have a6 := VM.short_prg VM.counts_rd h.2
  generalize VM.prgOf VM.rdCount h.2 = p at *
  simp [zom, Prg.avs]
  refine zhv (st := p.2) (by rw [Heap.put_ne _ _ (by omega), Heap.put_at]) (by omega) ?_
  have a7 := VM.short_count 12 p.2
  have rg := VM.rdCount_range (most := 12) (by omega) p.2
  generalize VM.rdCount 12 p.2 = d at *
  obtain ⟨K, hK⟩ := Int.eq_ofNat_of_zero_le rg.1
  rw [hK] at hq ⊢
  simp only [Int.toNat_natCast, zon] at hq ⊢
  generalize hX : Heap.put _ (nx + 1) _ = X
  have x1 : X (nx + 1) = some (PRd d.2) := by rw [← hX, Heap.put_at]
  have x2 : X (nx + 2) = some (.row 9 (zap i.1 t.1 p.1 .nils .nils ⟨u.1, c.1, h.1⟩)) := by rw [← hX, Heap.put_ne _ _ (by omega), Heap.put_at]; rfl
  have x0 : X nx = some (.row 9 zagt) := by rw [← hX]; repeat' first | rw [Heap.put_ne _ _ (by omega)] | exact Heap.put_at _ _ _
  have xk : Keep nx X H := fun y hy => by rw [← hX]; repeat' first | rw [Heap.put_ne _ _ (by omega)] | rfl
  clear hX
  have lf := VM.rdMany_len (VM.frmOf VM.rdCount) K d.2
  have a8 := VM.short_many (VM.short_frm VM.counts_rd) K d.2
  refine zale (n := nx + 3) (st := d.2) (by omega) (by omega) (by omega) (by omega) x1 x2 fun H1 n1 F g0 g1 g2 g3 g4 g5 => ?_
  generalize VM.rdMany (VM.frmOf VM.rdCount) K d.2 = f at *
  refine zhv g1 (by omega) ?_
  have a9 := VM.short_count 60 f.2
  have rg2 := VM.rdCount_range (most := 60) (by omega) f.2
  generalize VM.rdCount 60 f.2 = e at *
  obtain ⟨M, hM⟩ := Int.eq_ofNat_of_zero_le rg2.1
  rw [hM] at hq ⊢
  simp only [Int.toNat_natCast] at hq ⊢
  simp [zjd]
  have lk := VM.rdMany_len VM.clOf M e.2
  have a10 := VM.short_many VM.short_cl M e.2
  refine zalf (n := n1) (st := e.2) (by omega) (by omega) (by omega) (by omega) (Heap.put_at _ _ _) (by rw [Heap.put_ne _ _ (by omega)]; exact g2) fun H2 n2 C k0 k1 k2 k3 k4 k5 => ?_
  generalize VM.rdMany VM.clOf M e.2 = k at *
  refine zbt k1 (by omega) ?_
  have old : ∀ y, y < n1 → y ≠ nx + 1 → y ≠ nx + 2 → (H2.put (nx + 1) (some (PRd (VM.rdNum k.2).2))) y = H1 y := fun y h1 h2 h3 => by rw [Heap.put_ne _ _ h2, k5 y h1 h2 h3, Heap.put_ne _ _ h2]
  subst lk
  refine hq _ n2 F C _ (by omega) (Heap.put_at _ _ _) (by rw [Heap.put_ne _ _ (by omega)]; exact k2) (by rw [lf]; exact g3.keep fun y hy => old y (g4 y hy).2 (by have := g4 y hy; omega) (by have := g4 y hy; omega)) (k3.keep fun y hy => by have := k4 y hy; rw [Heap.put_ne _ _ (by omega)]) (fun y hy => by have := g4 y hy; omega) (fun y hy => by have := k4 y hy; omega) (by rw [old nx (by omega) (by omega) (by omega), g5 nx (by omega) (by omega) (by omega)]; exact x0) fun y hy => ?_
  rw [old y (by omega) (by omega) (by omega), g5 y (by omega) (by omega) (by omega)]; exact xk y hy
end Go.Proofs.YtpbnaaoilgohkaaGreatDoor
set_option maxRecDepth 8000
namespace Go.Proofs.YtpbnaaoilgohkaaGreatDoor
open Go Go.RowKit
theorem zakx (i : Ins) : QC Tryz.prog 47 [.agg i.avs] (.tup [.int .i64 (VM.effect i).1, .int .i64 (VM.effect i).2]) := by
  refine QC.of' fun H nx => zsp _ H nx _ ?_
  obtain ⟨op, a, b⟩ := i
  unfold zni
  simp only [Ins.avs, zakv, zajm, true_and, List.length_cons, List.length_nil, ld_p, Heap.put_at, rowk, List.getElem?_cons_zero, optk, zapu, cnd, cndc, decide_eq_true_eq, decide_eq_false_iff_not]
  refine ⟨fun h => ?_, fun h => ?_⟩
  · simp [VM.effect, h]
  have hx : op ≠ 17 := by simpa using h
  have hH : ((H.put nx (some (.row 3 [.int .i64 op, .int .i64 a, .int .i64 b]))).put (nx + 1) (some (.mp []))) (nx + 1) = some (.mp []) := Heap.put_at _ _ _
  have hK : Keep nx ((H.put nx (some (.row 3 [.int .i64 op, .int .i64 a, .int .i64 b]))).put (nx + 1) (some (.mp []))) H := by simp
  have hop : ((H.put nx (some (.row 3 [.int .i64 op, .int .i64 a, .int .i64 b]))).put (nx + 1) (some (.mp []))) nx = some (.row 3 [.int .i64 op, .int .i64 a, .int .i64 b]) := by simp
  simp only [Nat.zero_add, Nat.reduceAdd]
  generalize ((H.put nx (some (.row 3 [.int .i64 op, .int .i64 a, .int .i64 b]))).put (nx + 1) (some (.mp []))) = H1 at *
  repeat (refine ⟨rfl, zape hH hop (by omega) hK (by omega) (by simp only [zkj, zua, List.nil_append, List.cons_append, Int.reduceEq, if_false, Option.map_some, Option.map_none]) ?_⟩; clear hH hK hop; clear H1; intro H1 hH hop hK)
  simp only [List.nil_append, List.cons_append] at hH
  have hcases : op < 1 ∨ 19 < op ∨ op = 1 ∨ op = 2 ∨ op = 3 ∨ op = 4 ∨ op = 5 ∨ op = 6 ∨ op = 7 ∨ op = 8 ∨ op = 9 ∨ op = 10 ∨ op = 11 ∨ op = 12 ∨ op = 13 ∨ op = 14 ∨ op = 15 ∨ op = 16 ∨ op = 18 ∨ op = 19 := by omega
  have hs : ∀ p q : Int, (∃ r, zai (.int .i64 op) [(.int .i64 1, .agg [.int .i64 0, .int .i64 1]), (.int .i64 2, .agg [.int .i64 0, .int .i64 1]), (.int .i64 3, .agg [.int .i64 0, .int .i64 1]), (.int .i64 4, .agg [.int .i64 1, .int .i64 0]), (.int .i64 5, .agg [.int .i64 2, .int .i64 1]), (.int .i64 6, .agg [.int .i64 2, .int .i64 1]), (.int .i64 7, .agg [.int .i64 1, .int .i64 1]), (.int .i64 8, .agg [.int .i64 1, .int .i64 1]), (.int .i64 9, .agg [.int .i64 2, .int .i64 0]), (.int .i64 10, .agg [.int .i64 2, .int .i64 0]), (.int .i64 11, .agg [.int .i64 1, .int .i64 1]), (.int .i64 12, .agg [.int .i64 0, .int .i64 1]), (.int .i64 13, .agg [.int .i64 1, .int .i64 1]), (.int .i64 14, .agg [.int .i64 1, .int .i64 0]), (.int .i64 15, .agg [.int .i64 0, .int .i64 0]), (.int .i64 16, .agg [.int .i64 1, .int .i64 0]), (.int .i64 18, .agg [.int .i64 1, .int .i64 0]), (.int .i64 19, .agg [.int .i64 1, .int .i64 0])] = some r ∧
      (match r with | some (_, v) => v | none => .agg [.int .i64 0, .int .i64 0]) = .agg [.int .i64 (VM.effect ⟨op, a, b⟩).1, .int .i64 (VM.effect ⟨op, a, b⟩).2]) := by
    intro _ _
    rcases hcases with h | h | h
    · have e : VM.effect ⟨op, a, b⟩ = (0, 0) := by unfold VM.effect; simp only; (repeat' split) <;> first | omega | rfl
      refine ⟨none, ?_, by rw [e]⟩
      simp only [zkj, zua]
      repeat rw [if_neg (by omega)]
      rfl
    · have e : VM.effect ⟨op, a, b⟩ = (0, 0) := by unfold VM.effect; simp only; (repeat' split) <;> first | omega | rfl
      refine ⟨none, ?_, by rw [e]⟩
      simp only [zkj, zua]
      repeat rw [if_neg (by omega)]
      rfl
    · rcases h with h | h | h | h | h | h | h | h | h | h | h | h | h | h | h | h | h | h
      all_goals subst h; exact ⟨_, by simp only [zkj, Int.reduceEq, if_false, if_true, Option.map_some]; rfl, rfl⟩
  obtain ⟨r, h1, h2⟩ := hs 0 0
  rw [hop, rowk]
  simp only [List.getElem?_cons_zero, optk, zago, true_and, lk_p, hH, mapk, h1, cond_true, cond_false]
  cases r with
  | none => simp only at h2; simp [hK, h2]
  | some pr => obtain ⟨i, v⟩ := pr; simp only at h2; simp [hK, h2]
theorem zaec (s : Str) (i : Nat) : (s.drop i).all VM.wordByte = if h : i < s.length then VM.wordByte s[i] && (s.drop (i + 1)).all VM.wordByte else true := by
  split
  · rename_i h
    rw [List.drop_eq_getElem_cons h, List.all_cons]
  · rename_i h
    rw [List.drop_of_length_le (by omega)]; rfl
theorem zakr (s : Str) (hs : s.length ≤ maxLen) : QC Tryz.prog 46 [.str s] (.bool (VM.word s)) := by
  refine fun H nx => zuu _ H nx _ ?_
  simp only [maxLen] at hs
  simp [zpk]
  refine LP.mk (fun n xs H' nx' => ∃ i : Nat, i ≤ s.length ∧ n = s.length - i ∧ xs = [.str s, .int .i64 s.length, .int .i64 i] ∧ H = H' ∧ nx = nx' ∧ s.all VM.wordByte = (s.drop i).all VM.wordByte) s.length ⟨0, by omega, by omega, rfl, rfl, rfl, rfl⟩ ?_
  rintro n xs H' nx' ⟨i, hi, rfl, rfl, rfl, rfl, hall⟩
  rw [zaec] at hall
  simp [zpl]
  refine ⟨fun h => ?_, fun h => ?_⟩
  · rw [dif_pos h] at hall
    have hb : VM.wordByte s[i] = false → VM.word s = false := fun hb => by simp [VM.word, hall, hb]
    simp [h]
    refine ⟨fun h1 => hb (by simp [VM.wordByte]; omega), fun h1 => ⟨fun h2 => hb (by simp [VM.wordByte]; omega), fun h2 => ⟨fun h3 => hb (by simp [VM.wordByte]; omega), fun h3 => ?_⟩⟩⟩
    rw [i64w (by omega)]
    refine ⟨s.length - (i + 1), by omega, i + 1, by omega, rfl, by simp, ?_⟩
    have : VM.wordByte s[i] = true := by simp [VM.wordByte]; omega
    rw [hall, this]; rfl
  · rw [dif_neg (by omega)] at hall
    simp only [VM.word, hall, Bool.and_true]
    rw [Bool.eq_iff_iff]; simp; omega
end Go.Proofs.YtpbnaaoilgohkaaGreatDoor
set_option maxRecDepth 8000
namespace Go.Proofs.YtpbnaaoilgohkaaGreatDoor
open Go Go.RowKit
theorem zait (i : Ins) : QC Tryz.prog 90 [.agg i.avs] (.tup [.int .i64 (VM.effect i).1, .int .i64 (VM.effect i).2]) := by
  refine QC.of' fun H nx => zso _ H nx _ ?_
  obtain ⟨op, a, b⟩ := i
  simp [zmk, Ins.avs]
  repeat' first | apply And.intro | intro _
  all_goals simp [VM.effect, *]
theorem zanz (s : Str) (hs : s.length ≤ maxLen) : QC Tryz.prog 76 [.str s] (.bool (VM.word s)) := by
  refine fun H nx => zwp _ H nx _ ?_
  simp only [maxLen] at hs
  simp [ztg]
  refine ⟨fun h => by simp [VM.word]; omega, fun h => ?_⟩
  have hl : s.length ≤ 12 := by omega
  have hw : VM.word s = s.all VM.wordByte := by simp [VM.word, hl]
  refine LP.mk (fun n xs H' nx' => ∃ i : Nat, i ≤ s.length ∧ n = s.length - i ∧ xs = [.str s, .int .i64 s.length, .int .i64 i] ∧ H = H' ∧ nx = nx' ∧ s.all VM.wordByte = (s.drop i).all VM.wordByte) s.length ⟨0, by omega, by omega, rfl, rfl, rfl, rfl⟩ ?_
  rintro n xs H' nx' ⟨i, hi, rfl, rfl, rfl, rfl, hall⟩
  rw [zaec] at hall
  simp [zth]
  refine ⟨fun h => ?_, fun h => ?_⟩
  · rw [dif_pos h] at hall
    have hg : s.getD i 0 = s[i] := by simp [List.getD, h]
    simp [h]
    have hb : VM.wordByte s[i] = false → VM.word s = false := fun hb => by rw [hw, hall, hb]; rfl
    refine ⟨fun h1 => hb (by simp [VM.wordByte]; omega), fun h1 => ⟨fun h2 => hb (by simp [VM.wordByte]; omega), fun h2 => ⟨fun h3 => hb (by simp [VM.wordByte]; omega), fun h3 => ?_⟩⟩⟩
    rw [i64w (by omega)]
    refine ⟨s.length - (i + 1), by omega, i + 1, by omega, rfl, by simp, ?_⟩
    have : VM.wordByte s[i] = true := by simp [VM.wordByte]; omega
    rw [hall, this]; rfl
  · rw [dif_neg (by omega)] at hall
    rw [hw, hall]
end Go.Proofs.YtpbnaaoilgohkaaGreatDoor
set_option maxRecDepth 8000
namespace Go.Proofs.YtpbnaaoilgohkaaGreatDoor
open Go Go.RowKit
theorem zaqr (n m : Int) : QC Tryz.prog 89 [.int .i64 n, .int .i64 m] (.bool (VM.isIn n m)) := by
  refine QC.of' fun H nx => zpb _ _ H nx _ ?_
  simp [zjj, VM.isIn]
  constructor <;> intros <;> omega
set_option maxHeartbeats 2000000 in
theorem zagi (p : Prg) (c : Cod) (i : Ins) (H : Heap) (nx g : Nat) (hg : H g = some (.row 2 p.avs)) (hgn : g < nx) :
    za Tryz.prog 77 [.ptr g 0, .rop c.avs 0, .agg i.avs] H nx fun v H' nx' => Frz H' nx v (.int .i64 (VM.numbers p c i)) ∧ Keep nx H' H := by
  refine zrf _ _ _ H nx _ ?_
  obtain ⟨op, a, b⟩ := i
  have hne : g ≠ nx := by omega
  simp [zlj, Ins.avs, hg, hne, Prg.avs, Cod.avs]
  refine JN.cut (fun xs H' nx' => xs = [.ptr nx 0, .bool (VM.numOk p c ⟨op, a, b⟩)] ∧ H' = H.put nx (some (.row 3 [.int .i64 op, .int .i64 a, .int .i64 b])) ∧ nx' = nx + 1) ?_ ?_
  · rintro xs H' nx' ⟨rfl, rfl, rfl⟩
    simp only [VM.numbers]
    cases hk : VM.numOk p c ⟨op, a, b⟩
    all_goals simp [zbs, zbr, zbq, zbp, zbo, zbn, zbm, zbl, zbk]
    all_goals repeat' first | apply And.intro | intro _
    all_goals ((repeat' split) <;> omega)
  · simp [hg, hne, Prg.avs, Cod.avs, zbs, zbr, zbq, zbp, zbo, zbn, zbm, zbl, zbk]
    repeat' first | apply And.intro | intro _ | (refine JN.same ?_; simp [hg, hne, Prg.avs, Cod.avs, zbs, zbr, zbq, zbp, zbo, zbn, zbm, zbl, zbk]) | (refine zt.of_qc (zaqr _ _) (.bool _) ?_; simp [hg, hne, Prg.avs, Cod.avs, zbs, zbr, zbq, zbp, zbo, zbn, zbm, zbl, zbk]) | (simp [hg, hne, Prg.avs, Cod.avs, zbs, zbr, zbq, zbp, zbo, zbn, zbm, zbl, zbk]; done)
    all_goals try (simp [VM.numOk, *]; done)
    all_goals try (simp [VM.numOk, *]; omega)
    · rename_i h; simp [VM.isIn] at h; omega
    · rename_i h; simp [VM.isIn] at h; omega
    · rename_i h
      have h' : 0 ≤ a ∧ a < p.codes.length := by simpa [VM.isIn] using h
      refine zaeg (by omega) fun x hx => ?_
      obtain ⟨_, e⟩ := List.getElem?_eq_some_iff.1 hx
      subst e
      simp [VM.numOk, *]
end Go.Proofs.YtpbnaaoilgohkaaGreatDoor
set_option maxRecDepth 8000
namespace Go.Proofs.YtpbnaaoilgohkaaGreatDoor
open Go Go.RowKit
def zi (l : List Int) : List AV := l.map (AV.int .i64)
def prs : List (Int × Int) → List AV
  | [] => []
  | (a, b) :: r => .int .i64 a :: .int .i64 b :: prs r
theorem zps (l : List (Int × Int)) : (prs l).length = l.length * 2 := by
  induction l with
  | nil => rfl
  | cons x r ih => obtain ⟨a, b⟩ := x; simp [prs, ih, Nat.succ_mul]
theorem zrm (l m : List (Int × Int)) : prs (l ++ m) = prs l ++ prs m := by
  induction l with
  | nil => rfl
  | cons x r ih => obtain ⟨a, b⟩ := x; simp [prs, ih]
section
variable {k : AV → Prop} {ki : IntKind}
@[simp ↓] theorem zaue {s g off len : Nat} {a : Int} {H : Heap} : SL s (.slc g off len) (some (.int ki a)) none H k = ROWK (H g) fun sz _ => sz = s ∧ 0 ≤ a ∧ a ≤ len ∧ k (.slc g (off + a.toNat * s) ((len : Int) - a).toNat) := by
  simp only [SL, zby, lohi, qk]
  refine zfh (fun sz cs h => ?_) fun h => ?_
  · simp [h]
  · intro ha
    split at ha
    · rename_i sz cs he; exact h _ _ he
    · exact ha
end
theorem zze (n i : Nat) (h : i < n) : List.take i (zi (List.replicate i (-1) ++ List.replicate (n - i) 0)) ++ AV.int .i64 (-1) :: List.drop (i + 1) (zi (List.replicate i (-1) ++ List.replicate (n - i) 0)) = zi (List.replicate (i + 1) (-1) ++ List.replicate (n - (i + 1)) 0) := by
  have e : n - i = (n - (i + 1)) + 1 := by omega
  rw [e, List.replicate_succ, List.replicate_succ']
  simp [zi, List.take_append, List.drop_append]
theorem zdi (l : List Int) (i : Nat) : (zi l)[i]? = (l[i]?).map (AV.int .i64) := by simp [zi]
theorem zxk (l : List Int) (i : Nat) (x : Int) (h : i < l.length) : List.take i (zi l) ++ AV.int .i64 x :: List.drop (i + 1) (zi l) = zi (l.set i x) := by
  rw [zi, zi, List.map_set, List.set_eq_take_append_cons_drop]; simp [h]
@[simp] theorem zarg (l : List Int) : (zi l).length = l.length := by simp [zi]
theorem zvl (l : List Int) : (l.map fun n => [AV.int .i64 n]).flatten = zi l := by
  induction l with
  | nil => rfl
  | cons x r ih => simp [zi] at ih ⊢; exact ih
end Go.Proofs.YtpbnaaoilgohkaaGreatDoor
set_option maxRecDepth 8000
namespace Go.Proofs.YtpbnaaoilgohkaaGreatDoor
open Go Go.RowKit
def QAt (H : Heap) (nx : Nat) (lo : Nat) (v : AV) (q : List (Int × Int)) : Prop := ∃ g off cells, v = .slc g off q.length ∧ H g = some (.row 2 cells) ∧ cells.drop off = prs q ∧ off ≤ cells.length ∧ lo ≤ g ∧ g < nx
def HInv (c : Cod) (H0 : Heap) (n0 : Nat) (f : Nat) (xs : List AV) (H : Heap) (nx : Nat) : Prop := ∃ (q : List (Int × Int)) (out : List Int) (v : AV),
  xs = [.ptr n0 0, .slc (n0 + 1) 0 c.ins.length, v] ∧ QAt H nx (n0 + 2) v q ∧ H n0 = some (.row 3 c.avs) ∧ H (n0 + 1) = some (.row 1 (zi out)) ∧ out.length = c.ins.length ∧ Keep n0 H H0 ∧ n0 + 2 < nx ∧
  VM.heightsGo c.ins f q out = VM.heights c.ins ∧ q.length + 2 * ziv out < f ∧ f ≤ 2 * c.ins.length + 2 ∧ (∀ x ∈ q, 0 ≤ x.2 ∧ x.2 ≤ 16) ∧ (∀ x ∈ out, -1 ≤ x ∧ x ≤ 16)
set_option maxHeartbeats 2000000 in
theorem zxc (c : Cod) (hlen : c.ins.length ≤ 1048576) (hcalm : Calm c.ins) :
    QC Tryz.prog 78 [.agg c.avs] (.tup [.ro ((VM.heights c.ins).1.map fun n => [.int .i64 n]), .int .i64 (VM.heights c.ins).2]) := by
  refine QC.of' fun H nx => zrh _ H nx _ ?_
  simp [zlo, Cod.avs]
  refine ⟨by omega, by omega, ?_⟩
  refine LP.mk (fun m xs H' nx' => ∃ i : Nat, i ≤ c.ins.length ∧ m = c.ins.length - i ∧ xs = [.ptr nx 0, .slc (nx + 1) 0 c.ins.length, .int .i64 c.ins.length, .int .i64 i] ∧ nx' = nx + 2 ∧
    H' = (H.put nx (some (.row 3 c.avs))).put (nx + 1) (some (.row 1 (zi (List.replicate i (-1) ++ List.replicate (c.ins.length - i) 0))))) c.ins.length
    ⟨0, by omega, by omega, by simp, rfl, by simp [zi, Cod.avs]⟩ ?_
  rintro m xs H' nx' ⟨i, hi, rfl, rfl, rfl, rfl⟩
  simp [zlp]
  refine ⟨fun h => ?_, fun h => ?_⟩
  · refine ⟨h, by omega, ?_⟩
    rw [i64w (by omega)]
    refine ⟨c.ins.length - (i + 1), by omega, i + 1, by omega, rfl, by simp, ?_⟩
    rw [zze _ _ h]
  obtain rfl : i = c.ins.length := by omega
  refine LP.mk (HInv c H nx) (2 * c.ins.length + 2) ⟨[(0, 0)], List.replicate c.ins.length (-1), .slc (nx + 2) 0 1, rfl, ⟨nx + 2, 0, [.int .i64 0, .int .i64 0], rfl, by simp, by simp [prs], by simp, by omega, by omega⟩, by simp, by simp, by simp, by simp, by omega, rfl, ?_, by omega, ?_, ?_⟩ ?_
  · unfold ziv; simp [List.countP_replicate]; omega
  · intro x hx; simp at hx; subst hx; simp
  · intro x hx; have := List.eq_of_mem_replicate hx; omega
  rintro f xs H1 n1 ⟨q, out, v, rfl, ⟨g, off, cells, rfl, hg, hcells, hoff, hlo, hhi⟩, hb, ho, hol, hK, hn, hgo, hmeas, hf, hq, hout⟩
  cases q with
  | nil =>
    simp [zau]
    cases f with
    | zero => simp at hmeas
    | succ f =>
      have e : VM.heights c.ins = (out, 0) := by rw [← hgo]; rfl
      rw [e]
      refine ⟨⟨Frz.row (sz := 1) (cells := zi out) (by omega) ho (by simp [hol]) (by simp) ?_ ?_, rfl⟩, hK⟩
      · exact zvl out
      · intro x hx; simp [zi] at hx; obtain ⟨a, _, rfl⟩ := hx; exact .int _ _
  | cons x q =>
    obtain ⟨at_, h⟩ := x
    have hc0 : cells[off]? = some (.int .i64 at_) := by have := congrArg (·[0]?) hcells; simpa [prs] using this
    have hc1 : cells[off + 1]? = some (.int .i64 h) := by have := congrArg (·[1]?) hcells; simpa [prs] using this
    have hdrop : cells.drop (off + 2) = prs q := by
      have := congrArg (List.drop 2) hcells
      simpa [prs] using this
    have hoff2 : off + 2 ≤ cells.length := by
      have := congrArg List.length hcells
      simp [prs, zps] at this; omega
    cases f with
    | zero => simp at hmeas
    | succ f =>
    have hh := hq (at_, h) (by simp)
    simp only at hh
    have hq' : ∀ x ∈ q, 0 ≤ x.2 ∧ x.2 ≤ 16 := fun x hx => hq x (by simp [hx])
    simp only [List.length_cons] at hmeas
    simp only [VM.heightsGo] at hgo
    by_cases hr : 0 ≤ at_ ∧ at_ < c.ins.length
    case neg =>
      have e : (if 0 ≤ at_ then c.ins[at_.toNat]? else none) = none := by
        split
        · exact List.getElem?_eq_none (by omega)
        · rfl
      rw [e] at hgo
      simp only at hgo
      rw [← hgo]
      by_cases h0 : at_ < 0
      · simp [zau, hg, hc0, hc1, h0, hK]; omega
      · have : (c.ins.length : Int) ≤ at_ := by omega
        simp [zau, hg, hc0, hc1, h0, this, hK]; omega
    case pos =>
    obtain ⟨hr0, hr1⟩ := hr
    have hlt : at_.toNat < c.ins.length := by omega
    obtain ⟨i, hi⟩ : ∃ i, c.ins[at_.toNat]? = some i := ⟨_, List.getElem?_eq_getElem hlt⟩
    obtain ⟨o, ho'⟩ : ∃ o, out[at_.toNat]? = some o := ⟨_, List.getElem?_eq_getElem (by omega)⟩
    have hod : out.getD at_.toNat 0 = o := by simp [List.getD_eq_getElem?_getD, ho']
    rw [if_pos hr0, hi, hod] at hgo
    simp only at hgo
    by_cases hs : 0 ≤ o
    · rw [if_pos hs] at hgo
      by_cases hne : o = h
      · subst hne
        rw [if_neg (by simp)] at hgo
        simp [zau, hg, hc0, hc1, ho, hr0, hr1, zdi, ho', hs, Int.not_lt.2 hr0, Int.not_le.2 hr1, Int.not_lt.2 hs]
        refine ⟨by omega, f, by omega, q, out, _, rfl, ⟨g, off + 2, cells, rfl, hg, hdrop, hoff2, hlo, hhi⟩, hb, ho, hol, hK, hn, hgo, by omega, by omega, hq', hout⟩
      · rw [if_pos hne] at hgo
        rw [← hgo]
        simp [zau, hg, hc0, hc1, ho, hr0, hr1, zdi, ho', hs, hne, hK]
        omega
    rw [if_neg hs] at hgo
    have hbd := zkk i (hcalm i (List.mem_of_getElem? hi))
    have n1' : g ≠ nx := by omega
    have n2' : g ≠ nx + 1 := by omega
    have n3' : g ≠ n1 := by omega
    have n4' : nx ≠ n1 := by omega
    have n5' : nx + 1 ≠ n1 := by omega
    have hns : o < 0 := by omega
    obtain ⟨_, hi'⟩ := List.getElem?_eq_some_iff.1 hi
    simp [zau, hg, hc0, hc1, ho, hb, hr0, hr1, zdi, ho', hs, hns, hi', Cod.avs, Ins.avs, Int.not_lt.2 hr0, Int.not_le.2 hr1]
    refine ⟨by omega, by omega, QC.call (zait i) ?_⟩
    rw [zxk _ _ _ (by omega)]
    have h2g : ((H1.put (nx + 1) (some (.row 1 (zi (out.set at_.toNat h))))).put n1 (some (.row 3 [.int .i64 i.op, .int .i64 i.a, .int .i64 i.b]))) g = some (.row 2 cells) := by simp [n2', n3', hg]
    have h2b : ((H1.put (nx + 1) (some (.row 1 (zi (out.set at_.toNat h))))).put n1 (some (.row 3 [.int .i64 i.op, .int .i64 i.a, .int .i64 i.b]))) nx = some (.row 3 c.avs) := by simp [n4', hb]
    have h2o : ((H1.put (nx + 1) (some (.row 1 (zi (out.set at_.toNat h))))).put n1 (some (.row 3 [.int .i64 i.op, .int .i64 i.a, .int .i64 i.b]))) (nx + 1) = some (.row 1 (zi (out.set at_.toNat h))) := by simp [n5']
    have h2n : ((H1.put (nx + 1) (some (.row 1 (zi (out.set at_.toNat h))))).put n1 (some (.row 3 [.int .i64 i.op, .int .i64 i.a, .int .i64 i.b]))) n1 = some (.row 3 [.int .i64 i.op, .int .i64 i.a, .int .i64 i.b]) := by simp
    have h2K : Keep nx ((H1.put (nx + 1) (some (.row 1 (zi (out.set at_.toNat h))))).put n1 (some (.row 3 [.int .i64 i.op, .int .i64 i.a, .int .i64 i.b]))) H := by rw [Keep.put (by omega), Keep.put (by omega)]; exact hK
    generalize ((H1.put (nx + 1) (some (.row 1 (zi (out.set at_.toNat h))))).put n1 (some (.row 3 [.int .i64 i.op, .int .i64 i.a, .int .i64 i.b]))) = H2 at *
    have hu := zoc (out := out) (k := at_.toNat) (h := h) (by omega) (by omega) hh.1
    generalize hE : VM.effect i = E at *
    obtain ⟨nd, gv⟩ := E
    simp only at hbd hgo
    have w1 : IntKind.i64.wrap (gv - nd) = gv - nd := i64w (by omega)
    have w2 : IntKind.i64.wrap (h + (gv - nd)) = h + (gv - nd) := i64w (by omega)
    have w3 : IntKind.i64.wrap (at_ + 1) = at_ + 1 := i64w (by omega)
    by_cases hc1 : h < nd ∨ (i.op = 18 ∧ h ≠ 1)
    · rw [if_pos hc1] at hgo
      rw [← hgo]
      by_cases hc2 : h < nd
      · simp [zac, hc2, h2K]
      · have h18 : i.op = 18 := by omega
        have h1 : h ≠ 1 := by omega
        simp [zac, hc2, h2n, h18, h1, h2K]
    rw [if_neg hc1] at hgo
    have hc2 : ¬ h < nd := by omega
    have hc2' : nd ≤ h := by omega
    by_cases hc3 : 16 < h + gv - nd
    · rw [if_pos hc3] at hgo
      rw [← hgo]
      have hc3' : 16 < h + (gv - nd) := by omega
      by_cases h18 : i.op = 18
      · have h1 : h = 1 := by omega
        subst h1
        simp [zac, hc2, h2n, h18, w1, w2, hc3', h2K]
      · simp [zac, hc2, h2n, h18, w1, w2, hc3', h2K]
    rw [if_neg hc3] at hgo
    have hc4 : ¬ 16 < h + (gv - nd) := by omega
    have e4 : h + gv - nd = h + (gv - nd) := by omega
    rw [e4] at hgo
    have fin : ∀ (l : List (Int × Int)) (v : AV) (H3 : Heap) (n3 : Nat), VM.heightsGo c.ins f (q ++ l) (out.set at_.toNat h) = VM.heights c.ins → l.length ≤ 2 → (∀ x ∈ l, 0 ≤ x.2 ∧ x.2 ≤ 16) →
        QAt H3 n3 (nx + 2) v (q ++ l) → H3 nx = some (.row 3 c.avs) → H3 (nx + 1) = some (.row 1 (zi (out.set at_.toNat h))) → Keep nx H3 H → nx + 2 < n3 →
        ∃ m, m < f + 1 ∧ HInv c H nx m [.ptr nx 0, .slc (nx + 1) 0 c.ins.length, v] H3 n3 := by
      intro l v H3 n3 p1 p2 p3 p4 p5 p6 p7 p8
      refine ⟨f, by omega, q ++ l, _, v, rfl, p4, p5, p6, by simpa using hol, p7, p8, p1, by simp; omega, by omega, fun x hx => ?_, fun x hx => ?_⟩
      · rcases List.mem_append.1 hx with hx | hx
        · exact hq' x hx
        · exact p3 x hx
      · rcases List.mem_or_eq_of_mem_set hx with h9 | h9
        · exact hout x h9
        · omega
    have hq0 : QAt H2 (n1 + 1) (nx + 2) (.slc g (off + 2) q.length) q := ⟨g, off + 2, cells, rfl, h2g, hdrop, hoff2, hlo, by omega⟩
    have n6' : g ≠ n1 + 1 := by omega
    have n7' : n1 ≠ g := by omega
    have n8' : nx ≠ g := by omega
    have n9' : nx + 1 ≠ g := by omega
    have htake : List.take (q.length * 2) (List.drop (off + 2) cells) = prs q := by rw [hdrop]; exact List.take_of_length_le (by rw [zps]; exact Nat.le_refl _)
    have hclen : off + 2 + q.length * 2 = cells.length := by
      have := congrArg List.length hdrop
      simp [zps] at this; omega
    have hql : q.length < 2097156 := by omega
    by_cases h15 : i.op = 15
    · simp [zac, hc2, hc2', h2n, h15, w1, w2, w3, hc4, h2g, n6', htake]
      refine ⟨by omega, by omega, fin [(i.a, h + (gv - nd))] _ _ _ (by simpa [h15] using hgo) (by simp) (by simp; omega) ⟨n1 + 1 + 1, 0, prs q ++ [.int .i64 i.a, .int .i64 (h + (gv - nd))], by simp, by simp, by simp [zrm, prs], by simp, by omega, by omega⟩ ?_ ?_ ?_ (by omega)⟩
      · rw [Heap.put_ne _ _ (by omega), Heap.put_ne _ _ (by omega), Heap.put_ne _ _ (by omega)]; exact h2b
      · rw [Heap.put_ne _ _ (by omega), Heap.put_ne _ _ (by omega), Heap.put_ne _ _ (by omega)]; exact h2o
      · rw [Keep.put (by omega), Keep.put (by omega), Keep.put (by omega)]; exact h2K
    by_cases h18 : i.op = 18
    · have h1 : h = 1 := by omega
      subst h1
      simp [zac, hc2, hc2', h2n, h18, w1, w2, w3, hc4, h2g]
      have := fin [] (.slc g (off + 2) q.length) H2 (n1 + 1) (by simpa [h15, h18] using hgo) (by simp) (by simp) (by simpa using hq0) h2b h2o h2K (by omega)
      exact this
    have n10 : ¬ n1 = n1 + 1 + 1 := by omega
    by_cases h16 : i.op = 16
    · simp [zac, hc2, hc2', h2n, h16, w1, w2, w3, hc4, h2g, n6', n7', n10, htake, zps]
      have htake2 : List.take ((q.length + 1) * 2) (prs q ++ [AV.int .i64 (at_ + 1), AV.int .i64 (h + (gv - nd))]) = prs q ++ [AV.int .i64 (at_ + 1), AV.int .i64 (h + (gv - nd))] := List.take_of_length_le (by simp [zps]; omega)
      rw [htake2]
      refine ⟨by omega, by omega, by omega, by omega, fin [(at_ + 1, h + (gv - nd)), (i.a, h + (gv - nd))] (.slc (n1 + 1 + 1 + 1 + 1) 0 (q.length + 1 + 1)) _ _ (by simpa [h15, h16, h18] using hgo) (by simp) (by simp; omega) ⟨n1 + 1 + 1 + 1 + 1, 0, prs q ++ [.int .i64 (at_ + 1), .int .i64 (h + (gv - nd))] ++ [.int .i64 i.a, .int .i64 (h + (gv - nd))], by simp, by simp, by simp [zrm, prs], by simp, by omega, by omega⟩ ?_ ?_ ?_ (by omega)⟩
      · rw [Heap.put_ne _ _ (by omega), Heap.put_ne _ _ (by omega), Heap.put_ne _ _ (by omega), Heap.put_ne _ _ (by omega), Heap.put_ne _ _ (by omega), Heap.put_ne _ _ (by omega)]; exact h2b
      · rw [Heap.put_ne _ _ (by omega), Heap.put_ne _ _ (by omega), Heap.put_ne _ _ (by omega), Heap.put_ne _ _ (by omega), Heap.put_ne _ _ (by omega), Heap.put_ne _ _ (by omega)]; exact h2o
      · rw [Keep.put (by omega), Keep.put (by omega), Keep.put (by omega), Keep.put (by omega), Keep.put (by omega), Keep.put (by omega)]; exact h2K
    · simp [zac, hc2, hc2', h2n, h15, h16, h18, w1, w2, w3, hc4, h2g, n6', n7', n10, htake]
      refine ⟨by omega, by omega, fin [(at_ + 1, h + (gv - nd))] (.slc (n1 + 1 + 1) 0 (q.length + 1)) _ _ (by simpa [h15, h16, h18] using hgo) (by simp) (by simp; omega) ⟨n1 + 1 + 1, 0, prs q ++ [.int .i64 (at_ + 1), .int .i64 (h + (gv - nd))], by simp, by simp, by simp [zrm, prs], by simp, by omega, by omega⟩ ?_ ?_ ?_ (by omega)⟩
      · rw [Heap.put_ne _ _ (by omega), Heap.put_ne _ _ (by omega), Heap.put_ne _ _ (by omega)]; exact h2b
      · rw [Heap.put_ne _ _ (by omega), Heap.put_ne _ _ (by omega), Heap.put_ne _ _ (by omega)]; exact h2o
      · rw [Keep.put (by omega), Keep.put (by omega), Keep.put (by omega)]; exact h2K
end Go.Proofs.YtpbnaaoilgohkaaGreatDoor
