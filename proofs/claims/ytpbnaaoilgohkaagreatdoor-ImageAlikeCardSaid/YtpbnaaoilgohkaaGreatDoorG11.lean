/- Agents as bytes, and back: what was written comes back; no part of it does. What is right never gets stuck; who begins is right: in plain words. Agents as bytes, and back: the laws. Agents as bytes, and back: there and back; a part is nothing; seen the same, written the same. The bytes of an agent that is away: the program's, and the document's. The readers: agents, in plain words. The reader: programs. The agent of bytes: frames. The agent of bytes: its beginning. Words, and instructions: what the document's functions make of them. Words, and values: what the program's functions, and the document's, make of them. Numbers of instructions. Rows of numbers. Heights: what the program's function makes of a code. Heights: what the document's function makes of a code. Programs: what the program's function says is wrong with them. Programs: what the document's function says is wrong with them. Frames: what the program's function says is wrong with one. Agents: what the program's function says is wrong with one. What a call is handed, and what names it, is read by value from then on. Rows of one's own, by value from now on: cell by cell. The agent of bytes: its end. Cells numbered as they are come to: the document's closures. Cells numbered as they are come to: the document's function, its first part. Cells numbered as they are come to: the document's function, its loops. Cells numbered as they are come to: the document's function, all of it. Cells numbered as they are come to: the document's answer. -/
import Derived.Test.YtpbnaaoilgohkaaGreatDoorG9
import Derived.Test.YtpbnaaoilgohkaaGreatDoorG10
import Derived.Test.YtpbnaaoilgohkaaGreatDoorG8
import Derived.Test.YtpbnaaoilgohkaaGreatDoorG5
import Derived.Test.YtpbnaaoilgohkaaGreatDoorG6
set_option linter.unusedSimpArgs false
set_option linter.unusedVariables false
set_option maxRecDepth 8000
namespace Go.Proofs.YtpbnaaoilgohkaaGreatDoor
namespace VM
def Reads {α : Type} (m : Rd α) (B : Str) (a : α) : Prop := ∀ r, m (B ++ r) = .ok a r
theorem Reads.pure {α : Type} (a : α) : Reads (Rd.pure a) [] a := fun _ => rfl
theorem Reads.bind {α β : Type} {m : Rd α} {k : α → Rd β} {B C : Str} {a : α} {b : β} (h : Reads m B a) (h2 : Reads (k a) C b) : Reads (m.bind k) (B ++ C) b := fun r => by
  unfold Rd.bind
  rw [List.append_assoc, h (C ++ r)]
  exact h2 r
structure PrgOk (p : Prg) : Prop where
  words : p.words.length ≤ 16
  word : ∀ w ∈ p.words, w.length ≤ 12
  codes : p.codes.length ≤ 5
  code : ∀ c ∈ p.codes, c.ins.length ≤ 200 ∧ (0 ≤ c.params ∧ c.params ≤ 100) ∧ (0 ≤ c.vars ∧ c.vars ≤ 100) ∧ ∀ i ∈ c.ins, (-9223372036854775808 ≤ i.op ∧ i.op ≤ 9223372036854775807) ∧ (-9223372036854775808 ≤ i.a ∧ i.a ≤ 9223372036854775807) ∧ (-9223372036854775808 ≤ i.b ∧ i.b ≤ 9223372036854775807)
theorem prg_ok {p : Prg} (h : program p = 0) : PrgOk p := by
  obtain ⟨pr, pc, pw⟩ := zbr h
  have nums := program_nums h
  have hw : ∀ w ∈ p.words, w.length ≤ 12 := fun w hw => by
    unfold program at h
    by_cases h1 : p.codes.length < 1 ∨ 5 < p.codes.length
    · rw [if_pos h1] at h; omega
    rw [if_neg h1] at h
    by_cases h2 : 16 < p.words.length
    · rw [if_pos h2] at h; omega
    rw [if_neg h2] at h
    by_cases h3 : p.words.all word = false
    · rw [if_pos h3] at h; omega
    have := List.all_eq_true.1 (by simpa using h3 : p.words.all word = true) w hw
    unfold word at this
    rw [Bool.and_eq_true, decide_eq_true_eq] at this
    exact this.1
  refine ⟨pw, hw, pc, fun c hc => ?_⟩
  obtain ⟨cr, calm, _⟩ := pr c hc
  unfold codeRange at cr
  rw [decide_eq_false_iff_not] at cr
  refine ⟨by omega, by omega, by omega, fun i hi => ?_⟩
  obtain ⟨q1, q2, q3, q4⟩ := numbers_ok (nums c hc i hi)
  have ha : -1073741824 ≤ i.a ∧ i.a ≤ 1073741824 := by
    unfold numOk isIn at q3
    split at q3 <;> (try split at q3) <;> (try split at q3) <;> (try split at q3) <;> (try split at q3) <;> (try split at q3) <;> simp at q3 <;> omega
  have hb : 0 ≤ i.b ∧ i.b ≤ 16 := by
    by_cases h17 : i.op = 17
    · exact calm i hi h17
    · have := q4 h17; omega
  omega
end VM
end Go.Proofs.YtpbnaaoilgohkaaGreatDoor
set_option maxRecDepth 8000
namespace Go.Proofs.YtpbnaaoilgohkaaGreatDoor
namespace VM
end VM
end Go.Proofs.YtpbnaaoilgohkaaGreatDoor
set_option maxRecDepth 8000
namespace Go.Proofs.YtpbnaaoilgohkaaGreatDoor
namespace VM
theorem roots_ok {a : Agt} {fs : List Frm} {f : Frm} (l : Gone a fs f) : right a.heap (roots a) = true := by
  refine ok_right (fun v hv => ?_) l.cells
  unfold roots at hv
  obtain ⟨g, hg, hv⟩ := List.mem_flatMap.1 hv
  rw [l.fr] at hg
  have ok := l.ok g hg
  rcases List.mem_append.1 hv with h | h
  · exact ok.vv v h
  · exact ok.sv v h
theorem pack_gone {a : Agt} {fs : List Frm} {f : Frm} (l : Gone a fs f) : Gone (pack a) (fs.map fun g => { g with vars := g.vars.map (put (order a.heap (roots a))), stack := g.stack.map (put (order a.heap (roots a))) }) { f with vars := f.vars.map (put (order a.heap (roots a))), stack := f.stack.map (put (order a.heap (roots a))) } := by
  have hr := roots_ok l
  obtain ⟨c1, c2, c3, _⟩ := canon_law hr
  have cv := right_okV c3
  have cc := right_okC c3
  have hlen := l.hlen
  have room := l.room
  refine ⟨by simp [pack, l.fr], l.prog, l.id, l.trip, l.fuel, l.room, l.hops, by simpa using l.flen, ?_, fun g hg => ?_, ?_, ⟨l.went.pos, l.went.op, l.went.seen, ?_⟩, cc⟩
  · show ((canonC a.heap (roots a)).length : Int) + a.permit.room ≤ 60
    omega
  · have : ∃ g0 ∈ fs ++ [f], g = { g0 with vars := g0.vars.map (put (order a.heap (roots a))), stack := g0.stack.map (put (order a.heap (roots a))) } := by
      rcases List.mem_append.1 hg with h | h
      · obtain ⟨g0, h0, rfl⟩ := List.mem_map.1 h
        exact ⟨g0, by simp [h0], rfl⟩
      · simp at h; exact ⟨f, by simp, h⟩
    obtain ⟨g0, h0, rfl⟩ := this
    have ok := l.ok g0 h0
    have mem : ∀ v, v ∈ g0.vars ++ g0.stack → put (order a.heap (roots a)) v ∈ canonV a.heap (roots a) := fun v hv => by
      refine List.mem_map_of_mem ?_
      unfold roots
      exact List.mem_flatMap.2 ⟨g0, by rw [l.fr]; exact h0, hv⟩
    refine ⟨ok.fn0, ok.at0, ok.code, ok.ins, by have := ok.vars; simpa [pack] using this, fun v hv => ?_, fun v hv => ?_⟩
    · obtain ⟨u, hu, rfl⟩ := List.mem_map.1 hv
      exact cv _ (mem u (by simp [hu]))
    · obtain ⟨u, hu, rfl⟩ := List.mem_map.1 hv
      exact cv _ (mem u (by simp [hu]))
  · have key : ∀ {gs : List Frm} {fn : Int}, WChain a.prog gs fn → WChain a.prog (gs.map fun g => { g with vars := g.vars.map (put (order a.heap (roots a))), stack := g.stack.map (put (order a.heap (roots a))) }) fn := by
      intro gs fn h
      induction h with
      | nil fn => exact .nil fn
      | snoc gs g fn _ hw ih =>
        rw [List.map_append]
        exact .snoc _ _ _ ih ⟨hw.pos, hw.op, hw.to, hw.seen, by have := hw.hei; unfold hts at this ⊢; simp only [List.length_map]; exact this⟩
    exact key l.chain
  · have := l.went.hei
    unfold hts at this ⊢
    simp only [List.length_map]
    exact this
theorem roots_pack (a : Agt) : roots (pack a) = canonV a.heap (roots a) := by
  show (a.frames.map _).flatMap _ = (a.frames.flatMap _).map _
  rw [List.flatMap_map, List.map_flatMap]
  congr 1
  funext f
  simp
theorem pack_pack {a : Agt} {fs : List Frm} {f : Frm} (l : Gone a fs f) : pack (pack a) = pack a := by
  have hr := roots_ok l
  obtain ⟨_, _, _, _, c5, c6⟩ := canon_law hr
  have e : roots (pack a) = canonV a.heap (roots a) := roots_pack a
  have eh : (pack a).heap = canonC a.heap (roots a) := rfl
  have c5' : ∀ v ∈ canonV a.heap (roots a), put (order (canonC a.heap (roots a)) (canonV a.heap (roots a))) v = v := by
    have : (canonV a.heap (roots a)).map (put (order (canonC a.heap (roots a)) (canonV a.heap (roots a)))) = canonV a.heap (roots a) := c5
    intro v hv
    obtain ⟨i, hi, rfl⟩ := List.getElem_of_mem hv
    have h1 := congrArg (·[i]?) this
    simp only [List.getElem?_map, List.getElem?_eq_getElem hi, Option.map_some, Option.some.injEq] at h1
    exact h1
  have mem : ∀ g ∈ a.frames, ∀ v ∈ g.vars ++ g.stack, put (order a.heap (roots a)) v ∈ canonV a.heap (roots a) := fun g hg v hv => List.mem_map_of_mem (List.mem_flatMap.2 ⟨g, hg, hv⟩)
  have ef : (pack (pack a)).frames = (pack a).frames := by
    show ((pack a).frames.map fun f => { f with vars := f.vars.map (put (order (pack a).heap (roots (pack a)))), stack := f.stack.map (put (order (pack a).heap (roots (pack a)))) }) = (pack a).frames
    rw [e, eh]
    show ((a.frames.map _).map _) = a.frames.map _
    rw [List.map_map]
    refine List.map_congr_left fun g hg => ?_
    simp only [Function.comp]
    congr 1
    · rw [List.map_map]
      exact List.map_congr_left fun v hv => c5' _ (mem g hg v (by simp [hv]))
    · rw [List.map_map]
      exact List.map_congr_left fun v hv => c5' _ (mem g hg v (by simp [hv]))
  have ec : (pack (pack a)).heap = (pack a).heap := by
    show canonC (pack a).heap (roots (pack a)) = (pack a).heap
    rw [e, eh]; exact c6
  calc pack (pack a) = { pack (pack a) with frames := (pack (pack a)).frames, heap := (pack (pack a)).heap } := rfl
    _ = pack a := by rw [ef, ec]; rfl
def Firm {α : Type} (m : Rd α) : Prop := ∀ b a r c, m b = .ok a r → m (b ++ c) = .ok a (r ++ c)
theorem Firm.pure {α : Type} (a : α) : Firm (Rd.pure a) := fun b x r c h => by cases h; rfl
theorem Firm.bind {α β : Type} {m : Rd α} {k : α → Rd β} (h : Firm m) (h2 : ∀ a, Firm (k a)) : Firm (m.bind k) := fun b x r c hx => by
  unfold Rd.bind at hx ⊢
  split at hx
  · rename_i a r' hm
    rw [h _ _ _ c hm]
    exact h2 a _ _ _ c hx
  · cases hx
theorem Firm.many {α : Type} {m : Rd α} (h : Firm m) : ∀ n, Firm (rMany m n)
  | 0 => Firm.pure []
  | n + 1 => h.bind fun a => (Firm.many h n).bind fun l => Firm.pure _
end VM
end Go.Proofs.YtpbnaaoilgohkaaGreatDoor
set_option maxRecDepth 8000
namespace Go.Proofs.YtpbnaaoilgohkaaGreatDoor
namespace VM
theorem gone_stk {a : Agt} {fs : List Frm} {f : Frm} (l : Gone a fs f) : ∀ g ∈ a.frames, g.vars.length ≤ 8 ∧ g.stack.length ≤ 16 := by
  have key : ∀ g ∈ fs ++ [f], ∀ x : Int, (hts a.prog g)[g.at_.toNat]? = some x → (g.stack.length : Int) ≤ x → g.vars.length ≤ 8 ∧ g.stack.length ≤ 16 := fun g hg x hx hle => by
    have ok := l.ok g hg
    obtain ⟨cr, calm, hz⟩ := (zbr l.prog).1 _ (code_mem ok.code)
    unfold codeRange at cr
    rw [decide_eq_false_iff_not] at cr
    have hm := (zfd calm hz).2 _ (List.mem_of_getElem? hx)
    have := ok.vars
    omega
  intro g hg
  rw [l.fr] at hg
  rcases List.mem_append.1 hg with h | h
  · obtain ⟨k, hk, rfl⟩ := List.getElem_of_mem h
    have w := chain_get l.chain f rfl k _ (List.getElem?_eq_getElem hk)
    exact key _ hg _ w.hei (by omega)
  · simp at h; subst h
    exact key _ hg _ l.went.hei (by omega)
theorem image_pack {a : Agt} {fs : List Frm} {f : Frm} (l : Gone a fs f) : image (pack a) = image a := by
  unfold image; rw [pack_pack l]
def Honest {α : Type} (m : Rd α) : Prop := ∀ b e, m b = .no e → e ≠ 0
theorem Honest.pure {α : Type} (a : α) : Honest (Rd.pure a) := fun b e h => by cases h
theorem Honest.bind {α β : Type} {m : Rd α} {k : α → Rd β} (h : Honest m) (h2 : ∀ a, Honest (k a)) : Honest (m.bind k) := fun b e hx => by
  unfold Rd.bind at hx
  split at hx
  · exact h2 _ _ _ hx
  · rename_i e' hm; cases hx; exact h _ _ hm
theorem Honest.many {α : Type} {m : Rd α} (h : Honest m) : ∀ n, Honest (rMany m n)
  | 0 => Honest.pure []
  | n + 1 => h.bind fun a => (Honest.many h n).bind fun l => Honest.pure _
theorem pack_alike {a : Agt} {fs : List Frm} {f : Frm} (l : Gone a fs f) (c : Cl) (hx : ∀ d ∈ a.heap ++ [c], WrongOk d.left (a.heap.length + 1 : Nat) ∧ WrongOk d.right (a.heap.length + 1 : Nat)) : pack { a with heap := a.heap ++ [c] } = pack a := by
  have hr := roots_ok l
  have hv := right_okV hr
  have rid : ∀ v : Val, (v.kind = 2 → 0 ≤ v.n) → ren (fun n => n) v = v := fun v h => by
    unfold ren
    split
    · rename_i hk
      have := h hk
      obtain ⟨k, n, t⟩ := v
      simp only at this ⊢
      rw [Int.toNat_of_nonneg this]
    · rfl
  have t : Turn a.heap (a.heap ++ [c]) (fun n => n) (· < a.heap.length) := ⟨fun x y _ _ h => h, fun n hn => by
    obtain ⟨w1, w2⟩ := l.cells _ (List.getElem_mem hn)
    refine ⟨a.heap[n], List.getElem?_eq_getElem hn, ?_, fun hk => by have := w1.cell hk; omega, fun hk => by have := w2.cell hk; omega⟩
    rw [List.getElem?_append_left hn, List.getElem?_eq_getElem hn, rid _ fun hk => (w1.cell hk).1, rid _ fun hk => (w2.cell hk).1]⟩
  have hG : OkH (a.heap ++ [c]) := okH fun d hd => by
    have := hx d hd
    rw [List.length_append, List.length_singleton]
    exact this
  have ct := canon_turn t (okH l.cells) hG (l := roots a) (fun v hv' => (hv v hv').okV) (fun v hv' hk => by have := (hv v hv').cell hk; omega) (fun v hv' => by
    rw [rid v fun hk => ((hv v hv').cell hk).1]
    intro hk
    have := (hv v hv').cell hk
    rw [List.length_append, List.length_singleton]
    omega)
  have em : (roots a).map (ren fun n => n) = roots a := by
    conv => rhs; rw [← List.map_id (roots a)]
    exact List.map_congr_left fun v hv' => rid v fun hk => ((hv v hv').cell hk).1
  rw [em] at ct
  have e1 : ∀ v ∈ roots a, put (order (a.heap ++ [c]) (roots a)) v = put (order a.heap (roots a)) v := fun v hv' => by
    have h1 := ct.1
    unfold canonV at h1
    obtain ⟨i, hi, rfl⟩ := List.getElem_of_mem hv'
    have h2 := congrArg (·[i]?) h1
    simp only [List.getElem?_map, List.getElem?_eq_getElem hi, Option.map_some, Option.some.injEq] at h2
    exact h2
  have mem : ∀ g ∈ a.frames, ∀ v ∈ g.vars ++ g.stack, v ∈ roots a := fun g hg v hv' => List.mem_flatMap.2 ⟨g, hg, hv'⟩
  have er : roots { a with heap := a.heap ++ [c] } = roots a := rfl
  unfold pack
  rw [er]
  simp only
  rw [ct.2]
  congr 1
  refine List.map_congr_left fun g hg => ?_
  congr 1
  · exact List.map_congr_left fun v hv' => e1 v (mem g hg v (by simp [hv']))
  · exact List.map_congr_left fun v hv' => e1 v (mem g hg v (by simp [hv']))
end VM
end Go.Proofs.YtpbnaaoilgohkaaGreatDoor
set_option maxRecDepth 8000
namespace Go.Proofs.YtpbnaaoilgohkaaGreatDoor
open Go Go.RowKit
theorem zkp {v : Val} {N : Int} (h : VM.WrongOk v N) (hN : N ≤ 4096) : I64v v ∧ v.text.length ≤ 4096 := by
  have hl := h.len
  refine ⟨⟨?_, ?_⟩, by omega⟩
  · rcases h.kind with k | k | k <;> omega
  · rcases h.kind with k | k | k
    · have := h.int k; omega
    · have := h.txt k; omega
    · have := h.cell k; omega
theorem zaai {a : Agt} {fs : List Frm} {f : Frm} (l : VM.Gone a fs f) : zadz a := by
  have po := VM.prg_ok l.prog
  have hl := l.hlen
  have hr := l.room
  have st := VM.gone_stk l
  have fl := l.flen
  have h1 := l.id
  have h2 := l.trip
  have h3 := l.fuel
  have h4 := l.hops
  refine ⟨⟨⟨by have := po.words; omega, fun w hw => by have := po.word w hw; omega⟩, by have := po.codes; omega, fun c hc => ?_⟩, ⟨by omega, by omega⟩, ⟨by omega, by omega⟩, ⟨⟨by omega, by omega⟩, ⟨by omega, by omega⟩, ⟨by omega, by omega⟩⟩, ⟨by rw [l.fr]; simp; omega, fun g hg => ?_⟩, ⟨by omega, fun c hc => ?_⟩⟩
  · obtain ⟨q1, q2, q3, q4⟩ := po.code c hc
    exact ⟨by omega, ⟨by omega, by omega⟩, ⟨by omega, by omega⟩, fun i hi => ⟨(q4 i hi).1, (q4 i hi).2.1, (q4 i hi).2.2⟩⟩
  · have ok := l.ok g (by rw [← l.fr]; exact hg)
    have sg := st g hg
    have hc := po.codes
    have c1 := ok.code
    have c2 := ok.fn0
    have c3 := ok.at0
    have c4 := ok.ins
    have c5 := (po.code _ (VM.code_mem ok.code)).1
    refine ⟨⟨by omega, by omega⟩, ⟨by omega, by omega⟩, ⟨fun v hv => zkp (ok.vv v hv) (by omega), by omega⟩, ⟨fun v hv => zkp (ok.sv v hv) (by omega), by omega⟩⟩
  · obtain ⟨w1, w2⟩ := l.cells c hc
    exact ⟨zkp w1 (by omega), zkp w2 (by omega)⟩
theorem zabb {a : Agt} {fs : List Frm} {f : Frm} (l : VM.Gone a fs f) : zvd a := by
  have po := VM.prg_ok l.prog
  have hl := l.hlen
  have hr := l.room
  have st := VM.gone_stk l
  have fl := l.flen
  exact ⟨by have := po.codes; omega, fun c hc => by have := (po.code c hc).1; omega, by have := po.words; omega, by rw [l.fr]; simp; omega, by omega, fun g hg => by have := st g hg; omega⟩
theorem zsb {a : Agt} {fs : List Frm} {f : Frm} (l : VM.Gone a fs f) : (zc a.frames).length ≤ 4096 := by
  have sk := VM.gone_stk l
  have fl : a.frames.length ≤ 12 := by rw [l.fr]; simp; have := l.flen; omega
  have key : ∀ gs : List Frm, (∀ g ∈ gs, g.vars.length ≤ 8 ∧ g.stack.length ≤ 16) → (zc gs).length ≤ gs.length * 24 := by
    intro gs
    induction gs with
    | nil => intro _; simp [zc]
    | cons g r ih =>
      intro h
      have := ih fun x hx => h x (by simp [hx])
      have h0 := h g (by simp)
      simp [zc] at this ⊢
      omega
  have := key a.frames sk
  omega
theorem zpg {a : Agt} {fs : List Frm} {f : Frm} (l : VM.Gone a fs f) : QC Tryz.prog 9 [.agg a.avs] (.ro (bsR (VM.image a))) := by
  have fl : a.frames.length ≤ 12 := by rw [l.fr]; simp; have := l.flen; omega
  exact zags (zabb l) l.fr (by omega) (zsb l) (VM.roots_ok l) (zaai (VM.pack_gone l))
end Go.Proofs.YtpbnaaoilgohkaaGreatDoor
set_option maxRecDepth 8000
namespace Go.Proofs.YtpbnaaoilgohkaaGreatDoor
open Go Go.RowKit
namespace VM
section
variable {cnt : Int → St → Int × St}
end
end VM
end Go.Proofs.YtpbnaaoilgohkaaGreatDoor
set_option maxRecDepth 8000
namespace Go.Proofs.YtpbnaaoilgohkaaGreatDoor
open Go Go.RowKit
def zvz (l : List Ins) : List AV := (l.map Ins.avs).flatten
def zhv (H : Heap) (cs : List Cod) (ss : List AV) : Prop := ss.length = cs.length ∧ ∀ (k : Nat) (c : Cod) (s : AV), cs[k]? = some c → ss[k]? = some s → Slot H 3 c.ins.length (zvz c.ins) s
def crow : List Cod → List AV → List AV
  | c :: cs, s :: ss => .int .i64 c.params :: .int .i64 c.vars :: s :: crow cs ss
  | _, _ => []
theorem zzb : ∀ {cs : List Cod} {ss : List AV} {i : Nat} {c : Cod} {s : AV}, cs[i]? = some c → ss[i]? = some s → (crow cs ss)[i * 3]? = some (.int .i64 c.params) ∧ (crow cs ss)[i * 3 + 1]? = some (.int .i64 c.vars) ∧ (crow cs ss)[i * 3 + 2]? = some s
  | [], _, i, c, s, h, _ => by simp at h
  | _ :: _, [], i, c, s, _, h => by simp at h
  | d :: cs, t :: ss, 0, c, s, h1, h2 => by simp at h1 h2; subst h1; subst h2; simp [crow]
  | d :: cs, t :: ss, i + 1, c, s, h1, h2 => by
    have := zzb (cs := cs) (ss := ss) (i := i) (by simpa using h1) (by simpa using h2)
    have e : ∀ j, (i + 1) * 3 + j = i * 3 + j + 1 + 1 + 1 := fun j => by omega
    have e0 : (i + 1) * 3 = i * 3 + 1 + 1 + 1 := by omega
    rw [e 1, e 2, e0]
    simpa [crow] using this
def ownc (ss : List AV) : List Nat := ss.flatMap own
theorem zhv.keep {H H' : Heap} {cs : List Cod} {ss : List AV} (h : zhv H cs ss) (hk : ∀ g ∈ ownc ss, H' g = H g) : zhv H' cs ss :=
  ⟨h.1, fun k c s hc hs => (h.2 k c s hc hs).keep fun g hg => hk g (List.mem_flatMap.2 ⟨s, List.mem_of_getElem? hs, hg⟩)⟩
theorem zhv.snoc {H : Heap} {cs : List Cod} {ss : List AV} {c : Cod} {s : AV} (h : zhv H cs ss) (h1 : Slot H 3 c.ins.length (zvz c.ins) s) : zhv H (cs ++ [c]) (ss ++ [s]) := by
  refine ⟨by simp [h.1], fun k c' s' hc hs => ?_⟩
  by_cases hk : k < cs.length
  · rw [List.getElem?_append_left hk] at hc
    rw [List.getElem?_append_left (by rw [h.1]; exact hk)] at hs
    exact h.2 k c' s' hc hs
  · have hk' : k = cs.length := by have := (List.getElem?_eq_some_iff.1 hc).1; simp at this; omega
    subst hk'
    rw [List.getElem?_append_right (Nat.le_refl _)] at hc
    rw [List.getElem?_append_right (by rw [h.1]; exact Nat.le_refl _), h.1] at hs
    simp at hc hs
    subst hc; subst hs
    exact h1
theorem zafi (l : List Ins) : ∀ x ∈ l.map Ins.avs, ∀ c ∈ x, scal c = true := by
  intro x hx c hc
  obtain ⟨i, _, rfl⟩ := List.mem_map.1 hx
  simp [Ins.avs] at hc
  rcases hc with rfl | rfl | rfl <;> rfl
theorem zhv.frz {H : Heap} {nx : Nat} {cs : List Cod} {ss : List AV} {a : AV} (h : zhv H cs ss) (sl : Slot H 3 cs.length (crow cs ss) a) (hg : ∀ g ∈ own a, nx ≤ g) (ho : ∀ x ∈ ownc ss, nx ≤ x) : Frz H nx a (.ro (cs.map Cod.avs)) := by
  rcases sl with ⟨h0, rfl | rfl⟩ | ⟨g, cc, rfl, h1, h2, h3⟩
  · rw [List.eq_nil_of_length_eq_zero h0]; exact .nils
  · rw [List.eq_nil_of_length_eq_zero h0]; exact .zs
  have key : ∀ (i : Nat) (x : List AV) (j : Nat) (v : AV), (cs.map Cod.avs)[i]? = some x → x[j]? = some v → ∃ u, cc[0 + i * 3 + j]? = some u ∧ Frz H nx u v := fun i x j v hx hv => by
    rw [List.getElem?_map] at hx
    obtain ⟨c, hc, rfl⟩ := Option.map_eq_some_iff.1 hx
    have hi := (List.getElem?_eq_some_iff.1 hc).1
    have hs : ss[i]? = some (ss[i]'(by rw [h.1]; exact hi)) := List.getElem?_eq_getElem _
    have a := h.2 i c _ hc hs
    obtain ⟨q0, q1, q2⟩ := zzb hc hs
    have hm := List.mem_of_getElem? hs
    have up : ∀ (j : Nat) (u : AV), j < 3 → (crow cs ss)[i * 3 + j]? = some u → cc[0 + i * 3 + j]? = some u := fun j u hj hu => by
      rw [← h2, List.getElem?_take, if_pos (by omega)] at hu; rw [Nat.zero_add]; exact hu
    match j, hv with
    | 0, hv => cases hv; exact ⟨_, up 0 _ (by omega) q0, .same _ (.int _ _)⟩
    | 1, hv => cases hv; exact ⟨_, up 1 _ (by omega) q1, .same _ (.int _ _)⟩
    | 2, hv => cases hv; exact ⟨_, up 2 _ (by omega) q2, Slot.frzN (sz := 3) (xs := c.ins.map Ins.avs) (by simpa [zvz] using a) (fun x hx => ho x (List.mem_flatMap.2 ⟨_, hm, hx⟩)) (fun x hx => by obtain ⟨i, _, rfl⟩ := List.mem_map.1 hx; rfl) (zafi _)⟩
    | j + 3, hv => simp [Cod.avs] at hv
  refine .slc g 0 _ 3 cc _ (hg g (by simp [own])) h1 (by omega) (by simp) (fun x hx => ?_) (fun i j => (cc[0 + i * 3 + j]?).getD .junk) (fun i x j v hx hv => ?_) (fun i x j v hx hv => ?_)
  · obtain ⟨f, _, rfl⟩ := List.mem_map.1 hx; rfl
  · obtain ⟨u, q1, q2⟩ := key i x j v hx hv; rw [q1]; rfl
  · obtain ⟨u, q1, q2⟩ := key i x j v hx hv; rw [q1]; exact q2
end Go.Proofs.YtpbnaaoilgohkaaGreatDoor
set_option maxRecDepth 8000
namespace Go.Proofs.YtpbnaaoilgohkaaGreatDoor
open Go Go.RowKit
end Go.Proofs.YtpbnaaoilgohkaaGreatDoor
set_option maxRecDepth 8000
namespace Go.Proofs.YtpbnaaoilgohkaaGreatDoor
open Go Go.RowKit
end Go.Proofs.YtpbnaaoilgohkaaGreatDoor
set_option maxRecDepth 8000
namespace Go.Proofs.YtpbnaaoilgohkaaGreatDoor
open Go Go.RowKit
theorem zaex (i : Ins) : QC Tryz.prog 47 [.agg i.avs] (.tup [.int .i64 (VM.effect i).1, .int .i64 (VM.effect i).2]) := by
  refine QC.of' fun H nx => zob _ H nx _ ?_
  obtain ⟨op, a, b⟩ := i
  unfold zkc
  simp only [Ins.avs, zaeu, zadq, true_and, List.length_cons, List.length_nil, ld_p, Heap.put_at, rowk, List.getElem?_cons_zero, optk, zajd, cnd, cndc, decide_eq_true_eq, decide_eq_false_iff_not]
  refine ⟨fun h => ?_, fun h => ?_⟩
  · simp [VM.effect, h]
  have hx : op ≠ 17 := by simpa using h
  have hH : ((H.put nx (some (.row 3 [.int .i64 op, .int .i64 a, .int .i64 b]))).put (nx + 1) (some (.mp []))) (nx + 1) = some (.mp []) := Heap.put_at _ _ _
  have hK : Keep nx ((H.put nx (some (.row 3 [.int .i64 op, .int .i64 a, .int .i64 b]))).put (nx + 1) (some (.mp []))) H := by simp
  have hop : ((H.put nx (some (.row 3 [.int .i64 op, .int .i64 a, .int .i64 b]))).put (nx + 1) (some (.mp []))) nx = some (.row 3 [.int .i64 op, .int .i64 a, .int .i64 b]) := by simp
  simp only [Nat.zero_add, Nat.reduceAdd]
  generalize ((H.put nx (some (.row 3 [.int .i64 op, .int .i64 a, .int .i64 b]))).put (nx + 1) (some (.mp []))) = H1 at *
  repeat (refine ⟨rfl, zaip hH hop (by omega) hK (by omega) (by simp only [zhm, zpj, List.nil_append, List.cons_append, Int.reduceEq, if_false, Option.map_some, Option.map_none]) ?_⟩; clear hH hK hop; clear H1; intro H1 hH hop hK)
  simp only [List.nil_append, List.cons_append] at hH
  have hcases : op < 1 ∨ 19 < op ∨ op = 1 ∨ op = 2 ∨ op = 3 ∨ op = 4 ∨ op = 5 ∨ op = 6 ∨ op = 7 ∨ op = 8 ∨ op = 9 ∨ op = 10 ∨ op = 11 ∨ op = 12 ∨ op = 13 ∨ op = 14 ∨ op = 15 ∨ op = 16 ∨ op = 18 ∨ op = 19 := by omega
  have hs : ∀ p q : Int, (∃ r, zad (.int .i64 op) [(.int .i64 1, .agg [.int .i64 0, .int .i64 1]), (.int .i64 2, .agg [.int .i64 0, .int .i64 1]), (.int .i64 3, .agg [.int .i64 0, .int .i64 1]), (.int .i64 4, .agg [.int .i64 1, .int .i64 0]), (.int .i64 5, .agg [.int .i64 2, .int .i64 1]), (.int .i64 6, .agg [.int .i64 2, .int .i64 1]), (.int .i64 7, .agg [.int .i64 1, .int .i64 1]), (.int .i64 8, .agg [.int .i64 1, .int .i64 1]), (.int .i64 9, .agg [.int .i64 2, .int .i64 0]), (.int .i64 10, .agg [.int .i64 2, .int .i64 0]), (.int .i64 11, .agg [.int .i64 1, .int .i64 1]), (.int .i64 12, .agg [.int .i64 0, .int .i64 1]), (.int .i64 13, .agg [.int .i64 1, .int .i64 1]), (.int .i64 14, .agg [.int .i64 1, .int .i64 0]), (.int .i64 15, .agg [.int .i64 0, .int .i64 0]), (.int .i64 16, .agg [.int .i64 1, .int .i64 0]), (.int .i64 18, .agg [.int .i64 1, .int .i64 0]), (.int .i64 19, .agg [.int .i64 1, .int .i64 0])] = some r ∧
      (match r with | some (_, v) => v | none => .agg [.int .i64 0, .int .i64 0]) = .agg [.int .i64 (VM.effect ⟨op, a, b⟩).1, .int .i64 (VM.effect ⟨op, a, b⟩).2]) := by
    intro _ _
    rcases hcases with h | h | h
    · have e : VM.effect ⟨op, a, b⟩ = (0, 0) := by unfold VM.effect; simp only; (repeat' split) <;> first | omega | rfl
      refine ⟨none, ?_, by rw [e]⟩
      simp only [zhm, zpj]
      repeat rw [if_neg (by omega)]
      rfl
    · have e : VM.effect ⟨op, a, b⟩ = (0, 0) := by unfold VM.effect; simp only; (repeat' split) <;> first | omega | rfl
      refine ⟨none, ?_, by rw [e]⟩
      simp only [zhm, zpj]
      repeat rw [if_neg (by omega)]
      rfl
    · rcases h with h | h | h | h | h | h | h | h | h | h | h | h | h | h | h | h | h | h
      all_goals subst h; exact ⟨_, by simp only [zhm, Int.reduceEq, if_false, if_true, Option.map_some]; rfl, rfl⟩
  obtain ⟨r, h1, h2⟩ := hs 0 0
  rw [hop, rowk]
  simp only [List.getElem?_cons_zero, optk, zaba, true_and, lk_p, hH, mapk, h1, cond_true, cond_false]
  cases r with
  | none => simp only at h2; simp [hK, h2]
  | some pr => obtain ⟨i, v⟩ := pr; simp only at h2; simp [hK, h2]
theorem zahn (s : Str) (i : Nat) : (s.drop i).all VM.wordByte = if h : i < s.length then VM.wordByte s[i] && (s.drop (i + 1)).all VM.wordByte else true := by
  split
  · rename_i h
    rw [List.drop_eq_getElem_cons h, List.all_cons]
  · rename_i h
    rw [List.drop_of_length_le (by omega)]; rfl
theorem zaeq (s : Str) (hs : s.length ≤ maxLen) : QC Tryz.prog 46 [.str s] (.bool (VM.word s)) := by
  refine fun H nx => zqg _ H nx _ ?_
  simp only [maxLen] at hs
  simp [zls]
  refine LP.mk (fun n xs H' nx' => ∃ i : Nat, i ≤ s.length ∧ n = s.length - i ∧ xs = [.str s, .int .i64 s.length, .int .i64 i] ∧ H = H' ∧ nx = nx' ∧ s.all VM.wordByte = (s.drop i).all VM.wordByte) s.length ⟨0, by omega, by omega, rfl, rfl, rfl, rfl⟩ ?_
  rintro n xs H' nx' ⟨i, hi, rfl, rfl, rfl, rfl, hall⟩
  rw [zahn] at hall
  simp [zlt]
  refine ⟨fun h => ?_, fun h => ?_⟩
  · rw [dif_pos h] at hall
    have hb : VM.wordByte s[i] = false → VM.word s = false := fun hb => by simp [VM.word, hall, hb]
    simp [h]
    refine ⟨fun h1 => hb (by simp [VM.wordByte]; omega), fun h1 => ⟨fun h2 => hb (by simp [VM.wordByte]; omega), fun h2 => ⟨fun h3 => hb (by simp [VM.wordByte]; omega), fun h3 => ?_⟩⟩⟩
    rw [i64w (by omega)]
    refine ⟨s.length - (i + 1), by omega, i + 1, by omega, rfl, by simp, ?_⟩
    have : VM.wordByte s[i] = true := by simp [VM.wordByte]; omega
    rw [hall, this]; rfl
  · rw [dif_neg (by omega)] at hall
    simp only [VM.word, hall, Bool.and_true]
    rw [Bool.eq_iff_iff]; simp; omega
end Go.Proofs.YtpbnaaoilgohkaaGreatDoor
set_option maxRecDepth 8000
namespace Go.Proofs.YtpbnaaoilgohkaaGreatDoor
open Go Go.RowKit
end Go.Proofs.YtpbnaaoilgohkaaGreatDoor
set_option maxRecDepth 8000
namespace Go.Proofs.YtpbnaaoilgohkaaGreatDoor
open Go Go.RowKit
end Go.Proofs.YtpbnaaoilgohkaaGreatDoor
set_option maxRecDepth 8000
namespace Go.Proofs.YtpbnaaoilgohkaaGreatDoor
open Go Go.RowKit
def zn (l : List Int) : List AV := l.map (AV.int .i64)
section
variable {k : AV → Prop} {ki : IntKind}
@[simp ↓] theorem zanm {s g off len : Nat} {a : Int} {H : Heap} : SL s (.slc g off len) (some (.int ki a)) none H k = ROWK (H g) fun sz _ => sz = s ∧ 0 ≤ a ∧ a ≤ len ∧ k (.slc g (off + a.toNat * s) ((len : Int) - a).toNat) := by
  simp only [SL, zao, lohi, qk]
  refine zec (fun sz cs h => ?_) fun h => ?_
  · simp [h]
  · intro ha
    split at ha
    · rename_i sz cs he; exact h _ _ he
    · exact ha
end
theorem zacx (n i : Nat) (h : i < n) : List.take i (zn (List.replicate i (-1) ++ List.replicate (n - i) 0)) ++ AV.int .i64 (-1) :: List.drop (i + 1) (zn (List.replicate i (-1) ++ List.replicate (n - i) 0)) = zn (List.replicate (i + 1) (-1) ++ List.replicate (n - (i + 1)) 0) := by
  have e : n - i = (n - (i + 1)) + 1 := by omega
  rw [e, List.replicate_succ, List.replicate_succ']
  simp [zn, List.take_append, List.drop_append]
theorem zgs (l : List Int) (i : Nat) : (zn l)[i]? = (l[i]?).map (AV.int .i64) := by simp [zn]
theorem zabr (l : List Int) (i : Nat) (x : Int) (h : i < l.length) : List.take i (zn l) ++ AV.int .i64 x :: List.drop (i + 1) (zn l) = zn (l.set i x) := by
  rw [zn, zn, List.map_set, List.set_eq_take_append_cons_drop]; simp [h]
@[simp] theorem zakn (l : List Int) : (zn l).length = l.length := by simp [zn]
theorem zyj (l : List Int) : (l.map fun n => [AV.int .i64 n]).flatten = zn l := by
  induction l with
  | nil => rfl
  | cons x r ih => simp [zn] at ih ⊢; exact ih
end Go.Proofs.YtpbnaaoilgohkaaGreatDoor
set_option maxRecDepth 8000
namespace Go.Proofs.YtpbnaaoilgohkaaGreatDoor
open Go Go.RowKit
end Go.Proofs.YtpbnaaoilgohkaaGreatDoor
set_option maxRecDepth 8000
namespace Go.Proofs.YtpbnaaoilgohkaaGreatDoor
open Go Go.RowKit
theorem app1 {g len s : Nat} {x : Int} {H : Heap} {kk : AV → Heap → Nat → Prop} {A : List Int} (hg : H g = some (.row 1 (zn A))) (hl : A.length = len) (hgs : g ≠ s) (hb : len ≤ 4194304)
    (hk : ∀ H', H' (s + 1) = some (.row 1 (zn (A ++ [x]))) → (∀ y, y ≠ g → y ≠ s → y ≠ s + 1 → H' y = H y) → kk (.slc (s + 1) 0 (len + 1)) H' (s + 1 + 1)) :
    APP 1 8 (.slc g 0 len) (.slc s 0 1) (H.put s (some (.row 1 [.int .i64 x]))) (s + 1) kk := by
  simp [hgs, hg]
  refine ⟨by omega, by omega, hk _ ?_ ?_⟩
  · simp [hl, zn]
    rw [List.take_of_length_le (by simp; omega)]
  · intro y h1 h2 h3
    simp [h1, h2, h3]
theorem app2 {ga gb la s : Nat} {x y : Int} {H : Heap} {kk : AV → AV → Heap → Nat → Prop} {A B : List Int} (hga : H ga = some (.row 1 (zn A))) (hgb : H gb = some (.row 1 (zn B))) (hA : A.length = la) (hB : B.length = la) (hab : ga ≠ gb) (ha : ga < s) (hb : gb < s) (hl : la ≤ 4194304)
    (hk : ∀ H', H' (s + 1) = some (.row 1 (zn (A ++ [x]))) → H' (s + 3) = some (.row 1 (zn (B ++ [y]))) → (∀ z, z ≠ ga → z ≠ gb → z < s → H' z = H z) → kk (.slc (s + 1) 0 (la + 1)) (.slc (s + 3) 0 (la + 1)) H' (s + 4)) :
    APP 1 8 (.slc ga 0 la) (.slc s 0 1) (H.put s (some (.row 1 [.int .i64 x]))) (s + 1) fun v H' n => APP 1 8 (.slc gb 0 la) (.slc n 0 1) (H'.put n (some (.row 1 [.int .i64 y]))) (n + 1) fun w H'' n' => kk v w H'' n' := by
  refine app1 hga hA (by omega) hl fun H1 h1 h2 => ?_
  refine app1 (A := B) (by rw [h2 gb (by omega) (by omega) (by omega)]; exact hgb) hB (by omega) hl fun H3 h3 h4 => ?_
  refine hk H3 ?_ h3 fun z p q r => ?_
  · rw [h4 _ (by omega) (by omega) (by omega)]; exact h1
  · rw [h4 _ (by omega) (by omega) (by omega), h2 _ (by omega) (by omega) (by omega)]
def RInv (c : Cod) (H0 : Heap) (n0 : Nat) (f : Nat) (xs : List AV) (H : Heap) (nx : Nat) : Prop := ∃ (q : List (Int × Int)) (out A B : List Int) (ga gb k la : Nat),
  xs = [.ptr n0 0, .slc (n0 + 1) 0 c.ins.length, .slc ga 0 la, .slc gb 0 la, .int .i64 k] ∧ A.length = la ∧ B.length = la ∧ H ga = some (.row 1 (zn A)) ∧ H gb = some (.row 1 (zn B)) ∧ A.drop k = q.map (·.1) ∧ B.drop k = q.map (·.2) ∧ k ≤ la ∧
  n0 + 1 < ga ∧ n0 + 1 < gb ∧ ga ≠ gb ∧ ga < nx ∧ gb < nx ∧ k + f = 2 * c.ins.length + 2 ∧
  H n0 = some (.row 3 c.avs) ∧ H (n0 + 1) = some (.row 1 (zn out)) ∧ out.length = c.ins.length ∧ Keep n0 H H0 ∧
  VM.heightsGo c.ins f q out = VM.heights c.ins ∧ q.length + 2 * zio out < f ∧ (∀ x ∈ q, 0 ≤ x.2 ∧ x.2 ≤ 16) ∧ (∀ x ∈ out, -1 ≤ x ∧ x ≤ 16)
set_option maxHeartbeats 4000000 in
theorem zqr (c : Cod) (hlen : c.ins.length ≤ 1048576) (hcalm : Calm c.ins) :
    QC Tryz.prog 17 [.agg c.avs] (.tup [.ro ((VM.heights c.ins).1.map fun n => [.int .i64 n]), .int .i64 (VM.heights c.ins).2]) := by
  refine QC.of' fun H nx => zmp _ H nx _ ?_
  simp [zik, Cod.avs]
  refine ⟨by omega, by omega, ?_⟩
  refine LP.mk (fun m xs H' nx' => ∃ i : Nat, i ≤ c.ins.length ∧ m = c.ins.length - i ∧ xs = [.ptr nx 0, .slc (nx + 1) 0 c.ins.length, .int .i64 c.ins.length, .int .i64 i] ∧ nx' = nx + 2 ∧
    H' = (H.put nx (some (.row 3 c.avs))).put (nx + 1) (some (.row 1 (zn (List.replicate i (-1) ++ List.replicate (c.ins.length - i) 0))))) c.ins.length
    ⟨0, by omega, by omega, by simp, rfl, by simp [zn, Cod.avs]⟩ ?_
  rintro m xs H' nx' ⟨i, hi, rfl, rfl, rfl, rfl⟩
  simp [zil]
  refine ⟨fun h => ?_, fun h => ?_⟩
  · refine ⟨h, by omega, ?_⟩
    rw [i64w (by omega)]
    refine ⟨c.ins.length - (i + 1), by omega, i + 1, by omega, rfl, by simp, ?_⟩
    rw [zacx _ _ h]
  obtain rfl : i = c.ins.length := by omega
  refine LP.mk (RInv c H nx) (2 * c.ins.length + 2) ⟨[(0, 0)], List.replicate c.ins.length (-1), [0], [0], nx + 2, nx + 3, 0, 1, by simp, rfl, rfl, by simp [zn], by simp [zn], rfl, rfl, by omega, by omega, by omega, by omega, by omega, by omega, by omega, by simp; omega, by simp, by simp, ?_, rfl, ?_, ?_, ?_⟩ ?_
  · rw [Keep.put (by omega), Keep.put (by omega), Keep.put (by omega), Keep.put (by omega)]; simp
  · unfold zio; simp [List.countP_replicate]; omega
  · intro x hx; simp at hx; subst hx; simp
  · intro x hx; have := List.eq_of_mem_replicate hx; omega
  rintro f xs H1 n1 ⟨q, out, A, B, ga, gb, k, la, rfl, hAl, hBl, hga, hgb, hA, hB, hk, g1, g2, g3, g4, g5, hkf, hb, ho, hol, hK, hgo, hmeas, hq, hout⟩
  cases f with
  | zero => simp at hmeas
  | succ f =>
  cases q with
  | nil =>
    have hkl : la ≤ k := by have := congrArg List.length hA; simp at this; omega
    have e : VM.heights c.ins = (out, 0) := by rw [← hgo]; rfl
    have : ¬ k < la := by omega
    simp [zan, this, e]
    refine ⟨Frz.row (sz := 1) (cells := zn out) (by omega) ho (by simp [hol]) (by simp) (zyj out) ?_, hK⟩
    intro x hx; simp [zn] at hx; obtain ⟨a, _, rfl⟩ := hx; exact .int _ _
  | cons x q =>
    obtain ⟨at_, h⟩ := x
    have hkl : k < la := by have := congrArg List.length hA; simp at this; omega
    have hA0 : A[k]? = some at_ := by have := congrArg (·[0]?) hA; simpa using this
    have hB0 : B[k]? = some h := by have := congrArg (·[0]?) hB; simpa using this
    have hA1 : A.drop (k + 1) = q.map (·.1) := by have := congrArg (List.drop 1) hA; simpa using this
    have hB1 : B.drop (k + 1) = q.map (·.2) := by have := congrArg (List.drop 1) hB; simpa using this
    have hh := hq (at_, h) (by simp)
    simp only at hh
    have hq' : ∀ x ∈ q, 0 ≤ x.2 ∧ x.2 ≤ 16 := fun x hx => hq x (by simp [hx])
    have hlaq : la = k + 1 + q.length := by have := congrArg List.length hA; simp at this; omega
    simp only [List.length_cons] at hmeas
    simp only [VM.heightsGo] at hgo
    have w0 : IntKind.i64.wrap ((k : Int) + 1) = ((k + 1 : Nat) : Int) := by rw [i64w (by omega)]; simp
    by_cases hr : 0 ≤ at_ ∧ at_ < c.ins.length
    case neg =>
      have e : (if 0 ≤ at_ then c.ins[at_.toNat]? else none) = none := by
        split
        · exact List.getElem?_eq_none (by omega)
        · rfl
      rw [e] at hgo
      simp only at hgo
      rw [← hgo]
      by_cases h0 : at_ < 0
      · simp [zan, hkl, hga, hgb, zgs, hA0, hB0, h0, hK]
      · have : (c.ins.length : Int) ≤ at_ := by omega
        simp [zan, hkl, hga, hgb, zgs, hA0, hB0, h0, this, hK]
    case pos =>
    obtain ⟨hr0, hr1⟩ := hr
    have hlt : at_.toNat < c.ins.length := by omega
    obtain ⟨i, hi⟩ : ∃ i, c.ins[at_.toNat]? = some i := ⟨_, List.getElem?_eq_getElem hlt⟩
    obtain ⟨o, ho'⟩ : ∃ o, out[at_.toNat]? = some o := ⟨_, List.getElem?_eq_getElem (by omega)⟩
    have hod : out.getD at_.toNat 0 = o := by simp [List.getD_eq_getElem?_getD, ho']
    rw [if_pos hr0, hi, hod] at hgo
    simp only at hgo
    by_cases hs : 0 ≤ o
    · rw [if_pos hs] at hgo
      by_cases hne : o = h
      · subst hne
        rw [if_neg (by simp)] at hgo
        simp [zan, hkl, hga, hgb, zgs, hA0, hB0, ho, hr0, hr1, ho', hs, Int.not_lt.2 hr0, Int.not_le.2 hr1, w0, Int.not_lt.2 hs]
        exact ⟨f, by omega, q, out, A, B, ga, gb, k + 1, la, rfl, hAl, hBl, hga, hgb, hA1, hB1, by omega, g1, g2, g3, g4, g5, by omega, hb, ho, hol, hK, hgo, by omega, hq', hout⟩
      · rw [if_pos hne] at hgo
        rw [← hgo]
        simp [zan, hkl, hga, hgb, zgs, hA0, hB0, ho, hr0, hr1, ho', hs, hne, Int.not_lt.2 hr0, Int.not_le.2 hr1, hK]
    rw [if_neg hs] at hgo
    have hbd := zlc i (hcalm i (List.mem_of_getElem? hi))
    have n1' : ga ≠ nx := by omega
    have n2' : ga ≠ nx + 1 := by omega
    have n3' : ga ≠ n1 := by omega
    have n4' : nx ≠ n1 := by omega
    have n5' : nx + 1 ≠ n1 := by omega
    have m2' : gb ≠ nx + 1 := by omega
    have m3' : gb ≠ n1 := by omega
    have hns : o < 0 := by omega
    obtain ⟨_, hi'⟩ := List.getElem?_eq_some_iff.1 hi
    simp [zan, hkl, hga, hgb, zgs, hA0, hB0, ho, hb, hr0, hr1, ho', hs, hns, hi', Cod.avs, Ins.avs, Int.not_lt.2 hr0, Int.not_le.2 hr1]
    refine ⟨by omega, QC.call (zaex i) ?_⟩
    rw [zabr _ _ _ (by omega)]
    have h2a : ((H1.put (nx + 1) (some (.row 1 (zn (out.set at_.toNat h))))).put n1 (some (.row 3 [.int .i64 i.op, .int .i64 i.a, .int .i64 i.b]))) ga = some (.row 1 (zn A)) := by simp [n2', n3', hga]
    have h2c : ((H1.put (nx + 1) (some (.row 1 (zn (out.set at_.toNat h))))).put n1 (some (.row 3 [.int .i64 i.op, .int .i64 i.a, .int .i64 i.b]))) gb = some (.row 1 (zn B)) := by simp [m2', m3', hgb]
    have h2b : ((H1.put (nx + 1) (some (.row 1 (zn (out.set at_.toNat h))))).put n1 (some (.row 3 [.int .i64 i.op, .int .i64 i.a, .int .i64 i.b]))) nx = some (.row 3 c.avs) := by simp [n4', hb]
    have h2o : ((H1.put (nx + 1) (some (.row 1 (zn (out.set at_.toNat h))))).put n1 (some (.row 3 [.int .i64 i.op, .int .i64 i.a, .int .i64 i.b]))) (nx + 1) = some (.row 1 (zn (out.set at_.toNat h))) := by simp [n5']
    have h2n : ((H1.put (nx + 1) (some (.row 1 (zn (out.set at_.toNat h))))).put n1 (some (.row 3 [.int .i64 i.op, .int .i64 i.a, .int .i64 i.b]))) n1 = some (.row 3 [.int .i64 i.op, .int .i64 i.a, .int .i64 i.b]) := by simp
    have h2K : Keep nx ((H1.put (nx + 1) (some (.row 1 (zn (out.set at_.toNat h))))).put n1 (some (.row 3 [.int .i64 i.op, .int .i64 i.a, .int .i64 i.b]))) H := by rw [Keep.put (by omega), Keep.put (by omega)]; exact hK
    generalize ((H1.put (nx + 1) (some (.row 1 (zn (out.set at_.toNat h))))).put n1 (some (.row 3 [.int .i64 i.op, .int .i64 i.a, .int .i64 i.b]))) = H2 at *
    have hu := zoq (out := out) (k := at_.toNat) (h := h) (by omega) (by omega) hh.1
    generalize hE : VM.effect i = E at *
    obtain ⟨nd, gv⟩ := E
    simp only at hbd hgo
    have w1 : IntKind.i64.wrap (h - nd) = h - nd := i64w (by omega)
    have w2 : IntKind.i64.wrap (h - nd + gv) = h - nd + gv := i64w (by omega)
    have w3 : IntKind.i64.wrap (at_ + 1) = at_ + 1 := i64w (by omega)
    by_cases hc1 : h < nd ∨ (i.op = 18 ∧ h ≠ 1)
    · rw [if_pos hc1] at hgo
      rw [← hgo]
      by_cases hc2 : h < nd
      · simp [zx, hc2, h2K]
      · have h18 : i.op = 18 := by omega
        have hnd : nd = 1 := by simp [VM.effect, h18] at hE; omega
        have h1 : 1 < h := by omega
        simp [zx, hc2, h2n, h18, h1, h2K]
    rw [if_neg hc1] at hgo
    have hc2 : ¬ h < nd := by omega
    have hc2' : nd ≤ h := by omega
    by_cases hc3 : 16 < h + gv - nd
    · rw [if_pos hc3] at hgo
      rw [← hgo]
      have hc3' : 16 < h - nd + gv := by omega
      by_cases h18 : i.op = 18
      · have h1 : h = 1 := by omega
        subst h1
        simp [zx, hc2, h2n, h18, w1, w2, hc3', h2K]
      · simp [zx, hc2, h2n, h18, w1, w2, hc3', h2K]
    rw [if_neg hc3] at hgo
    have hc4 : ¬ 16 < h - nd + gv := by omega
    have e4 : h + gv - nd = h - nd + gv := by omega
    rw [e4] at hgo
    have fin : ∀ (l : List (Int × Int)) (ga' gb' : Nat) (H3 : Heap) (n3 : Nat), VM.heightsGo c.ins f (q ++ l) (out.set at_.toNat h) = VM.heights c.ins → l.length ≤ 2 → (∀ x ∈ l, 0 ≤ x.2 ∧ x.2 ≤ 16) →
        H3 ga' = some (.row 1 (zn (A ++ l.map (·.1)))) → H3 gb' = some (.row 1 (zn (B ++ l.map (·.2)))) → nx + 1 < ga' → nx + 1 < gb' → ga' ≠ gb' → ga' < n3 → gb' < n3 →
        H3 nx = H2 nx → H3 (nx + 1) = H2 (nx + 1) → Keep nx H3 H →
        ∃ m, m < f + 1 ∧ RInv c H nx m [.ptr nx 0, .slc (nx + 1) 0 c.ins.length, .slc ga' 0 (la + l.length), .slc gb' 0 (la + l.length), .int .i64 ((k + 1 : Nat) : Int)] H3 n3 := by
      intro l ga' gb' H3 n3 p1 p2 p3 p4 p5 p6 p7 p8 p9 p10 p11 p12 p13
      refine ⟨f, by omega, q ++ l, _, A ++ l.map (·.1), B ++ l.map (·.2), ga', gb', k + 1, la + l.length, rfl, by simp [hAl], by simp [hBl], p4, p5, ?_, ?_, by omega, p6, p7, p8, p9, p10, by omega, p11.trans h2b, p12.trans h2o, by simpa using hol, p13, p1, by simp; omega, fun x hx => ?_, fun x hx => ?_⟩
      · rw [List.drop_append_of_le_length (by omega), hA1]; simp
      · rw [List.drop_append_of_le_length (by omega), hB1]; simp
      · rcases List.mem_append.1 hx with hx | hx
        · exact hq' x hx
        · exact p3 x hx
      · rcases List.mem_or_eq_of_mem_set hx with h9 | h9
        · exact hout x h9
        · omega
    have hlab : la ≤ 4194000 := by omega
    have kp : ∀ H3 : Heap, (∀ z, z ≠ ga → z ≠ gb → z < n1 + 1 → H3 z = H2 z) → Keep nx H3 H := fun H3 h3 g hg => (h3 g (by omega) (by omega) (by omega)).trans (h2K g hg)
    by_cases h15 : i.op = 15
    · simp [zx, hc2, hc2', h2n, h15, w0, w1, w2, w3, hc4, -zfv]
      refine app2 h2a h2c hAl hBl g3 (by omega) (by omega) (by omega) fun H3 q1 q2 q3 => ?_
      exact fin [(i.a, h - nd + gv)] _ _ _ _ (by simpa [h15] using hgo) (by simp) (by simp; omega) (by simpa using q1) (by simpa using q2) (by omega) (by omega) (by omega) (by omega) (by omega) (q3 _ (by omega) (by omega) (by omega)) (q3 _ (by omega) (by omega) (by omega)) (kp _ q3)
    by_cases h18 : i.op = 18
    · have h1 : h = 1 := by omega
      subst h1
      simp [zx, hc2, hc2', h2n, h18, w1, w2, w3, w0, hc4, -zfv]
      have := fin [] ga gb H2 (n1 + 1) (by simpa [h15, h18] using hgo) (by simp) (by simp) (by simpa using h2a) (by simpa using h2c) (by omega) (by omega) (by omega) (by omega) (by omega) rfl rfl h2K
      exact this
    by_cases h16 : i.op = 16
    · simp [zx, hc2, hc2', h2n, h16, w0, w1, w2, w3, hc4, -zfv]
      refine app2 h2a h2c hAl hBl g3 (by omega) (by omega) (by omega) fun H3 q1 q2 q3 => ?_
      have hn3 : H3 n1 = some (.row 3 [.int .i64 16, .int .i64 i.a, .int .i64 i.b]) := by rw [q3 _ (by omega) (by omega) (by omega), h2n, h16]
      simp [hn3, -zfv]
      refine app2 q1 q2 (by simp [hAl]) (by simp [hBl]) (by omega) (by omega) (by omega) (by omega) fun H4 r1 r2 r3 => ?_
      have q4 : ∀ z, z ≠ ga → z ≠ gb → z < n1 + 1 → H4 z = H2 z := fun z z1 z2 z3 => (r3 z (by omega) (by omega) (by omega)).trans (q3 z z1 z2 z3)
      exact fin [(at_ + 1, h - nd + gv), (i.a, h - nd + gv)] _ _ _ _ (by simpa [h15, h16, h18] using hgo) (by simp) (by simp; omega) (by simpa using r1) (by simpa using r2) (by omega) (by omega) (by omega) (by omega) (by omega) (q4 _ (by omega) (by omega) (by omega)) (q4 _ (by omega) (by omega) (by omega)) (kp _ q4)
    · simp [zx, hc2, hc2', h2n, h15, h16, h18, w0, w1, w2, w3, hc4, -zfv]
      refine app2 h2a h2c hAl hBl g3 (by omega) (by omega) (by omega) fun H3 q1 q2 q3 => ?_
      have hn3 : H3 n1 = some (.row 3 [.int .i64 i.op, .int .i64 i.a, .int .i64 i.b]) := by rw [q3 _ (by omega) (by omega) (by omega), h2n]
      simp [hn3, h15, h16, -zfv]
      exact fin [(at_ + 1, h - nd + gv)] _ _ _ _ (by simpa [h15, h16, h18] using hgo) (by simp) (by simp; omega) (by simpa using q1) (by simpa using q2) (by omega) (by omega) (by omega) (by omega) (by omega) (q3 _ (by omega) (by omega) (by omega)) (q3 _ (by omega) (by omega) (by omega)) (kp _ q3)
end Go.Proofs.YtpbnaaoilgohkaaGreatDoor
set_option maxRecDepth 8000
namespace Go.Proofs.YtpbnaaoilgohkaaGreatDoor
open Go Go.RowKit
end Go.Proofs.YtpbnaaoilgohkaaGreatDoor
set_option maxRecDepth 8000
namespace Go.Proofs.YtpbnaaoilgohkaaGreatDoor
open Go Go.RowKit
def lm (p : Prg) (c : Cod) (i : Ins) : Int × Int :=
  if i.op = 1 then (-1073741824, 1073741824) else if i.op = 2 then (0, p.words.length - 1) else if i.op = 3 then (0, c.vars - 1) else if i.op = 4 then (0, c.vars - 1) else if i.op = 5 then (1, 5)
  else if i.op = 15 then (0, c.ins.length - 1) else if i.op = 16 then (0, c.ins.length - 1) else if i.op = 17 then (0, p.codes.length - 1) else (0, 0)
theorem zaau (p : Prg) (c : Cod) (i : Ins) (h1 : 1 ≤ i.op) (h2 : i.op ≤ 19) : VM.numbers p c i = if i.a < (lm p c i).1 ∨ (lm p c i).2 < i.a ∨ (i.op = 17 ∧ some i.b ≠ (p.codes[i.a.toNat]?).map (·.params)) ∨ (i.op ≠ 17 ∧ i.b ≠ 0) then 3 else 0 := by
  unfold VM.numbers
  rw [if_neg (by omega)]
  have : (VM.numOk p c i = false ∨ (i.op ≠ 17 ∧ i.b ≠ 0)) ↔ (i.a < (lm p c i).1 ∨ (lm p c i).2 < i.a ∨ (i.op = 17 ∧ some i.b ≠ (p.codes[i.a.toNat]?).map (·.params)) ∨ (i.op ≠ 17 ∧ i.b ≠ 0)) := by
    unfold VM.numOk lm VM.isIn
    by_cases h17 : i.op = 17
    · simp [h17]
      by_cases hb : some i.b = (p.codes[i.a.toNat]?).map (·.params)
      · simp [hb]; omega
      · simp [hb]
    · simp only [h17, if_false]
      (repeat' split) <;> simp_all <;> omega
  by_cases hq : VM.numOk p c i = false ∨ (i.op ≠ 17 ∧ i.b ≠ 0)
  · rw [if_pos hq, if_pos (this.1 hq)]
  · rw [if_neg hq, if_neg (fun h => hq (this.2 h))]
set_option maxHeartbeats 4000000 in
theorem zxu (p : Prg) (hp : p.ok) : QC Tryz.prog 16 [.agg p.avs] (.int .i64 (VM.program p)) := by
  refine QC.of' fun H nx => zmo _ H nx _ ?_
  simp [zif, Prg.avs]
  have hb0 : (H.put nx (some (.row 2 [.ro (p.codes.map Cod.avs), .ro (p.words.map fun w => [.str w])]))) nx = some (.row 2 p.avs) := by simp [Prg.avs]
  have hK0 : Keep nx (H.put nx (some (.row 2 [.ro (p.codes.map Cod.avs), .ro (p.words.map fun w => [.str w])]))) H := by simp
  generalize (H.put nx (some (.row 2 [.ro (p.codes.map Cod.avs), .ro (p.words.map fun w => [.str w])]))) = H1 at *
  refine ⟨fun h1 => by unfold VM.program; rw [if_pos (by rw [h1]; simp)], fun h1 => ?_⟩
  have hpos : 0 < p.codes.length := List.length_pos_iff.2 h1
  refine ⟨fun h2 => by unfold VM.program; rw [if_pos (by omega)], fun h2 => ⟨fun h3 => by unfold VM.program; rw [if_neg (by omega), if_pos (by omega)], fun h3 => ?_⟩⟩
  have e0 : VM.program p = if p.words.all VM.word = false then 7 else if (p.codes.getD 0 ⟨0, 0, []⟩).params ≠ 0 then 10 else if p.codes.any VM.codeRange then 3 else VM.firstErr (VM.codeErr p) p.codes := by
    unfold VM.program; rw [if_neg (by omega), if_neg (by omega)]
  obtain ⟨c0, hc0⟩ : ∃ c0, p.codes[0]? = some c0 := ⟨p.codes[0]'(by omega), List.getElem?_eq_getElem _⟩
  refine LP.mk (fun m xs H' nx' => ∃ i : Nat, i ≤ p.words.length ∧ m = p.words.length - i ∧ xs = [.ptr nx 0, .ro (p.words.map fun w => [.str w]), .int .i64 p.words.length, .int .i64 i] ∧ H1 = H' ∧ nx + 1 = nx' ∧ p.words.all VM.word = (p.words.drop i).all VM.word) p.words.length
    ⟨0, by omega, by omega, by simp, rfl, rfl, rfl⟩ ?_
  rintro m xs H' nx' ⟨i, hi, rfl, rfl, rfl, rfl, hall⟩
  by_cases hlt : i < p.words.length
  · obtain ⟨w, hw⟩ : ∃ w, p.words[i]? = some w := ⟨_, List.getElem?_eq_getElem hlt⟩
    obtain ⟨_, hw'⟩ := List.getElem?_eq_some_iff.1 hw
    rw [zagx _ _ _ _ hw] at hall
    simp [zeo, hlt, hw']
    refine QC.call (zaeq w (hp w (List.mem_of_getElem? hw))) ?_
    simp [zii]
    cases hx : VM.word w
    · rw [hx] at hall
      simp [hK0]
      rw [e0, hall]; rfl
    · rw [hx] at hall
      simp
      rw [i64w (by omega)]
      exact ⟨p.words.length - (i + 1), by omega, i + 1, by omega, rfl, rfl, by simpa using hall⟩
  obtain rfl : i = p.words.length := by omega
  have hall' : p.words.all VM.word = true := by rw [hall]; simp
  rw [hall'] at e0
  simp only [Bool.true_eq_false, if_false] at e0
  obtain ⟨_, hc0'⟩ := List.getElem?_eq_some_iff.1 hc0
  have h01 : 0 < p.codes.length := by omega
  simp [zeo, hb0, Prg.avs, hc0', Cod.avs, h01]
  have hcg : p.codes.getD 0 ⟨0, 0, []⟩ = c0 := by simp [List.getD_eq_getElem?_getD, hc0]
  rw [hcg] at e0
  refine ⟨fun h4 => ⟨by rw [e0, if_pos h4], hK0⟩, fun h4 => ?_⟩
  rw [if_neg (by simpa using h4)] at e0
  refine LP.mk (fun m xs H' nx' => ∃ i : Nat, i ≤ p.codes.length ∧ m = p.codes.length - i ∧ xs = [.ptr nx 0, .ro (p.codes.map Cod.avs), .int .i64 p.codes.length, .int .i64 i] ∧ H' nx = some (.row 2 p.avs) ∧ Keep nx H' H ∧ nx < nx' ∧ p.codes.any VM.codeRange = (p.codes.drop i).any VM.codeRange) p.codes.length
    ⟨0, by omega, by omega, by simp, hb0, hK0, by omega, rfl⟩ ?_
  rintro m xs H2 n2 ⟨i, hi, rfl, rfl, hb2, hK2, hn2, hany⟩
  have hne2 : nx ≠ n2 := by omega
  by_cases hlt : i < p.codes.length
  · obtain ⟨c, hc⟩ : ∃ c, p.codes[i]? = some c := ⟨_, List.getElem?_eq_getElem hlt⟩
    obtain ⟨_, hc'⟩ := List.getElem?_eq_some_iff.1 hc
    rw [zagw _ _ _ _ hc] at hany
    have hK3 : Keep nx (H2.put n2 (some (.row 3 [.int .i64 c.params, .int .i64 c.vars, .ro (c.ins.map Ins.avs)]))) H := by rw [Keep.put (by omega)]; exact hK2
    simp [zep, hlt, hc', Cod.avs, hK3]
    have w0 : IntKind.i64.wrap ((i : Int) + 1) = (i : Int) + 1 := i64w (by omega)
    rw [w0]
    cases hx : VM.codeRange c
    · have hx' := hx
      unfold VM.codeRange at hx'
      rw [decide_eq_false_iff_not] at hx'
      rw [hx] at hany
      refine ⟨fun _ => by omega, fun _ => ⟨fun _ => by omega, fun _ => ⟨fun _ => by omega, fun _ => ⟨fun _ => by omega, fun _ => ⟨fun he => ?_, fun _ => ⟨fun _ => by omega, fun _ => ?_⟩⟩⟩⟩⟩⟩
      · exfalso; rw [he] at hx'; simp at hx'
      · exact ⟨p.codes.length - (i + 1), by omega, i + 1, by omega, rfl, rfl, by rw [if_neg hne2, if_neg hne2]; exact hb2, by omega, by simpa using hany⟩
    · have hx' := hx
      unfold VM.codeRange at hx'
      rw [decide_eq_true_eq] at hx'
      rw [hx, Bool.true_or] at hany
      rw [hany] at e0
      simp only [if_true] at e0
      rw [e0]
      simp only [← List.length_eq_zero_iff]
      repeat' first | apply And.intro | intro _
      all_goals first | rfl | trivial | (exfalso; omega)
  obtain rfl : i = p.codes.length := by omega
  have hany' : p.codes.any VM.codeRange = false := by rw [hany]; simp
  rw [hany'] at e0
  simp only [Bool.false_eq_true, if_false] at e0
  simp [zep, hb2, Prg.avs]
  have hr : ∀ x ∈ p.codes, VM.codeRange x = false := by simpa using hany'
  clear hany hany' hall hall' hlt hi
  refine LP.mk (fun m xs H' nx' => ∃ i : Nat, i ≤ p.codes.length ∧ m = p.codes.length - i ∧ xs = [.ptr nx 0, .ro (p.codes.map Cod.avs), .int .i64 p.codes.length, .int .i64 i] ∧ H' nx = some (.row 2 p.avs) ∧ Keep nx H' H ∧ nx < nx' ∧ VM.program p = VM.firstErr (VM.codeErr p) (p.codes.drop i)) p.codes.length
    ⟨0, by omega, by omega, by simp, hb2, hK2, by omega, by simpa using e0⟩ ?_
  clear hb2 hK2 hn2 hne2
  clear H2 n2
  rintro m xs H2 n2 ⟨k, hk, rfl, rfl, hb2, hK2, hn2, hfe⟩
  by_cases hlt : k < p.codes.length
  case neg =>
    obtain rfl : k = p.codes.length := by omega
    simp [zeq, hK2]
    rw [hfe]; simp [VM.firstErr]
  obtain ⟨c, hc⟩ : ∃ c, p.codes[k]? = some c := ⟨_, List.getElem?_eq_getElem hlt⟩
  obtain ⟨_, hc'⟩ := List.getElem?_eq_some_iff.1 hc
  have hcr := hr c (List.mem_of_getElem? hc)
  have hlen : c.ins.length ≤ 200 := by
    unfold VM.codeRange at hcr
    rw [decide_eq_false_iff_not] at hcr
    omega
  have hvars : 0 ≤ c.vars ∧ c.vars ≤ 8 := by
    unfold VM.codeRange at hcr
    rw [decide_eq_false_iff_not] at hcr
    omega
  rw [zdi _ _ _ _ hc] at hfe
  have hne2 : nx ≠ n2 := by omega
  simp [zeq, hb2, Prg.avs, hlt, hc', Cod.avs]
  refine LP.mk (fun m xs H' nx' => ∃ j : Nat, j ≤ c.ins.length ∧ m = c.ins.length - j ∧ xs = [.ptr nx 0, .ptr n2 0, .ro (p.codes.map Cod.avs), .int .i64 p.codes.length, .int .i64 k, .ro (c.ins.map Ins.avs), .int .i64 c.ins.length, .int .i64 j] ∧ H' nx = some (.row 2 p.avs) ∧ H' n2 = some (.row 3 c.avs) ∧ Keep nx H' H ∧ n2 < nx' ∧ VM.firstErr (VM.numbers p c) c.ins = VM.firstErr (VM.numbers p c) (c.ins.drop j)) c.ins.length
    ⟨0, by omega, by omega, by simp, by rw [Heap.put_ne _ _ hne2]; exact hb2, by rw [Heap.put_at]; rfl, by rw [Keep.put (by omega)]; exact hK2, by omega, by simp⟩ ?_
  rintro m xs H3 n3 ⟨j, hj, rfl, rfl, hb3, hc3, hK3, hn3, hfj⟩
  have hne : nx ≠ n3 := by omega
  have hne' : n2 ≠ n3 := by omega
  by_cases hjl : j < c.ins.length
  · obtain ⟨i, hi⟩ : ∃ i, c.ins[j]? = some i := ⟨_, List.getElem?_eq_getElem hjl⟩
    obtain ⟨_, hi'⟩ := List.getElem?_eq_some_iff.1 hi
    rw [zdi _ _ _ _ hi] at hfj
    have hK4 : Keep nx (H3.put n3 (some (.row 3 [.int .i64 i.op, .int .i64 i.a, .int .i64 i.b]))) H := by rw [Keep.put (by omega)]; exact hK3
    have hb4 : (H3.put n3 (some (.row 3 [.int .i64 i.op, .int .i64 i.a, .int .i64 i.b]))) nx = some (.row 2 p.avs) := by rw [Heap.put_ne _ _ hne]; exact hb3
    have hc4 : (H3.put n3 (some (.row 3 [.int .i64 i.op, .int .i64 i.a, .int .i64 i.b]))) n2 = some (.row 3 c.avs) := by rw [Heap.put_ne _ _ hne']; exact hc3
    have hi4 : (H3.put n3 (some (.row 3 [.int .i64 i.op, .int .i64 i.a, .int .i64 i.b]))) n3 = some (.row 3 [.int .i64 i.op, .int .i64 i.a, .int .i64 i.b]) := by rw [Heap.put_at]
    simp [zer, hjl, hi', Ins.avs]
    generalize (H3.put n3 (some (.row 3 [.int .i64 i.op, .int .i64 i.a, .int .i64 i.b]))) = H4 at *
    have hbad : VM.numbers p c i ≠ 0 → VM.program p = VM.numbers p c i := by
      intro hz
      rw [if_pos hz] at hfj
      have : VM.codeErr p c = VM.numbers p c i := by unfold VM.codeErr; rw [hfj, if_pos hz]
      rw [hfe, this, if_pos hz]
    refine ⟨fun ho => ?_, fun ho1 => ⟨fun ho => ?_, fun ho2 => ?_⟩⟩
    · have e : VM.numbers p c i = 1 := by unfold VM.numbers; rw [if_pos (by omega)]
      exact ⟨by rw [hbad (by omega), e], hK4⟩
    · have e : VM.numbers p c i = 1 := by unfold VM.numbers; rw [if_pos (by omega)]
      exact ⟨by rw [hbad (by omega), e], hK4⟩
    refine JN.cut (fun xs H' nx' => xs = [.ptr nx 0, .ptr n2 0, .ptr n3 0, .int .i64 (lm p c i).1, .int .i64 (lm p c i).2, .ro (p.codes.map Cod.avs), .int .i64 p.codes.length, .int .i64 k, .ro (c.ins.map Ins.avs), .int .i64 c.ins.length, .int .i64 j] ∧ H4 = H' ∧ n3 + 1 = nx') ?_ ?_
    · rintro xs H' nx' ⟨rfl, rfl, rfl⟩
      have hnl := zaau p c i ho1 ho2
      have hgo : VM.numbers p c i = 0 → ∃ m, m < c.ins.length - j ∧ ∃ j', j' ≤ c.ins.length ∧ m = c.ins.length - j' ∧ (j : Int) + 1 = j' ∧ H4 nx = some (.row 2 p.avs) ∧ H4 n2 = some (.row 3 c.avs) ∧ Keep nx H4 H ∧ n2 < n3 + 1 ∧ VM.firstErr (VM.numbers p c) c.ins = VM.firstErr (VM.numbers p c) (List.drop j' c.ins) := by
        intro hz
        rw [if_neg (by simpa using hz)] at hfj
        exact ⟨c.ins.length - (j + 1), by omega, j + 1, by omega, rfl, rfl, hb4, hc4, hK4, by omega, hfj⟩
      have w0 : IntKind.i64.wrap ((j : Int) + 1) = (j : Int) + 1 := i64w (by omega)
      have hbad3 : VM.numbers p c i = 3 → VM.program p = 3 := fun hz => by rw [hbad (by omega), hz]
      by_cases h17 : i.op = 17
      · have hl1 : (lm p c i).1 = 0 := by simp [lm, h17]
        have hl2 : (lm p c i).2 = (p.codes.length : Int) - 1 := by simp [lm, h17]
        simp [zes, hi4, hb4, Prg.avs, w0, h17]
        rw [hl1, hl2] at hnl ⊢
        refine ⟨fun ha => ⟨hbad3 (by rw [hnl, if_pos (.inl ha)]), hK4⟩, fun ha => ⟨fun hb => ⟨hbad3 (by rw [hnl, if_pos (.inr (.inl hb))]), hK4⟩, fun hb => ⟨ha, by omega, zahw (by omega) fun x hx => ?_⟩⟩⟩
        simp [Cod.avs]
        refine ⟨fun hp' => ⟨hbad3 (by rw [hnl, if_pos (.inr (.inr (.inl ⟨h17, by rw [hx]; simpa using hp'⟩)))]), hK4⟩, fun hp' => ?_⟩
        have hz : VM.numbers p c i = 0 := by rw [hnl, if_neg (by rw [hx]; simp [hp', h17]; omega)]
        have := hgo hz
        simpa [hb4, Prg.avs, Cod.avs] using this
      · simp [zes, hi4, hb4, Prg.avs, w0, h17]
        refine ⟨fun ha => ⟨hbad3 (by rw [hnl, if_pos (.inl ha)]), hK4⟩, fun ha => ⟨fun hb => ⟨hbad3 (by rw [hnl, if_pos (.inr (.inl hb))]), hK4⟩, fun hb => ⟨fun hp' => ⟨hbad3 (by rw [hnl, if_pos (.inr (.inr (.inr ⟨h17, hp'⟩)))]), hK4⟩, fun hp' => ?_⟩⟩⟩
        have hz : VM.numbers p c i = 0 := by rw [hnl, if_neg (by simp [hp', h17]; omega)]
        have := hgo hz
        simpa [hb4, Prg.avs] using this
    · have q1 : IntKind.i64.wrap ((p.words.length : Int) - 1) = (p.words.length : Int) - 1 := i64w (by omega)
      have q2 : IntKind.i64.wrap (c.vars - 1) = c.vars - 1 := i64w (by omega)
      have q3 : IntKind.i64.wrap ((c.ins.length : Int) - 1) = (c.ins.length : Int) - 1 := i64w (by omega)
      have q4 : IntKind.i64.wrap ((p.codes.length : Int) - 1) = (p.codes.length : Int) - 1 := i64w (by omega)
      simp [zij, hb4, hc4, Prg.avs, Cod.avs, q1, q2, q3, q4]
      repeat' first | apply And.intro | intro _
      all_goals simp [lm, *]
  obtain rfl : j = c.ins.length := by omega
  have hz : VM.firstErr (VM.numbers p c) c.ins = 0 := by rw [hfj]; simp [VM.firstErr]
  have hce : VM.codeErr p c = (VM.heights c.ins).2 := by unfold VM.codeErr; rw [if_neg (by simpa using hz)]
  rw [hce] at hfe
  simp [zer, hb3, hc3, Prg.avs, hlt, hc', Cod.avs]
  refine QC.call (zqr c (by omega) (zze hr (zbb hz))) ?_
  simp [zih]
  refine ⟨fun h0 => ⟨?_, hK3⟩, fun h0 => ?_⟩
  · rw [if_pos h0] at hfe; exact hfe
  · rw [if_neg (by simpa using h0)] at hfe
    rw [i64w (by omega)]
    exact ⟨p.codes.length - (k + 1), by omega, k + 1, by omega, rfl, rfl, hb3, hK3, by omega, hfe⟩
end Go.Proofs.YtpbnaaoilgohkaaGreatDoor
set_option maxRecDepth 8000
namespace Go.Proofs.YtpbnaaoilgohkaaGreatDoor
open Go Go.RowKit
end Go.Proofs.YtpbnaaoilgohkaaGreatDoor
set_option maxRecDepth 8000
namespace Go.Proofs.YtpbnaaoilgohkaaGreatDoor
open Go Go.RowKit
end Go.Proofs.YtpbnaaoilgohkaaGreatDoor
set_option maxRecDepth 8000
namespace Go.Proofs.YtpbnaaoilgohkaaGreatDoor
open Go Go.RowKit
def FrzO (H : Heap) (G : Nat → Prop) (g : Nat) (o : AObj) : Prop := H g = some o ∨ ∃ sz cs cs', H g = some (.row sz cs) ∧ o = .row sz cs' ∧ zdg H G cs cs'
theorem FrzO.some {H : Heap} {G : Nat → Prop} {g : Nat} {o : AObj} (h : FrzO H G g o) : ∃ o1, H g = some o1 := by
  rcases h with h | ⟨sz, cs, _, h, _⟩
  · exact ⟨_, h⟩
  · exact ⟨_, h⟩
theorem Sim.freeze {A : Nat → Prop} {ρ : Nat → Loc} {H H0 : Heap} {w : World} {G : Nat → Prop} (s : Sim A ρ H w) (h0 : ∀ g o, H0 g = some o → ¬ G g ∧ FrzO H G g o) :
    Sim A ρ H0 w ∧ Fr A ρ H w A ρ H0 w ∧ ∀ (v u : AV) (c : Value), FrzP H G v u → VRel (Kof ρ H w) ρ A v c → VRel (Kof ρ H0 w) ρ A u c := by
  let H1 : Heap := fun g => if (H0 g).isSome then H g else none
  have h1 : ∀ g o, H1 g = some o → ¬ G g ∧ H g = some o := fun g o hg => by
    by_cases h : (H0 g).isSome = true
    · obtain ⟨o', ho'⟩ := Option.isSome_iff_exists.1 h
      simp only [H1, if_pos h] at hg
      exact ⟨(h0 g o' ho').1, hg⟩
    · simp only [H1, if_neg h] at hg; cases hg
  have hdom : ∀ g, (H1 g).isSome = (H0 g).isSome := fun g => by
    by_cases h : (H0 g).isSome = true
    · obtain ⟨o', ho'⟩ := Option.isSome_iff_exists.1 h
      obtain ⟨o1, ho1⟩ := (h0 g o' ho').2.some
      simp only [H1, if_pos h, ho1, ho', Option.isSome_some]
    · simp only [H1, if_neg h]
      cases h2 : H0 g with
      | none => rfl
      | some x => rw [h2] at h; exact absurd rfl h
  have hK : Kof ρ H1 w = Kof ρ H0 w := by
    funext b
    refine Option.ext fun o => ?_
    rw [zm, zm]
    simp only [hdom]
  obtain ⟨s1, f1⟩ := s.drop (H' := H1) fun g o ho => (h1 g o ho).2
  have rel : ∀ (v u : AV) (c : Value), FrzP H G v u → VRel (Kof ρ H w) ρ A v c → VRel (Kof ρ H0 w) ρ A u c := fun v u c hf hc => by
    have := hf.rel s h1 c hc
    rw [hK] at this
    exact this
  have some1 : ∀ g o, H0 g = some o → ∃ o1, H1 g = some o1 := fun g o hg => by
    have := hdom g
    rw [hg] at this
    exact Option.isSome_iff_exists.1 this
  refine ⟨⟨fun g o hg => ?_, fun g o hg => ?_, fun x y hx hy => s1.inj x y (by rw [hdom]; exact hx) (by rw [hdom]; exact hy), by rw [← hK]; exact s1.lay⟩, ?_, rel⟩
  · obtain ⟨o1, ho1⟩ := some1 g o hg
    exact s1.live g o1 ho1
  · rcases (h0 g o hg).2 with h | ⟨sz, cs, cs', h, rfl, hf⟩
    · have : H1 g = some o := by simp only [H1, hg, Option.isSome_some, if_true]; exact h
      have := s1.obj g o this
      rw [hK] at this
      exact this
    · obtain ⟨c, e, lo, hi, q1, q2, q3, q4, q5, q6⟩ := s.obj g _ h
      refine ⟨c, e, lo, hi, q1, q2, q3, q4, by rw [hf.1]; exact q5, fun j v hv => ?_⟩
      have hlt := (List.getElem?_eq_some_iff.1 hv).1
      rw [hf.1] at hlt
      have hx : cs[j]? = some cs[j] := List.getElem?_eq_getElem hlt
      obtain ⟨cv, r1, r2⟩ := q6 j _ hx
      exact ⟨cv, r1, rel _ _ _ (hf.2 j _ v hx hv) r2⟩
  · have e : Fr A ρ H w A ρ H0 w = Fr A ρ H w A ρ H0 w := rfl
    obtain ⟨a1, a2, a3, a4, a5, a6⟩ := f1
    exact ⟨a1, by rw [← hK]; exact a2, a3, a4, a5, a6⟩
theorem za.thawR {P : Program} {f : FuncId} {args args' : List AV} {H H0 : Heap} {nx : Nat} {G : Nat → Prop} {Q : AV → Heap → Nat → Prop} (h : za P f args H0 nx Q) (hf : zdg H G args' args) (h0 : ∀ g o, H0 g = some o → ¬ G g ∧ FrzO H G g o) : za P f args' H nx Q := by
  intro ρ w cargs s ha
  obtain ⟨s0, f0, rel⟩ := s.freeze h0
  refine zi (h ρ w cargs s0 ⟨ha.1.trans hf.1.symm, fun j u c hu hc => ?_⟩) fun cv w' ⟨r', H', nx', ρ', q1, q3, q4, q5⟩ => ⟨r', H', nx', ρ', q1, q3, q4, f0.trans q5⟩
  have hj : j < args'.length := by have := (List.getElem?_eq_some_iff.1 hu).1; rw [hf.1] at this; exact this
  have hv : args'[j]? = some args'[j] := List.getElem?_eq_getElem hj
  exact rel _ u c (hf.2 j _ u hv hu) (ha.2 j _ c hv hc)
end Go.Proofs.YtpbnaaoilgohkaaGreatDoor
set_option maxRecDepth 8000
namespace Go.Proofs.YtpbnaaoilgohkaaGreatDoor
open Go Go.RowKit
inductive FL (H : Heap) (nx : Nat) : List AV → List AV → Prop
  | nil : FL H nx [] []
  | cons {u v : AV} {us vs : List AV} : Frz H nx u v → FL H nx us vs → FL H nx (u :: us) (v :: vs)
section
variable {H : Heap} {nx : Nat}
theorem FL.append : ∀ {us vs us' vs' : List AV}, FL H nx us vs → FL H nx us' vs' → FL H nx (us ++ us') (vs ++ vs')
  | _, _, _, _, .nil, k => k
  | _, _, _, _, .cons a b, k => .cons a (b.append k)
theorem FL.same : ∀ {l : List AV}, (∀ c ∈ l, Bel (· < nx) c) → FL H nx l l
  | [], _ => .nil
  | c :: r, h => .cons (.same _ (h c (by simp))) (FL.same fun x hx => h x (by simp [hx]))
theorem FL.get : ∀ {us vs : List AV}, FL H nx us vs → ∀ {j : Nat} {v : AV}, vs[j]? = some v → ∃ u, us[j]? = some u ∧ Frz H nx u v
  | _, _, .nil, j, v, h => by simp at h
  | _, _, .cons a b, 0, v, h => by simp at h; subst h; exact ⟨_, rfl, a⟩
  | _, _, .cons a b, j + 1, v, h => by simpa using b.get (j := j) (by simpa using h)
theorem FL.len : ∀ {us vs : List AV}, FL H nx us vs → us.length = vs.length
  | _, _, .nil => rfl
  | _, _, .cons a b => by simp [b.len]
theorem FL.agg {us vs : List AV} (h : FL H nx us vs) : Frz H nx (.agg us) (.agg vs) := by
  refine .agg _ _ h.len.symm fun j v u hv hu => ?_
  obtain ⟨w, q1, q2⟩ := h.get hu
  rw [hv] at q1; cases q1; exact q2
theorem FL.tup {us vs : List AV} (h : FL H nx us vs) : Frz H nx (.tup us) (.tup vs) := by
  refine .tup _ _ h.len.symm fun j v u hv hu => ?_
  obtain ⟨w, q1, q2⟩ := h.get hu
  rw [hv] at q1; cases q1; exact q2
end
end Go.Proofs.YtpbnaaoilgohkaaGreatDoor
set_option maxRecDepth 8000
namespace Go.Proofs.YtpbnaaoilgohkaaGreatDoor
open Go Go.RowKit
theorem zyd {H : Heap} {G : Nat → Prop} {id trip : Int} {p : Prg} {fs : List Frm} {h : List Cl} {m : Pmt} {fa ha : AV} (h1 : FrzP H G fa (.ro (fs.map Frm.avs))) (h2 : FrzP H G ha (.ro (h.map Cl.avs))) : FrzP H G (.agg (zam id trip p fa ha m)) (.agg (Agt.avs ⟨id, trip, p, fs, h, m⟩)) := by
  refine .agg _ _ rfl fun j v u hv hu => ?_
  match j with
  | 0 => cases hv; cases hu; exact .same _
  | 1 => cases hv; cases hu; exact .same _
  | 2 => cases hv; cases hu; exact .same _
  | 3 => cases hv; cases hu; exact .same _
  | 4 => cases hv; cases hu; exact h1
  | 5 => cases hv; cases hu; exact h2
  | 6 => cases hv; cases hu; exact .same _
  | 7 => cases hv; cases hu; exact .same _
  | 8 => cases hv; cases hu; exact .same _
  | j + 9 => simp [zam] at hv
section
variable {a0 : AV} {nx n : Nat} {H : Heap} {Q : QT} {s : Str} {e : Int}
end
end Go.Proofs.YtpbnaaoilgohkaaGreatDoor
set_option maxRecDepth 8000
namespace Go.Proofs.YtpbnaaoilgohkaaGreatDoor
open Go Go.RowKit
def zaj (o : List Nat) (N : Nat) : List AV := (List.range N).map fun n => .int .i64 (if n ∈ o then (o.idxOf n : Int) else -1)
@[simp] theorem zaim (o : List Nat) (N : Nat) : (zaj o N).length = N := by simp [zaj]
theorem zdl {o : List Nat} {N n : Nat} (h : n < N) : (zaj o N)[n]? = some (.int .i64 (if n ∈ o then (o.idxOf n : Int) else -1)) := by simp [zaj, h]
theorem zwc {o : List Nat} {N m : Nat} (hm : m < N) (hn : m ∉ o) : (zaj o N).take m ++ AV.int .i64 o.length :: (zaj o N).drop (m + 1) = zaj (o ++ [m]) N := by
  have e : (zaj o N).take m ++ AV.int .i64 o.length :: (zaj o N).drop (m + 1) = (zaj o N).set m (.int .i64 o.length) := by
    rw [List.set_eq_take_append_cons_drop, if_pos (by simpa using hm)]
  rw [e]
  apply List.ext_getElem?
  intro n
  by_cases hN : n < N
  · rw [zdl hN]
    by_cases hnm : n = m
    · subst hnm
      rw [List.getElem?_set_self (by simpa using hm)]
      simp [hn, List.idxOf_append]
    · rw [List.getElem?_set_ne (fun h => hnm h.symm), zdl hN]
      by_cases ho : n ∈ o
      · simp [ho, List.idxOf_append]
      · simp [ho, hnm]
  · rw [List.getElem?_eq_none (by simp; omega), List.getElem?_eq_none (by simp; omega)]
structure zve (H : Heap) (gp go gpl gr N : Nat) (o : List Nat) : Prop where
  p : H gp = some (.row 1 [.slc gpl 0 N])
  pl : H gpl = some (.row 1 (zaj o N))
  oo : H go = some (.row 1 [if o = [] then .nils else .slc gr 0 o.length])
  rr : o ≠ [] → H gr = some (.row 1 (zag o))
  d1 : gp ≠ go
  d2 : gp ≠ gpl
  d3 : go ≠ gpl
  d4 : o ≠ [] → gr ≠ gp ∧ gr ≠ go ∧ gr ≠ gpl
theorem zacl (v : Val) (o : List Nat) (N : Nat) (hv : VM.WrongOk v N) (hin : VM.In o v) {H : Heap} {nx gp gpl : Nat} (h1 : H gp = some (.row 1 [.slc gpl 0 N])) (h2 : H gpl = some (.row 1 (zaj o N))) (l1 : gp < nx) (l2 : gpl < nx) :
    za Tryz.prog 59 [.agg v.avs, .ptr gp 0] H nx fun r H' _ => r = .agg (VM.put o v).avs ∧ Keep nx H' H := by
  refine zmq _ _ H nx _ ?_
  have n0 : gp ≠ nx ∧ gpl ≠ nx ∧ nx ≠ nx + 1 ∧ gp ≠ nx + 1 ∧ gpl ≠ nx + 1 := by omega
  by_cases hk : v.kind = 2
  · obtain ⟨c1, c2⟩ := hv.cell hk
    have hm := hin hk
    have hlt : v.n.toNat < N := by omega
    have e1 : (VM.put o v).kind = 2 := by unfold VM.put; rw [if_pos hk]; exact hk
    have e2 : (VM.put o v).n = (o.idxOf v.n.toNat : Nat) := by unfold VM.put; rw [if_pos hk]
    have e3 : (VM.put o v).text = v.text := by unfold VM.put; rw [if_pos hk]
    simp [zet, Val.avs, hk, n0, h1, h2, e1, e2, e3, zdl hlt, hm]
    omega
  · have e : VM.put o v = v := by unfold VM.put; rw [if_neg hk]
    simp [zet, Val.avs, hk, n0, e]
theorem zaib (v : Val) (o : List Nat) (N : Nat) (hv : VM.WrongOk v N) (ho : (o.length + 1) * 8 ≤ 140737488355328) {H : Heap} {nx gp go gpl gr : Nat} (st : zve H gp go gpl gr N o) (l1 : gp < nx) (l2 : go < nx) (l3 : gpl < nx) (lr : o ≠ [] → gr < nx) :
    za Tryz.prog 58 [.agg v.avs, .ptr gp 0, .ptr go 0] H nx fun r H' nx' => r = .tup [] ∧ nx ≤ nx' ∧ ∃ gr', zve H' gp go gpl gr' N (VM.meet o v) ∧ (VM.meet o v ≠ [] → gr' < nx' ∧ ((o ≠ [] ∧ gr' = gr) ∨ nx ≤ gr')) ∧
      ∀ g, g < nx → g ≠ gpl → g ≠ go → (o ≠ [] → g ≠ gr) → H' g = H g := by
  refine zmr _ _ _ H nx _ ?_
  obtain ⟨s1, s2, s3, s4, d1, d2, d3, d4⟩ := st
  have n0 : gp ≠ nx ∧ gpl ≠ nx ∧ go ≠ nx ∧ gp ≠ nx + 1 ∧ gpl ≠ nx + 1 ∧ go ≠ nx + 1 ∧ nx ≠ nx + 1 := by omega
  have same : VM.meet o v = o → ∃ gr', zve (H.put nx (some (.row 3 v.avs))) gp go gpl gr' N (VM.meet o v) ∧ (VM.meet o v ≠ [] → gr' < nx + 1 ∧ ((o ≠ [] ∧ gr' = gr) ∨ nx ≤ gr')) ∧ ∀ g, g < nx → g ≠ gpl → g ≠ go → (o ≠ [] → g ≠ gr) → (H.put nx (some (.row 3 v.avs))) g = H g := by
    intro e
    rw [e]
    refine ⟨gr, ⟨by rw [Heap.put_ne _ _ (by omega)]; exact s1, by rw [Heap.put_ne _ _ (by omega)]; exact s2, by rw [Heap.put_ne _ _ (by omega)]; exact s3, fun h => by rw [Heap.put_ne _ _ (by have := lr h; omega)]; exact s4 h, d1, d2, d3, d4⟩, fun h => ⟨by have := lr h; omega, .inl ⟨h, rfl⟩⟩, fun g hg _ _ _ => Heap.put_ne _ _ (by omega)⟩
  by_cases hk : v.kind = 2
  · obtain ⟨c1, c2⟩ := hv.cell hk
    obtain ⟨k, n, s⟩ := v
    simp only at hk c1 c2
    subst hk
    obtain ⟨m, rfl⟩ : ∃ m : Nat, n = m := ⟨n.toNat, by omega⟩
    have hlt : m < N := by omega
    by_cases hm : m ∈ o
    · have e : VM.meet o ⟨2, m, s⟩ = o := zjq (by simp [hm])
      have nn : ¬ ((o.idxOf m : Nat) : Int) < 0 := by omega
      simp [zbs, Val.avs, n0, s1, s2, zdl hlt, hm, nn]
      have := same e
      simp [Val.avs] at this
      exact ⟨hlt, this⟩
    · have e : VM.meet o ⟨2, m, s⟩ = o ++ [m] := zgz (by simp [hm])
      have ps := zwc hlt hm
      rw [e]
      by_cases h0 : o = []
      · subst h0
        simp at s3
        have ne_0 : gp ≠ go ∧ go ≠ gp ∧ gp ≠ gpl ∧ gpl ≠ gp ∧ gp ≠ nx ∧ nx ≠ gp ∧ go ≠ gpl ∧ gpl ≠ go ∧ go ≠ nx ∧ nx ≠ go ∧ gpl ≠ nx ∧ nx ≠ gpl ∧ gp ≠ nx + 1 ∧ nx + 1 ≠ gp ∧ gp ≠ nx + 2 ∧ nx + 2 ≠ gp ∧ gp ≠ nx + 3 ∧ nx + 3 ≠ gp ∧ go ≠ nx + 1 ∧ nx + 1 ≠ go ∧ go ≠ nx + 2 ∧ nx + 2 ≠ go ∧ go ≠ nx + 3 ∧ nx + 3 ≠ go ∧ gpl ≠ nx + 1 ∧ nx + 1 ≠ gpl ∧ gpl ≠ nx + 2 ∧ nx + 2 ≠ gpl ∧ gpl ≠ nx + 3 ∧ nx + 3 ≠ gpl ∧ nx ≠ nx + 1 ∧ nx + 1 ≠ nx ∧ nx ≠ nx + 2 ∧ nx + 2 ≠ nx ∧ nx ≠ nx + 3 ∧ nx + 3 ≠ nx := ⟨by omega, by omega, by omega, by omega, by omega, by omega, by omega, by omega, by omega, by omega, by omega, by omega, by omega, by omega, by omega, by omega, by omega, by omega, by omega, by omega, by omega, by omega, by omega, by omega, by omega, by omega, by omega, by omega, by omega, by omega, by omega, by omega, by omega, by omega, by omega, by omega⟩
        simp [zbs, Val.avs, n0, s1, s2, s3, zdl hlt, hm, ne_0]
        refine ⟨hlt, by omega, by omega, nx + 2, ⟨?_, ?_, ?_, fun _ => ?_, d1, d2, d3, fun _ => by omega⟩, by omega, fun g hg a b => ?_⟩
        · simp [ne_0, s1]
        · simp [ne_0]; simpa using ps
        · simp [ne_0]
        · simp [ne_0, zag]
        · repeat rw [if_neg (by omega)]
      · have r4 := d4 h0
        have lr' := lr h0
        rw [if_neg h0] at s3
        have s4' := s4 h0
        have ne_1 : gr ≠ gp ∧ gp ≠ gr ∧ gr ≠ go ∧ go ≠ gr ∧ gr ≠ gpl ∧ gpl ≠ gr ∧ gr ≠ nx ∧ nx ≠ gr ∧ gp ≠ go ∧ go ≠ gp ∧ gp ≠ gpl ∧ gpl ≠ gp ∧ gp ≠ nx ∧ nx ≠ gp ∧ go ≠ gpl ∧ gpl ≠ go ∧ go ≠ nx ∧ nx ≠ go ∧ gpl ≠ nx ∧ nx ≠ gpl ∧ gr ≠ nx + 1 ∧ nx + 1 ≠ gr ∧ gr ≠ nx + 2 ∧ nx + 2 ≠ gr ∧ gr ≠ nx + 3 ∧ nx + 3 ≠ gr ∧ gp ≠ nx + 1 ∧ nx + 1 ≠ gp ∧ gp ≠ nx + 2 ∧ nx + 2 ≠ gp ∧ gp ≠ nx + 3 ∧ nx + 3 ≠ gp ∧ go ≠ nx + 1 ∧ nx + 1 ≠ go ∧ go ≠ nx + 2 ∧ nx + 2 ≠ go ∧ go ≠ nx + 3 ∧ nx + 3 ≠ go ∧ gpl ≠ nx + 1 ∧ nx + 1 ≠ gpl ∧ gpl ≠ nx + 2 ∧ nx + 2 ≠ gpl ∧ gpl ≠ nx + 3 ∧ nx + 3 ≠ gpl ∧ nx ≠ nx + 1 ∧ nx + 1 ≠ nx ∧ nx ≠ nx + 2 ∧ nx + 2 ≠ nx ∧ nx ≠ nx + 3 ∧ nx + 3 ≠ nx := ⟨by omega, by omega, by omega, by omega, by omega, by omega, by omega, by omega, by omega, by omega, by omega, by omega, by omega, by omega, by omega, by omega, by omega, by omega, by omega, by omega, by omega, by omega, by omega, by omega, by omega, by omega, by omega, by omega, by omega, by omega, by omega, by omega, by omega, by omega, by omega, by omega, by omega, by omega, by omega, by omega, by omega, by omega, by omega, by omega, by omega, by omega, by omega, by omega, by omega, by omega⟩
        simp [zbs, Val.avs, n0, s1, s2, s3, s4', zdl hlt, hm, ne_1]
        have htk : List.take o.length (zag o) = zag o := List.take_of_length_le (by simp)
        simp only [htk]
        refine ⟨hlt, by omega, ho, by omega, nx + 2, ⟨?_, ?_, ?_, fun _ => ?_, d1, d2, d3, fun _ => by omega⟩, by omega, fun g hg a b c => ?_⟩
        · simp [ne_1, s1]
        · simp [ne_1]; simpa using ps
        · simp [ne_1]
        · simp [ne_1, zag]
        · have := c h0
          repeat rw [if_neg (by omega)]
  · have e : VM.meet o v = o := zjq (by simp [hk])
    simp [zbs, Val.avs, hk, n0]
    have := same e
    simp [Val.avs] at this
    exact this
end Go.Proofs.YtpbnaaoilgohkaaGreatDoor
set_option maxRecDepth 8000
namespace Go.Proofs.YtpbnaaoilgohkaaGreatDoor
open Go Go.RowKit
structure RCan (h : List Cl) (H0 : Heap) (nx : Nat) (o : List Nat) (H : Heap) (n gr : Nat) : Prop where
  st : zve H (nx + 1) (nx + 2) nx gr h.length o
  lr : o ≠ [] → nx + 3 ≤ gr ∧ gr < n
  keep : Keep nx H H0
  good : VM.Good h.length o
  le : nx + 3 ≤ n
theorem RCan.more {h : List Cl} {H0 H H' : Heap} {nx n n' gr : Nat} {o : List Nat} (c : RCan h H0 nx o H n gr) (hn : n ≤ n') (hk : ∀ g, g < n → H' g = H g) : RCan h H0 nx o H' n' gr := by
  have l := c.le
  refine ⟨⟨by rw [hk _ (by omega)]; exact c.st.p, by rw [hk _ (by omega)]; exact c.st.pl, by rw [hk _ (by omega)]; exact c.st.oo, fun ho => by rw [hk _ (c.lr ho).2]; exact c.st.rr ho, c.st.d1, c.st.d2, c.st.d3, c.st.d4⟩, fun ho => by have := c.lr ho; omega, fun g hg => by rw [hk _ (by omega)]; exact c.keep g hg, c.good, by omega⟩
theorem RCan.meet {h : List Cl} {H0 H : Heap} {nx n gr : Nat} {o : List Nat} (c : RCan h H0 nx o H n gr) (hs : h.length * 64 ≤ 140737488355328) {v : Val} (hv : VM.WrongOk v h.length) {Q : AV → Heap → Nat → Prop} (hq : ∀ H' n' gr', n ≤ n' → RCan h H0 nx (VM.meet o v) H' n' gr' → Q (.tup []) H' n') :
    za Tryz.prog 58 [.agg v.avs, .ptr (nx + 1) 0, .ptr (nx + 2) 0] H n Q := by
  have l := c.le
  have g := c.good.len
  refine (zaib v o h.length hv (by omega) c.st (by omega) (by omega) (by omega) (fun ho => (c.lr ho).2)).mono ?_
  rintro r H' n' ⟨rfl, hn, gr', st, q1, q2⟩
  refine hq H' n' gr' hn ⟨st, fun ho => ?_, fun x hx => ?_, c.good.meet hv.okV, by omega⟩
  · obtain ⟨a, b⟩ := q1 ho
    rcases b with ⟨b1, rfl⟩ | b
    · have := c.lr b1; omega
    · omega
  · rw [q2 x (by omega) (by omega) (by omega) (fun ho => by have := c.lr ho; omega)]; exact c.keep x hx
def avI (l : List Int) : List AV := l.map (AV.int .i64)
theorem zacm (N : Nat) : avI (List.replicate N (-1)) = zaj [] N := by
  unfold avI zaj
  rw [List.map_replicate]
  apply List.ext_getElem?
  intro i
  by_cases h : i < N
  · simp [h]
  · rw [List.getElem?_eq_none (by simp; omega), List.getElem?_eq_none (by simp; omega)]
theorem zaft (n i : Nat) (h : i < n) : List.take i (avI (List.replicate i (-1) ++ List.replicate (n - i) 0)) ++ AV.int .i64 (-1) :: List.drop (i + 1) (avI (List.replicate i (-1) ++ List.replicate (n - i) 0)) = avI (List.replicate (i + 1) (-1) ++ List.replicate (n - (i + 1)) 0) := by
  have e : n - i = (n - (i + 1)) + 1 := by omega
  rw [e, List.replicate_succ, List.replicate_succ']
  simp [avI, List.take_append, List.drop_append]
theorem zsy {h : List Cl} {l : List Val} (hr : VM.right h l = true) (hs : h.length * 64 ≤ 140737488355328) (hl : l.length * 32 ≤ 140737488355328) {H : Heap} {nx : Nat} {Q : AV → Heap → Nat → Prop}
    (hq : ∀ H' , RCan h H nx [] H' (nx + 3) 0 → LP (zcf Q) [.ro (h.map Cl.avs), .ro (l.map Val.avs), .ptr (nx + 1) 0, .ptr (nx + 2) 0, .clo 58 [.ptr (nx + 1) 0, .ptr (nx + 2) 0], .int .i64 0, .ro (l.map Val.avs), .int .i64 l.length, .int .i64 0] H' (nx + 3)) :
    zgd (.ro (h.map Cl.avs)) (.ro (l.map Val.avs)) H nx Q := by
  simp [zgd]
  refine ⟨by omega, by omega, ?_⟩
  refine LP.mk (fun m xs H' n' => ∃ i, m = h.length - i ∧ i ≤ h.length ∧ n' = nx + 2 ∧ xs = [.ro (h.map Cl.avs), .ro (l.map Val.avs), .ptr (nx + 1) 0, .int .i64 h.length, .int .i64 i] ∧ H' (nx + 1) = some (.row 1 [.slc nx 0 h.length]) ∧ H' nx = some (.row 1 (avI (List.replicate i (-1) ++ List.replicate (h.length - i) 0))) ∧ Keep nx H' H) h.length
    ⟨0, by omega, by omega, rfl, rfl, ?_, ?_, ?_⟩ ?_
  · rw [Heap.put_at]
  · rw [Heap.put_ne _ _ (by omega), Heap.put_at]
    simp [avI]
  · intro g hg; rw [Heap.put_ne _ _ (by omega), Heap.put_ne _ _ (by omega)]
  rintro m xs H' n' ⟨i, rfl, hi, rfl, rfl, h1, h2, hk⟩
  by_cases hil : i < h.length
  · simp [zge, hil, h1, h2]
    refine ⟨by simp [avI]; omega, h.length - (i + 1), by omega, i + 1, rfl, by omega, i64w (by omega), zaft _ _ hil, hk⟩
  · obtain rfl : i = h.length := by omega
    simp [zge]
    refine hq _ ⟨⟨?_, ?_, ?_, fun ho => absurd rfl ho, by omega, by omega, by omega, fun ho => absurd rfl ho⟩, fun ho => absurd rfl ho, ?_, VM.Good.nil, Nat.le_refl _⟩
    · rw [Heap.put_ne _ _ (by omega)]; exact h1
    · rw [Heap.put_ne _ _ (by omega), h2, ← zacm]; simp
    · rw [Heap.put_at]; rfl
    · intro g hg; rw [Heap.put_ne _ _ (by omega)]; exact hk g hg
end Go.Proofs.YtpbnaaoilgohkaaGreatDoor
set_option maxRecDepth 8000
namespace Go.Proofs.YtpbnaaoilgohkaaGreatDoor
open Go Go.RowKit
theorem zyc {o o' : List Nat} (h : o <+: o') {d n : Nat} (hd : o[d]? = some n) : o'[d]? = some n := by
  obtain ⟨t, rfl⟩ := h
  rw [List.getElem?_append_left (List.getElem?_eq_some_iff.1 hd).1]; exact hd
set_option maxHeartbeats 2000000 in
set_option maxRecDepth 20000 in
theorem zsz (h : List Cl) (l : List Val) (hr : VM.right h l = true) (hs : h.length * 64 ≤ 140737488355328) (hl : l.length * 32 ≤ 140737488355328) {H0 : Heap} {nx i : Nat} (hi : i < l.length) (K16 : J3)
    (hK : ∀ H n gr o, RCan h H0 nx o H n gr → VM.orderGo h (l.drop (i + 1)) o = VM.order h l →
      K16 [.ro (h.map Cl.avs), .ro (l.map Val.avs), .ptr (nx + 1) 0, .ptr (nx + 2) 0, .clo 58 [.ptr (nx + 1) 0, .ptr (nx + 2) 0], .int .i64 o.length, .ro (l.map Val.avs), .int .i64 l.length, .int .i64 (i + 1 : Nat)] H n)
    (H : Heap) (n gr : Nat) (o : List Nat) (d : Nat) (hdo : d ≤ o.length) (st : RCan h H0 nx o H n gr) (hF : VM.orderGo h (l.drop (i + 1)) (VM.drain h (h.length - d) o d) = VM.order h l) :
    LP (zci K16) [.ro (h.map Cl.avs), .ro (l.map Val.avs), .ptr (nx + 1) 0, .ptr (nx + 2) 0, .clo 58 [.ptr (nx + 1) 0, .ptr (nx + 2) 0], .int .i64 d, .ro (l.map Val.avs), .int .i64 l.length, .int .i64 i] H n := by
  refine LP.mk (fun m xs H n => ∃ d gr o, m = h.length - d ∧ d ≤ o.length ∧ xs = [.ro (h.map Cl.avs), .ro (l.map Val.avs), .ptr (nx + 1) 0, .ptr (nx + 2) 0, .clo 58 [.ptr (nx + 1) 0, .ptr (nx + 2) 0], .int .i64 d, .ro (l.map Val.avs), .int .i64 l.length, .int .i64 i] ∧ RCan h H0 nx o H n gr ∧
    VM.orderGo h (l.drop (i + 1)) (VM.drain h (h.length - d) o d) = VM.order h l) (h.length - d) ⟨d, gr, o, rfl, hdo, rfl, st, hF⟩ ?_
  clear st hF hdo
  rintro m xs H n ⟨d, gr, o, rfl, hdo, rfl, st, hF⟩
  by_cases hd : d < o.length
  case neg =>
    obtain rfl : d = o.length := by omega
    simp [zci, st.st.oo, zpz]
    rw [i64w (by omega)]
    rw [VM.drain_end (Nat.le_refl _)] at hF
    exact hK H n gr o st hF
  obtain ⟨c0, hc0⟩ : ∃ n0, o[d]? = some n0 := ⟨_, List.getElem?_eq_getElem hd⟩
  have hc0l : c0 < h.length := st.good.lt c0 (List.mem_of_getElem? hc0)
  have hc : h[c0]? = some h[c0] := List.getElem?_eq_getElem hc0l
  have ho : o ≠ [] := by intro e; subst e; simp at hd
  obtain ⟨w1, w2⟩ := VM.right_okC hr _ (List.mem_of_getElem? hc)
  have hol := st.good.len
  have oo := st.st.oo
  rw [if_neg ho] at oo
  have hrow : (zag o)[d]? = some (.int .i64 c0) := zkv hc0
  obtain ⟨hdr, hrow'⟩ := List.getElem?_eq_some_iff.1 hrow
  suffices key : ∀ K28 : J3, (∀ H n gr o, RCan h H0 nx o H n gr → d + 1 ≤ o.length → VM.orderGo h (l.drop (i + 1)) (VM.drain h (h.length - (d + 1)) o (d + 1)) = VM.order h l →
      K28 [.ro (h.map Cl.avs), .ro (l.map Val.avs), .ptr (nx + 1) 0, .ptr (nx + 2) 0, .clo 58 [.ptr (nx + 1) 0, .ptr (nx + 2) 0], .int .i64 (d + 1 : Nat), .ro (l.map Val.avs), .int .i64 l.length, .int .i64 i] H n) →
      zci K16 K28 [.ro (h.map Cl.avs), .ro (l.map Val.avs), .ptr (nx + 1) 0, .ptr (nx + 2) 0, .clo 58 [.ptr (nx + 1) 0, .ptr (nx + 2) 0], .int .i64 d, .ro (l.map Val.avs), .int .i64 l.length, .int .i64 i] H n from
    key _ fun H n gr o st' hdo' hF' => ⟨_, by omega, d + 1, gr, o, rfl, hdo', rfl, st', hF'⟩
  intro K28 hK28
  rw [show h.length - d = (h.length - (d + 1)) + 1 by omega, VM.drain_step hc0 hc] at hF
  have t1 : h[c0].avs.take 3 = h[c0].left.avs := rfl
  have t2 : (h[c0].avs.drop 3).take 3 = h[c0].right.avs := rfl
  simp [zci, oo, hd, st.st.rr ho, hrow', zpz, hc0l, t1, CALL]
  refine st.meet hs w1 fun H2 n2 gr2 hn2 st2 => ?_
  have p1 := VM.meet_pre o h[c0].left
  have hc1 := zyc p1 hc0
  have ho1 : VM.meet o h[c0].left ≠ [] := by intro e; rw [e] at hc1; simp at hc1
  have oo2 := st2.st.oo
  rw [if_neg ho1] at oo2
  obtain ⟨hdr2, hrow2⟩ := List.getElem?_eq_some_iff.1 (zkv hc1)
  have hd1 := (List.getElem?_eq_some_iff.1 hc1).1
  simp [zkn, oo2, st2.st.rr ho1, hrow2, hd1, hc0l, t2, CALL]
  refine st2.meet hs w2 fun H3 n3 gr3 hn3 st3 => ?_
  simp [zko]
  rw [i64w (by omega)]
  have p2 := VM.meet_pre (VM.meet o h[c0].left) h[c0].right
  exact hK28 H3 n3 gr3 _ st3 (by have := p2.length_le; omega) hF
end Go.Proofs.YtpbnaaoilgohkaaGreatDoor
set_option maxRecDepth 8000
namespace Go.Proofs.YtpbnaaoilgohkaaGreatDoor
open Go Go.RowKit
theorem zqo (v : Val) (o : List Nat) (N : Nat) (hv : VM.WrongOk v N) (hin : VM.In o v) {H : Heap} {nx gp gpl : Nat} (h1 : H gp = some (.row 1 [.slc gpl 0 N])) (h2 : H gpl = some (.row 1 (zaj o N))) (l1 : gp < nx) (l2 : gpl < nx) :
    za Tryz.prog 59 [.agg v.avs, .ptr gp 0] H nx fun r H' _ => Frz H' nx r (.agg (VM.put o v).avs) ∧ Keep nx H' H :=
  (zacl v o N hv hin h1 h2 l1 l2).mono fun r H' _ hh => ⟨by rw [hh.1]; exact .same _ (zts _), hh.2⟩
theorem zy.put {v : Val} {o : List Nat} {N : Nat} (hv : VM.WrongOk v N) (hin : VM.In o v) {H : Heap} {gp gpl n : Nat} (h1 : H gp = some (.row 1 [.slc gpl 0 N])) (h2 : H gpl = some (.row 1 (zaj o N))) {k : Kt} (hk : k (.agg (VM.put o v).avs) [gp, gpl] [] []) :
    zy Tryz.prog (.clo 59 [.ptr gp 0]) [.agg v.avs] H n k := by
  refine zy.of_qcr [gp, gpl] (by simp [h1, h2]) (fun H' n' ha => ?_) (zts _) hk
  obtain ⟨a1, a2⟩ := ha gp (by simp)
  obtain ⟨a3, a4⟩ := ha gpl (by simp)
  exact za.pure (zqo v o N hv hin (by rw [a1]; exact h1) (by rw [a3]; exact h2) a2 a4)
set_option maxHeartbeats 2000000 in
set_option maxRecDepth 20000 in
theorem zwb (h : List Cl) (F : List Nat) (hF : VM.Good h.length F) (hok : ztg h) (hsh : VM.Shut h F F.length) (hs : h.length * 64 ≤ 140737488355328) {H0 : Heap} {nx : Nat} (a2 a4 : AV) (Q : AV → Heap → Nat → Prop) {H1 : Heap} {n1 gr : Nat} (st : RCan h H0 nx F H1 n1 gr)
    (h4 : a4 = if F = [] then AV.nils else .slc gr 0 F.length)
    (hQ : ∀ a3 H' n', n1 ≤ n' → Keep n1 H' H1 → Grow H' n1 n' 6 F.length (rowC (F.map (zay F h))) a3 → Q (.tup [a2, a3]) H' n') :
    LP (zch Q) [.ro (h.map Cl.avs), .clo 59 [.ptr (nx + 1) 0], a2, .nils, a4, .int .i64 F.length, .int .i64 0] H1 n1 := by
  have hFl := hF.len
  refine LP.mk (fun m xs H' n' => ∃ i a3, m = F.length - i ∧ i ≤ F.length ∧ n1 ≤ n' ∧ Keep n1 H' H1 ∧ Grow H' n1 n' 6 i (rowC ((F.take i).map (zay F h))) a3 ∧ xs = [.ro (h.map Cl.avs), .clo 59 [.ptr (nx + 1) 0], a2, a3, a4, .int .i64 F.length, .int .i64 i]) F.length
    ⟨0, .nils, by omega, by omega, Nat.le_refl _, by simp, .inl ⟨rfl, rfl⟩, rfl⟩ ?_
  rintro m xs H n ⟨i, a3, rfl, hi, hn, hk, hg, rfl⟩
  by_cases hil : i < F.length
  case neg =>
    obtain rfl : i = F.length := by omega
    simp [zch]
    rw [List.take_length] at hg
    exact hQ a3 H n hn hk hg
  suffices key : ∀ K75 : J3, (∀ a3 H n, n1 ≤ n → Keep n1 H H1 → Grow H n1 n 6 (i + 1) (rowC ((F.take (i + 1)).map (zay F h))) a3 → K75 [.ro (h.map Cl.avs), .clo 59 [.ptr (nx + 1) 0], a2, a3, a4, .int .i64 F.length, .int .i64 (i + 1 : Nat)] H n) →
      zch Q K75 [.ro (h.map Cl.avs), .clo 59 [.ptr (nx + 1) 0], a2, a3, a4, .int .i64 F.length, .int .i64 i] H n from
    key _ fun a3 H n h1 h2 h3 => ⟨_, by omega, i + 1, a3, rfl, by omega, h1, h2, h3, rfl⟩
  intro K75 hK75
  have hc0 : F[i]? = some F[i] := List.getElem?_eq_getElem hil
  have hc0l := hF.lt F[i] (List.mem_of_getElem? hc0)
  have hc : h[F[i]]? = some h[F[i]] := List.getElem?_eq_getElem hc0l
  obtain ⟨i1, i2⟩ := hsh i F[i] _ hil hc0 hc
  obtain ⟨w1, w2⟩ := hok _ (List.mem_of_getElem? hc)
  have hne : F ≠ [] := by intro e; subst e; simp at hil
  rw [if_neg hne] at h4
  subst h4
  have l := st.le
  obtain ⟨r1, r2⟩ := st.lr hne
  have kk : ∀ g, g < n1 → H g = H1 g := hk
  have hr : H gr = some (.row 1 (zag F)) := by rw [kk _ r2]; exact st.st.rr hne
  have hp : H (nx + 1) = some (.row 1 [.slc nx 0 h.length]) := by rw [kk _ (by omega)]; exact st.st.p
  have hpl : H nx = some (.row 1 (zaj F h.length)) := by rw [kk _ (by omega)]; exact st.st.pl
  obtain ⟨hdr, hrow'⟩ := List.getElem?_eq_some_iff.1 (zkv hc0)
  have t1 : h[F[i]].avs.take 3 = h[F[i]].left.avs := rfl
  have t2 : (h[F[i]].avs.drop 3).take 3 = h[F[i]].right.avs := rfl
  have hcell : zay F h F[i] = ⟨VM.put F h[F[i]].left, VM.put F h[F[i]].right⟩ := by unfold zay VM.putC; rw [hc]; rfl
  simp [zch, hil, hr, hrow', hc0l, t1]
  refine zy.put w1 i1 hp hpl ?_
  simp [zkj, hc0l, t2]
  refine zy.put w2 i2 hp hpl ?_
  have hsn : rowC ((F.take (i + 1)).map (zay F h)) = rowC ((F.take i).map (zay F h)) ++ ((VM.put F h[F[i]].left).avs ++ (VM.put F h[F[i]].right).avs) := by
    rw [znx _ hc0, zack, hcell]; rfl
  generalize VM.put F h[F[i]].left = pl at *
  generalize VM.put F h[F[i]].right = pr at *
  simp [zkk, Val.avs]
  refine Grow.append (new := pl.avs ++ pr.avs) (hg.more (n' := n) (Nat.le_refl _) fun g _ h2 => Heap.put_ne _ _ (by omega)) (by simp; omega) (by rw [Heap.put_at]; rfl) rfl (by simp [Val.avs]) (by omega) (by omega) (by omega) fun rd D hD hk2 hg2 => ?_
  rw [← hsn] at hg2
  rw [i64w (by omega)]
  have := hK75 _ _ _ (by omega) (fun g hg => (hk2 g hg).trans ((Heap.put_ne _ _ (by omega)).trans (hk g hg))) hg2
  simpa [Val.avs] using this
end Go.Proofs.YtpbnaaoilgohkaaGreatDoor
set_option maxRecDepth 8000
namespace Go.Proofs.YtpbnaaoilgohkaaGreatDoor
open Go Go.RowKit
set_option maxHeartbeats 2000000 in
set_option maxRecDepth 20000 in
theorem zxr (h : List Cl) (l : List Val) (F : List Nat) (hl : l.length * 32 ≤ 140737488355328) (hs : h.length * 64 ≤ 140737488355328) (hF : VM.Good h.length F) (hok : ztg h) (hsh : VM.Shut h F F.length) (hv : ∀ v ∈ l, VM.WrongOk v h.length) (hin : ∀ v ∈ l, VM.In F v) {H0 : Heap} {nx : Nat} (Q : AV → Heap → Nat → Prop) {H1 : Heap} {n1 gr : Nat} (st : RCan h H0 nx F H1 n1 gr)
    (hQ : ∀ a2 a3 H' n' n2, Keep n1 H' H1 → n1 ≤ n2 → n2 ≤ n' → Grow H' n1 n2 3 l.length (rowV (l.map (VM.put F))) a2 → Grow H' n2 n' 6 F.length (rowC (F.map (zay F h))) a3 → Q (.tup [a2, a3]) H' n') :
    LP (zcg Q) [.ro (h.map Cl.avs), .ptr (nx + 2) 0, .clo 59 [.ptr (nx + 1) 0], .nils, .ro (l.map Val.avs), .int .i64 l.length, .int .i64 0] H1 n1 := by
  have hFl := hF.len
  refine LP.mk (fun m xs H' n' => ∃ i a3, m = l.length - i ∧ i ≤ l.length ∧ n1 ≤ n' ∧ Keep n1 H' H1 ∧ Grow H' n1 n' 3 i (rowV ((l.take i).map (VM.put F))) a3 ∧ xs = [.ro (h.map Cl.avs), .ptr (nx + 2) 0, .clo 59 [.ptr (nx + 1) 0], a3, .ro (l.map Val.avs), .int .i64 l.length, .int .i64 i]) l.length
    ⟨0, .nils, by omega, by omega, Nat.le_refl _, by simp, .zero, rfl⟩ ?_
  rintro m xs H n ⟨i, a3, rfl, hi, hn, hk, hg, rfl⟩
  have hk' : ∀ g, g < n1 → H g = H1 g := hk
  have stn : RCan h H0 nx F H n gr := by
    have l0 := st.le
    exact ⟨⟨by rw [hk' _ (by omega)]; exact st.st.p, by rw [hk' _ (by omega)]; exact st.st.pl, by rw [hk' _ (by omega)]; exact st.st.oo, fun ho => by rw [hk' _ (st.lr ho).2]; exact st.st.rr ho, st.st.d1, st.st.d2, st.st.d3, st.st.d4⟩, fun ho => by have := st.lr ho; omega, fun g hg => by rw [hk' _ (by omega)]; exact st.keep g hg, st.good, by omega⟩
  by_cases hil : i < l.length
  case neg =>
    obtain rfl : i = l.length := by omega
    rw [List.take_length] at hg
    simp [zcg, stn.st.oo, zpz]
    refine zwb h F hF hok hsh hs a3 _ Q stn rfl fun a4 H' n' hn2 hk2 hg2 => ?_
    refine hQ a3 a4 H' n' n (fun g hg => (hk2 g (by omega)).trans (hk g hg)) hn hn2 (hg.more (Nat.le_refl _) fun g _ h2 => hk2 g h2) hg2
  suffices key : ∀ K56 : J3, (∀ a3 H n, n1 ≤ n → Keep n1 H H1 → Grow H n1 n 3 (i + 1) (rowV ((l.take (i + 1)).map (VM.put F))) a3 → K56 [.ro (h.map Cl.avs), .ptr (nx + 2) 0, .clo 59 [.ptr (nx + 1) 0], a3, .ro (l.map Val.avs), .int .i64 l.length, .int .i64 (i + 1 : Nat)] H n) →
      zcg Q K56 [.ro (h.map Cl.avs), .ptr (nx + 2) 0, .clo 59 [.ptr (nx + 1) 0], a3, .ro (l.map Val.avs), .int .i64 l.length, .int .i64 i] H n from
    key _ fun a3 H n h1 h2 h3 => ⟨_, by omega, i + 1, a3, rfl, by omega, h1, h2, h3, rfl⟩
  intro K56 hK56
  have hvl : l[i]? = some l[i] := List.getElem?_eq_getElem hil
  have w := hv _ (List.mem_of_getElem? hvl)
  have hi1 := hin _ (List.mem_of_getElem? hvl)
  have tv : l[i].avs.take 3 = l[i].avs := rfl
  have l0 := stn.le
  simp [zcg, hil, tv, CALL]
  refine ⟨fun x hx => zbe (zbd _ x hx), ?_⟩
  refine za.pure_call (zqo l[i] F h.length w hi1 (gp := nx + 1) (gpl := nx) (by rw [Heap.put_ne _ _ (by omega)]; exact stn.st.p) (by rw [Heap.put_ne _ _ (by omega)]; exact stn.st.pl) (by omega) (by omega)) ?_
  have hsn : rowV ((l.take (i + 1)).map (VM.put F)) = rowV ((l.take i).map (VM.put F)) ++ (VM.put F l[i]).avs := by rw [zds hvl, List.map_append, List.map_singleton, zacj]
  generalize VM.put F l[i] = rv at *
  have tr : rv.avs.take 3 = rv.avs := rfl
  simp [zkl, tr]
  refine Grow.app (new := rv.avs) (hg.more (n' := n) (Nat.le_refl _) fun g _ h2 => ?_) (by simp; omega) (Heap.put_at _ _ _) rfl (List.all_eq_true.2 fun x hx => zbe (zbd _ x hx)) (by omega) (by omega) (by omega) fun H' hk2 hg2 => ?_
  · rw [Heap.put_ne _ _ (by omega), Heap.put_ne _ _ (by omega)]
  rw [← hsn] at hg2
  rw [i64w (by omega)]
  exact hK56 _ _ _ (by omega) (fun g hg => (hk2 g hg).trans (by rw [Heap.put_ne _ _ (by omega), Heap.put_ne _ _ (by omega)]; exact hk g hg)) hg2
set_option maxHeartbeats 2000000 in
set_option maxRecDepth 20000 in
theorem zxs (h : List Cl) (l : List Val) (hr : VM.right h l = true) (hs : h.length * 64 ≤ 140737488355328) (hl : l.length * 32 ≤ 140737488355328) : QC Tryz.prog 36 [.ro (h.map Cl.avs), .ro (l.map Val.avs)] (.tup [.ro ((VM.canonV h l).map Val.avs), .ro ((VM.canonC h l).map Cl.avs)]) := by
  refine QC.of' fun H nx => zod _ _ H nx _ ?_
  refine zsy hr hs hl fun H1 st0 => ?_
  have hok : ztg h := VM.right_okC hr
  have hv := VM.right_okV hr
  refine LP.mk (fun m xs H' n' => ∃ i gr o, m = l.length - i ∧ i ≤ l.length ∧ xs = [.ro (h.map Cl.avs), .ro (l.map Val.avs), .ptr (nx + 1) 0, .ptr (nx + 2) 0, .clo 58 [.ptr (nx + 1) 0, .ptr (nx + 2) 0], .int .i64 o.length, .ro (l.map Val.avs), .int .i64 l.length, .int .i64 i] ∧
    RCan h H nx o H' n' gr ∧ VM.orderGo h (l.drop i) o = VM.order h l) l.length ⟨0, 0, [], by omega, by omega, rfl, st0, rfl⟩ ?_
  rintro m xs H2 n2 ⟨i, gr, o, rfl, hi, rfl, st, hF⟩
  by_cases hil : i < l.length
  case neg =>
    obtain rfl : i = l.length := by omega
    have hFo : o = VM.order h l := by rw [← hF, List.drop_length]; rfl
    obtain ⟨hsh, hin⟩ := VM.orderGo_shut (VM.okH hok) l [] (fun v hx => (hv v hx).okV) VM.Good.nil (fun j n c hj => by simp at hj)
    have hsh' : VM.Shut h (VM.order h l) (VM.order h l).length := hsh
    have hin' : ∀ v ∈ l, VM.In (VM.order h l) v := hin
    have hg := st.good
    subst hFo
    simp [zcf]
    refine zxr h l _ hl hs hg hok hsh' hv hin' _ st fun a2 a3 H' n' n3 hk hn3 hn' hg1 hg2 => ?_
    have l0 := st.le
    refine ⟨?_, fun g hg => (hk g (by omega)).trans (st.keep g hg)⟩
    rw [zuj hg.lt]
    refine Frz.tup2 (hg1.frz (by omega) (by simp [VM.canonV]) (zcq _) rfl fun c hc => zbf (zdt _ c hc)) (hg2.frz (by omega) (by simp) (zdf _) rfl fun c hc => zbf (zou _ c hc))
  have hvl : l[i]? = some l[i] := List.getElem?_eq_getElem hil
  have w := hv _ (List.mem_of_getElem? hvl)
  have tv : l[i].avs.take 3 = l[i].avs := rfl
  have hdrop : l.drop i = l[i] :: l.drop (i + 1) := List.drop_eq_getElem_cons hil
  rw [hdrop] at hF
  have hF' : VM.orderGo h (l.drop (i + 1)) (VM.drain h (h.length - o.length) (VM.meet o l[i]) o.length) = VM.order h l := hF
  have l0 := st.le
  suffices key : ∀ K16 : J3, (∀ H' n' gr o, RCan h H nx o H' n' gr → VM.orderGo h (l.drop (i + 1)) o = VM.order h l →
      K16 [.ro (h.map Cl.avs), .ro (l.map Val.avs), .ptr (nx + 1) 0, .ptr (nx + 2) 0, .clo 58 [.ptr (nx + 1) 0, .ptr (nx + 2) 0], .int .i64 o.length, .ro (l.map Val.avs), .int .i64 l.length, .int .i64 (i + 1 : Nat)] H' n') →
      zcf (fun v H' _ => Frz H' nx v (.tup [.ro ((VM.canonV h l).map Val.avs), .ro ((VM.canonC h l).map Cl.avs)]) ∧ Keep nx H' H) K16 [.ro (h.map Cl.avs), .ro (l.map Val.avs), .ptr (nx + 1) 0, .ptr (nx + 2) 0, .clo 58 [.ptr (nx + 1) 0, .ptr (nx + 2) 0], .int .i64 o.length, .ro (l.map Val.avs), .int .i64 l.length, .int .i64 i] H2 n2 from
    key _ fun H' n' gr o h1 h2 => ⟨_, by omega, i + 1, gr, o, rfl, by omega, rfl, h1, h2⟩
  intro K16 hK16
  simp [zcf, hil, tv, CALL]
  refine ⟨fun x hx => zbe (zbd _ x hx), ?_⟩
  refine (st.more (H' := H2.put n2 (some (AObj.row 3 l[i].avs))) (n' := n2 + 1) (by omega) (fun g hg => Heap.put_ne _ _ (by omega))).meet hs w fun H3 n3 gr3 hn3 st3 => ?_
  simp [zkm]
  exact zsz h l hr hs hl hil K16 (fun H' n' gr o h1 h2 => hK16 H' n' gr o h1 h2) H3 n3 gr3 _ o.length (VM.meet_pre o l[i]).length_le st3 hF'
end Go.Proofs.YtpbnaaoilgohkaaGreatDoor
