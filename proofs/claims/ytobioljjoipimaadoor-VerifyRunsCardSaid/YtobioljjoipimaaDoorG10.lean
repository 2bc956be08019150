/- The machine's small functions: push, where the order is drawn. The machine's step: one instruction. A copy of an agent: the program's part. A copy of an agent: the frames' part. A copy of an agent. The machine goes on: Run. The machine goes on: Run. A program, and an agent, are the same as themselves. The machine: Answer. What a call is handed is read by value from then on, in part. The machine: New. What is made of two values: the document's function. The laws' first question, asked of closed facts. The machine: Pack. The machine: Pack, all of it. Words, and instructions: what the document's functions make of them. Rows of numbers. Heights: what the document's function makes of a code. Programs: what the document's function says is wrong with them. Agents: what the document's function says is wrong with one. Agents: what the document's function says is wrong with one, on. Agents: what the document's function says is wrong with one, whole. A copy; and which agents, at which places, may be. How great an agent is behind so many steps. VmTells, walked. The structs that laws are handed, read as data. What is to be shown of each function, written out. -/
import Derived.Test.YtobioljjoipimaaDoorG9
import Derived.Test.YtobioljjoipimaaDoorG6
import Derived.Test.YtobioljjoipimaaDoorG7
import Derived.Test.YtobioljjoipimaaDoorG8
set_option linter.unusedSimpArgs false
set_option linter.unusedVariables false
set_option maxRecDepth 8000
namespace Go.Proofs.YtobioljjoipimaaDoor
open Go Go.RowKit
section
variable {H0 H : Heap} {lo n gr gs gf : Nat} {id trip : Int} {p : Prg} {s : Spt} {fs : List Frm} {ss : List (AV × AV)} {f : Frm} {va sa : AV} {h : List Cl} {ha : AV} {m : Pmt} {e : Evt}
structure zwx (H : Heap) (gr gf k j : Nat) (cs cells : List AV) (sa : AV) : Prop where
  run : ∃ rc, H gr = some (.row 13 rc) ∧ rc[4]? = some (.slc gf 0 (k + 1))
  fr : H gf = some (.row 4 cs)
  frl : (k + 1) * 4 ≤ cs.length
  cell : cs[k * 4 + 3]? = some sa
  st : Slot H 3 j cells sa
  len : cells.length = j * 3
  kb : k ≤ 4096
  jb : j ≤ 4096
  of : gf ∉ own sa
def zdy (cs : List AV) (k g j : Nat) : List AV := cs.take (k * 4 + 3) ++ AV.slc g 0 (j + 1) :: cs.drop (k * 4 + 3 + 1)
set_option maxHeartbeats 1000000 in
theorem zzn {k j : Nat} {cs cells : List AV} (v : Val) (st : zwx H gr gf k j cs cells sa) (l1 : gr < n) (l2 : gf < n) (l3 : ∀ g ∈ own sa, g < n) {Q : AV → Heap → Nat → Prop}
    (hq : ∀ H' n' g', n ≤ g' → g' < n' → H' gf = some (.row 4 (zdy cs k g' j)) → H' g' = some (.row 3 (cells ++ v.avs)) → (∀ x, x < n → x ≠ gf → x ∉ own sa → H' x = H x) → Q (.tup []) H' n') : za Tryd.prog 85 [.ptr gr 0, .agg v.avs] H n Q := by
  refine zlv _ _ H n _ ?_
  simp [zhh]
  obtain ⟨rc, h1, h2⟩ := st.run
  have c1 := st.fr
  have c3 := st.frl
  have c7 := st.cell
  have rn0 : gr ≠ n := by omega
  have fn0 : gf ≠ n := by omega
  refine zabg (rc := rc) (cs := cs) (k := k) (by rw [Heap.put_ne _ _ rn0]; exact h1) h2 (by rw [Heap.put_ne _ _ fn0]; exact c1) st.kb ?_
  have tv : v.avs.take 3 = v.avs := rfl
  have lv : v.avs.length = 3 := rfl
  have fnn : gf ≠ n + 1 := by omega
  have gn1 : n ≠ n + 1 := by omega
  have hlen := st.len
  have hjb := st.jb
  simp [zhi, c1, c7, tv, lv, fn0, gn1]
  have sa1 : Slot ((H.put n (some (AObj.row 3 v.avs))).put (n + 1) (some (AObj.row 3 v.avs))) 3 j cells sa := st.st.keep fun g hg => by
    have := l3 g hg
    rw [Heap.put_ne _ _ (by omega), Heap.put_ne _ _ (by omega)]
  refine Slot.append (new := v.avs) sa1 st.len (Heap.put_at _ _ _) rfl (List.all_eq_true.2 (zgh v)) (by omega) fun rd D hD q1 q2 => ?_
  have hgf : (((H.put n (some (AObj.row 3 v.avs))).put (n + 1) (some (AObj.row 3 v.avs))).apply D) gf = some (.row 4 cs) := by
    rw [q2 gf st.of (by omega), Heap.put_ne _ _ fnn, Heap.put_ne _ _ fn0]; exact c1
  have hold : ∀ g, g < n → g ∉ own sa → (((H.put n (some (AObj.row 3 v.avs))).put (n + 1) (some (AObj.row 3 v.avs))).apply D) g = H g := fun g hg hs => by
    rw [q2 g hs (by omega), Heap.put_ne _ _ (by omega), Heap.put_ne _ _ (by omega)]
  generalize ((H.put n (some (AObj.row 3 v.avs))).put (n + 1) (some (AObj.row 3 v.avs))).apply D = HD at *
  simp [hgf]
  refine ⟨by omega, by omega, zwo (by simp) (hq _ _ (n + 1 + 1) (by omega) (by omega) (by rw [Heap.put_at]; rfl) (by rw [Heap.put_ne _ _ (by omega)]; exact q1) fun x h1 h2 h3 => by rw [Heap.put_ne _ _ h2]; exact hold x h1 h3)⟩
def gone (sa : AV) : zi := (own sa).map fun g => (g, none)
theorem zx.push {k j : Nat} {cs cells : List AV} {v : Val} (st : zwx H gr gf k j cs cells sa) (hc : ∀ c ∈ cells, scal c = true) {kt : Kt} (hne : ∀ g, g ∈ own sa → g ≠ n ∧ g ≠ gf) (hfn : gf ≠ n) (hk : kt (.tup []) (gr :: gf :: own sa) [n] (gone sa ++ [(gf, some (.row 4 (zdy cs k n j))), (n, some (.row 3 (cells ++ v.avs)))])) :
    zx Tryd.prog (.clo 85 []) [.ptr gr 0, .agg v.avs] H n kt := by
  obtain ⟨rc, h1, h2⟩ := st.run
  have c1 := st.fr
  have dg : ∀ x, x ∈ domD (gone sa) ↔ x ∈ own sa := fun x => by simp [gone, domD]
  have dD : ∀ x, x ∈ domD (gone sa ++ [(gf, some (.row 4 (zdy cs k n j))), (n, some (.row 3 (cells ++ v.avs)))]) ↔ x ∈ own sa ∨ x = gf ∨ x = n := fun x => by simp [domD, gone]
  have app : ∀ Hx : Heap, (Hx.apply (gone sa ++ [(gf, some (.row 4 (zdy cs k n j))), (n, some (.row 3 (cells ++ v.avs)))])) gf = some (.row 4 (zdy cs k n j)) ∧ (Hx.apply (gone sa ++ [(gf, some (.row 4 (zdy cs k n j))), (n, some (.row 3 (cells ++ v.avs)))])) n = some (.row 3 (cells ++ v.avs)) ∧
      ∀ x ∈ own sa, (Hx.apply (gone sa ++ [(gf, some (.row 4 (zdy cs k n j))), (n, some (.row 3 (cells ++ v.avs)))])) x = none := fun Hx => by
    have e : ∀ (D1 D2 : zi) (Hy : Heap), Hy.apply (D1 ++ D2) = (Hy.apply D1).apply D2 := fun D1 D2 Hy => by
      induction D1 generalizing Hy with
      | nil => rfl
      | cons d D1 ih => obtain ⟨g, o⟩ := d; exact ih (Hy.put g o)
    rw [e]
    simp only [zcd, zct]
    refine ⟨by rw [Heap.put_ne _ _ hfn, Heap.put_at], by rw [Heap.put_at], fun x hx => ?_⟩
    obtain ⟨a, b⟩ := hne x hx
    rw [Heap.put_ne _ _ a, Heap.put_ne _ _ b]
    cases sa <;> simp [own] at hx
    subst hx
    simp [gone, own]
  refine ⟨_, gr :: gf :: own sa, [n], _, .inr (.inl rfl), LC.of_callsN (fun x hx => ?_) (fun x hx => ?_) (fun A hA hB H' n' hag => ?_), hk⟩
  · simp at hx
    rcases hx with rfl | rfl | hx
    · rw [h1]; rfl
    · rw [c1]; rfl
    · rcases st.st with ⟨_, rfl | rfl⟩ | ⟨g, gcs, rfl, g1, _⟩
      · simp [own] at hx
      · simp [own] at hx
      · simp [own] at hx; subst hx; rw [g1]; rfl
  · rcases (dD x).1 hx with h | h | h
    · exact .inl (by simp [h])
    · exact .inl (by simp [h])
    · exact .inr h
  · obtain ⟨a1, a2⟩ := hag gr (by simp)
    obtain ⟨a3, a4⟩ := hag gf (by simp)
    have st' : zwx H' gr gf k j cs cells sa := ⟨⟨rc, by rw [a1]; exact h1, h2⟩, by rw [a3]; exact c1, st.frl, st.cell, st.st.keep fun g hg => (hag g (by simp [hg])).1, st.len, st.kb, st.jb, st.of⟩
    refine zzn v st' a2 a4 (fun g hg => (hag g (by simp [hg])).2) fun H'' n'' g' hg1 hg2 q1 q2 old => ?_
    obtain ⟨p1, p2, p3⟩ := app H'
    have hb := hB gf (by simp) _ c1
    refine ⟨g', hg1, hg2, .same _ (.tup _ fun j v hv => by simp at hv), fun x hx hd => ?_, fun x o hx hxn ho => ?_, ⟨_, _, p2, q2, rfl, rfl, fun j x u hx hu => ?_⟩⟩
    · have := (not_congr (dD x)).1 hd
      simp only [not_or] at this
      exact old x hx this.2.1 this.1
    · rcases (dD x).1 hx with h | h | h
      · rw [p3 x h] at ho; cases ho
      · subst h
        rw [p1] at ho
        cases ho
        refine ⟨_, q1, rfl, by simp [zdy], fun j x u hx hu => ?_⟩
        unfold zdy at hx hu
        have hl : (cs.take (k * 4 + 3)).length = k * 4 + 3 := by have := st.frl; simp; omega
        by_cases hj : j < k * 4 + 3
        · rw [List.getElem?_append_left (by omega)] at hx hu
          rw [hx] at hu; cases hu
          rw [List.getElem?_take, if_pos hj] at hx
          exact .same _ (hb j x hx)
        · rw [List.getElem?_append_right (by omega)] at hx hu
          rw [hl] at hx hu
          cases hjj : j - (k * 4 + 3) with
          | zero =>
            rw [hjj] at hx hu
            simp at hx hu; subst hx; subst hu
            exact .slc _ _
          | succ i =>
            rw [hjj] at hx hu
            simp only [List.getElem?_cons_succ] at hx hu
            rw [hx] at hu; cases hu
            rw [List.getElem?_drop] at hx
            exact .same _ (hb _ x hx)
      · exact absurd h hxn
    · rw [hx] at hu; cases hu
      have hm := List.mem_of_getElem? hx
      refine .same _ (zey ?_)
      rcases List.mem_append.1 hm with h | h
      · exact hc x h
      · exact zda v x h
end
end Go.Proofs.YtobioljjoipimaaDoor
namespace Go.Proofs.YtobioljjoipimaaDoor
open Go Go.RowKit
theorem zabj {st : List Val} (h : 1 ≤ st.length) : st = VM.low 1 st ++ [VM.top1 st] := by
  unfold VM.low VM.top1
  have : st[st.length - 1]? = some st[st.length - 1] := List.getElem?_eq_getElem (by omega)
  rw [List.getD_eq_getElem?_getD, this]
  have e := zub this
  rw [show st.length - 1 + 1 = st.length by omega, List.take_length] at e
  exact e
theorem zahz {st : List Val} (h : 2 ≤ st.length) : st = VM.low 2 st ++ [VM.top2 st, VM.top1 st] := by
  have h1 := zabj (st := st) (by omega)
  have : st[st.length - 2]? = some st[st.length - 2] := List.getElem?_eq_getElem (by omega)
  have e := zub this
  rw [show st.length - 2 + 1 = st.length - 1 by omega] at e
  have e2 : VM.low 1 st = VM.low 2 st ++ [VM.top2 st] := by
    unfold VM.low VM.top2
    rw [List.getD_eq_getElem?_getD, this]; exact e
  rw [e2] at h1
  simpa using h1
theorem zacl {p : Prg} {fs : List Frm} {fn : Int} (h : VM.WChain p fs fn) : ∀ g ∈ fs, ∃ k, VM.Waits p g k := by
  induction h with
  | nil => intro g hg; simp at hg
  | snoc gs g0 fn _ w ih =>
    intro g hg
    rcases List.mem_append.1 hg with h | h
    · exact ih g h
    · simp at h; subst h; exact ⟨_, w⟩
theorem ztz {a : Agt} {fs : List Frm} {f : Frm} (l : VM.Live a fs f) : ∀ g ∈ fs, g.stack.length ≤ 15 := by
  intro g hg
  obtain ⟨k, w⟩ := zacl l.chain g hg
  have ok := l.ok g (by simp [hg])
  have pr := (zz l.prog).1 _ (VM.code_mem ok.code)
  have hm := (zdf pr.2.1 pr.2.2).2 _ (List.mem_of_getElem? w.hei)
  omega
theorem zuy {p : Prg} (h : VM.program p = 0) : ∀ w ∈ p.words, w.length ≤ 12 := by
  unfold VM.program at h
  split at h
  · omega
  split at h
  · omega
  split at h
  · omega
  rename_i hw
  have hw' : p.words.all VM.word = true := by simpa using hw
  intro w hm
  have := List.all_eq_true.1 hw' w hm
  unfold VM.word at this
  simp at this
  exact this.1
section
variable {H0 H : Heap} {lo n gr gs gf : Nat} {id trip : Int} {p : Prg} {s : Spt} {fs : List Frm} {ss : List (AV × AV)} {f : Frm} {va sa : AV} {h : List Cl} {ha : AV} {m : Pmt} {e : Evt}
end
section
variable {H0 H : Heap} {lo n gr gs gf : Nat} {a : Agt} {s : Spt} {fs : List Frm} {ss : List (AV × AV)} {f : Frm} {va sa : AV} {ha : AV}
end
end Go.Proofs.YtobioljjoipimaaDoor
set_option maxRecDepth 8000
namespace Go.Proofs.YtobioljjoipimaaDoor
open Go Go.RowKit
theorem zaaa (l : List Ins) : ∀ x ∈ l.map Ins.avs, x.length = 3 := by intro x hx; obtain ⟨v, _, rfl⟩ := List.mem_map.1 hx; rfl
theorem zabm (l : List Ins) : ∀ x ∈ l.map Ins.avs, ∀ c ∈ x, scal c = true := by
  intro x hx c hc
  obtain ⟨v, _, rfl⟩ := List.mem_map.1 hx
  simp [Ins.avs] at hc
  rcases hc with rfl | rfl | rfl <;> rfl
theorem zabl (l : List Str) : ∀ x ∈ l.map (fun w => [AV.str w]), ∀ c ∈ x, scal c = true := by
  intro x hx c hc
  obtain ⟨v, _, rfl⟩ := List.mem_map.1 hx
  simp at hc
  subst hc; rfl
def zga (H : Heap) (R : Nat → Prop) (sz : Nat) (xs : List (List AV)) (a : AV) : Prop := (xs = [] ∧ a = .nils) ∨ ∃ g, R g ∧ a = .slc g 0 xs.length ∧ H g = some (.row sz xs.flatten)
theorem zga.more {H H' : Heap} {R R' : Nat → Prop} {sz : Nat} {xs : List (List AV)} {a : AV} (h : zga H R sz xs a) (hR : ∀ g, R g → R' g ∧ H' g = H g) : zga H' R' sz xs a := by
  rcases h with h | ⟨g, h1, h3, h4⟩
  · exact .inl h
  · exact .inr ⟨g, (hR g h1).1, h3, by rw [(hR g h1).2]; exact h4⟩
theorem zga.one {H : Heap} {R : Nat → Prop} {sz : Nat} {xs : List (List AV)} {a : AV} (h : zga H R sz xs a) : a.cells = [a] ∧ a.one = true ∧ a.sure = true := by
  rcases h with ⟨_, rfl⟩ | ⟨g, _, rfl, _⟩ <;> exact ⟨rfl, rfl, rfl⟩
theorem Slot.one {H : Heap} {sz k : Nat} {cells : List AV} {a : AV} (h : Slot H sz k cells a) : a.cells = [a] ∧ a.one = true ∧ a.sure = true := by
  rcases h with ⟨_, rfl | rfl⟩ | ⟨g, cs, rfl, _⟩ <;> exact ⟨rfl, rfl, rfl⟩
theorem zga.frz {H : Heap} {R : Nat → Prop} {sz : Nat} {xs : List (List AV)} {a : AV} {G : Nat → Prop} (h : zga H R sz xs a) (hG : ∀ g, R g → G g) (hs : ∀ x ∈ xs, x.length = sz) : FrzP H G a (.ro xs) := by
  rcases h with ⟨rfl, rfl⟩ | ⟨g, h1, rfl, h4⟩
  · exact .nils
  · refine FrzP.row (hG g h1) h4 rfl hs (fun i x j v hx hv => ?_) (by rw [zat hs]; exact Nat.le_refl _)
    have hj : j < sz := by
      have := (List.getElem?_eq_some_iff.1 hv).1
      rw [hs x (List.mem_of_getElem? hx)] at this; exact this
    have e1 := zfb hs hx
    have := congrArg (·[j]?) e1
    simp only [List.getElem?_take, List.getElem?_drop, hj, if_true] at this
    exact ⟨v, by rw [this]; exact hv, .same v⟩
def zfe (H : Heap) (R : Nat → Prop) (cs : List Cod) (cells : List AV) : Prop := cells.length = cs.length * 3 ∧ ∀ (k : Nat) (c : Cod), cs[k]? = some c → cells[k * 3]? = some (.int .i64 c.params) ∧ cells[k * 3 + 1]? = some (.int .i64 c.vars) ∧ ∃ a, cells[k * 3 + 2]? = some a ∧ zga H R 3 (c.ins.map Ins.avs) a
theorem zfe.more {H H' : Heap} {R R' : Nat → Prop} {cs : List Cod} {cells : List AV} (h : zfe H R cs cells) (hR : ∀ g, R g → R' g ∧ H' g = H g) : zfe H' R' cs cells :=
  ⟨h.1, fun k c hc => let ⟨a, b, x, h1, h2⟩ := h.2 k c hc; ⟨a, b, x, h1, h2.more hR⟩⟩
theorem zfe.snoc {H : Heap} {R : Nat → Prop} {cs : List Cod} {cells : List AV} {c : Cod} {a : AV} (h : zfe H R cs cells) (ha : zga H R 3 (c.ins.map Ins.avs) a) : zfe H R (cs ++ [c]) (cells ++ [.int .i64 c.params, .int .i64 c.vars, a]) := by
  refine ⟨by simp [h.1]; omega, fun k c' hc => ?_⟩
  by_cases hk : k < cs.length
  · rw [List.getElem?_append_left hk] at hc
    obtain ⟨q1, q2, x, q3, q4⟩ := h.2 k c' hc
    have hl := h.1
    refine ⟨by rw [List.getElem?_append_left (by omega)]; exact q1, by rw [List.getElem?_append_left (by omega)]; exact q2, x, by rw [List.getElem?_append_left (by omega)]; exact q3, q4⟩
  · have hk' : k = cs.length := by have := (List.getElem?_eq_some_iff.1 hc).1; simp at this; omega
    subst hk'
    rw [List.getElem?_append_right (Nat.le_refl _)] at hc
    simp at hc
    subst hc
    have hl := h.1
    refine ⟨?_, ?_, a, ?_, ha⟩
    · rw [List.getElem?_append_right (by omega), hl]; simp
    · rw [List.getElem?_append_right (by omega), hl, show cs.length * 3 + 1 - cs.length * 3 = 1 by omega]; rfl
    · rw [List.getElem?_append_right (by omega), hl, show cs.length * 3 + 2 - cs.length * 3 = 2 by omega]; rfl
theorem zfe.frz {H : Heap} {R : Nat → Prop} {cs : List Cod} {cells : List AV} {a : AV} {G : Nat → Prop} (h : zfe H R cs cells) (hG : ∀ g, R g → G g) (ha : Slot H 3 cs.length cells a) (hA : ∀ g ∈ own a, G g) : FrzP H G a (.ro (cs.map Cod.avs)) := by
  rcases ha with ⟨h0, rfl | rfl⟩ | ⟨g, cs', rfl, h1, h2, h3⟩
  · rw [List.eq_nil_of_length_eq_zero h0]; exact .nils
  · rw [List.eq_nil_of_length_eq_zero h0]; exact .zs
  · refine FrzP.row (hA g (by simp [own])) h1 (by simp) (fun x hx => ?_) (fun i x j v hx hv => ?_) h3
    · obtain ⟨c, _, rfl⟩ := List.mem_map.1 hx; rfl
    · rw [List.getElem?_map] at hx
      obtain ⟨c, hc, rfl⟩ := Option.map_eq_some_iff.1 hx
      obtain ⟨q1, q2, y, q3, q4⟩ := h.2 i c hc
      have hi := (List.getElem?_eq_some_iff.1 hc).1
      have up : ∀ (j : Nat) (u : AV), j < 3 → cells[i * 3 + j]? = some u → cs'[i * 3 + j]? = some u := fun j u hj hu => by
        rw [← h2, List.getElem?_take, if_pos (by omega)] at hu; exact hu
      match j, hv with
      | 0, hv => cases hv; exact ⟨_, up 0 _ (by omega) q1, .same _⟩
      | 1, hv => cases hv; exact ⟨_, up 1 _ (by omega) q2, .same _⟩
      | 2, hv => cases hv; exact ⟨y, up 2 _ (by omega) q3, q4.frz hG (zaaa _)⟩
      | j + 3, hv => simp [Cod.avs] at hv
theorem FrzP.keep {H H' : Heap} {G : Nat → Prop} {v u : AV} (h : FrzP H G v u) (hk : ∀ g, G g → H' g = H g) : FrzP H' G v u := by
  induction h with
  | same v => exact .same v
  | nils => exact .nils
  | zs => exact .zs
  | slc g off len sz cells xs hg hH hle hl hsz U hU _ ih => exact .slc g off len sz cells xs hg (by rw [hk g hg]; exact hH) hle hl hsz U hU ih
  | agg xs ys hl _ ih => exact .agg xs ys hl ih
end Go.Proofs.YtobioljjoipimaaDoor
set_option maxRecDepth 8000
namespace Go.Proofs.YtobioljjoipimaaDoor
open Go Go.RowKit
structure zvj (H : Heap) (lo n : Nat) (fs : List Frm) (ss : List (AV × AV)) (fa : AV) (h : List Cl) (ha : AV) : Prop where
  frs : zae H fs ss
  row : Slot H 4 fs.length (frow fs ss) fa
  hp : Slot H 6 h.length (rowC h) ha
  nd : (own fa ++ (own ha ++ owns ss)).Nodup
  bd : ∀ g ∈ own fa ++ (own ha ++ owns ss), lo ≤ g ∧ g < n
structure zwz (H : Heap) (lo n : Nat) (fs : List Frm) (ss : List (AV × AV)) (fa : AV) : Prop where
  frs : zae H fs ss
  row : Slot H 4 fs.length (frow fs ss) fa
  nd : (own fa ++ owns ss).Nodup
  bd : ∀ g ∈ own fa ++ owns ss, lo ≤ g ∧ g < n
theorem zwz.snoc {H X : Heap} {lo n N m : Nat} {fs : List Frm} {ss : List (AV × AV)} {fa : AV} {f : Frm} {va sa : AV} (h : zwz H lo n fs ss fa) (hn : n ≤ N) (hN : N ≤ m) (hlo : lo ≤ N) (hlen : (fs.length + 1) * 64 ≤ 140737488355328)
    (old : ∀ g, g < n → X g = H g) (hv : Slot X 3 f.vars.length (rowV f.vars) va) (hs : Slot X 3 f.stack.length (rowV f.stack) sa) (nd : (own va ++ own sa).Nodup) (bd : ∀ g ∈ own va ++ own sa, N ≤ g ∧ g < m)
    {t : Nat} (ht : X t = some (.row 4 [.int .i64 f.fn, .int .i64 f.at_, va, sa])) {kk : AV → Heap → Nat → Prop}
    (hk : ∀ H' a', (∀ g, g < lo → H' g = X g) → zwz H' lo (m + 1) (fs ++ [f]) (ss ++ [(va, sa)]) a' → kk a' H' (m + 1)) : APP 4 64 fa (.slc t 0 1) X m kk := by
  have hbf : ∀ g ∈ own fa, lo ≤ g ∧ g < n := fun g hg => h.bd g (List.mem_append_left _ hg)
  have hbs : ∀ g ∈ owns ss, lo ≤ g ∧ g < n := fun g hg => h.bd g (List.mem_append_right _ hg)
  obtain ⟨nd1, nd2, nd3⟩ := List.nodup_append.1 h.nd
  have hx := (h.row.keep (H' := X) fun g hg => old g (hbf g hg).2)
  refine Slot.app (bytes := 64) (nx := m) (new := [.int .i64 f.fn, .int .i64 f.at_, va, sa]) hx (zgk h.frs.1) ht rfl (by simp [hv.one, hs.one]) hlen fun H' h1 h2 => ?_
  have keep : ∀ g, g ∈ owns ss → H' g = H g := fun g hg => by
    have := hbs g hg
    rw [h2 g (fun hx => nd3 g hx g hg rfl) (by omega)]; exact old g this.2
  have keep2 : ∀ g, g ∈ own va ++ own sa → H' g = X g := fun g hg => by
    have := bd g hg
    exact h2 g (fun hx => by have := hbf g hx; omega) (by omega)
  refine hk H' _ (fun g hg => h2 g (fun hx => by have := hbf g hx; omega) (by omega)) ⟨(h.frs.keep keep).snoc (hv.keep fun g hg => keep2 g (List.mem_append_left _ hg)) (hs.keep fun g hg => keep2 g (List.mem_append_right _ hg)), ?_, ?_, ?_⟩
  · refine .inr ⟨m, _, by simp, h1, ?_, ?_⟩
    · rw [zgu h.frs.1]; exact List.take_of_length_le (by simp [zgk h.frs.1]; omega)
    · simp [zgk h.frs.1]; omega
  · rw [zcx]
    have e0 : own (AV.slc m 0 (fs.length + 1)) = [m] := rfl
    simp only [List.length_append, List.length_singleton, e0]
    refine List.nodup_append.2 ⟨by simp, List.nodup_append.2 ⟨nd2, nd, fun a ha b hb e => ?_⟩, fun a ha b hb e => ?_⟩
    · have := hbs a ha; have := bd b hb; omega
    · simp at ha; subst ha; subst e
      rcases List.mem_append.1 hb with hb | hb
      · have := hbs _ hb; omega
      · have := bd _ hb; omega
  · intro g hg
    rw [zcx] at hg
    have e0 : own (AV.slc m 0 (fs.length + 1)) = [m] := rfl
    rcases List.mem_append.1 hg with hg | hg
    · simp [own] at hg; omega
    · rcases List.mem_append.1 hg with hg | hg
      · have := hbs g hg; omega
      · have := bd g hg; omega
end Go.Proofs.YtobioljjoipimaaDoor
set_option maxRecDepth 8000
namespace Go.Proofs.YtobioljjoipimaaDoor
open Go Go.RowKit
def zc (id trip : Int) (p : Prg) (fa ha : AV) (m : Pmt) : List AV := [.int .i64 id, .int .i64 trip, .ro (p.codes.map Cod.avs), .ro (p.words.map fun w => [.str w]), fa, ha, .int .i64 m.fuel, .int .i64 m.room, .int .i64 m.hops]
end Go.Proofs.YtobioljjoipimaaDoor
set_option maxRecDepth 8000
namespace Go.Proofs.YtobioljjoipimaaDoor
open Go Go.RowKit
theorem Slot.frzN {H : Heap} {nx sz : Nat} {xs : List (List AV)} {a : AV} (hs : Slot H sz xs.length xs.flatten a) (ho : ∀ g ∈ own a, nx ≤ g) (hsz : ∀ x ∈ xs, x.length = sz) (hb : ∀ x ∈ xs, ∀ c ∈ x, scal c = true) : Frz H nx a (.ro xs) := by
  rcases hs with ⟨h0, rfl | rfl⟩ | ⟨g, cs, rfl, h1, h2, h3⟩
  · rw [List.eq_nil_of_length_eq_zero h0]; exact .nils
  · rw [List.eq_nil_of_length_eq_zero h0]; exact .zs
  · have e : ∀ (i : Nat) (x : List AV) (j : Nat) (v : AV), xs[i]? = some x → x[j]? = some v → cs[0 + i * sz + j]? = some v := fun i x j v hx hv => by
      have hxl : x.length = sz := hsz x (List.mem_of_getElem? hx)
      have hj : j < sz := by have := (List.getElem?_eq_some_iff.1 hv).1; omega
      have hi := (List.getElem?_eq_some_iff.1 hx).1
      have e1 := zfb hsz hx
      have e2 := congrArg (·[j]?) e1
      simp only [List.getElem?_take, List.getElem?_drop, hj, if_true] at e2
      rw [← h2, List.getElem?_take, hv] at e2
      have : i * sz + sz ≤ xs.length * sz := by rw [← Nat.succ_mul]; exact Nat.mul_le_mul_right _ hi
      rw [if_pos (by omega)] at e2
      rw [Nat.zero_add]; exact e2
    refine .slc g 0 _ sz cs xs (ho g (by simp [own])) h1 (by omega) rfl hsz (fun i j => (cs[0 + i * sz + j]?).getD .junk) (fun i x j v hx hv => ?_) (fun i x j v hx hv => ?_)
    · rw [e i x j v hx hv]; rfl
    · rw [e i x j v hx hv]; exact .same _ (zey (hb x (List.mem_of_getElem? hx) v (List.mem_of_getElem? hv)))
theorem Slot.frzV {H : Heap} {nx : Nat} {l : List Val} {a : AV} (hs : Slot H 3 l.length (rowV l) a) (ho : ∀ g ∈ own a, nx ≤ g) : Frz H nx a (.ro (l.map Val.avs)) :=
  Slot.frzN (sz := 3) (by simpa [rowV] using hs) ho (zdt l) (zcw l)
theorem Slot.frzH {H : Heap} {nx : Nat} {l : List Cl} {a : AV} (hs : Slot H 6 l.length (rowC l) a) (ho : ∀ g ∈ own a, nx ≤ g) : Frz H nx a (.ro (l.map Cl.avs)) :=
  Slot.frzN (sz := 6) (by simpa [rowC] using hs) ho (zdc l) (zab l)
theorem zyb : ∀ {fs : List Frm} {ss : List (AV × AV)} {i : Nat} {f : Frm} {s : AV × AV}, fs[i]? = some f → ss[i]? = some s → (frow fs ss)[i * 4]? = some (.int .i64 f.fn) ∧ (frow fs ss)[i * 4 + 1]? = some (.int .i64 f.at_) ∧ (frow fs ss)[i * 4 + 2]? = some s.1 ∧ (frow fs ss)[i * 4 + 3]? = some s.2
  | [], _, i, f, s, h, _ => by simp at h
  | _ :: _, [], i, f, s, _, h => by simp at h
  | g :: fs, t :: ss, 0, f, s, h1, h2 => by simp at h1 h2; subst h1; subst h2; exact ⟨rfl, rfl, rfl, rfl⟩
  | g :: fs, t :: ss, i + 1, f, s, h1, h2 => by
    have := zyb (fs := fs) (ss := ss) (i := i) (f := f) (s := s) (by simpa using h1) (by simpa using h2)
    have e : ∀ k, (frow (g :: fs) (t :: ss))[(i + 1) * 4 + k]? = (frow fs ss)[i * 4 + k]? := fun k => by
      rw [show (i + 1) * 4 + k = i * 4 + k + 1 + 1 + 1 + 1 by omega]
      simp [frow]
    exact ⟨(e 0).trans this.1, (e 1).trans this.2.1, (e 2).trans this.2.2.1, (e 3).trans this.2.2.2⟩
theorem zae.frz {H : Heap} {nx : Nat} {fs : List Frm} {ss : List (AV × AV)} {g k : Nat} {cs : List AV} (h : zae H fs ss) (h1 : H g = some (.row 4 cs)) (h2 : cs.take (fs.length * 4) = frow fs ss) (h3 : fs.length * 4 ≤ cs.length) (hg : nx ≤ g) (ho : ∀ x ∈ owns ss, nx ≤ x) (hk : k = fs.length) : Frz H nx (.slc g 0 k) (.ro (fs.map Frm.avs)) := by
  subst hk
  have key : ∀ (i : Nat) (x : List AV) (j : Nat) (v : AV), (fs.map Frm.avs)[i]? = some x → x[j]? = some v → ∃ u, cs[0 + i * 4 + j]? = some u ∧ Frz H nx u v := fun i x j v hx hv => by
    rw [List.getElem?_map] at hx
    obtain ⟨f, hf, rfl⟩ := Option.map_eq_some_iff.1 hx
    have hi := (List.getElem?_eq_some_iff.1 hf).1
    have hs : ss[i]? = some (ss[i]'(by rw [h.1]; exact hi)) := List.getElem?_eq_getElem _
    obtain ⟨a, b⟩ := h.2 i f _ hf hs
    obtain ⟨q0, q1, q2, q3⟩ := zyb hf hs
    have hm := List.mem_of_getElem? hs
    have up : ∀ (j : Nat) (u : AV), j < 4 → (frow fs ss)[i * 4 + j]? = some u → cs[0 + i * 4 + j]? = some u := fun j u hj hu => by
      rw [← h2, List.getElem?_take, if_pos (by omega)] at hu; rw [Nat.zero_add]; exact hu
    match j, hv with
    | 0, hv => cases hv; exact ⟨_, up 0 _ (by omega) q0, .same _ (.int _ _)⟩
    | 1, hv => cases hv; exact ⟨_, up 1 _ (by omega) q1, .same _ (.int _ _)⟩
    | 2, hv => cases hv; exact ⟨_, up 2 _ (by omega) q2, a.frzV fun x hx => ho x (List.mem_flatMap.2 ⟨_, hm, List.mem_append_left _ hx⟩)⟩
    | 3, hv => cases hv; exact ⟨_, up 3 _ (by omega) q3, b.frzV fun x hx => ho x (List.mem_flatMap.2 ⟨_, hm, List.mem_append_right _ hx⟩)⟩
    | j + 4, hv => simp [Frm.avs] at hv
  refine .slc g 0 _ 4 cs _ hg h1 (by omega) (by simp) (fun x hx => ?_) (fun i j => (cs[0 + i * 4 + j]?).getD .junk) (fun i x j v hx hv => ?_) (fun i x j v hx hv => ?_)
  · obtain ⟨f, _, rfl⟩ := List.mem_map.1 hx; rfl
  · obtain ⟨u, q1, q2⟩ := key i x j v hx hv; rw [q1]; rfl
  · obtain ⟨u, q1, q2⟩ := key i x j v hx hv; rw [q1]; exact q2
theorem zur (l : List Cod) {A : Nat → Prop} : Bel A (.ro (l.map Cod.avs)) := .ro _ fun i x j v hx hv => by
  rw [List.getElem?_map] at hx
  obtain ⟨c, _, rfl⟩ := Option.map_eq_some_iff.1 hx
  match j, hv with
  | 0, hv => cases hv; exact .int _ _
  | 1, hv => cases hv; exact .int _ _
  | 2, hv => cases hv; exact zcr (zabm _)
  | j + 3, hv => simp [Cod.avs] at hv
theorem zuq (l : List Str) {A : Nat → Prop} : Bel A (.ro (l.map fun w => [.str w])) := zcr (zabl l)
theorem zdo {H : Heap} {nx : Nat} {id trip : Int} {p : Prg} {fs : List Frm} {h : List Cl} {m : Pmt} {fa ha : AV} (h1 : Frz H nx fa (.ro (fs.map Frm.avs))) (h2 : Frz H nx ha (.ro (h.map Cl.avs))) : Frz H nx (.agg (zc id trip p fa ha m)) (.agg (Agt.avs ⟨id, trip, p, fs, h, m⟩)) := by
  refine .agg _ _ rfl fun j v u hv hu => ?_
  match j with
  | 0 => cases hv; cases hu; exact .same _ (.int _ _)
  | 1 => cases hv; cases hu; exact .same _ (.int _ _)
  | 2 => cases hv; cases hu; exact .same _ (zur _)
  | 3 => cases hv; cases hu; exact .same _ (zuq _)
  | 4 => cases hv; cases hu; exact h1
  | 5 => cases hv; cases hu; exact h2
  | 6 => cases hv; cases hu; exact .same _ (.int _ _)
  | 7 => cases hv; cases hu; exact .same _ (.int _ _)
  | 8 => cases hv; cases hu; exact .same _ (.int _ _)
  | j + 9 => simp [zc] at hv
theorem Live.codes {a : Agt} {fs : List Frm} {f : Frm} (l : VM.Live a fs f) : a.prog.codes.length ≤ 5 ∧ a.prog.words.length ≤ 16 ∧ ∀ c ∈ a.prog.codes, c.ins.length ≤ 200 ∧ 0 ≤ c.vars ∧ c.vars ≤ 8 ∧ (∀ x ∈ (VM.heights c.ins).1, -1 ≤ x ∧ x ≤ 16) := by
  obtain ⟨h1, h2, h3⟩ := zz l.prog
  refine ⟨h2, h3, fun c hc => ?_⟩
  obtain ⟨q1, q2, q3⟩ := h1 c hc
  unfold VM.codeRange at q1
  rw [decide_eq_false_iff_not] at q1
  exact ⟨by omega, by omega, by omega, (zdf q2 q3).2⟩
theorem Live.stk {a : Agt} {fs : List Frm} {f : Frm} (l : VM.Live a fs f) : ∀ g ∈ a.frames, g.vars.length ≤ 8 ∧ g.stack.length ≤ 16 := by
  obtain ⟨_, _, h3⟩ := Live.codes l
  intro g hg
  rw [l.fr] at hg
  have ok := l.ok g hg
  obtain ⟨q1, q2, q3, q4⟩ := h3 _ (VM.code_mem ok.code)
  have hv := ok.vars
  refine ⟨by omega, ?_⟩
  rcases List.mem_append.1 hg with hg | hg
  · have := ztz l g hg; omega
  · simp at hg; subst hg
    have hst := l.still
    unfold VM.Still VM.hts at hst
    have := q4 _ (List.mem_of_getElem? hst)
    omega
def zaju (H0 H : Heap) (lo n gr : Nat) (r : Agt × Evt) : Prop := r.2.kind ≠ 0 ∧ gr < n ∧ Fin H0 H lo gr r.1.id r.1.trip r.1.prog r.1.frames r.1.heap r.1.permit r.2
end Go.Proofs.YtobioljjoipimaaDoor
namespace Go.Proofs.YtobioljjoipimaaDoor
open Go Go.RowKit
theorem Fin.frz {H0 H : Heap} {lo nx gr : Nat} {id trip : Int} {p : Prg} {frames : List Frm} {h : List Cl} {m : Pmt} {e : Evt} (fi : Fin H0 H lo gr id trip p frames h m e) (hnx : nx ≤ lo) :
    ∃ gs fa ha, H gr = some (.row 13 (zez id trip p fa ha m gs e)) ∧ Keep lo H H0 ∧ fa.one = true ∧ fa.sure = true ∧ ha.one = true ∧ ha.sure = true ∧ fa.cells = [fa] ∧ ha.cells = [ha] ∧ ∀ H2 : Heap, (∀ g, lo ≤ g → H2 g = H g) → Frz H2 nx (.agg (zc id trip p fa ha m)) (.agg (Agt.avs ⟨id, trip, p, frames, h, m⟩)) := by
  obtain ⟨gs, gf, ss, ha, cs, h1, h2, h3, h4, h5, h6, h7, h8, h9, h10⟩ := fi
  refine ⟨gs, _, ha, h1, h10, rfl, rfl, h6.one.2.1, h6.one.2.2, rfl, h6.one.1, fun H2 hk => ?_⟩
  refine zdo (zae.frz (h5.keep fun g hg => hk g (h9 g hg)) (by rw [hk gf h7]; exact h2) h3 h4 (by omega) (fun x hx => by have := h9 x hx; omega) rfl) ((h6.keep fun g hg => hk g (h8 g hg)).frzH fun x hx => by have := h8 x hx; omega)
structure zyj (H0 H : Heap) (lo nx n : Nat) (gr gs : Nat) (most x : Int) (s : Spt) (r : Agt × Evt) (k : Nat) : Prop where
  r1 : ∃ z, H (nx + 2) = some (.row 9 z) ∧ z.length = 9
  r2 : ∃ z, H (nx + 3) = some (.row 3 z) ∧ z.length = 3
  grn : lo ≤ gr ∧ gr < n
  keep : Keep lo H H0
  st : (∃ i : Nat, x = i ∧ i ≤ most.toNat ∧ k = most.toNat - i + 1 ∧ ∃ b fs f gf ss va sa ha, VM.Live b fs f ∧ RL H0 H lo n gr gs gf b.id b.trip b.prog s fs ss f va sa b.heap ha b.permit VM.ev0 ∧ VM.run s (most.toNat - i) b = r) ∨ (k = 0 ∧ zaju H0 H lo n gr r)
theorem zxw {c : Agt} {fs : List Frm} {f : Frm} (l : VM.Live c fs f) (hf : c.permit.fuel ≠ 0) (s : Spt) : VM.step c s = VM.opDo { c with permit := { c.permit with fuel := c.permit.fuel - 1 } } s fs { f with at_ := f.at_ + 1 } (VM.insAt c.prog f) := by
  have e1 : c.frames.getLast? = some f := by rw [l.fr]; simp
  have e2 : c.frames.dropLast = fs := by rw [l.fr]; simp
  unfold VM.step
  rw [if_neg hf, e1, e2]
theorem zwv (e : Evt) {A : Nat → Prop} : Bel A (.agg e.avs) := by
  refine .agg _ fun i x hv => ?_
  match i with
  | 0 => cases hv; exact .int _ _
  | 1 => cases hv; exact .str _
  | 2 => cases hv; exact .int _ _
  | i + 3 => simp [Evt.avs] at hv
end Go.Proofs.YtobioljjoipimaaDoor
namespace Go.Proofs.YtobioljjoipimaaDoor
open Go Go.RowKit
end Go.Proofs.YtobioljjoipimaaDoor
namespace Go.Proofs.YtobioljjoipimaaDoor
open Go Go.RowKit
structure zain (H : Heap) (lo n gf : Nat) (cs : List AV) (fs : List Frm) (ss : List (AV × AV)) (f : Frm) (va sa : AV) : Prop where
  row : H gf = some (.row 4 cs)
  cs' : cs.take ((fs.length + 1) * 4) = frow fs ss ++ [.int .i64 f.fn, .int .i64 f.at_, va, sa]
  len : (fs.length + 1) * 4 ≤ cs.length
  frs : zae H fs ss
  sv : Slot H 3 f.vars.length (rowV f.vars) va
  st : Slot H 3 f.stack.length (rowV f.stack) sa
  bd : ∀ g, (g = gf ∨ g ∈ owns ss ∨ g ∈ own va ∨ g ∈ own sa) → lo ≤ g ∧ g < n
  ns : gf ∉ own sa ∧ gf ∉ own va ∧ gf ∉ owns ss ∧ (∀ g ∈ own sa, g ∉ own va ∧ g ∉ owns ss) ∧ ∀ g ∈ own va, g ∉ owns ss
theorem zvj.last {H : Heap} {lo n : Nat} {fs : List Frm} {f : Frm} {ss : List (AV × AV)} {fa ha : AV} {h : List Cl} (ow : zvj H lo n (fs ++ [f]) ss fa h ha) :
    ∃ gf cs ss' va sa, fa = .slc gf 0 (fs.length + 1) ∧ ss = ss' ++ [(va, sa)] ∧ zain H lo n gf cs fs ss' f va sa ∧ ∀ g ∈ own ha, g ≠ gf ∧ g ∉ own va ∧ g ∉ own sa ∧ g ∉ owns ss' := by
  obtain ⟨f1, f2, f3, f4, f5⟩ := ow
  have hl : ss.length = fs.length + 1 := by rw [f1.1]; simp
  obtain ⟨ss', t, rfl⟩ : ∃ ss' t, ss = ss' ++ [t] := by
    rcases List.eq_nil_or_concat ss with rfl | ⟨ss', t, h⟩
    · simp at hl
    · exact ⟨ss', t, by simpa using h⟩
  rcases f2 with ⟨h0, _⟩ | ⟨gf, cs, rfl, c1, c2, c3⟩
  · simp at h0
  obtain ⟨l1, l2, l3⟩ := f1.last
  have ef : (fs ++ [f]).length = fs.length + 1 := by simp
  rw [ef] at c2 c3 f4 f5
  rw [zgu l1.1] at c2
  have es := zcx ss' t
  have e0 : own (AV.slc gf 0 (fs.length + 1)) = [gf] := rfl
  rw [es, e0, List.singleton_append, List.nodup_cons] at f4
  simp only [List.mem_append, not_or, List.nodup_append] at f4
  obtain ⟨⟨a1, a2, a3, a4⟩, n1, ⟨n2, ⟨n3, n4, n5⟩, n6⟩, n7⟩ := f4
  rw [es, e0] at f5
  refine ⟨gf, cs, ss', t.1, t.2, by rw [ef], rfl, ⟨c1, c2, c3, l1, l2, l3, fun g hg => f5 g ?_, ⟨a4, a3, a2, fun g hg => ⟨fun h => n5 g h g hg rfl, fun h => n6 g h g (.inr hg) rfl⟩, fun g hg h => n6 g h g (.inl hg) rfl⟩⟩, fun g hg => ⟨fun e => a1 (e ▸ hg), fun h => n7 g hg g (.inr (.inl h)) rfl, fun h => n7 g hg g (.inr (.inr h)) rfl, fun h => n7 g hg g (.inl h) rfl⟩⟩
  simp only [List.mem_append, List.mem_singleton]
  rcases hg with h | h | h | h
  · exact .inl h
  · exact .inr (.inr (.inl h))
  · exact .inr (.inr (.inr (.inl h)))
  · exact .inr (.inr (.inr (.inr h)))
theorem zuu {a : Agt} {fs : List Frm} {f : Frm} {k : Int} (hfr : a.frames = fs ++ [f]) : VM.answer a k = ⟨a.id, a.trip, a.prog, fs ++ [{ f with stack := f.stack ++ [⟨0, k, []⟩] }], a.heap, a.permit⟩ := by
  have e1 : a.frames.getLast? = some f := by rw [hfr]; simp
  have e2 : a.frames.dropLast = fs := by rw [hfr]; simp
  unfold VM.answer
  rw [e1, e2]; rfl
end Go.Proofs.YtobioljjoipimaaDoor
set_option maxRecDepth 8000
namespace Go.Proofs.YtobioljjoipimaaDoor
open Go Go.RowKit
def zst (H : Heap) (G : Nat → Prop) (xs ys : List AV) : Prop := ys.length = xs.length ∧ ∀ (j : Nat) (v u : AV), xs[j]? = some v → ys[j]? = some u → FrzP H G v u
theorem zst.nil {H : Heap} {G : Nat → Prop} : zst H G [] [] := ⟨rfl, fun j v u h => by simp at h⟩
theorem zst.cons {H : Heap} {G : Nat → Prop} {v u : AV} {xs ys : List AV} (h : FrzP H G v u) (k : zst H G xs ys) : zst H G (v :: xs) (u :: ys) := by
  refine ⟨by simp [k.1], fun j a b ha hb => ?_⟩
  cases j with
  | zero => simp at ha hb; subst ha; subst hb; exact h
  | succ j => exact k.2 j a b (by simpa using ha) (by simpa using hb)
end Go.Proofs.YtobioljjoipimaaDoor
namespace Go.Proofs.YtobioljjoipimaaDoor
open Go Go.RowKit
theorem zvj.frz {H : Heap} {lo n nx : Nat} {fs : List Frm} {ss : List (AV × AV)} {fa ha : AV} {h : List Cl} {id trip : Int} {p : Prg} {m : Pmt} (ow : zvj H lo n fs ss fa h ha) (hl : nx ≤ lo) {H' : Heap} (hk : ∀ g, lo ≤ g → g < n → H' g = H g) : Frz H' nx (.agg (zc id trip p fa ha m)) (.agg (Agt.avs ⟨id, trip, p, fs, h, m⟩)) := by
  have b : ∀ g ∈ own fa ++ (own ha ++ owns ss), nx ≤ g ∧ H' g = H g := fun g hg => by have := ow.bd g hg; exact ⟨by omega, hk g this.1 this.2⟩
  refine zdo ?_ ((ow.hp.keep fun g hg => (b g (by simp [hg])).2).frzH fun g hg => (b g (by simp [hg])).1)
  have fr := ow.frs.keep (H' := H') fun g hg => (b g (by simp [hg])).2
  rcases ow.row with ⟨h0, rfl | rfl⟩ | ⟨gf, cs, rfl, c1, c2, c3⟩
  · rw [List.eq_nil_of_length_eq_zero h0]; exact .nils
  · rw [List.eq_nil_of_length_eq_zero h0]; exact .zs
  · have := b gf (by simp [own])
    exact zae.frz fr (by rw [this.2]; exact c1) c2 c3 this.1 (fun x hx => (b x (by simp [hx])).1) rfl
theorem zabw {xs : List (List AV)} {sz : Nat} (hsz : ∀ x ∈ xs, x.length = sz) {i j : Nat} {x : List AV} {v : AV} (hx : xs[i]? = some x) (hv : x[j]? = some v) : xs.flatten[i * sz + j]? = some v := by
  have hxl : x.length = sz := hsz x (List.mem_of_getElem? hx)
  have hj : j < sz := by have := (List.getElem?_eq_some_iff.1 hv).1; omega
  have e2 := congrArg (·[j]?) (zfb hsz hx)
  simp only [List.getElem?_take, List.getElem?_drop, hj, if_true] at e2
  rw [e2, hv]
def Pmt.avs (m : Pmt) : List AV := [.int .i64 m.fuel, .int .i64 m.room, .int .i64 m.hops]
theorem Agt.avs_eq (a : Agt) : a.avs = zc a.id a.trip a.prog (.ro (a.frames.map Frm.avs)) (.ro (a.heap.map Cl.avs)) a.permit := rfl
end Go.Proofs.YtobioljjoipimaaDoor
set_option maxRecDepth 8000
namespace Go.Proofs.YtobioljjoipimaaDoor
open Go Go.RowKit
set_option maxHeartbeats 4000000 in
theorem zagf (op : Int) (a b : Val) (N M : Int) (ha : VM.wrong a N = 0) (hb : VM.wrong b M = 0) : QC Tryd.prog 48 [.int .i64 op, .agg a.avs, .agg b.avs] (.tup [.agg (VM.two op a b).1.avs, .int .i64 (VM.two op a b).2]) := by
  have wa := VM.wrong_ok ha
  have wb := VM.wrong_ok hb
  obtain ⟨ka, na, sa⟩ := a
  obtain ⟨kb, nb, sb⟩ := b
  obtain ⟨a1, a2, a3, _, _, a6⟩ := wa
  obtain ⟨b1, b2, b3, _, _, b6⟩ := wb
  simp only at a1 a2 a3 a6 b1 b2 b3 b6
  refine QC.of' fun H nx => zqe _ _ _ H nx _ ?_
  by_cases h0 : op < 1 ∨ 5 < op
  · have e : VM.two op ⟨ka, na, sa⟩ ⟨kb, nb, sb⟩ = (VM.vzero, 1) := if_pos h0
    rw [e]
    by_cases h1 : op < 1
    · simp [zeo, Val.avs]
      refine JN.same ?_
      simp [zeq, h1, zep, VM.vzero]
    · have h2 : 5 < op := by omega
      simp [zeo, Val.avs]
      refine JN.same ?_
      simp [zeq, h1, h2, zep, VM.vzero]
  have h1 : ¬ op < 1 := by omega
  have h2 : ¬ 5 < op := by omega
  simp [zeo, Val.avs]
  refine JN.same ?_
  simp [zeq, h1, h2, zep, CALL]
  refine ⟨fun h5 => ?_, fun h5 => ?_⟩
  · have e : VM.two op ⟨ka, na, sa⟩ ⟨kb, nb, sb⟩ = (VM.bit (decide (ka = kb ∧ na = nb ∧ sa = sb)), 0) := by
      unfold VM.two; rw [if_neg h0, if_pos h5]; simp
    rw [e]
    refine ⟨fun g1 => ⟨fun g2 => ?_, fun g2 => ?_⟩, fun g1 => ?_⟩
    · refine QC.call (zpd _) ?_
      simp [znf, Val.avs, g1, g2]
    · refine QC.call (zpd _) ?_
      simp [zne, Val.avs, g1, g2]
    · refine QC.call (zpd _) ?_
      simp [znd, Val.avs, g1]
  refine JN.same ?_
  have rest : ¬ (ka = 1 ∧ kb = 1 ∧ (op = 1 ∨ op = 4)) → ∀ H2 : Heap, H2 nx = some (.row 3 [.int .i64 ka, .int .i64 na, .str sa]) → H2 (nx + 1) = some (.row 3 [.int .i64 kb, .int .i64 nb, .str sb]) → H2 (nx + 2) = some (.row 3 [.int .i64 0, .int .i64 0, .str []]) → Keep nx H2 H →
      zdd (fun v H' _ => Frz H' nx v (.tup [.agg (VM.two op ⟨ka, na, sa⟩ ⟨kb, nb, sb⟩).1.avs, .int .i64 (VM.two op ⟨ka, na, sa⟩ ⟨kb, nb, sb⟩).2]) ∧ Keep nx H' H)
        [.int .i64 op, .ptr nx 0, .ptr (nx + 1) 0, .ptr (nx + 2) 0, .clo 74 []] H2 (nx + 3) := by
    intro hk H2 g1 g2 g3 hK
    have e1 : VM.two op ⟨ka, na, sa⟩ ⟨kb, nb, sb⟩ = if ka ≠ 0 ∨ kb ≠ 0 then (VM.vzero, 11) else if op = 1 then (VM.cInt (na + nb), 0) else if op = 2 then (VM.cInt (na - nb), 0) else if op = 3 then (VM.cInt (na * nb), 0) else (VM.bit (decide (na < nb)), 0) := by
      unfold VM.two; rw [if_neg h0, if_neg h5, if_neg (fun h => hk ⟨h.1.1, h.1.2, .inl h.2⟩), if_neg (fun h => hk ⟨h.1.1, h.1.2, .inr h.2⟩)]
    rw [e1]
    have w0 : IntKind.i64.wrap (ka + kb) = ka + kb := i64w (by omega)
    by_cases hka : ka = 0
    · by_cases hkb : kb = 0
      · obtain ⟨p1, p2⟩ := a2 hka
        obtain ⟨q1, q2⟩ := b2 hkb
        subst hka hkb
        have hmul : -1152921504606846976 ≤ na * nb ∧ na * nb ≤ 1152921504606846976 := by
          have m1 : na * nb ≤ 1073741824 * 1073741824 := by
            rcases Int.le_total 0 na with h | h <;> rcases Int.le_total 0 nb with h' | h'
            · exact Int.mul_le_mul p2 q2 h' (by omega)
            · have := Int.mul_nonpos_of_nonneg_of_nonpos h h'; omega
            · have := Int.mul_nonpos_of_nonpos_of_nonneg h h'; omega
            · have : (-na) * (-nb) ≤ 1073741824 * 1073741824 := Int.mul_le_mul (by omega) (by omega) (by omega) (by omega)
              rwa [Int.neg_mul_neg] at this
          have m2 : -(na * nb) ≤ 1073741824 * 1073741824 := by
            rcases Int.le_total 0 na with h | h <;> rcases Int.le_total 0 nb with h' | h'
            · have := Int.mul_nonneg h h'; omega
            · have : na * (-nb) ≤ 1073741824 * 1073741824 := Int.mul_le_mul (by omega) (by omega) (by omega) (by omega)
              rwa [Int.mul_neg] at this
            · have : (-na) * nb ≤ 1073741824 * 1073741824 := Int.mul_le_mul (by omega) (by omega) (by omega) (by omega)
              rwa [Int.neg_mul] at this
            · have := Int.mul_nonneg_of_nonpos_of_nonpos h h'; omega
          omega
        have w1 : IntKind.i64.wrap (na + nb) = na + nb := i64w (by omega)
        have w2 : IntKind.i64.wrap (na - nb) = na - nb := i64w (by omega)
        have w3 : IntKind.i64.wrap (na * nb) = na * nb := i64w (by omega)
        have w4 : IntKind.i64.wrap 0 = 0 := i64w (by omega)
        simp [zdd, g1, g2, w1, w2, w3, w4, CALL]
        refine ⟨fun h => ?_, fun h => ⟨fun h' => ?_, fun h' => ⟨fun h'' => ?_, fun h'' => ?_⟩⟩⟩
        · refine QC.call (ztq _ (by simp only [I64]; omega)) ?_
          simp [znc, g3, Val.avs, h, hK, Keep.put]
        · refine QC.call (ztq _ (by simp only [I64]; omega)) ?_
          simp [znb, g3, Val.avs, h', hK, Keep.put]
        · refine QC.call (ztq _ (by simp only [I64]; omega)) ?_
          simp [zna, g3, Val.avs, h'', hK, Keep.put]
        · refine QC.call (zpd _) ?_
          simp [zmz, g3, Val.avs, h, h', h'', hK, Keep.put]
      · have : ¬ ka + kb = 0 := by omega
        have n0 : ¬ kb = 0 := hkb
        subst hka
        simp only [Int.zero_add] at w0
        simp [zdd, g1, g2, g3, w0, hkb, VM.vzero, hK, Keep.put, Val.avs]
    · have : ¬ ka + kb = 0 := by omega
      simp [zdd, g1, g2, g3, w0, this, hka, VM.vzero, hK, Keep.put, Val.avs]
  by_cases hk : ka = 1 ∧ kb = 1
  · obtain ⟨rfl, rfl⟩ := hk
    simp [zer, CALL]
    refine ⟨fun h => ?_, fun h => ⟨fun h4 => ?_, fun h4 => ?_⟩⟩
    · subst h
      refine ⟨by omega, ?_⟩
      refine QC.call (zqn _ (by simp only [maxLen, List.length_append]; omega)) ?_
      have e : VM.two 1 ⟨1, na, sa⟩ ⟨1, nb, sb⟩ = (VM.cText (sa ++ sb), 0) := rfl
      rw [e]
      simp [zmy, Val.avs]
    · subst h4
      refine QC.call (zpd _) ?_
      have e : VM.two 4 ⟨1, na, sa⟩ ⟨1, nb, sb⟩ = (VM.bit (Op.bytesLess sa sb), 0) := rfl
      rw [e]
      simp [zmx, Val.avs]
    · exact rest (by rintro ⟨_, _, h' | h'⟩ <;> contradiction) _ (by simp) (by simp) (by simp) (by simp)
  · have rest' := rest (fun h => hk ⟨h.1, h.2.1⟩)
    by_cases hka : ka = 1
    · have hkb : ¬ kb = 1 := fun h => hk ⟨hka, h⟩
      simp [zer, hka, hkb]
      rw [hka] at rest'
      exact rest' _ (by simp) (by simp) (by simp) (by simp)
    · simp [zer, hka]
      exact rest' _ (by simp) (by simp) (by simp) (by simp)
end Go.Proofs.YtobioljjoipimaaDoor
set_option maxRecDepth 8000
namespace Go.Proofs.YtobioljjoipimaaDoor
open Go Go.RowKit
end Go.Proofs.YtobioljjoipimaaDoor
set_option maxRecDepth 8000
namespace Go.Proofs.YtobioljjoipimaaDoor
open Go Go.RowKit
section
variable {ki : IntKind}
end
theorem Slot.cp {H : Heap} {sz k : Nat} {cells : List AV} {a : AV} {kh : AV → Heap → Prop} (hg : Slot H sz k cells a) {ys rest : List (List AV)} (hs : ∀ x ∈ ys ++ rest, x.length = sz) (hy : ys.length = k) (hone : ∀ x ∈ ys ++ rest, ∀ c ∈ x, c.one = true)
    (hk : ∀ H', Slot H' sz k ys.flatten a → (∀ g, g ∉ own a → H' g = H g) → kh (.int .i64 k) H') : CP sz a (.ro (ys ++ rest)) H kh := by
  have hsrc := zeg (H := H) hs
  rcases hg with ⟨rfl, rfl | rfl⟩ | ⟨g, cs, rfl, h1, h2, h3⟩
  · unfold CP COPY
    rw [hsrc]
    exact hk _ (.inl ⟨rfl, .inl rfl⟩) fun g _ => rfl
  · unfold CP COPY
    rw [hsrc]
    exact hk _ (.inl ⟨rfl, .inr rfl⟩) fun g _ => rfl
  · have hl : ys.flatten.length = k * sz := by rw [zat fun x hx => hs x (List.mem_append_left _ hx), hy]
    refine zahj hsrc h1 (by omega) ?_ ?_
    · refine List.all_eq_true.2 fun c hc => ?_
      obtain ⟨x, hx, hcx⟩ := List.mem_flatten.1 hc
      exact hone x hx c hcx
    · have e : min (ys ++ rest).length k = k := by simp [hy]
      rw [e]
      have et : ((ys ++ rest).flatten.take (k * sz)) = ys.flatten := by rw [List.flatten_append, List.take_append_of_le_length (by omega), List.take_of_length_le (by omega)]
      rw [et]
      refine hk _ (.inr ⟨g, _, rfl, Heap.put_at _ _ _, ?_, ?_⟩) fun x hx => Heap.put_ne _ _ (by simpa [own] using hx)
      · unfold zag
        simp [hl]
      · unfold zag
        simp [hl]
theorem zme : ∀ {ss : List (AV × AV)} {k i : Nat} {s t : AV × AV} {g : Nat}, (owns ss).Nodup → ss[k]? = some s → ss[i]? = some t → k ≠ i → g ∈ own s.1 ++ own s.2 → g ∈ own t.1 ++ own t.2 → False
  | [], k, i, s, t, g, _, h, _, _, _, _ => by simp at h
  | u :: ss, k, i, s, t, g, nd, h1, h2, hne, m1, m2 => by
    have e : owns (u :: ss) = (own u.1 ++ own u.2) ++ owns ss := by simp [owns]
    rw [e, List.nodup_append] at nd
    obtain ⟨_, n2, n3⟩ := nd
    have mem : ∀ {j : Nat} {v : AV × AV}, ss[j]? = some v → g ∈ own v.1 ++ own v.2 → g ∈ owns ss := fun hv hg => List.mem_flatMap.2 ⟨_, List.mem_of_getElem? hv, hg⟩
    match k, i with
    | 0, 0 => exact hne rfl
    | 0, i + 1 =>
      simp at h1 h2; subst h1
      exact n3 g m1 g (mem h2 m2) rfl
    | k + 1, 0 =>
      simp at h1 h2; subst h2
      exact n3 g m2 g (mem h1 m1) rfl
    | k + 1, i + 1 => exact zme n2 (by simpa using h1) (by simpa using h2) (by omega) m1 m2
theorem zae.set {H H' : Heap} {fs : List Frm} {ss : List (AV × AV)} {i : Nat} {f : Frm} {s : AV × AV} (h : zae H fs ss) (nd : (owns ss).Nodup) (hs : ss[i]? = some s) (hk : ∀ g, g ∉ own s.1 → g ∉ own s.2 → H' g = H g) (h1 : Slot H' 3 f.vars.length (rowV f.vars) s.1) (h2 : Slot H' 3 f.stack.length (rowV f.stack) s.2) : zae H' (fs.set i f) ss := by
  refine ⟨by simp [h.1], fun k f' s' hf hs' => ?_⟩
  by_cases e : k = i
  · subst e
    rw [hs] at hs'; cases hs'
    have hl : k < fs.length := by rw [← h.1]; exact (List.getElem?_eq_some_iff.1 hs).1
    rw [List.getElem?_set_self hl] at hf
    cases hf
    exact ⟨h1, h2⟩
  · rw [List.getElem?_set_ne (Ne.symm e)] at hf
    obtain ⟨q1, q2⟩ := h.2 k f' s' hf hs'
    have hd : ∀ g, (g ∈ own s'.1 ∨ g ∈ own s'.2) → g ∉ own s.1 ∧ g ∉ own s.2 := fun g hg => by
      exact ⟨fun hx => zme nd hs' hs e (List.mem_append.2 hg) (List.mem_append_left _ hx), fun hx => zme nd hs' hs e (List.mem_append.2 hg) (List.mem_append_right _ hx)⟩
    exact ⟨q1.keep fun g hg => hk g (hd g (.inl hg)).1 (hd g (.inl hg)).2, q2.keep fun g hg => hk g (hd g (.inr hg)).1 (hd g (.inr hg)).2⟩
end Go.Proofs.YtobioljjoipimaaDoor
namespace Go.Proofs.YtobioljjoipimaaDoor
open Go Go.RowKit
end Go.Proofs.YtobioljjoipimaaDoor
set_option maxRecDepth 8000
namespace Go.Proofs.YtobioljjoipimaaDoor
open Go Go.RowKit
theorem zady (i : Ins) : QC Tryd.prog 44 [.agg i.avs] (.tup [.int .i64 (VM.effect i).1, .int .i64 (VM.effect i).2]) := by
  refine QC.of' fun H nx => znu _ H nx _ ?_
  obtain ⟨op, a, b⟩ := i
  unfold zjk
  simp only [Ins.avs, zadw, zacm, true_and, List.length_cons, List.length_nil, ld_p, Heap.put_at, rowk, List.getElem?_cons_zero, optk, zaim, cnd, cndc, decide_eq_true_eq, decide_eq_false_iff_not]
  refine ⟨fun h => ?_, fun h => ?_⟩
  · simp [VM.effect, h]
  have hx : op ≠ 17 := by simpa using h
  have hH : ((H.put nx (some (.row 3 [.int .i64 op, .int .i64 a, .int .i64 b]))).put (nx + 1) (some (.mp []))) (nx + 1) = some (.mp []) := Heap.put_at _ _ _
  have hK : Keep nx ((H.put nx (some (.row 3 [.int .i64 op, .int .i64 a, .int .i64 b]))).put (nx + 1) (some (.mp []))) H := by simp
  have hop : ((H.put nx (some (.row 3 [.int .i64 op, .int .i64 a, .int .i64 b]))).put (nx + 1) (some (.mp []))) nx = some (.row 3 [.int .i64 op, .int .i64 a, .int .i64 b]) := by simp
  simp only [Nat.zero_add, Nat.reduceAdd]
  generalize ((H.put nx (some (.row 3 [.int .i64 op, .int .i64 a, .int .i64 b]))).put (nx + 1) (some (.mp []))) = H1 at *
  repeat (refine ⟨rfl, zaib hH hop (by omega) hK (by omega) (by simp only [zkb, zov, List.nil_append, List.cons_append, Int.reduceEq, if_false, Option.map_some, Option.map_none]) ?_⟩; clear hH hK hop; clear H1; intro H1 hH hop hK)
  simp only [List.nil_append, List.cons_append] at hH
  have hcases : op < 1 ∨ 19 < op ∨ op = 1 ∨ op = 2 ∨ op = 3 ∨ op = 4 ∨ op = 5 ∨ op = 6 ∨ op = 7 ∨ op = 8 ∨ op = 9 ∨ op = 10 ∨ op = 11 ∨ op = 12 ∨ op = 13 ∨ op = 14 ∨ op = 15 ∨ op = 16 ∨ op = 18 ∨ op = 19 := by omega
  have hs : ∀ p q : Int, (∃ r, zam (.int .i64 op) [(.int .i64 1, .agg [.int .i64 0, .int .i64 1]), (.int .i64 2, .agg [.int .i64 0, .int .i64 1]), (.int .i64 3, .agg [.int .i64 0, .int .i64 1]), (.int .i64 4, .agg [.int .i64 1, .int .i64 0]), (.int .i64 5, .agg [.int .i64 2, .int .i64 1]), (.int .i64 6, .agg [.int .i64 2, .int .i64 1]), (.int .i64 7, .agg [.int .i64 1, .int .i64 1]), (.int .i64 8, .agg [.int .i64 1, .int .i64 1]), (.int .i64 9, .agg [.int .i64 2, .int .i64 0]), (.int .i64 10, .agg [.int .i64 2, .int .i64 0]), (.int .i64 11, .agg [.int .i64 1, .int .i64 1]), (.int .i64 12, .agg [.int .i64 0, .int .i64 1]), (.int .i64 13, .agg [.int .i64 1, .int .i64 1]), (.int .i64 14, .agg [.int .i64 1, .int .i64 0]), (.int .i64 15, .agg [.int .i64 0, .int .i64 0]), (.int .i64 16, .agg [.int .i64 1, .int .i64 0]), (.int .i64 18, .agg [.int .i64 1, .int .i64 0]), (.int .i64 19, .agg [.int .i64 1, .int .i64 0])] = some r ∧
      (match r with | some (_, v) => v | none => .agg [.int .i64 0, .int .i64 0]) = .agg [.int .i64 (VM.effect ⟨op, a, b⟩).1, .int .i64 (VM.effect ⟨op, a, b⟩).2]) := by
    intro _ _
    rcases hcases with h | h | h
    · have e : VM.effect ⟨op, a, b⟩ = (0, 0) := by unfold VM.effect; simp only; (repeat' split) <;> first | omega | rfl
      refine ⟨none, ?_, by rw [e]⟩
      simp only [zkb, zov]
      repeat rw [if_neg (by omega)]
      rfl
    · have e : VM.effect ⟨op, a, b⟩ = (0, 0) := by unfold VM.effect; simp only; (repeat' split) <;> first | omega | rfl
      refine ⟨none, ?_, by rw [e]⟩
      simp only [zkb, zov]
      repeat rw [if_neg (by omega)]
      rfl
    · rcases h with h | h | h | h | h | h | h | h | h | h | h | h | h | h | h | h | h | h
      all_goals subst h; exact ⟨_, by simp only [zkb, Int.reduceEq, if_false, if_true, Option.map_some]; rfl, rfl⟩
  obtain ⟨r, h1, h2⟩ := hs 0 0
  rw [hop, rowk]
  simp only [List.getElem?_cons_zero, optk, zzz, true_and, lk_p, hH, mapk, h1, cond_true, cond_false]
  cases r with
  | none => simp only at h2; simp [hK, h2]
  | some pr => obtain ⟨i, v⟩ := pr; simp only at h2; simp [hK, h2]
theorem zagd (s : Str) (i : Nat) : (s.drop i).all VM.wordByte = if h : i < s.length then VM.wordByte s[i] && (s.drop (i + 1)).all VM.wordByte else true := by
  split
  · rename_i h
    rw [List.drop_eq_getElem_cons h, List.all_cons]
  · rename_i h
    rw [List.drop_of_length_le (by omega)]; rfl
end Go.Proofs.YtobioljjoipimaaDoor
set_option maxRecDepth 8000
namespace Go.Proofs.YtobioljjoipimaaDoor
open Go Go.RowKit
def zac (l : List Int) : List AV := l.map (AV.int .i64)
def prs : List (Int × Int) → List AV
  | [] => []
  | (a, b) :: r => .int .i64 a :: .int .i64 b :: prs r
theorem zlg (l : List (Int × Int)) : (prs l).length = l.length * 2 := by
  induction l with
  | nil => rfl
  | cons x r ih => obtain ⟨a, b⟩ := x; simp [prs, ih, Nat.succ_mul]
theorem zmd (l m : List (Int × Int)) : prs (l ++ m) = prs l ++ prs m := by
  induction l with
  | nil => rfl
  | cons x r ih => obtain ⟨a, b⟩ := x; simp [prs, ih]
section
variable {k : AV → Prop} {ki : IntKind}
@[simp ↓] theorem zanb {s g off len : Nat} {a : Int} {H : Heap} : SL s (.slc g off len) (some (.int ki a)) none H k = ROWK (H g) fun sz _ => sz = s ∧ 0 ≤ a ∧ a ≤ len ∧ k (.slc g (off + a.toNat * s) ((len : Int) - a).toNat) := by
  simp only [SL, zbv, lohi, qk]
  refine zdx (fun sz cs h => ?_) fun h => ?_
  · simp [h]
  · intro ha
    split at ha
    · rename_i sz cs he; exact h _ _ he
    · exact ha
end
theorem zabx (n i : Nat) (h : i < n) : List.take i (zac (List.replicate i (-1) ++ List.replicate (n - i) 0)) ++ AV.int .i64 (-1) :: List.drop (i + 1) (zac (List.replicate i (-1) ++ List.replicate (n - i) 0)) = zac (List.replicate (i + 1) (-1) ++ List.replicate (n - (i + 1)) 0) := by
  have e : n - i = (n - (i + 1)) + 1 := by omega
  rw [e, List.replicate_succ, List.replicate_succ']
  simp [zac, List.take_append, List.drop_append]
theorem zmo (l : List Int) (i : Nat) : (zac l)[i]? = (l[i]?).map (AV.int .i64) := by simp [zac]
theorem zaas (l : List Int) (i : Nat) (x : Int) (h : i < l.length) : List.take i (zac l) ++ AV.int .i64 x :: List.drop (i + 1) (zac l) = zac (l.set i x) := by
  rw [zac, zac, List.map_set, List.set_eq_take_append_cons_drop]; simp [h]
@[simp] theorem zajt (l : List Int) : (zac l).length = l.length := by simp [zac]
theorem zxn (l : List Int) : (l.map fun n => [AV.int .i64 n]).flatten = zac l := by
  induction l with
  | nil => rfl
  | cons x r ih => simp [zac] at ih ⊢; exact ih
end Go.Proofs.YtobioljjoipimaaDoor
set_option maxRecDepth 8000
namespace Go.Proofs.YtobioljjoipimaaDoor
open Go Go.RowKit
end Go.Proofs.YtobioljjoipimaaDoor
set_option maxRecDepth 8000
namespace Go.Proofs.YtobioljjoipimaaDoor
open Go Go.RowKit
def lm (p : Prg) (c : Cod) (i : Ins) : Int × Int :=
  if i.op = 1 then (-1073741824, 1073741824) else if i.op = 2 then (0, p.words.length - 1) else if i.op = 3 then (0, c.vars - 1) else if i.op = 4 then (0, c.vars - 1) else if i.op = 5 then (1, 5)
  else if i.op = 15 then (0, c.ins.length - 1) else if i.op = 16 then (0, c.ins.length - 1) else if i.op = 17 then (0, p.codes.length - 1) else (0, 0)
end Go.Proofs.YtobioljjoipimaaDoor
set_option maxRecDepth 8000
namespace Go.Proofs.YtobioljjoipimaaDoor
open Go Go.RowKit
def fl (l : List Val) : List AV := (l.map Val.avs).flatten
end Go.Proofs.YtobioljjoipimaaDoor
set_option maxRecDepth 8000
namespace Go.Proofs.YtobioljjoipimaaDoor
open Go Go.RowKit
end Go.Proofs.YtobioljjoipimaaDoor
set_option maxRecDepth 8000
namespace Go.Proofs.YtobioljjoipimaaDoor
open Go Go.RowKit
end Go.Proofs.YtobioljjoipimaaDoor
set_option maxRecDepth 8000
namespace Go.Proofs.YtobioljjoipimaaDoor
open Go Go.RowKit
theorem zjx {a : Agt} {fs : List Frm} {f : Frm} (l : VM.Live a fs f) : f.stack.length ≤ 17 := by
  have nw := l.now
  have ok := l.ok f (by simp)
  have hst := l.still
  unfold VM.Still VM.hts at hst
  have hm := (zdf ((zz l.prog).1 _ (VM.code_mem ok.code)).2.1 ((zz l.prog).1 _ (VM.code_mem ok.code)).2.2).2 _ (List.mem_of_getElem? hst)
  omega
theorem ztv {A : Nat → Prop} (f : Frm) : ∀ (j : Nat) (v : AV), f.avs[j]? = some v → Bel A v := fun j v hv => by
  match j, hv with
  | 0, hv => cases hv; exact .int _ _
  | 1, hv => cases hv; exact .int _ _
  | 2, hv => cases hv; exact zcr (zcw _)
  | 3, hv => cases hv; exact zcr (zcw _)
  | j + 4, hv => simp [Frm.avs] at hv
theorem zahl {A : Nat → Prop} (fs : List Frm) : Bel A (.ro (fs.map Frm.avs)) := by
  refine .ro _ fun i x j v hx hv => ?_
  rw [List.getElem?_map] at hx
  obtain ⟨f, _, rfl⟩ := Option.map_eq_some_iff.1 hx
  exact ztv f j v hv
theorem zkh (a : Agt) : a.avs.drop 9 = [] ∧ a.avs.take 9 = a.avs ∧ a.avs.length = 9 := ⟨rfl, rfl, rfl⟩
theorem zxx (a : Agt) : ∀ x ∈ a.avs, x.one = true := fun x hx => by
  simp [Agt.avs] at hx
  rcases hx with rfl | rfl | rfl | rfl | rfl | rfl | rfl | rfl | rfl <;> rfl
theorem eavs (e : Evt) : e.avs = [.int .i64 e.kind, .str e.text, .int .i64 e.err] := rfl
end Go.Proofs.YtobioljjoipimaaDoor
set_option maxRecDepth 8000
namespace Go.Proofs.YtobioljjoipimaaDoor
open Go Go.RowKit
structure Fits (p : Prg) (b : Agt) : Prop where
  prog : b.prog = p
  frames : b.frames.length ≤ 4096
  heap : b.heap.length ≤ 4096
  stk : ∀ f ∈ b.frames, f.vars.length ≤ 4096 ∧ f.stack.length ≤ 4096
theorem zage {p : Prg} (h : VM.program p = 0) (n : Int) : (VM.codeAt p n).vars ≤ 8 := by
  by_cases hn : n.toNat < p.codes.length
  · obtain ⟨crange, _, _⟩ := (zz h).1 _ (VM.code_mem hn)
    unfold VM.codeRange at crange
    rw [decide_eq_false_iff_not] at crange
    omega
  · unfold VM.codeAt
    rw [List.getD_eq_getElem?_getD, List.getElem?_eq_none (by omega)]
    simp
theorem zaeo {p : Prg} {c : Prop} [Decidable c] {x y : Agt} (h1 : c → Fits p x) (h2 : ¬ c → Fits p y) : Fits p (if c then x else y) := by
  by_cases h : c
  · rw [if_pos h]; exact h1 h
  · rw [if_neg h]; exact h2 h
theorem zabq {b : Agt} {s : Spt} {fs : List Frm} {f : Frm} {i : Ins} (hp : VM.program b.prog = 0) (h1 : fs.length ≤ 100) (h2 : ∀ g ∈ fs, g.vars.length ≤ 100 ∧ g.stack.length ≤ 100) (h3 : f.vars.length ≤ 100) (h4 : f.stack.length ≤ 100) (h5 : b.heap.length ≤ 100) (hi : i.op = 17 → 0 ≤ i.b) : Fits b.prog (VM.opDo b s fs f i).1 := by
  have hv := zage hp i.a
  have key : ∀ {a : Agt} {gs : List Frm} {g : Frm}, a.prog = b.prog → gs.length ≤ 200 → (∀ g ∈ gs, g.vars.length ≤ 200 ∧ g.stack.length ≤ 200) → g.vars.length ≤ 300 → g.stack.length ≤ 300 → a.heap.length ≤ 200 → Fits b.prog (VM.toF a gs g) := by
    intro a gs g e1 e2 e3 e4 e5 e6
    refine ⟨e1, by simp [VM.toF]; omega, by simp [VM.toF]; omega, fun x hx => ?_⟩
    simp [VM.toF] at hx
    rcases hx with hx | rfl
    · have := e3 x hx; omega
    · omega
  have lw : ∀ k, (VM.low k f.stack).length ≤ f.stack.length := fun k => by rw [VM.low_len]; omega
  have l1 := lw 1
  have l2 := lw 2
  have h2' : ∀ g ∈ fs, g.vars.length ≤ 200 ∧ g.stack.length ≤ 200 := fun g hg => by have := h2 g hg; omega
  unfold VM.opDo VM.push
  simp only [apply_ite Prod.fst]
  repeat' (refine zaeo (fun _ => ?_) (fun _ => ?_))
  all_goals first
    | exact key rfl (by omega) h2' (by first | (simp only [List.length_append, List.length_singleton, List.length_set]; omega) | (simp only []; omega) | omega) (by first | (simp only [List.length_append, List.length_singleton, List.length_set]; omega) | (simp only []; omega) | omega) (by first | (simp only [List.length_append, List.length_singleton, List.length_set]; omega) | (simp only []; omega) | omega)
    | skip
  · refine key rfl (by simp; omega) (fun g hg => ?_) ?_ (by simp) (by omega)
    · simp at hg
      rcases hg with hg | rfl
      · exact h2' g hg
      · have := lw i.b.toNat; simp only; omega
    · simp; omega
  · split
    · exact ⟨rfl, by simp, by simp only; omega, fun g hg => by simp at hg⟩
    · rename_i g hg
      have hm := List.mem_of_getLast? hg
      refine key rfl (by simp; omega) (fun x hx => h2' x (List.dropLast_subset _ hx)) (by have := h2 g hm; simp only; omega) (by have := h2 g hm; simp; omega) (by omega)
theorem zabh {a : Agt} {fs : List Frm} {f : Frm} (l : VM.Live a fs f) (s : Spt) : Fits a.prog (VM.step a s).1 := by
  have flen := l.flen
  have hlen := l.hlen
  have hroom := l.room
  have sk := Live.stk l
  by_cases hf : a.permit.fuel = 0
  · have e : VM.step a s = (a, VM.dead 12) := by unfold VM.step; rw [if_pos hf]
    rw [e]
    exact ⟨rfl, by rw [l.fr]; simp; omega, by simp only; omega, fun g hg => by have := sk g hg; simp only at hg; omega⟩
  · rw [zxw l hf]
    have ok := l.ok f (by simp)
    have nw := l.now
    obtain ⟨o1, o2, o3, o4⟩ := VM.numbers_ok nw.num
    have slen := zjx l
    have key := zabq (b := { a with permit := { a.permit with fuel := a.permit.fuel - 1 } }) (s := s) (fs := fs) (f := { f with at_ := f.at_ + 1 }) (i := VM.insAt a.prog f) l.prog (by omega) (fun g hg => by have := sk g (by rw [l.fr]; simp [hg]); omega) (by have := sk f (by rw [l.fr]; simp); simp only; omega) (by simp only; omega) (by simp only; omega) fun h17 => ?_
    · exact key
    · exact (((zz l.prog).1 _ (VM.code_mem ok.code)).2.1 _ (List.mem_of_getElem? nw.at_) h17).1
end Go.Proofs.YtobioljjoipimaaDoor
set_option maxRecDepth 8000
namespace Go.Proofs.YtobioljjoipimaaDoor
open Go Go.RowKit
end Go.Proofs.YtobioljjoipimaaDoor
set_option maxRecDepth 8000
namespace Go.Proofs.YtobioljjoipimaaDoor
open Go Go.RowKit
theorem ztt : Tryd.prog.cellsOf 96 = 3 := by kernel_rfl
def Ins.rd (x : Ins) : Prop := zcl x.op ∧ zcl x.a ∧ zcl x.b
theorem oIns : OpA Tryd.prog 96 Ins.avs Ins.rd :=
  ⟨fun _ _ => ztt.symm, fun enc w base sp held fuel cs x h hw => by
    obtain ⟨hl, hf⟩ := zar Tryd.underlying96 h hw
    rw [ztt] at hl
    obtain ⟨x0, h0, r0⟩ := hf 0 3 0 1 (by kernel_rfl) cInt oInt
    obtain ⟨x1, h1, r1⟩ := hf 1 3 1 1 (by kernel_rfl) cInt oInt
    obtain ⟨x2, h2, r2⟩ := hf 2 3 2 1 (by kernel_rfl) cInt oInt
    match cs, hl with
    | [c0, c1, c2], _ => exact ⟨⟨x0, x1, x2⟩, ⟨h0, h1, h2⟩, fun ρ A => ((r0 ρ A).append ((r1 ρ A).append (r2 ρ A)))⟩⟩
theorem zwq : Tryd.prog.cellsOf 81 = 1 := by kernel_rfl
theorem zaix : OpA Tryd.prog 81 (fun l : List Ins => [.ro (l.map Ins.avs)]) (rdL Ins.rd (Tryd.prog.bytesOf 96)) := zdm Tryd.underlying81 zwq oIns (by rw [ztt]; decide)
theorem zwt : Tryd.prog.cellsOf 90 = 3 := by kernel_rfl
def Cod.rd (x : Cod) : Prop := zcl x.params ∧ zcl x.vars ∧ rdL Ins.rd (Tryd.prog.bytesOf 96) x.ins
theorem oCod : OpA Tryd.prog 90 Cod.avs Cod.rd :=
  ⟨fun _ _ => zwt.symm, fun enc w base sp held fuel cs x h hw => by
    obtain ⟨hl, hf⟩ := zar Tryd.underlying90 h hw
    rw [zwt] at hl
    obtain ⟨x0, h0, r0⟩ := hf 0 3 0 1 (by kernel_rfl) cInt oInt
    obtain ⟨x1, h1, r1⟩ := hf 1 3 1 1 (by kernel_rfl) cInt oInt
    obtain ⟨x2, h2, r2⟩ := hf 2 81 2 1 (by kernel_rfl) zwq zaix
    match cs, hl with
    | [c0, c1, c2], _ => exact ⟨⟨x0, x1, x2⟩, ⟨h0, h1, h2⟩, fun ρ A => ((r0 ρ A).append ((r1 ρ A).append (r2 ρ A)))⟩⟩
theorem zyh : Tryd.prog.cellsOf 27 = 1 := by kernel_rfl
theorem zaja : OpA Tryd.prog 27 (fun l : List Cod => [.ro (l.map Cod.avs)]) (rdL Cod.rd (Tryd.prog.bytesOf 90)) := zdm Tryd.underlying27 zyh oCod (by rw [zwt]; decide)
theorem zuo : Tryd.prog.cellsOf 28 = 1 := by kernel_rfl
theorem zaiw : OpA Tryd.prog 28 (fun l : List (List UInt8) => [.ro (l.map (fun w => [.str w]))]) (rdL (fun s => s.length ≤ reachBytes) (Tryd.prog.bytesOf 9)) := zdm Tryd.underlying28 zuo oStr (by rw [cStr]; decide)
theorem zpc : Tryd.prog.cellsOf 30 = 2 := by kernel_rfl
def Prg.rd (x : Prg) : Prop := rdL Cod.rd (Tryd.prog.bytesOf 90) x.codes ∧ rdL (fun s => s.length ≤ reachBytes) (Tryd.prog.bytesOf 9) x.words
theorem oPrg : OpA Tryd.prog 30 Prg.avs Prg.rd :=
  ⟨fun _ _ => zpc.symm, fun enc w base sp held fuel cs x h hw => by
    obtain ⟨hl, hf⟩ := zar Tryd.underlying30 h hw
    rw [zpc] at hl
    obtain ⟨x0, h0, r0⟩ := hf 0 27 0 1 (by kernel_rfl) zyh zaja
    obtain ⟨x1, h1, r1⟩ := hf 1 28 1 1 (by kernel_rfl) zuo zaiw
    match cs, hl with
    | [c0, c1], _ => exact ⟨⟨x0, x1⟩, ⟨h0, h1⟩, fun ρ A => ((r0 ρ A).append (r1 ρ A))⟩⟩
theorem ztu : Tryd.prog.cellsOf 104 = 4 := by kernel_rfl
def Frm.rd (x : Frm) : Prop := zcl x.fn ∧ zcl x.at_ ∧ rdL Val.rd (Tryd.prog.bytesOf 108) x.vars ∧ rdL Val.rd (Tryd.prog.bytesOf 108) x.stack
theorem oFrm : OpA Tryd.prog 104 Frm.avs Frm.rd :=
  ⟨fun _ _ => ztu.symm, fun enc w base sp held fuel cs x h hw => by
    obtain ⟨hl, hf⟩ := zar Tryd.underlying104 h hw
    rw [ztu] at hl
    obtain ⟨x0, h0, r0⟩ := hf 0 3 0 1 (by kernel_rfl) cInt oInt
    obtain ⟨x1, h1, r1⟩ := hf 1 3 1 1 (by kernel_rfl) cInt oInt
    obtain ⟨x2, h2, r2⟩ := hf 2 102 2 1 (by kernel_rfl) zaap zafs
    obtain ⟨x3, h3, r3⟩ := hf 3 102 3 1 (by kernel_rfl) zaap zafs
    match cs, hl with
    | [c0, c1, c2, c3], _ => exact ⟨⟨x0, x1, x2, x3⟩, ⟨h0, h1, h2, h3⟩, fun ρ A => ((r0 ρ A).append ((r1 ρ A).append ((r2 ρ A).append (r3 ρ A))))⟩⟩
theorem zwr : Tryd.prog.cellsOf 35 = 1 := by kernel_rfl
theorem zaiy : OpA Tryd.prog 35 (fun l : List Frm => [.ro (l.map Frm.avs)]) (rdL Frm.rd (Tryd.prog.bytesOf 104)) := zdm Tryd.underlying35 zwr oFrm (by rw [ztu]; decide)
theorem zqy : Tryd.prog.cellsOf 38 = 3 := by kernel_rfl
def Pmt.rd (x : Pmt) : Prop := zcl x.fuel ∧ zcl x.room ∧ zcl x.hops
theorem oPmt : OpA Tryd.prog 38 Pmt.avs Pmt.rd :=
  ⟨fun _ _ => zqy.symm, fun enc w base sp held fuel cs x h hw => by
    obtain ⟨hl, hf⟩ := zar Tryd.underlying38 h hw
    rw [zqy] at hl
    obtain ⟨x0, h0, r0⟩ := hf 0 3 0 1 (by kernel_rfl) cInt oInt
    obtain ⟨x1, h1, r1⟩ := hf 1 3 1 1 (by kernel_rfl) cInt oInt
    obtain ⟨x2, h2, r2⟩ := hf 2 3 2 1 (by kernel_rfl) cInt oInt
    match cs, hl with
    | [c0, c1, c2], _ => exact ⟨⟨x0, x1, x2⟩, ⟨h0, h1, h2⟩, fun ρ A => ((r0 ρ A).append ((r1 ρ A).append (r2 ρ A)))⟩⟩
theorem zyi : Tryd.prog.cellsOf 40 = 9 := by kernel_rfl
def Agt.rd (x : Agt) : Prop := zcl x.id ∧ zcl x.trip ∧ x.prog.rd ∧ rdL Frm.rd (Tryd.prog.bytesOf 104) x.frames ∧ rdL Cl.rd (Tryd.prog.bytesOf 110) x.heap ∧ x.permit.rd
theorem oAgt : OpA Tryd.prog 40 Agt.avs Agt.rd :=
  ⟨fun _ _ => zyi.symm, fun enc w base sp held fuel cs x h hw => by
    obtain ⟨hl, hf⟩ := zar Tryd.underlying40 h hw
    rw [zyi] at hl
    obtain ⟨x0, h0, r0⟩ := hf 0 3 0 1 (by kernel_rfl) cInt oInt
    obtain ⟨x1, h1, r1⟩ := hf 1 3 1 1 (by kernel_rfl) cInt oInt
    obtain ⟨x2, h2, r2⟩ := hf 2 30 2 2 (by kernel_rfl) zpc oPrg
    obtain ⟨x3, h3, r3⟩ := hf 3 35 4 1 (by kernel_rfl) zwr zaiy
    obtain ⟨x4, h4, r4⟩ := hf 4 36 5 1 (by kernel_rfl) cCls oCls
    obtain ⟨x5, h5, r5⟩ := hf 5 38 6 3 (by kernel_rfl) zqy oPmt
    match cs, hl with
    | [c0, c1, c2, c3, c4, c5, c6, c7, c8], _ => exact ⟨⟨x0, x1, x2, x3, x4, x5⟩, ⟨h0, h1, h2, h3, h4, h5⟩, fun ρ A => ((r0 ρ A).append ((r1 ρ A).append ((r2 ρ A).append ((r3 ρ A).append ((r4 ρ A).append (r5 ρ A))))))⟩⟩
theorem zws : Tryd.prog.cellsOf 113 = 4 := by kernel_rfl
def Fct.rd (x : Fct) : Prop := x.key.length ≤ reachBytes ∧ x.val.rd
theorem oFct : OpA Tryd.prog 113 Fct.avs Fct.rd :=
  ⟨fun _ _ => zws.symm, fun enc w base sp held fuel cs x h hw => by
    obtain ⟨hl, hf⟩ := zar Tryd.underlying113 h hw
    rw [zws] at hl
    obtain ⟨x0, h0, r0⟩ := hf 0 9 0 1 (by kernel_rfl) cStr oStr
    obtain ⟨x1, h1, r1⟩ := hf 1 108 1 3 (by kernel_rfl) cVal oVal
    match cs, hl with
    | [c0, c1, c2, c3], _ => exact ⟨⟨x0, x1⟩, ⟨h0, h1⟩, fun ρ A => ((r0 ρ A).append (r1 ρ A))⟩⟩
theorem zyg : Tryd.prog.cellsOf 41 = 1 := by kernel_rfl
theorem zaiz : OpA Tryd.prog 41 (fun l : List Fct => [.ro (l.map Fct.avs)]) (rdL Fct.rd (Tryd.prog.bytesOf 113)) := zdm Tryd.underlying41 zyg oFct (by rw [zws]; decide)
theorem zacn : Tryd.prog.cellsOf 43 = 4 := by kernel_rfl
def Spt.rd (x : Spt) : Prop := x.name.length ≤ reachBytes ∧ rdL Fct.rd (Tryd.prog.bytesOf 113) x.facts ∧ zcl x.fuel ∧ zcl x.cells
theorem oSpt : OpA Tryd.prog 43 Spt.avs Spt.rd :=
  ⟨fun _ _ => zacn.symm, fun enc w base sp held fuel cs x h hw => by
    obtain ⟨hl, hf⟩ := zar Tryd.underlying43 h hw
    rw [zacn] at hl
    obtain ⟨x0, h0, r0⟩ := hf 0 9 0 1 (by kernel_rfl) cStr oStr
    obtain ⟨x1, h1, r1⟩ := hf 1 41 1 1 (by kernel_rfl) zyg zaiz
    obtain ⟨x2, h2, r2⟩ := hf 2 3 2 1 (by kernel_rfl) cInt oInt
    obtain ⟨x3, h3, r3⟩ := hf 3 3 3 1 (by kernel_rfl) cInt oInt
    match cs, hl with
    | [c0, c1, c2, c3], _ => exact ⟨⟨x0, x1, x2, x3⟩, ⟨h0, h1, h2, h3⟩, fun ρ A => ((r0 ρ A).append ((r1 ρ A).append ((r2 ρ A).append (r3 ρ A))))⟩⟩
end Go.Proofs.YtobioljjoipimaaDoor
set_option maxRecDepth 8000
namespace Go.Proofs.YtobioljjoipimaaDoor
open Go Go.RowKit
def zfm (Q : QT) (nx27 : Nat) (xs19 : List AV) (K18 : J3) (v47 : AV) (H48 : Heap) (nx49 : Nat) : Prop :=
 BI BinOp.neq v47 (AV.int IntKind.i64 0) fun v50 =>
 CNDC v50
 (Q (AV.bool false) H48 nx49)
 (LD true 9 (AV.ptr nx27 0) H48 fun v51 =>
 ST 9 (nth xs19 1) v51 H48 fun H52 =>
 BI BinOp.add (nth xs19 4) (AV.int IntKind.i64 1) fun v53 =>
 K18 [nth xs19 0, nth xs19 1, nth xs19 2, nth xs19 3, v53] H52 nx49)
def zfl (nx27 : Nat) (Q : QT) (xs19 : List AV) (K18 : J3) (v42 : AV) (H43 : Heap) (nx44 : Nat) : Prop :=
 ST 9 (AV.ptr nx27 0) v42 H43 fun H45 =>
 LD true 9 (AV.ptr nx27 0) H45 fun v46 =>
 za Tryd.prog 15 [v46, AV.bool false] H45 nx44 (zfm Q nx27 xs19 K18)
def zfk (Q : QT) (nx27 : Nat) (xs19 : List AV) (K18 : J3) (v37 : AV) (H38 : Heap) (nx39 : Nat) : Prop :=
 BI BinOp.neq v37 (AV.int IntKind.i64 0) fun v40 =>
 CNDC v40
 (Q (AV.bool false) H38 nx39)
 (LD true 9 (AV.ptr nx27 0) H38 fun v41 =>
 za Tryd.prog 18 [v41, nth xs19 0] H38 nx39 (zfl nx27 Q xs19 K18))
def zfj (Q : QT) (nx27 : Nat) (xs19 : List AV) (K18 : J3) (v55 : AV) (H56 : Heap) (nx57 : Nat) : Prop :=
 BI BinOp.neq v55 (AV.int IntKind.i64 0) fun v58 =>
 CNDC v58
 (Q (AV.bool false) H56 nx57)
 (LD true 9 (AV.ptr nx27 0) H56 fun v59 =>
 ST 9 (nth xs19 1) v59 H56 fun H60 =>
 BI BinOp.add (nth xs19 4) (AV.int IntKind.i64 1) fun v61 =>
 K18 [nth xs19 0, nth xs19 1, nth xs19 2, nth xs19 3, v61] H60 nx57)
def zay (Q : QT) (xs19 : List AV) (K18 : J3) (v25 : AV) (H26 : Heap) (nx27 : Nat) : Prop :=
 EX v25 0 fun v28 =>
 EX v25 1 fun v29 =>
 ST 9 (AV.ptr nx27 0) v28 ((H26.put nx27 (some (AObj.row 9 [AV.int IntKind.i64 0, AV.int IntKind.i64 0, AV.nils, AV.nils, AV.nils, AV.nils, AV.int IntKind.i64 0, AV.int IntKind.i64 0, AV.int IntKind.i64 0]))).put ((nx27 + 1)) (some (AObj.row 3 [AV.int IntKind.i64 0, AV.str [], AV.int IntKind.i64 0]))) fun H30 =>
 ST 3 (AV.ptr (nx27 + 1) 0) v29 H30 fun H31 =>
 LD false 1 (AV.ptr (nx27 + 1) 0) H31 fun v32 =>
 BI BinOp.eql v32 (AV.int IntKind.i64 4) fun v33 =>
 CNDC v33
 (Q (AV.bool true) H31 (nx27 + 2))
 (BI BinOp.eql v32 (AV.int IntKind.i64 5) fun v34 =>
 CNDC v34
 (Q (AV.bool true) H31 (nx27 + 2))
 (BI BinOp.eql v32 (AV.int IntKind.i64 3) fun v35 =>
 CNDC v35
 (LD true 9 (AV.ptr nx27 0) H31 fun v36 =>
 za Tryd.prog 15 [v36, AV.bool true] H31 (nx27 + 2) (zfk Q nx27 xs19 K18))
 (LD true 9 (AV.ptr nx27 0) H31 fun v54 =>
 za Tryd.prog 15 [v54, AV.bool false] H31 (nx27 + 2) (zfj Q nx27 xs19 K18))))
def zcz (Q : QT) (K18 : J3) (xs19 : List AV) (H20 : Heap) (nx21 : Nat) : Prop :=
 BI BinOp.lss (nth xs19 4) (nth xs19 3) fun v22 =>
 CNDC v22
 (LD true 9 (nth xs19 1) H20 fun v23 =>
 LD true 4 (nth xs19 2) H20 fun v24 =>
 za Tryd.prog 17 [v23, v24] H20 nx21 (zay Q xs19 K18))
 (Q (AV.bool true) H20 nx21)
def zax (Q : QT) (a3 : AV) (nx : Nat) (a2 : AV) (v13 : AV) (H14 : Heap) (nx15 : Nat) : Prop :=
 CND v13
 (Q (AV.bool true) H14 nx15)
 (BI BinOp.lss a3 (AV.int IntKind.i64 0) fun v16 =>
 CND v16
 (Q (AV.bool true) H14 nx15)
 (BI BinOp.gtr a3 (AV.int IntKind.i64 1) fun v17 =>
 CNDC v17
 (Q (AV.bool true) H14 nx15)
 (LP (zcz Q) [a3, AV.ptr nx 0, AV.ptr (nx + 1) 0, a2, AV.int IntKind.i64 0] H14 nx15)))
def zaw (Q : QT) (a2 : AV) (nx : Nat) (a3 : AV) (v6 : AV) (H7 : Heap) (nx8 : Nat) : Prop :=
 BI BinOp.neq v6 (AV.int IntKind.i64 0) fun v9 =>
 CND v9
 (Q (AV.bool true) H7 nx8)
 (BI BinOp.lss a2 (AV.int IntKind.i64 0) fun v10 =>
 CND v10
 (Q (AV.bool true) H7 nx8)
 (BI BinOp.gtr a2 (AV.int IntKind.i64 300) fun v11 =>
 CND v11
 (Q (AV.bool true) H7 nx8)
 (LD true 4 (AV.ptr (nx + 1) 0) H7 fun v12 =>
 za Tryd.prog 16 [v12] H7 nx8 (zax Q a3 nx a2))))
def zfi (Q : QT) (nx : Nat) (a2 : AV) (a3 : AV) (v1 : AV) (H2 : Heap) (nx3 : Nat) : Prop :=
 UO UnOp.not v1 fun v4 =>
 CNDC v4
 (Q (AV.bool false) H2 nx3)
 (LD true 9 (AV.ptr nx 0) H2 fun v5 =>
 za Tryd.prog 15 [v5, AV.bool false] H2 nx3 (zaw Q a2 nx a3))
def zfh (a0 a1 a2 a3 : AV) (H : Heap) (nx : Nat) (Q : QT) : Prop :=
 a0.sure = true ∧
 a1.sure = true ∧
 za Tryd.prog 14 [] ((H.put nx (some (AObj.row a0.cells.length a0.cells))).put ((nx + 1)) (some (AObj.row a1.cells.length a1.cells))) (nx + 2) (zfi Q nx a2 a3)
theorem zjc (a0 a1 a2 a3 : AV) (H : Heap) (nx : Nat) (Q : QT) : zfh a0 a1 a2 a3 H nx Q → za Tryd.prog 4 [a0, a1, a2, a3] H nx Q :=
  zn (lv := lvOf [(2, 6, [3, 4, 5, 36, 37])]) (c := zy Tryd.f4) zak zan mixed Tryd.func4 (by kernel_rfl) (by kernel_rfl) (by kernel_rfl) (by kernel_rfl) (by kernel_rfl)
def zge (xs7 : List AV) (K6 : J3) (v16 : AV) (H17 : Heap) (nx18 : Nat) : Prop :=
 BI BinOp.neq v16 (AV.int IntKind.i64 0) fun v19 =>
 BI BinOp.add (nth xs7 3) (AV.int IntKind.i64 1) fun v20 =>
 K6 [v19, nth xs7 1, nth xs7 2, v20] H17 nx18
def zdv (Q : QT) (K6 : J3) (xs7 : List AV) (H8 : Heap) (nx9 : Nat) : Prop :=
 BI BinOp.lss (nth xs7 3) (nth xs7 2) fun v10 =>
 CNDC v10
 (IA 4 (nth xs7 1) (nth xs7 3) fun v11 =>
 LD true 4 v11 H8 fun v12 =>
 ST 4 (AV.ptr nx9 0) v12 (H8.put nx9 (some (AObj.row 4 [AV.str [], AV.int IntKind.i64 0, AV.int IntKind.i64 0, AV.str []]))) fun H13 =>
 CND (nth xs7 0)
 (BI BinOp.add (nth xs7 3) (AV.int IntKind.i64 1) fun v14 =>
 K6 [AV.bool true, nth xs7 1, nth xs7 2, v14] H13 (nx9 + 1))
 (LD true 3 (AV.ptr nx9 1) H13 fun v15 =>
 za Tryd.prog 42 [v15, AV.int IntKind.i64 0] H13 (nx9 + 1) (zge xs7 K6)))
 (Q (nth xs7 0) H8 nx9)
def zlb (a0 : AV) (H : Heap) (nx : Nat) (Q : QT) : Prop :=
 a0.sure = true ∧
 LD false 1 (AV.ptr nx 0) (H.put nx (some (AObj.row a0.cells.length a0.cells))) fun v1 =>
 LNS v1 fun v2 =>
 BI BinOp.gtr v2 (AV.int IntKind.i64 12) fun v3 =>
 LD false 1 (AV.ptr nx 1) (H.put nx (some (AObj.row a0.cells.length a0.cells))) fun v4 =>
 LNL v4 fun v5 =>
 LP (zdv Q) [v3, v4, v5, AV.int IntKind.i64 0] (H.put nx (some (AObj.row a0.cells.length a0.cells))) (nx + 1)
theorem zpv (a0 : AV) (H : Heap) (nx : Nat) (Q : QT) : zlb a0 H nx Q → za Tryd.prog 16 [a0] H nx Q :=
  zn (lv := lvOf [(2, 3, [3, 11, 12, 13])]) (c := zy Tryd.f16) zak zan mixed Tryd.func16 (by kernel_rfl) (by kernel_rfl) (by kernel_rfl) (by kernel_rfl) (by kernel_rfl)
end Go.Proofs.YtobioljjoipimaaDoor
