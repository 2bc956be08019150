/- The machine goes on: Run. The machine goes on: Run. A program, and an agent, are the same as themselves. The machine: Answer. What a call is handed is read by value from then on, in part. The machine: New. What is made of two values: the document's function. The laws' first question, asked of closed facts. The machine: Pack. The machine: Pack, all of it. The document's machine: a frame in the last one's place. The document's machine: Answer, New. Cells numbered as they are come to: the document's closures. Cells numbered as they are come to: the document's function, its first part. Cells numbered as they are come to: the document's function, its loops. The same, seen from outside: the law's function. Cells numbered as they are come to: the document's function, all of it. Cells numbered as they are come to: the document's answer. -/
import Derived.Test.YtejohcohkgcmhaaDoorG8
import Derived.Test.YtejohcohkgcmhaaDoorG5
import Derived.Test.YtejohcohkgcmhaaDoorG7
namespace Go.Proofs.YtejohcohkgcmhaaDoor
open Go Go.RowKit
theorem Slot.frzN {H : Heap} {nx sz : Nat} {xs : List (List AV)} {a : AV} (hs : Slot H sz xs.length xs.flatten a) (ho : ∀ g ∈ own a, nx ≤ g) (hsz : ∀ x ∈ xs, x.length = sz) (hb : ∀ x ∈ xs, ∀ c ∈ x, scal c = true) : Frz H nx a (.ro xs) := by
  rcases hs with ⟨h0, rfl | rfl⟩ | ⟨g, cs, rfl, h1, h2, h3⟩
  · rw [List.eq_nil_of_length_eq_zero h0]; exact .nils
  · rw [List.eq_nil_of_length_eq_zero h0]; exact .zs
  · have e : ∀ (i : Nat) (x : List AV) (j : Nat) (v : AV), xs[i]? = some x → x[j]? = some v → cs[0 + i * sz + j]? = some v := fun i x j v hx hv => by
      have hxl : x.length = sz := hsz x (List.mem_of_getElem? hx)
      have hj : j < sz := by have := (List.getElem?_eq_some_iff.1 hv).1; omega
      have hi := (List.getElem?_eq_some_iff.1 hx).1
      have e1 := zfm hsz hx
      have e2 := congrArg (·[j]?) e1
      simp only [List.getElem?_take, List.getElem?_drop, hj, if_true] at e2
      rw [← h2, List.getElem?_take, hv] at e2
      have : i * sz + sz ≤ xs.length * sz := by rw [← Nat.succ_mul]; exact Nat.mul_le_mul_right _ hi
      rw [if_pos (by omega)] at e2
      rw [Nat.zero_add]; exact e2
    refine .slc g 0 _ sz cs xs (ho g (by simp [own])) h1 (by omega) rfl hsz (fun i j => (cs[0 + i * sz + j]?).getD .junk) (fun i x j v hx hv => ?_) (fun i x j v hx hv => ?_)
    · rw [e i x j v hx hv]; rfl
    · rw [e i x j v hx hv]; exact .same _ (zbi (hb x (List.mem_of_getElem? hx) v (List.mem_of_getElem? hv)))
theorem Slot.frzV {H : Heap} {nx : Nat} {l : List Val} {a : AV} (hs : Slot H 3 l.length (rowV l) a) (ho : ∀ g ∈ own a, nx ≤ g) : Frz H nx a (.ro (l.map Val.avs)) :=
  Slot.frzN (sz := 3) (by simpa [rowV] using hs) ho (zbo l) (zea l)
theorem Slot.frzH {H : Heap} {nx : Nat} {l : List Cl} {a : AV} (hs : Slot H 6 l.length (rowC l) a) (ho : ∀ g ∈ own a, nx ≤ g) : Frz H nx a (.ro (l.map Cl.avs)) :=
  Slot.frzN (sz := 6) (by simpa [rowC] using hs) ho (zbe l) (zag l)
theorem zaij : ∀ {fs : List Frm} {ss : List (AV × AV)} {i : Nat} {f : Frm} {s : AV × AV}, fs[i]? = some f → ss[i]? = some s → (frow fs ss)[i * 4]? = some (.int .i64 f.fn) ∧ (frow fs ss)[i * 4 + 1]? = some (.int .i64 f.at_) ∧ (frow fs ss)[i * 4 + 2]? = some s.1 ∧ (frow fs ss)[i * 4 + 3]? = some s.2
  | [], _, i, f, s, h, _ => by simp at h
  | _ :: _, [], i, f, s, _, h => by simp at h
  | g :: fs, t :: ss, 0, f, s, h1, h2 => by simp at h1 h2; subst h1; subst h2; exact ⟨rfl, rfl, rfl, rfl⟩
  | g :: fs, t :: ss, i + 1, f, s, h1, h2 => by
    have := zaij (fs := fs) (ss := ss) (i := i) (f := f) (s := s) (by simpa using h1) (by simpa using h2)
    have e : ∀ k, (frow (g :: fs) (t :: ss))[(i + 1) * 4 + k]? = (frow fs ss)[i * 4 + k]? := fun k => by
      rw [show (i + 1) * 4 + k = i * 4 + k + 1 + 1 + 1 + 1 by omega]
      simp [frow]
    exact ⟨(e 0).trans this.1, (e 1).trans this.2.1, (e 2).trans this.2.2.1, (e 3).trans this.2.2.2⟩
theorem zak.frz {H : Heap} {nx : Nat} {fs : List Frm} {ss : List (AV × AV)} {g k : Nat} {cs : List AV} (h : zak H fs ss) (h1 : H g = some (.row 4 cs)) (h2 : cs.take (fs.length * 4) = frow fs ss) (h3 : fs.length * 4 ≤ cs.length) (hg : nx ≤ g) (ho : ∀ x ∈ owns ss, nx ≤ x) (hk : k = fs.length) : Frz H nx (.slc g 0 k) (.ro (fs.map Frm.avs)) := by
  subst hk
  have key : ∀ (i : Nat) (x : List AV) (j : Nat) (v : AV), (fs.map Frm.avs)[i]? = some x → x[j]? = some v → ∃ u, cs[0 + i * 4 + j]? = some u ∧ Frz H nx u v := fun i x j v hx hv => by
    rw [List.getElem?_map] at hx
    obtain ⟨f, hf, rfl⟩ := Option.map_eq_some_iff.1 hx
    have hi := (List.getElem?_eq_some_iff.1 hf).1
    have hs : ss[i]? = some (ss[i]'(by rw [h.1]; exact hi)) := List.getElem?_eq_getElem _
    obtain ⟨a, b⟩ := h.2 i f _ hf hs
    obtain ⟨q0, q1, q2, q3⟩ := zaij hf hs
    have hm := List.mem_of_getElem? hs
    have up : ∀ (j : Nat) (u : AV), j < 4 → (frow fs ss)[i * 4 + j]? = some u → cs[0 + i * 4 + j]? = some u := fun j u hj hu => by
      rw [← h2, List.getElem?_take, if_pos (by omega)] at hu; rw [Nat.zero_add]; exact hu
    match j, hv with
    | 0, hv => cases hv; exact ⟨_, up 0 _ (by omega) q0, .same _ (.int _ _)⟩
    | 1, hv => cases hv; exact ⟨_, up 1 _ (by omega) q1, .same _ (.int _ _)⟩
    | 2, hv => cases hv; exact ⟨_, up 2 _ (by omega) q2, a.frzV fun x hx => ho x (List.mem_flatMap.2 ⟨_, hm, List.mem_append_left _ hx⟩)⟩
    | 3, hv => cases hv; exact ⟨_, up 3 _ (by omega) q3, b.frzV fun x hx => ho x (List.mem_flatMap.2 ⟨_, hm, List.mem_append_right _ hx⟩)⟩
    | j + 4, hv => simp [Frm.avs] at hv
  refine .slc g 0 _ 4 cs _ hg h1 (by omega) (by simp) (fun x hx => ?_) (fun i j => (cs[0 + i * 4 + j]?).getD .junk) (fun i x j v hx hv => ?_) (fun i x j v hx hv => ?_)
  · obtain ⟨f, _, rfl⟩ := List.mem_map.1 hx; rfl
  · obtain ⟨u, q1, q2⟩ := key i x j v hx hv; rw [q1]; rfl
  · obtain ⟨u, q1, q2⟩ := key i x j v hx hv; rw [q1]; exact q2
theorem zvu (l : List Cod) {A : Nat → Prop} : Bel A (.ro (l.map Cod.avs)) := .ro _ fun i x j v hx hv => by
  rw [List.getElem?_map] at hx
  obtain ⟨c, _, rfl⟩ := Option.map_eq_some_iff.1 hx
  match j, hv with
  | 0, hv => cases hv; exact .int _ _
  | 1, hv => cases hv; exact .int _ _
  | 2, hv => cases hv; exact zcc (zadp _)
  | j + 3, hv => simp [Cod.avs] at hv
theorem zvt (l : List Str) {A : Nat → Prop} : Bel A (.ro (l.map fun w => [.str w])) := zcc (zado l)
theorem zbs {H : Heap} {nx : Nat} {id trip : Int} {p : Prg} {fs : List Frm} {h : List Cl} {m : Pmt} {fa ha : AV} (h1 : Frz H nx fa (.ro (fs.map Frm.avs))) (h2 : Frz H nx ha (.ro (h.map Cl.avs))) : Frz H nx (.agg (zc id trip p fa ha m)) (.agg (Agt.avs ⟨id, trip, p, fs, h, m⟩)) := by
  refine .agg _ _ rfl fun j v u hv hu => ?_
  match j with
  | 0 => cases hv; cases hu; exact .same _ (.int _ _)
  | 1 => cases hv; cases hu; exact .same _ (.int _ _)
  | 2 => cases hv; cases hu; exact .same _ (zvu _)
  | 3 => cases hv; cases hu; exact .same _ (zvt _)
  | 4 => cases hv; cases hu; exact h1
  | 5 => cases hv; cases hu; exact h2
  | 6 => cases hv; cases hu; exact .same _ (.int _ _)
  | 7 => cases hv; cases hu; exact .same _ (.int _ _)
  | 8 => cases hv; cases hu; exact .same _ (.int _ _)
  | j + 9 => simp [zc] at hv
theorem Live.codes {a : Agt} {fs : List Frm} {f : Frm} (l : VM.Live a fs f) : a.prog.codes.length ≤ 5 ∧ a.prog.words.length ≤ 16 ∧ ∀ c ∈ a.prog.codes, c.ins.length ≤ 200 ∧ 0 ≤ c.vars ∧ c.vars ≤ 8 ∧ (∀ x ∈ (VM.heights c.ins).1, -1 ≤ x ∧ x ≤ 16) := by
  obtain ⟨h1, h2, h3⟩ := zz l.prog
  refine ⟨h2, h3, fun c hc => ?_⟩
  obtain ⟨q1, q2, q3⟩ := h1 c hc
  unfold VM.codeRange at q1
  rw [decide_eq_false_iff_not] at q1
  exact ⟨by omega, by omega, by omega, (zde q2 q3).2⟩
theorem Live.stk {a : Agt} {fs : List Frm} {f : Frm} (l : VM.Live a fs f) : ∀ g ∈ a.frames, g.vars.length ≤ 8 ∧ g.stack.length ≤ 16 := by
  obtain ⟨_, _, h3⟩ := Live.codes l
  intro g hg
  rw [l.fr] at hg
  have ok := l.ok g hg
  obtain ⟨q1, q2, q3, q4⟩ := h3 _ (VM.code_mem ok.code)
  have hv := ok.vars
  refine ⟨by omega, ?_⟩
  rcases List.mem_append.1 hg with hg | hg
  · have := zub l g hg; omega
  · simp at hg; subst hg
    have hst := l.still
    unfold VM.Still VM.hts at hst
    have := q4 _ (List.mem_of_getElem? hst)
    omega
theorem Live.sized {a : Agt} {fs : List Frm} {f : Frm} (l : VM.Live a fs f) : zsp a := by
  obtain ⟨h1, h2, h3⟩ := Live.codes l
  have hf : a.frames.length ≤ 12 := by rw [l.fr]; simp; have := l.flen; omega
  have hh : a.heap.length ≤ 60 := by have := l.hlen; have := l.room; omega
  exact ⟨by omega, fun c hc => by have := (h3 c hc).1; omega, by omega, by omega, by omega, fun g hg => by have := Live.stk l g hg; omega⟩
theorem RL.of_owned {H0 H : Heap} {lo n gs : Nat} {id trip : Int} {p : Prg} {s : Spt} {fs : List Frm} {f : Frm} {ss : List (AV × AV)} {fa : AV} {h : List Cl} {ha : AV} {m : Pmt} {e : Evt} (ow : zmn H lo n (fs ++ [f]) ss fa h ha) (hn : lo ≤ n) (h2 : gs < lo) (hs : H gs = some (.row 4 s.avs)) (hk : Keep lo H H0) :
    ∃ gf ss' va sa, fa = .slc gf 0 (fs.length + 1) ∧ RL H0 (H.put n (some (.row 13 (zg id trip p (.slc gf 0 (fs.length + 1)) ha m gs e)))) lo (n + 1) n gs gf id trip p s fs ss' f va sa h ha m e := by
  obtain ⟨f1, f2, f3, f4, f5⟩ := ow
  have hl : ss.length = fs.length + 1 := by rw [f1.1]; simp
  obtain ⟨ss', t, rfl⟩ : ∃ ss' t, ss = ss' ++ [t] := by
    rcases List.eq_nil_or_concat ss with rfl | ⟨ss', t, h⟩
    · simp at hl
    · exact ⟨ss', t, by simpa using h⟩
  rcases f2 with ⟨h0, _⟩ | ⟨gf, cs, rfl, c1, c2, c3⟩
  · simp at h0
  have nb : ∀ g ∈ own (AV.slc gf 0 (fs ++ [f]).length) ++ (own ha ++ owns (ss' ++ [t])), g ≠ n ∧ lo ≤ g ∧ g < n := fun g hg => by have := f5 g hg; omega
  have put : ∀ g, g < n → (H.put n (some (.row 13 (zg id trip p (.slc gf 0 (fs.length + 1)) ha m gs e)))) g = H g := fun g hg => Heap.put_ne _ _ (by omega)
  obtain ⟨l1, l2, l3⟩ := f1.last
  have ef : (fs ++ [f]).length = fs.length + 1 := by simp
  rw [ef] at c2 c3 nb f4 f5
  rw [zcl l1.1] at c2
  have bh : ∀ g ∈ own ha, lo ≤ g ∧ g < n := fun g hg => f5 g (by simp [hg])
  have bs : ∀ g ∈ owns (ss' ++ [t]), lo ≤ g ∧ g < n := fun g hg => f5 g (by rw [List.mem_append, List.mem_append]; exact .inr (.inr hg))
  have bf : lo ≤ gf ∧ gf < n := f5 gf (by simp [own])
  have es := zck ss' t
  refine ⟨gf, ss', t.1, t.2, by rw [ef], Heap.put_at _ _ _, ⟨cs, by rw [put gf bf.2]; exact c1, c2, c3⟩, l1.keep fun g hg => put g (bs g (by rw [es]; simp [hg])).2, l2.keep fun g hg => put g (bs g (by rw [es]; simp [hg])).2, l3.keep fun g hg => put g (bs g (by rw [es]; simp [hg])).2, f3.keep fun g hg => put g (bh g hg).2, by rw [put gs (by omega)]; exact hs, ?_, by omega, ?_, ?_, by omega⟩
  · rw [es] at f4
    have e0 : own (AV.slc gf 0 (fs.length + 1)) = [gf] := rfl
    rw [e0, List.singleton_append] at f4
    refine List.nodup_cons.2 ⟨?_, List.nodup_cons.2 ⟨?_, f4⟩⟩
    · intro hm
      rcases List.mem_cons.1 hm with h | h
      · omega
      · have := f5 n (by rw [es, e0]; exact h); omega
    · intro hm
      have := f5 gs (by rw [es, e0]; exact hm); omega
  · intro g hg
    rcases List.mem_cons.1 hg with h | hg
    · omega
    have := f5 g (by rw [es]; exact hg)
    omega
  · intro g hg
    rw [put g (by omega)]; exact hk g hg
def zaox (H0 H : Heap) (lo n gr : Nat) (r : Agt × Evt) : Prop := r.2.kind ≠ 0 ∧ gr < n ∧ Fin H0 H lo gr r.1.id r.1.trip r.1.prog r.1.frames r.1.heap r.1.permit r.2
end Go.Proofs.YtejohcohkgcmhaaDoor
namespace Go.Proofs.YtejohcohkgcmhaaDoor
open Go Go.RowKit
theorem Fin.frz {H0 H : Heap} {lo nx gr : Nat} {id trip : Int} {p : Prg} {frames : List Frm} {h : List Cl} {m : Pmt} {e : Evt} (fi : Fin H0 H lo gr id trip p frames h m e) (hnx : nx ≤ lo) :
    ∃ gs fa ha, H gr = some (.row 13 (zg id trip p fa ha m gs e)) ∧ Keep lo H H0 ∧ fa.one = true ∧ fa.sure = true ∧ ha.one = true ∧ ha.sure = true ∧ fa.cells = [fa] ∧ ha.cells = [ha] ∧ ∀ H2 : Heap, (∀ g, lo ≤ g → H2 g = H g) → Frz H2 nx (.agg (zc id trip p fa ha m)) (.agg (Agt.avs ⟨id, trip, p, frames, h, m⟩)) := by
  obtain ⟨gs, gf, ss, ha, cs, h1, h2, h3, h4, h5, h6, h7, h8, h9, h10⟩ := fi
  refine ⟨gs, _, ha, h1, h10, rfl, rfl, h6.one.2.1, h6.one.2.2, rfl, h6.one.1, fun H2 hk => ?_⟩
  refine zbs (zak.frz (h5.keep fun g hg => hk g (h9 g hg)) (by rw [hk gf h7]; exact h2) h3 h4 (by omega) (fun x hx => by have := h9 x hx; omega) rfl) ((h6.keep fun g hg => hk g (h8 g hg)).frzH fun x hx => by have := h8 x hx; omega)
theorem zafk (s : Spt) (a : Agt) : VM.run s 0 a = (a, ⟨1, [], 0⟩) := rfl
theorem zzf (s : Spt) (n : Nat) (a : Agt) : VM.run s (n + 1) a = if (VM.step a s).2.kind ≠ 0 then VM.step a s else VM.run s n (VM.step a s).1 := rfl
structure zjn (H0 H : Heap) (lo nx n : Nat) (gr gs : Nat) (most x : Int) (s : Spt) (r : Agt × Evt) (k : Nat) : Prop where
  r1 : ∃ z, H (nx + 2) = some (.row 9 z) ∧ z.length = 9
  r2 : ∃ z, H (nx + 3) = some (.row 3 z) ∧ z.length = 3
  grn : lo ≤ gr ∧ gr < n
  keep : Keep lo H H0
  st : (∃ i : Nat, x = i ∧ i ≤ most.toNat ∧ k = most.toNat - i + 1 ∧ ∃ b fs f gf ss va sa ha, VM.Live b fs f ∧ RL H0 H lo n gr gs gf b.id b.trip b.prog s fs ss f va sa b.heap ha b.permit VM.ev0 ∧ VM.run s (most.toNat - i) b = r) ∨ (k = 0 ∧ zaox H0 H lo n gr r)
theorem zach {c : Agt} {fs : List Frm} {f : Frm} (l : VM.Live c fs f) (hf : c.permit.fuel ≠ 0) (s : Spt) : VM.step c s = VM.opDo { c with permit := { c.permit with fuel := c.permit.fuel - 1 } } s fs { f with at_ := f.at_ + 1 } (VM.insAt c.prog f) := by
  have e1 : c.frames.getLast? = some f := by rw [l.fr]; simp
  have e2 : c.frames.dropLast = fs := by rw [l.fr]; simp
  unfold VM.step
  rw [if_neg hf, e1, e2]
set_option maxRecDepth 20000 in
set_option maxHeartbeats 1000000 in
theorem zamx {s : Spt} {most : Int} {r : Agt × Evt} {nx gr : Nat} {H0 H : Heap} {n : Nat} {Q : AV → Heap → Nat → Prop} (hname : s.name.length ≤ maxLen) (hfacts : s.facts.length ≤ 4611686018427387903) (hw : ∀ x ∈ s.facts, VM.WrongOk x.val (0 : Int)) (hm : most ≤ 9223372036854775807)
    (h0 : ∃ k, zjn H0 H (nx + 4) nx n gr (nx + 1) most 0 s r k)
    (hq : ∀ H' n' fa ha, r.2.kind ≠ 0 → Keep nx H' H0 → Frz H' nx (.agg (zc r.1.id r.1.trip r.1.prog fa ha r.1.permit)) (.agg r.1.avs) → Q (.tup [.agg (zc r.1.id r.1.trip r.1.prog fa ha r.1.permit), .agg r.2.avs]) H' n') :
    LP (zfb Q) [.int .i64 most, .ptr (nx + 2) 0, .ptr (nx + 3) 0, .ptr gr 0, .int .i64 0] H n := by
  obtain ⟨k0, h0⟩ := h0
  refine LP.mk (fun k xs H' n' => ∃ x : Int, xs = [.int .i64 most, .ptr (nx + 2) 0, .ptr (nx + 3) 0, .ptr gr 0, .int .i64 x] ∧ zjn H0 H' (nx + 4) nx n' gr (nx + 1) most x s r k) k0 ⟨0, rfl, h0⟩ ?_
  rintro k xs H' n' ⟨x, rfl, b⟩
  suffices key : ∀ K : J3, (∀ (x : Int) H' n' k', k' < k → zjn H0 H' (nx + 4) nx n' gr (nx + 1) most x s r k' → K [.int .i64 most, .ptr (nx + 2) 0, .ptr (nx + 3) 0, .ptr gr 0, .int .i64 x] H' n') → zfb Q K [.int .i64 most, .ptr (nx + 2) 0, .ptr (nx + 3) 0, .ptr gr 0, .int .i64 x] H' n' from
    key _ fun x H' n' k' hk hb => ⟨k', hk, x, rfl, hb⟩
  intro K hK
  obtain ⟨⟨z1, z2, z3⟩, ⟨y1, y2, y3⟩, ⟨g1, g2⟩, hkeep, st⟩ := b
  rcases st with ⟨i, rfl, hi, rfl, c, fs, f, gf, ss, va, sa, ha, l, st, hr⟩ | ⟨rfl, hk0, g3, fi⟩
  · have hrun := st.run
    have e0 : VM.ev0.kind = 0 := rfl
    have go : ∀ H1 n1 x k', n' ≤ n1 → Keep (nx + 4) H1 H0 → ((∃ i : Nat, x = (i : Int) ∧ i ≤ most.toNat ∧ k' = most.toNat - i + 1 ∧ ∃ b fs f gf ss va sa ha, VM.Live b fs f ∧ RL H0 H1 (nx + 4) n1 gr (nx + 1) gf b.id b.trip b.prog s fs ss f va sa b.heap ha b.permit VM.ev0 ∧ VM.run s (most.toNat - i) b = r) ∨ (k' = 0 ∧ zaox H0 H1 (nx + 4) n1 gr r)) → zjn H0 H1 (nx + 4) nx n1 gr (nx + 1) most x s r k' := fun H1 n1 x k' hn hk hs =>
      ⟨⟨z1, by rw [hk _ (by omega), ← hkeep _ (by omega)]; exact z2, z3⟩, ⟨y1, by rw [hk _ (by omega), ← hkeep _ (by omega)]; exact y2, y3⟩, ⟨g1, by omega⟩, hk, hs⟩
    by_cases hge : most ≤ i
    · have : most.toNat - i = 0 := by omega
      rw [this, zafk] at hr
      simp [zfb, hrun, zg, e0, hge]
      have st1 := st.setrun c.permit ⟨1, [], 0⟩
      refine hK _ _ _ 0 (by omega) (go _ _ _ _ (Nat.le_refl _) st1.keep (.inr ⟨rfl, ?_⟩))
      rw [← hr]
      refine ⟨by simp, g2, ?_⟩
      have := st1.fin
      rw [← l.fr] at this
      exact this
    · obtain ⟨j, hj⟩ : ∃ j, most.toNat - i = j + 1 := ⟨most.toNat - i - 1, by omega⟩
      have hadd : IntKind.i64.wrap ((i : Int) + 1) = ((i + 1 : Nat) : Int) := by rw [i64w (by omega)]; rfl
      rw [hj, zzf] at hr
      by_cases hfu : c.permit.fuel = 0
      · simp [zfb, hrun, zg, e0, hge, hfu]
        refine zjk st 12 fun H1 st1 => ?_
        have hs : VM.step c s = (c, VM.dead 12) := by unfold VM.step; rw [if_pos hfu]
        rw [hs, if_pos (by simp [VM.dead])] at hr
        simp [zadf, hadd]
        refine hK _ _ _ 0 (by omega) (go _ _ _ _ (Nat.le_refl _) st1.keep (.inr ⟨rfl, ?_⟩))
        rw [← hr]
        refine ⟨by simp [VM.dead], g2, ?_⟩
        have := st1.fin
        rw [← l.fr] at this
        exact this
      · simp [zfb, hrun, zg, e0, hge, hfu]
        refine zapo l hfu st hname hfacts fun H1 n1 hn1 sp => ?_
        rw [← zach l hfu s] at sp
        simp [zade]
        rw [hadd]
        rcases sp with ⟨hev, gf', fs', ss', f', va', sa', ha', hfr, st1⟩ | ⟨hev, fi⟩
        · have hk : (VM.step c s).2.kind = 0 := by rw [hev]; rfl
          rw [if_neg (by rw [hk]; simp)] at hr
          obtain ⟨gs, g, l'⟩ := VM.step_live l hw hk
          have := l'.fr
          rw [hfr] at this
          obtain ⟨rfl, e⟩ := List.append_inj' this rfl
          simp at e
          subst e
          refine hK _ _ _ (most.toNat - (i + 1) + 1) (by omega) (go _ _ _ _ hn1 st1.keep (.inl ⟨i + 1, rfl, by omega, rfl, _, _, _, _, _, _, _, _, l', st1, ?_⟩))
          rw [show most.toNat - (i + 1) = j by omega]
          exact hr
        · rw [if_pos hev] at hr
          obtain ⟨_, _, _, _, _, _, _, _, _, _, _, _, _, _, kp⟩ := id fi
          refine hK _ _ _ 0 (by omega) (go _ _ _ _ hn1 kp (.inr ⟨rfl, ?_⟩))
          rw [← hr]
          exact ⟨hev, by omega, fi⟩
  · obtain ⟨gs, fa, ha, hrun, _, o1, o2, o3, o4, o5, o6, hz⟩ := fi.frz (nx := nx) (by omega)
    simp [zfb, hrun, zg, hk0, z2, y2, z3, y3, o1, o2, o3, o4, o5, o6]
    refine ⟨by omega, hq _ _ fa ha hk0 (fun g hg => ?_) (hz _ fun g hg => ?_)⟩
    · rw [Heap.put_ne _ _ (by omega), Heap.put_ne _ _ (by omega)]; exact hkeep g (by omega)
    · rw [Heap.put_ne _ _ (by omega), Heap.put_ne _ _ (by omega)]
theorem zny (e : Evt) {A : Nat → Prop} : Bel A (.agg e.avs) := by
  refine .agg _ fun i x hv => ?_
  match i with
  | 0 => cases hv; exact .int _ _
  | 1 => cases hv; exact .str _
  | 2 => cases hv; exact .int _ _
  | i + 3 => simp [Evt.avs] at hv
set_option maxRecDepth 20000 in
theorem zarb {a : Agt} {fs : List Frm} {f : Frm} {s : Spt} {most : Int} (l : VM.Live a fs f) (hname : s.name.length ≤ maxLen) (hfacts : s.facts.length ≤ 4611686018427387903) (hw : ∀ x ∈ s.facts, VM.WrongOk x.val (0 : Int)) (hm : most ≤ 9223372036854775807) :
    QC Tryd.prog 25 [.agg a.avs, .agg s.avs, .int .i64 most] (.tup [.agg (VM.run s most.toNat a).1.avs, .agg (VM.run s most.toNat a).2.avs]) := by
  refine QC.of' fun H nx => ?_
  refine zafb _ _ _ H nx _ ?_
  have av : (AV.agg a.avs).cells = a.avs := by simp
  have al : a.avs.length = 9 := rfl
  have sv : (AV.agg s.avs).cells = s.avs := by simp
  have sl : s.avs.length = 4 := rfl
  have hsu : (AV.agg a.avs).sure = true := by simp [Agt.avs]
  have hss : (AV.agg s.avs).sure = true := by simp [Spt.avs]
  unfold zul
  rw [av, al, sv, sl]
  refine ⟨hsu, hss, ?_⟩
  have at9 : a.avs.take 9 = a.avs := by rw [← al, List.take_length]
  simp [al, at9]
  refine zvb (Live.sized l) fun H1 n1 ss fa ha hn1 k1 ow => ?_
  generalize hHH : Heap.put _ (nx + 3) _ = HH at *
  have q1 : HH (nx + 1) = some (.row 4 s.avs) := by rw [← hHH, Heap.put_ne _ _ (by omega), Heap.put_ne _ _ (by omega), Heap.put_at]
  have q2 : ∃ z, HH (nx + 2) = some (.row 9 z) ∧ z.length = 9 := ⟨_, by rw [← hHH, Heap.put_ne _ _ (by omega), Heap.put_at], rfl⟩
  have q3 : ∃ z, HH (nx + 3) = some (.row 3 z) ∧ z.length = 3 := ⟨_, by rw [← hHH, Heap.put_at], rfl⟩
  have q4 : Keep nx HH H := fun g hg => by rw [← hHH, Heap.put_ne _ _ (by omega), Heap.put_ne _ _ (by omega), Heap.put_ne _ _ (by omega), Heap.put_ne _ _ (by omega)]
  rw [l.fr] at ow
  have hs1 : H1 (nx + 1) = some (.row 4 s.avs) := (k1 _ (by omega)).trans q1
  obtain ⟨gf, ss', va, sa, rfl, st⟩ := RL.of_owned (e := VM.ev0) (id := a.id) (trip := a.trip) (p := a.prog) (m := a.permit) ow hn1 (by omega) hs1 k1
  have h1 := ow.hp.one
  simp [zadd, zc, h1.1, h1.2.1, h1.2.2]
  refine zamx (r := VM.run s most.toNat a) (H0 := HH) hname hfacts hw hm ⟨most.toNat - 0 + 1, ?_⟩ fun H' n' fa' ha' hk0 kp fz => ⟨Frz.tup2 fz (.same _ (zny _)), fun g hg => (kp g hg).trans (q4 g hg)⟩
  have up : ∀ g, g < nx + 4 → ∀ o, (H1.put n1 o) g = HH g := fun g hg o => by rw [Heap.put_ne _ _ (by omega)]; exact k1 g hg
  refine ⟨?_, ?_, ⟨hn1, by omega⟩, st.keep, .inl ⟨0, rfl, by omega, rfl, a, fs, f, gf, ss', va, sa, ha, l, st, rfl⟩⟩
  · obtain ⟨z, z1, z2⟩ := q2
    exact ⟨z, by rw [up _ (by omega)]; exact z1, z2⟩
  · obtain ⟨z, z1, z2⟩ := q3
    exact ⟨z, by rw [up _ (by omega)]; exact z1, z2⟩
end Go.Proofs.YtejohcohkgcmhaaDoor
namespace Go.Proofs.YtejohcohkgcmhaaDoor
open Go Go.RowKit
theorem zaqg : eqsT 92 = true := by kernel_rfl
theorem zaqf : eqsT 50 = true := by kernel_rfl
set_option maxRecDepth 20000 in
set_option maxHeartbeats 1000000 in
theorem zamt (p : Prg) (h1 : p.codes.length ≤ 4611686018427387904) (h2 : p.words.length ≤ 4611686018427387904) (h3 : ∀ c ∈ p.codes, c.ins.length ≤ 4611686018427387904) : QC Tryd.prog 47 [.agg p.avs, .agg p.avs] (.bool true) := by
  refine QC.of' fun H nx => ?_
  suffices main : ∀ Q : AV → Heap → Nat → Prop, (∀ H' n', Keep nx H' H → Q (.bool true) H' n') → za Tryd.prog 47 [.agg p.avs, .agg p.avs] H nx Q from main _ fun H' n' h => ⟨zsc, h⟩
  intro Q hQ
  refine zmy _ _ H nx _ ?_
  have m : nx ≠ nx + 1 := by omega
  simp [zdo, Prg.avs, m]
  generalize hX : Heap.put _ (nx + 1) _ = X
  have x0 : X nx = some (.row 2 [.ro (p.codes.map Cod.avs), .ro (p.words.map fun w => [.str w])]) := by rw [← hX, Heap.put_ne _ _ m, Heap.put_at]
  have x1 : X (nx + 1) = some (.row 2 [.ro (p.codes.map Cod.avs), .ro (p.words.map fun w => [.str w])]) := by rw [← hX, Heap.put_at]
  have xk : Keep nx X H := fun g hg => by rw [← hX, Heap.put_ne _ _ (by omega), Heap.put_ne _ _ (by omega)]
  refine LP.mk (fun k xs H' n' => ∃ i : Nat, xs = [.ptr nx 0, .ptr (nx + 1) 0, .int .i64 p.words.length, .int .i64 i] ∧ i ≤ p.words.length ∧ k = p.words.length - i ∧ X = H' ∧ nx + 2 ≤ n') p.words.length ⟨0, rfl, by omega, by omega, rfl, by omega⟩ ?_
  rintro k xs H' n' ⟨i, rfl, hi, rfl, rfl, hn⟩
  by_cases hlt : i < p.words.length
  · have hadd : IntKind.i64.wrap ((i : Int) + 1) = ((i + 1 : Nat) : Int) := by rw [i64w (by omega)]; rfl
    simp [zdp, hlt, x0, x1, hadd]
    exact ⟨p.words.length - (i + 1), by omega, i + 1, rfl, by omega, rfl, hn⟩
  have hge : ¬ (i : Int) < p.words.length := by omega
  simp [zdp, hge, x0]
  clear hlt hge hi i
  refine LP.mk (fun k xs H' n' => ∃ i : Nat, xs = [.ptr (nx + 1) 0, .ro (p.codes.map Cod.avs), .int .i64 p.codes.length, .int .i64 i] ∧ i ≤ p.codes.length ∧ k = p.codes.length - i ∧ (∀ g, g < nx + 2 → H' g = X g) ∧ nx + 2 ≤ n') p.codes.length ⟨0, rfl, by omega, by omega, fun _ _ => rfl, hn⟩ ?_
  rintro k xs H' n' ⟨i, rfl, hi, rfl, hk, hn⟩
  by_cases hlt : i < p.codes.length
  · have hadd : IntKind.i64.wrap ((i : Int) + 1) = ((i + 1 : Nat) : Int) := by rw [i64w (by omega)]; rfl
    have y1 : H' (nx + 1) = some (.row 2 [.ro (p.codes.map Cod.avs), .ro (p.words.map fun w => [.str w])]) := by rw [hk _ (by omega)]; exact x1
    have ha : p.codes[i]? = some p.codes[i] := List.getElem?_eq_getElem hlt
    have hci := h3 p.codes[i] (List.getElem_mem hlt)
    obtain ⟨_, ha'⟩ := List.getElem?_eq_some_iff.1 ha
    generalize hcc : p.codes[i] = c at *
    clear ha
    have ne_0 : nx ≠ nx + 1 ∧ nx + 1 ≠ nx ∧ nx ≠ n' ∧ n' ≠ nx ∧ nx ≠ n' + 1 ∧ n' + 1 ≠ nx ∧ nx + 1 ≠ n' ∧ n' ≠ nx + 1 ∧ nx + 1 ≠ n' + 1 ∧ n' + 1 ≠ nx + 1 := ⟨by omega, by omega, by omega, by omega, by omega, by omega, by omega, by omega, by omega, by omega⟩
    simp [zdq, hlt, y1, hcc, Cod.avs, ne_0]
    generalize hY : Heap.put _ (n' + 1) _ = Y
    have z0 : Y n' = some (.row 3 [.int .i64 c.params, .int .i64 c.vars, .ro (c.ins.map Ins.avs)]) := by rw [← hY, Heap.put_ne _ _ (by omega), Heap.put_at]
    have z1 : Y (n' + 1) = some (.row 3 [.int .i64 c.params, .int .i64 c.vars, .ro (c.ins.map Ins.avs)]) := by rw [← hY, Heap.put_at]
    have zk : ∀ g, g < nx + 2 → Y g = X g := fun g hg => by rw [← hY, Heap.put_ne _ _ (by omega), Heap.put_ne _ _ (by omega)]; exact hk g hg
    suffices key : ∀ K : J3, (∀ H2 n2, (∀ g, g < nx + 2 → H2 g = X g) → nx + 2 ≤ n2 → K [.ptr (nx + 1) 0, .ro (p.codes.map Cod.avs), .int .i64 p.codes.length, .int .i64 ((i + 1 : Nat) : Int)] H2 n2) →
        LP (zcf Q K) [.ptr (nx + 1) 0, .ptr n' 0, .ptr (n' + 1) 0, .ro (p.codes.map Cod.avs), .int .i64 p.codes.length, .int .i64 i, .int .i64 c.ins.length, .int .i64 0] Y (n' + 2) by
      refine key _ fun H2 n2 h h' => ⟨p.codes.length - (i + 1), by omega, i + 1, rfl, by omega, rfl, h, h'⟩
    intro K hK
    refine LP.mk (fun k xs H' n2 => ∃ j : Nat, xs = [.ptr (nx + 1) 0, .ptr n' 0, .ptr (n' + 1) 0, .ro (p.codes.map Cod.avs), .int .i64 p.codes.length, .int .i64 i, .int .i64 c.ins.length, .int .i64 j] ∧ j ≤ c.ins.length ∧ k = c.ins.length - j ∧ Y = H' ∧ n' + 2 ≤ n2) c.ins.length ⟨0, rfl, by omega, by omega, rfl, by omega⟩ ?_
    rintro k xs H2 n2 ⟨j, rfl, hj, rfl, rfl, hn2⟩
    by_cases hjl : j < c.ins.length
    · have hadj : IntKind.i64.wrap ((j : Int) + 1) = ((j + 1 : Nat) : Int) := by rw [i64w (by omega)]; rfl
      generalize hii : c.ins[j] = ii
      simp [zcf, hjl, z0, z1, hii, Ins.avs, hadj, zaqg]
      exact ⟨c.ins.length - (j + 1), by omega, j + 1, rfl, by omega, rfl, hn2⟩
    · have hjg : ¬ (j : Int) < c.ins.length := by omega
      simp [zcf, hjg, hadd]
      exact hK _ _ zk (by omega)
  · have hge : ¬ (i : Int) < p.codes.length := by omega
    simp [zdq, hge]
    exact hQ _ _ fun g hg => (hk g (by omega)).trans (xk g hg)
set_option maxRecDepth 20000 in
set_option maxHeartbeats 1000000 in
theorem zamv (a : Agt) (h1 : a.prog.codes.length ≤ 4611686018427387904) (h2 : a.prog.words.length ≤ 4611686018427387904) (h3 : ∀ c ∈ a.prog.codes, c.ins.length ≤ 4611686018427387904) (h4 : a.frames.length ≤ 4611686018427387904) (h5 : a.heap.length ≤ 4611686018427387904)
    (h6 : ∀ f ∈ a.frames, f.vars.length ≤ 4611686018427387904 ∧ f.stack.length ≤ 4611686018427387904) : QC Tryd.prog 27 [.agg a.avs, .agg a.avs] (.bool true) := by
  refine QC.of' fun H nx => ?_
  suffices main : ∀ Q : AV → Heap → Nat → Prop, (∀ H' n', Keep nx H' H → Q (.bool true) H' n') → za Tryd.prog 27 [.agg a.avs, .agg a.avs] H nx Q from main _ fun H' n' h => ⟨zsc, h⟩
  intro Q hQ
  refine zpt _ _ H nx _ ?_
  have m : nx ≠ nx + 1 := by omega
  simp [zet, Agt.avs, m, zaqf]
  generalize hX : Heap.put _ (nx + 1) _ = X
  have x0 : X nx = some (.row 9 a.avs) := by rw [← hX, Heap.put_ne _ _ m, Heap.put_at]; rfl
  have x1 : X (nx + 1) = some (.row 9 a.avs) := by rw [← hX, Heap.put_at]; rfl
  have xk : Keep nx X H := fun g hg => by rw [← hX, Heap.put_ne _ _ (by omega), Heap.put_ne _ _ (by omega)]
  clear hX
  refine QC.call (zamt a.prog h1 h2 h3) ?_
  have e4 : a.avs[4]'(by simp [Agt.avs]) = .ro (a.frames.map Frm.avs) := rfl
  have e5 : a.avs[5]'(by simp [Agt.avs]) = .ro (a.heap.map Cl.avs) := rfl
  have al : a.avs.length = 9 := rfl
  have sc := zamu a.heap a.heap h5
  rw [decide_eq_true rfl] at sc
  simp [zir, x0, x1, e4, e5, al]
  refine QC.call sc ?_
  simp [zis, x0, x1, e4, al]
  refine LP.mk (fun k xs H' n' => ∃ i : Nat, xs = [.ptr (nx + 1) 0, .ro (a.frames.map Frm.avs), .int .i64 a.frames.length, .int .i64 i] ∧ i ≤ a.frames.length ∧ k = a.frames.length - i ∧ (∀ g, g < nx + 2 → H' g = X g) ∧ nx + 2 ≤ n') a.frames.length ⟨0, rfl, by omega, by omega, fun _ _ => rfl, by omega⟩ ?_
  rintro k xs H' n' ⟨i, rfl, hi, rfl, hk, hn⟩
  by_cases hlt : i < a.frames.length
  · have hadd : IntKind.i64.wrap ((i : Int) + 1) = ((i + 1 : Nat) : Int) := by rw [i64w (by omega)]; rfl
    have y1 : H' (nx + 1) = some (.row 9 a.avs) := by rw [hk _ (by omega)]; exact x1
    have hci := h6 a.frames[i] (List.getElem_mem hlt)
    generalize hcc : a.frames[i] = c at *
    have sv := zafi c.vars c.vars hci.1
    have ss := zafi c.stack c.stack hci.2
    rw [decide_eq_true rfl] at sv ss
    have ne_1 : nx ≠ nx + 1 ∧ nx + 1 ≠ nx ∧ nx ≠ n' ∧ n' ≠ nx ∧ nx ≠ n' + 1 ∧ n' + 1 ≠ nx ∧ nx + 1 ≠ n' ∧ n' ≠ nx + 1 ∧ nx + 1 ≠ n' + 1 ∧ n' + 1 ≠ nx + 1 := ⟨by omega, by omega, by omega, by omega, by omega, by omega, by omega, by omega, by omega, by omega⟩
    simp [zeu, hlt, y1, e4, al, hcc, Frm.avs, ne_1]
    generalize hY : Heap.put _ (n' + 1) _ = Y
    have z0 : Y n' = some (.row 4 [.int .i64 c.fn, .int .i64 c.at_, .ro (c.vars.map Val.avs), .ro (c.stack.map Val.avs)]) := by rw [← hY, Heap.put_ne _ _ (by omega), Heap.put_at]
    have z1 : Y (n' + 1) = some (.row 4 [.int .i64 c.fn, .int .i64 c.at_, .ro (c.vars.map Val.avs), .ro (c.stack.map Val.avs)]) := by rw [← hY, Heap.put_at]
    refine QC.call sv ?_
    simp [zit, z0, z1]
    refine QC.call ss ?_
    simp [ziu, hadd]
    refine ⟨a.frames.length - (i + 1), by omega, i + 1, rfl, by omega, rfl, fun g hg => ?_, by omega⟩
    rw [← hY, Heap.put_ne _ _ (by omega), Heap.put_ne _ _ (by omega)]; exact hk g hg
  · have hge : ¬ (i : Int) < a.frames.length := by omega
    simp [zeu, hge]
    exact hQ _ _ fun g hg => (hk g (by omega)).trans (xk g hg)
end Go.Proofs.YtejohcohkgcmhaaDoor
namespace Go.Proofs.YtejohcohkgcmhaaDoor
open Go Go.RowKit
structure zarw (H : Heap) (lo n gf : Nat) (cs : List AV) (fs : List Frm) (ss : List (AV × AV)) (f : Frm) (va sa : AV) : Prop where
  row : H gf = some (.row 4 cs)
  cs' : cs.take ((fs.length + 1) * 4) = frow fs ss ++ [.int .i64 f.fn, .int .i64 f.at_, va, sa]
  len : (fs.length + 1) * 4 ≤ cs.length
  frs : zak H fs ss
  sv : Slot H 3 f.vars.length (rowV f.vars) va
  st : Slot H 3 f.stack.length (rowV f.stack) sa
  bd : ∀ g, (g = gf ∨ g ∈ owns ss ∨ g ∈ own va ∨ g ∈ own sa) → lo ≤ g ∧ g < n
  ns : gf ∉ own sa ∧ gf ∉ own va ∧ gf ∉ owns ss ∧ (∀ g ∈ own sa, g ∉ own va ∧ g ∉ owns ss) ∧ ∀ g ∈ own va, g ∉ owns ss
theorem zmn.last {H : Heap} {lo n : Nat} {fs : List Frm} {f : Frm} {ss : List (AV × AV)} {fa ha : AV} {h : List Cl} (ow : zmn H lo n (fs ++ [f]) ss fa h ha) :
    ∃ gf cs ss' va sa, fa = .slc gf 0 (fs.length + 1) ∧ ss = ss' ++ [(va, sa)] ∧ zarw H lo n gf cs fs ss' f va sa ∧ ∀ g ∈ own ha, g ≠ gf ∧ g ∉ own va ∧ g ∉ own sa ∧ g ∉ owns ss' := by
  obtain ⟨f1, f2, f3, f4, f5⟩ := ow
  have hl : ss.length = fs.length + 1 := by rw [f1.1]; simp
  obtain ⟨ss', t, rfl⟩ : ∃ ss' t, ss = ss' ++ [t] := by
    rcases List.eq_nil_or_concat ss with rfl | ⟨ss', t, h⟩
    · simp at hl
    · exact ⟨ss', t, by simpa using h⟩
  rcases f2 with ⟨h0, _⟩ | ⟨gf, cs, rfl, c1, c2, c3⟩
  · simp at h0
  obtain ⟨l1, l2, l3⟩ := f1.last
  have ef : (fs ++ [f]).length = fs.length + 1 := by simp
  rw [ef] at c2 c3 f4 f5
  rw [zcl l1.1] at c2
  have es := zck ss' t
  have e0 : own (AV.slc gf 0 (fs.length + 1)) = [gf] := rfl
  rw [es, e0, List.singleton_append, List.nodup_cons] at f4
  simp only [List.mem_append, not_or, List.nodup_append] at f4
  obtain ⟨⟨a1, a2, a3, a4⟩, n1, ⟨n2, ⟨n3, n4, n5⟩, n6⟩, n7⟩ := f4
  rw [es, e0] at f5
  refine ⟨gf, cs, ss', t.1, t.2, by rw [ef], rfl, ⟨c1, c2, c3, l1, l2, l3, fun g hg => f5 g ?_, ⟨a4, a3, a2, fun g hg => ⟨fun h => n5 g h g hg rfl, fun h => n6 g h g (.inr hg) rfl⟩, fun g hg h => n6 g h g (.inl hg) rfl⟩⟩, fun g hg => ⟨fun e => a1 (e ▸ hg), fun h => n7 g hg g (.inr (.inl h)) rfl, fun h => n7 g hg g (.inr (.inr h)) rfl, fun h => n7 g hg g (.inl h) rfl⟩⟩
  simp only [List.mem_append, List.mem_singleton]
  rcases hg with h | h | h | h
  · exact .inl h
  · exact .inr (.inr (.inl h))
  · exact .inr (.inr (.inr (.inl h)))
  · exact .inr (.inr (.inr (.inr h)))
theorem zvw {a : Agt} {fs : List Frm} {f : Frm} {k : Int} (hfr : a.frames = fs ++ [f]) : VM.answer a k = ⟨a.id, a.trip, a.prog, fs ++ [{ f with stack := f.stack ++ [⟨0, k, []⟩] }], a.heap, a.permit⟩ := by
  have e1 : a.frames.getLast? = some f := by rw [hfr]; simp
  have e2 : a.frames.dropLast = fs := by rw [hfr]; simp
  unfold VM.answer
  rw [e1, e2]; rfl
set_option maxRecDepth 20000 in
set_option maxHeartbeats 1000000 in
theorem zamc {a : Agt} {fs : List Frm} {f : Frm} {k : Int} (sz : zsp a) (hfr : a.frames = fs ++ [f]) (hf : fs.length ≤ 4096) (hst : f.stack.length ≤ 4096) :
    QC Tryd.prog 31 [.agg a.avs, .int .i64 k] (.agg (VM.answer a k).avs) := by
  refine QC.of' fun H nx => ?_
  refine zaat _ _ H nx _ ?_
  have av : (AV.agg a.avs).cells = a.avs := by simp
  have al : a.avs.length = 9 := rfl
  have hsu : (AV.agg a.avs).sure = true := by simp [Agt.avs]
  have at9 : a.avs.take 9 = a.avs := by rw [← al, List.take_length]
  unfold znj
  rw [av, al]
  refine ⟨hsu, ?_⟩
  simp [al, at9]
  refine zvb sz fun H1 n1 ss fa ha hn1 k1 ow => ?_
  generalize hHH : Heap.put _ (nx + 1) _ = HH at *
  have q2 : ∃ z, HH (nx + 1) = some (.row 9 z) ∧ z.length = 9 := ⟨_, by rw [← hHH, Heap.put_at], rfl⟩
  have q4 : Keep nx HH H := fun g hg => by rw [← hHH, Heap.put_ne _ _ (by omega), Heap.put_ne _ _ (by omega)]
  have h1 := ow.hp.one
  rw [hfr] at ow
  obtain ⟨gf, cs, ss', va, sa, rfl, rfl, lf, lh⟩ := ow.last
  have c1 := lf.row
  obtain ⟨b0, b1, b2, b3⟩ := zaik lf.cs' (zap lf.frs.1) lf.len
  have hw : IntKind.i64.wrap (fs.length : Int) = fs.length := i64w (by omega)
  have gn : gf ≠ n1 := by have := lf.bd gf (.inl rfl); omega
  have gn1 : gf ≠ n1 + 1 := by have := lf.bd gf (.inl rfl); omega
  have len := lf.len
  simp [zuq, zc, h1.1, h1.2.1, h1.2.2, hw, c1, gn, gn1, b3]
  refine ⟨by omega, ?_⟩
  have bd := lf.bd
  generalize hrow : [AV.int .i64 a.id, AV.int .i64 a.trip, AV.ro (a.prog.codes.map Cod.avs), AV.ro (a.prog.words.map fun w => [AV.str w]), AV.slc gf 0 (fs.length + 1), ha, AV.int .i64 a.permit.fuel, AV.int .i64 a.permit.room, AV.int .i64 a.permit.hops] = row
  have lrow : row.length = 9 := by rw [← hrow]; rfl
  have orow : ∀ x ∈ row, x.one = true := by rw [← hrow]; intro x hx; simp at hx; rcases hx with rfl | rfl | rfl | rfl | rfl | rfl | rfl | rfl | rfl <;> first | rfl | exact h1.2.1
  have trow : row.take 9 = row := by rw [← lrow, List.take_length]
  refine Slot.app (new := [.int .i64 0, .int .i64 k, .str []]) (lf.st.keep fun g hg => ?_) (by simp) (Heap.put_at _ _ _) rfl rfl (by omega) fun H3 q1 q3 => ?_
  · have := bd g (.inr (.inr (.inr hg)))
    rw [Heap.put_ne _ _ (by omega), Heap.put_ne _ _ (by omega)]
  have old : ∀ g, g ≤ n1 → g ∉ own sa → H3 g = (H1.put n1 (some (.row 9 row))) g := fun g h1 h2 => by rw [q3 g h2 (by omega), Heap.put_ne _ _ (by omega)]
  have o1 : H3 gf = some (.row 4 cs) := by rw [old gf (by have := bd gf (.inl rfl); omega) lf.ns.1, Heap.put_ne _ _ gn]; exact c1
  have o2 : H3 n1 = some (.row 9 row) := by rw [old n1 (Nat.le_refl _) (fun h => by have := bd _ (.inr (.inr (.inr h))); omega), Heap.put_at]
  obtain ⟨z, z1, z2⟩ := q2
  have o3 : H3 (nx + 1) = some (.row 9 z) := by rw [old (nx + 1) (by omega) (fun h => by have := bd _ (.inr (.inr (.inr h))); omega), Heap.put_ne _ _ (by omega), k1 _ (by omega)]; exact z1
  obtain ⟨d1, d2⟩ := zkk (u := AV.slc (n1 + 2) 0 (f.stack.length + 1)) lf.cs' (zap lf.frs.1) lf.len (j := 3) (by omega)
  have n1g : n1 ≠ gf := gn.symm
  have nxg : nx + 1 ≠ gf := by have := bd gf (.inl rfl); omega
  simp [o1, o2, o3, n1g, nxg, lrow, trow, z2]
  simp at d1 d2
  have up : ∀ g, g < n1 → g ≠ gf → g ≠ nx + 1 → g ∉ own sa → ∀ o o', ((H3.put gf o).put (nx + 1) o') g = H1 g := fun g h1 h2 h3 h4 o o' => by
    rw [Heap.put_ne _ _ h3, Heap.put_ne _ _ h2, old g (by omega) h4, Heap.put_ne _ _ (by omega)]
  refine ⟨by omega, orow, ?_, fun g hg => ?_⟩
  · rw [← hrow, zvw hfr]
    have bh : ∀ g ∈ own ha, nx + 2 ≤ g ∧ g < n1 := fun g hg => ow.bd g (by simp [hg])
    refine zbs (zak.frz (ss := ss' ++ [(va, AV.slc (n1 + 2) 0 (f.stack.length + 1))]) ((lf.frs.keep fun g hg => ?_).snoc (lf.sv.keep fun g hg => ?_) (.inr ⟨n1 + 2, _, by simp, ?_, List.take_of_length_le (by simp), by simp⟩)) (by rw [Heap.put_ne _ _ nxg.symm, Heap.put_at]) ?_ ?_ ?_ ?_ (by simp)) ?_
    · have := bd g (.inr (.inl hg))
      exact up g (by omega) (fun e => lf.ns.2.2.1 (e ▸ hg)) (by omega) (fun h => (lf.ns.2.2.2.1 g h).2 hg) _ _
    · have := bd g (.inr (.inr (.inl hg)))
      exact up g (by omega) (fun e => lf.ns.2.1 (e ▸ hg)) (by omega) (fun h => (lf.ns.2.2.2.1 g h).1 hg) _ _
    · rw [Heap.put_ne _ _ (by omega), Heap.put_ne _ _ (by have := bd gf (.inl rfl); omega), q1, zeb]; rfl
    · rw [zcl lf.frs.1]; simpa using d1
    · simpa using d2
    · have := bd gf (.inl rfl); omega
    · intro x hx
      rw [zck] at hx
      simp [own] at hx
      rcases hx with h | h | h
      · have := bd x (.inr (.inl h)); omega
      · have := bd x (.inr (.inr (.inl h))); omega
      · omega
    · refine Slot.frzH (ow.hp.keep fun g hg => ?_) fun g hg => ?_
      · have := bh g hg
        exact up g (by omega) (lh g hg).1 (by omega) (lh g hg).2.2.1 _ _
      · have := bh g hg; omega
  · have := bd gf (.inl rfl)
    rw [Heap.put_ne _ _ (by omega), old g (by omega) (fun h => by have := bd _ (.inr (.inr (.inr h))); omega), Heap.put_ne _ _ (by omega), k1 g (by omega)]
    exact q4 g hg
end Go.Proofs.YtejohcohkgcmhaaDoor
namespace Go.Proofs.YtejohcohkgcmhaaDoor
open Go Go.RowKit
def zgy (H : Heap) (G : Nat → Prop) (xs ys : List AV) : Prop := ys.length = xs.length ∧ ∀ (j : Nat) (v u : AV), xs[j]? = some v → ys[j]? = some u → FrzP H G v u
theorem zgy.nil {H : Heap} {G : Nat → Prop} : zgy H G [] [] := ⟨rfl, fun j v u h => by simp at h⟩
theorem zgy.cons {H : Heap} {G : Nat → Prop} {v u : AV} {xs ys : List AV} (h : FrzP H G v u) (k : zgy H G xs ys) : zgy H G (v :: xs) (u :: ys) := by
  refine ⟨by simp [k.1], fun j a b ha hb => ?_⟩
  cases j with
  | zero => simp at ha hb; subst ha; subst hb; exact h
  | succ j => exact k.2 j a b (by simpa using ha) (by simpa using hb)
theorem za.thaw {P : Program} {f : FuncId} {args args' : List AV} {H H0 : Heap} {nx : Nat} {G : Nat → Prop} {Q : AV → Heap → Nat → Prop} (h : za P f args H0 nx Q) (hf : zgy H G args' args) (h0 : ∀ g o, H0 g = some o → ¬ G g ∧ H g = some o) : za P f args' H nx Q := by
  intro ρ w cargs s ha
  obtain ⟨s0, f0⟩ := s.drop (H' := H0) fun g o ho => (h0 g o ho).2
  refine zal (h ρ w cargs s0 ⟨ha.1.trans hf.1.symm, fun j u c hu hc => ?_⟩) fun cv w' ⟨r', H', nx', ρ', q1, q3, q4, q5⟩ => ⟨r', H', nx', ρ', q1, q3, q4, f0.trans q5⟩
  have hj : j < args'.length := by have := (List.getElem?_eq_some_iff.1 hu).1; rw [hf.1] at this; exact this
  have hv : args'[j]? = some args'[j] := List.getElem?_eq_getElem hj
  exact (hf.2 j _ u hv hu).rel s h0 c (ha.2 j _ c hv hc)
end Go.Proofs.YtejohcohkgcmhaaDoor
namespace Go.Proofs.YtejohcohkgcmhaaDoor
open Go Go.RowKit
theorem zmn.frz {H : Heap} {lo n nx : Nat} {fs : List Frm} {ss : List (AV × AV)} {fa ha : AV} {h : List Cl} {id trip : Int} {p : Prg} {m : Pmt} (ow : zmn H lo n fs ss fa h ha) (hl : nx ≤ lo) {H' : Heap} (hk : ∀ g, lo ≤ g → g < n → H' g = H g) : Frz H' nx (.agg (zc id trip p fa ha m)) (.agg (Agt.avs ⟨id, trip, p, fs, h, m⟩)) := by
  have b : ∀ g ∈ own fa ++ (own ha ++ owns ss), nx ≤ g ∧ H' g = H g := fun g hg => by have := ow.bd g hg; exact ⟨by omega, hk g this.1 this.2⟩
  refine zbs ?_ ((ow.hp.keep fun g hg => (b g (by simp [hg])).2).frzH fun g hg => (b g (by simp [hg])).1)
  have fr := ow.frs.keep (H' := H') fun g hg => (b g (by simp [hg])).2
  rcases ow.row with ⟨h0, rfl | rfl⟩ | ⟨gf, cs, rfl, c1, c2, c3⟩
  · rw [List.eq_nil_of_length_eq_zero h0]; exact .nils
  · rw [List.eq_nil_of_length_eq_zero h0]; exact .zs
  · have := b gf (by simp [own])
    exact zak.frz fr (by rw [this.2]; exact c1) c2 c3 this.1 (fun x hx => (b x (by simp [hx])).1) rfl
theorem zajm {H : Heap} {G : Nat → Prop} {id trip : Int} {p : Prg} {fs : List Frm} {h : List Cl} {m : Pmt} {fa ha : AV} (h1 : FrzP H G fa (.ro (fs.map Frm.avs))) (h2 : FrzP H G ha (.ro (h.map Cl.avs))) : FrzP H G (.agg (zc id trip p fa ha m)) (.agg (Agt.avs ⟨id, trip, p, fs, h, m⟩)) := by
  refine .agg _ _ rfl fun j v u hv hu => ?_
  match j with
  | 0 => cases hv; cases hu; exact .same _
  | 1 => cases hv; cases hu; exact .same _
  | 2 => cases hv; cases hu; exact .same _
  | 3 => cases hv; cases hu; exact .same _
  | 4 => cases hv; cases hu; exact h1
  | 5 => cases hv; cases hu; exact h2
  | 6 => cases hv; cases hu; exact .same _
  | 7 => cases hv; cases hu; exact .same _
  | 8 => cases hv; cases hu; exact .same _
  | j + 9 => simp [zc] at hv
theorem zvg {xs : List (List AV)} {sz : Nat} (hsz : ∀ x ∈ xs, x.length = sz) {i j : Nat} {x : List AV} {v : AV} (hx : xs[i]? = some x) (hv : x[j]? = some v) : xs.flatten[i * sz + j]? = some v := by
  have hxl : x.length = sz := hsz x (List.mem_of_getElem? hx)
  have hj : j < sz := by have := (List.getElem?_eq_some_iff.1 hv).1; omega
  have e2 := congrArg (·[j]?) (zfm hsz hx)
  simp only [List.getElem?_take, List.getElem?_drop, hj, if_true] at e2
  rw [e2, hv]
def Pmt.avs (m : Pmt) : List AV := [.int .i64 m.fuel, .int .i64 m.room, .int .i64 m.hops]
theorem Agt.avs_eq (a : Agt) : a.avs = zc a.id a.trip a.prog (.ro (a.frames.map Frm.avs)) (.ro (a.heap.map Cl.avs)) a.permit := rfl
set_option maxRecDepth 20000 in
set_option maxHeartbeats 1000000 in
theorem zare {id : Int} {p : Prg} {m : Pmt} (sz : zsp (VM.newAgt id p m)) (hp : 0 < p.codes.length) (hv : 0 ≤ (VM.codeAt p 0).vars ∧ (VM.codeAt p 0).vars ≤ 4096) :
    QC Tryd.prog 33 [.int .i64 id, .agg p.avs, .agg m.avs] (.agg (VM.newAgt id p m).avs) := by
  refine QC.of' fun H nx => ?_
  refine zafd _ _ _ H nx _ ?_
  have pv : (AV.agg p.avs).cells = p.avs := by simp
  have pl : p.avs.length = 2 := rfl
  have mv : (AV.agg m.avs).cells = m.avs := by simp
  have ml : m.avs.length = 3 := rfl
  have hsp : (AV.agg p.avs).sure = true := by simp [Prg.avs]
  have hsm : (AV.agg m.avs).sure = true := by simp [Pmt.avs]
  unfold zuo
  rw [pv, pl, mv, ml]
  refine ⟨hsp, hsm, ?_⟩
  have hc : p.codes[0]? = some (VM.codeAt p 0) := zms (p := p) (k := 0) hp
  obtain ⟨k, hk⟩ : ∃ k : Nat, (VM.codeAt p 0).vars = k := ⟨(VM.codeAt p 0).vars.toNat, by omega⟩
  have hc' : p.codes[0] = VM.codeAt p 0 := (List.getElem?_eq_some_iff.1 hc).2
  have na : VM.newAgt id p m = ⟨id, 0, p, [⟨0, 0, List.replicate k VM.vzero, []⟩], [], m⟩ := by unfold VM.newAgt; rw [hk]; rfl
  simp [Prg.avs, Pmt.avs, hp, hc', Cod.avs, hk]
  refine ⟨by omega, by omega, fun x hx => by rcases hx with (rfl | rfl | rfl | rfl) | rfl | rfl | rfl | rfl | rfl <;> rfl, ?_⟩
  generalize hHH : Heap.put _ (nx + 5) _ = HH
  have q2 : ∃ z, HH (nx + 2) = some (.row 9 z) ∧ z.length = 9 := ⟨_, by rw [← hHH, Heap.put_ne _ _ (by omega), Heap.put_ne _ _ (by omega), Heap.put_ne _ _ (by omega), Heap.put_at], rfl⟩
  have q3 : HH (nx + 3) = some (.row 3 (List.replicate k [AV.int .i64 0, AV.int .i64 0, AV.str []]).flatten) := by rw [← hHH, Heap.put_ne _ _ (by omega), Heap.put_ne _ _ (by omega), Heap.put_at]
  have q4 : HH (nx + 4) = some (.row 4 [AV.int .i64 0, AV.int .i64 0, .slc (nx + 3) 0 k, .nils]) := by rw [← hHH, Heap.put_ne _ _ (by omega), Heap.put_at]
  have q5 : Keep nx HH H := fun g hg => by rw [← hHH, Heap.put_ne _ _ (by omega), Heap.put_ne _ _ (by omega), Heap.put_ne _ _ (by omega), Heap.put_ne _ _ (by omega), Heap.put_ne _ _ (by omega), Heap.put_ne _ _ (by omega)]
  let G : Nat → Prop := fun g => g = nx + 3 ∨ g = nx + 4
  let H0 : Heap := fun g => if g = nx + 3 ∨ g = nx + 4 then none else HH g
  have h0 : ∀ g o, H0 g = some o → ¬ G g ∧ HH g = some o := fun g o hg => by
    by_cases h : g = nx + 3 ∨ g = nx + 4
    · simp only [H0, if_pos h] at hg; cases hg
    · simp only [H0, if_neg h] at hg; exact ⟨h, hg⟩
  have hr : (List.replicate k VM.vzero).map Val.avs = List.replicate k [AV.int .i64 0, AV.int .i64 0, AV.str []] := by rw [List.map_replicate]; rfl
  refine za.thaw (args := [.agg (VM.newAgt id p m).avs]) (H0 := H0) (G := G) ?_ (zgy.cons ?_ .nil) h0
  · refine zvb sz fun H1 n1 ss fa ha hn1 k1 ow => ?_
    obtain ⟨z, z1, z2⟩ := q2
    have e2 : H1 (nx + 2) = some (.row 9 z) := by
      rw [k1 _ (by omega)]; simp only [H0]; rw [if_neg (by omega)]; exact z1
    have h1 := ow.hp.one
    have f1 := ow.row.one
    simp [zadl, zc, h1.1, h1.2.1, h1.2.2, f1.1, f1.2.1, f1.2.2, e2, z2]
    have put : ∀ o g, g ≠ nx + 2 → (H1.put (nx + 2) o) g = H1 g := fun o g hg => Heap.put_ne _ _ hg
    refine ⟨ow.frz (by omega) fun g h1 h2 => put _ g (by omega), fun g hg => ?_⟩
    · rw [k1 g (by omega)]
      simp only [H0]
      rw [if_neg (by omega)]
      exact q5 g hg
  · rw [na]
    refine zajm ?_ .nils
    refine FrzP.row (.inr rfl) q4 rfl (fun x hx => by simp at hx; subst hx; rfl) (fun i x j v hx hv => ?_) (by simp)
    match i, hx with
    | 0, hx =>
      simp at hx; subst hx
      match j, hv with
      | 0, hv => cases hv; exact ⟨_, rfl, .same _⟩
      | 1, hv => cases hv; exact ⟨_, rfl, .same _⟩
      | 2, hv =>
        cases hv
        refine ⟨_, rfl, ?_⟩
        rw [hr]
        refine FrzP.row (.inl rfl) q3 (by simp) (fun x hx => by rw [(List.mem_replicate.1 hx).2]; rfl) (fun i x j v hx hv => ⟨v, ?_, .same _⟩) (by simp)
        exact zvg (fun y hy => by rw [(List.mem_replicate.1 hy).2]; rfl) hx hv
      | 3, hv => cases hv; exact ⟨_, rfl, .nils⟩
      | j + 4, hv => simp [Frm.avs] at hv
    | i + 1, hx => simp at hx
end Go.Proofs.YtejohcohkgcmhaaDoor
namespace Go.Proofs.YtejohcohkgcmhaaDoor
open Go Go.RowKit
set_option maxHeartbeats 4000000 in
theorem zapa (op : Int) (a b : Val) (N M : Int) (ha : VM.wrong a N = 0) (hb : VM.wrong b M = 0) : QC Tryd.prog 14 [.int .i64 op, .agg a.avs, .agg b.avs] (.tup [.agg (VM.two op a b).1.avs, .int .i64 (VM.two op a b).2]) := by
  have wa := VM.wrong_ok ha
  have wb := VM.wrong_ok hb
  obtain ⟨ka, na, sa⟩ := a
  obtain ⟨kb, nb, sb⟩ := b
  obtain ⟨a1, a2, a3, _, _, a6⟩ := wa
  obtain ⟨b1, b2, b3, _, _, b6⟩ := wb
  simp only at a1 a2 a3 a6 b1 b2 b3 b6
  refine QC.of' fun H nx => zys _ _ _ H nx _ ?_
  by_cases h0 : op < 1 ∨ 5 < op
  · have e : VM.two op ⟨ka, na, sa⟩ ⟨kb, nb, sb⟩ = (VM.vzero, 1) := if_pos h0
    rw [e]
    by_cases h1 : op < 1
    · simp [zek, Val.avs]
      refine JN.same ?_
      simp [zgr, h1, zgq, VM.vzero]
    · have h2 : 5 < op := by omega
      simp [zek, Val.avs]
      refine JN.same ?_
      simp [zgr, h1, h2, zgq, VM.vzero]
  have h1 : ¬ op < 1 := by omega
  have h2 : ¬ 5 < op := by omega
  simp [zek, Val.avs]
  refine JN.same ?_
  simp [zgr, h1, h2, zgq, CALL]
  refine ⟨fun h5 => ?_, fun h5 => ?_⟩
  · have e : VM.two op ⟨ka, na, sa⟩ ⟨kb, nb, sb⟩ = (VM.bit (decide (ka = kb ∧ na = nb ∧ sa = sb)), 0) := by
      unfold VM.two; rw [if_neg h0, if_pos h5]; simp
    rw [e]
    refine ⟨fun g1 => ⟨fun g2 => ?_, fun g2 => ?_⟩, fun g1 => ?_⟩
    · refine QC.call (zvs _) ?_
      simp [ztc, Val.avs, g1, g2]
    · refine QC.call (zvs _) ?_
      simp [ztb, Val.avs, g1, g2]
    · refine QC.call (zvs _) ?_
      simp [zta, Val.avs, g1]
  refine JN.same ?_
  have rest : ¬ (ka = 1 ∧ kb = 1 ∧ (op = 1 ∨ op = 4)) → ∀ H2 : Heap, H2 nx = some (.row 3 [.int .i64 ka, .int .i64 na, .str sa]) → H2 (nx + 1) = some (.row 3 [.int .i64 kb, .int .i64 nb, .str sb]) → H2 (nx + 2) = some (.row 3 [.int .i64 0, .int .i64 0, .str []]) → Keep nx H2 H →
      zel (fun v H' _ => Frz H' nx v (.tup [.agg (VM.two op ⟨ka, na, sa⟩ ⟨kb, nb, sb⟩).1.avs, .int .i64 (VM.two op ⟨ka, na, sa⟩ ⟨kb, nb, sb⟩).2]) ∧ Keep nx H' H)
        [.int .i64 op, .ptr nx 0, .ptr (nx + 1) 0, .ptr (nx + 2) 0, .clo 37 []] H2 (nx + 3) := by
    intro hk H2 g1 g2 g3 hK
    have e1 : VM.two op ⟨ka, na, sa⟩ ⟨kb, nb, sb⟩ = if ka ≠ 0 ∨ kb ≠ 0 then (VM.vzero, 11) else if op = 1 then (VM.cInt (na + nb), 0) else if op = 2 then (VM.cInt (na - nb), 0) else if op = 3 then (VM.cInt (na * nb), 0) else (VM.bit (decide (na < nb)), 0) := by
      unfold VM.two; rw [if_neg h0, if_neg h5, if_neg (fun h => hk ⟨h.1.1, h.1.2, .inl h.2⟩), if_neg (fun h => hk ⟨h.1.1, h.1.2, .inr h.2⟩)]
    rw [e1]
    have w0 : IntKind.i64.wrap (ka + kb) = ka + kb := i64w (by omega)
    by_cases hka : ka = 0
    · by_cases hkb : kb = 0
      · obtain ⟨p1, p2⟩ := a2 hka
        obtain ⟨q1, q2⟩ := b2 hkb
        subst hka hkb
        have hmul : -1152921504606846976 ≤ na * nb ∧ na * nb ≤ 1152921504606846976 := by
          have m1 : na * nb ≤ 1073741824 * 1073741824 := by
            rcases Int.le_total 0 na with h | h <;> rcases Int.le_total 0 nb with h' | h'
            · exact Int.mul_le_mul p2 q2 h' (by omega)
            · have := Int.mul_nonpos_of_nonneg_of_nonpos h h'; omega
            · have := Int.mul_nonpos_of_nonpos_of_nonneg h h'; omega
            · have : (-na) * (-nb) ≤ 1073741824 * 1073741824 := Int.mul_le_mul (by omega) (by omega) (by omega) (by omega)
              rwa [Int.neg_mul_neg] at this
          have m2 : -(na * nb) ≤ 1073741824 * 1073741824 := by
            rcases Int.le_total 0 na with h | h <;> rcases Int.le_total 0 nb with h' | h'
            · have := Int.mul_nonneg h h'; omega
            · have : na * (-nb) ≤ 1073741824 * 1073741824 := Int.mul_le_mul (by omega) (by omega) (by omega) (by omega)
              rwa [Int.mul_neg] at this
            · have : (-na) * nb ≤ 1073741824 * 1073741824 := Int.mul_le_mul (by omega) (by omega) (by omega) (by omega)
              rwa [Int.neg_mul] at this
            · have := Int.mul_nonneg_of_nonpos_of_nonpos h h'; omega
          omega
        have w1 : IntKind.i64.wrap (na + nb) = na + nb := i64w (by omega)
        have w2 : IntKind.i64.wrap (na - nb) = na - nb := i64w (by omega)
        have w3 : IntKind.i64.wrap (na * nb) = na * nb := i64w (by omega)
        have w4 : IntKind.i64.wrap 0 = 0 := i64w (by omega)
        simp [zel, g1, g2, w1, w2, w3, w4, CALL]
        refine ⟨fun h => ?_, fun h => ⟨fun h' => ?_, fun h' => ⟨fun h'' => ?_, fun h'' => ?_⟩⟩⟩
        · refine QC.call (zacq _ (by simp only [I64]; omega)) ?_
          simp [zsz, g3, Val.avs, h, hK, Keep.put]
        · refine QC.call (zacq _ (by simp only [I64]; omega)) ?_
          simp [zsy, g3, Val.avs, h', hK, Keep.put]
        · refine QC.call (zacq _ (by simp only [I64]; omega)) ?_
          simp [zsx, g3, Val.avs, h'', hK, Keep.put]
        · refine QC.call (zvs _) ?_
          simp [zsw, g3, Val.avs, h, h', h'', hK, Keep.put]
      · have : ¬ ka + kb = 0 := by omega
        have n0 : ¬ kb = 0 := hkb
        subst hka
        simp only [Int.zero_add] at w0
        simp [zel, g1, g2, g3, w0, hkb, VM.vzero, hK, Keep.put, Val.avs]
    · have : ¬ ka + kb = 0 := by omega
      simp [zel, g1, g2, g3, w0, this, hka, VM.vzero, hK, Keep.put, Val.avs]
  by_cases hk : ka = 1 ∧ kb = 1
  · obtain ⟨rfl, rfl⟩ := hk
    simp [zgs, CALL]
    refine ⟨fun h => ?_, fun h => ⟨fun h4 => ?_, fun h4 => ?_⟩⟩
    · subst h
      refine ⟨by omega, ?_⟩
      refine QC.call (zze _ (by simp only [maxLen, List.length_append]; omega)) ?_
      have e : VM.two 1 ⟨1, na, sa⟩ ⟨1, nb, sb⟩ = (VM.cText (sa ++ sb), 0) := rfl
      rw [e]
      simp [zsv, Val.avs]
    · subst h4
      refine QC.call (zvs _) ?_
      have e : VM.two 4 ⟨1, na, sa⟩ ⟨1, nb, sb⟩ = (VM.bit (Op.bytesLess sa sb), 0) := rfl
      rw [e]
      simp [zsu, Val.avs]
    · exact rest (by rintro ⟨_, _, h' | h'⟩ <;> contradiction) _ (by simp) (by simp) (by simp) (by simp)
  · have rest' := rest (fun h => hk ⟨h.1, h.2.1⟩)
    by_cases hka : ka = 1
    · have hkb : ¬ kb = 1 := fun h => hk ⟨hka, h⟩
      simp [zgs, hka, hkb]
      rw [hka] at rest'
      exact rest' _ (by simp) (by simp) (by simp) (by simp)
    · simp [zgs, hka]
      exact rest' _ (by simp) (by simp) (by simp) (by simp)
end Go.Proofs.YtejohcohkgcmhaaDoor
namespace Go.Proofs.YtejohcohkgcmhaaDoor
open Go Go.RowKit
theorem zaoj (h : List Cl) (l : List Val) (hr : VM.right h l = true) (hs : h.length * 64 ≤ 140737488355328) (hl : l.length * 32 ≤ 140737488355328) : QC Tryd.prog 16 [.ro (h.map Cl.avs), .ro (l.map Val.avs)] (.tup [.ro ((VM.canonV h l).map Val.avs), .ro ((VM.canonC h l).map Cl.avs)]) :=
  QC.of' fun H nx => zaok h l hr hs hl .ro .ro
end Go.Proofs.YtejohcohkgcmhaaDoor
namespace Go.Proofs.YtejohcohkgcmhaaDoor
open Go Go.RowKit
section
variable {ki : IntKind}
theorem zafg {s : Nat} {xs : List (List AV)} {a : Int} {H : Heap} {k : AV → Prop} (hs : ∀ x ∈ xs, x.length = s) (h0 : 0 ≤ a) (h1 : a ≤ xs.length) (hk : k (.ro (xs.drop a.toNat))) : SL s (.ro xs) (some (.int ki a)) none H k := by
  simp only [SL, zay, lohi, PURE, qk, Int.toNat_natCast, List.take_length]
  exact ⟨h0, h1, Int.le_refl _, hs, hk⟩
end
theorem Slot.cp {H : Heap} {sz k : Nat} {cells : List AV} {a : AV} {kh : AV → Heap → Prop} (hg : Slot H sz k cells a) {ys rest : List (List AV)} (hs : ∀ x ∈ ys ++ rest, x.length = sz) (hy : ys.length = k) (hone : ∀ x ∈ ys ++ rest, ∀ c ∈ x, c.one = true)
    (hk : ∀ H', Slot H' sz k ys.flatten a → (∀ g, g ∉ own a → H' g = H g) → kh (.int .i64 k) H') : CP sz a (.ro (ys ++ rest)) H kh := by
  have hsrc := zcn (H := H) hs
  rcases hg with ⟨rfl, rfl | rfl⟩ | ⟨g, cs, rfl, h1, h2, h3⟩
  · unfold CP COPY
    rw [hsrc]
    exact hk _ (.inl ⟨rfl, .inl rfl⟩) fun g _ => rfl
  · unfold CP COPY
    rw [hsrc]
    exact hk _ (.inl ⟨rfl, .inr rfl⟩) fun g _ => rfl
  · have hl : ys.flatten.length = k * sz := by rw [zba fun x hx => hs x (List.mem_append_left _ hx), hy]
    refine zwh hsrc h1 (by omega) ?_ ?_
    · refine List.all_eq_true.2 fun c hc => ?_
      obtain ⟨x, hx, hcx⟩ := List.mem_flatten.1 hc
      exact hone x hx c hcx
    · have e : min (ys ++ rest).length k = k := by simp [hy]
      rw [e]
      have et : ((ys ++ rest).flatten.take (k * sz)) = ys.flatten := by rw [List.flatten_append, List.take_append_of_le_length (by omega), List.take_of_length_le (by omega)]
      rw [et]
      refine hk _ (.inr ⟨g, _, rfl, Heap.put_at _ _ _, ?_, ?_⟩) fun x hx => Heap.put_ne _ _ (by simpa [own] using hx)
      · unfold zav
        simp [hl]
      · unfold zav
        simp [hl]
theorem Slot.gather {H : Heap} {sz k bytes nx m : Nat} {cells new : List AV} {a x : AV} {rdx : List Nat} {kt : Kt} (hg : Slot H sz k cells a) (hlen : cells.length = k * sz) (hs : zm sz H x = some (m, new, rdx)) (hnl : new.length = m * sz) (hone : new.all AV.one = true)
    (hb : (k + m) * bytes ≤ 140737488355328) (hk : ∀ v rd fr D, fr.length ≤ 1 → (∀ g ∈ domD D, g ∈ own a ∨ g = nx) → Slot (H.apply D) sz (k + m) (cells ++ new) v → (∀ g ∈ own v, g = nx ∧ fr.length = 1) → (∀ g, g ∉ own a → g ≠ nx → (H.apply D) g = H g) → kt v rd fr D) : zaj sz bytes a x H nx kt := by
  rcases hg with ⟨rfl, rfl | rfl⟩ | ⟨g, cs, rfl, h1, h2, h3⟩
  · have hc : cells = [] := List.eq_nil_of_length_eq_zero (by omega)
    subst hc
    rw [zqc, hs, optk]
    refine ⟨hone, fun hm => ?_, fun hm => ⟨by simpa using hb, ?_⟩⟩
    · simp only at hm; subst hm
      exact hk _ _ _ _ (by simp) (by simp) (.inl ⟨rfl, .inl rfl⟩) (by simp [own]) fun g _ _ => rfl
    · exact hk _ _ _ _ (by simp) (by simp) (.inr ⟨nx, new, by simp, by simp only [zar, zbb, Heap.put_at], by rw [List.nil_append, List.take_of_length_le (by rw [Nat.zero_add]; omega)], by rw [Nat.zero_add]; omega⟩) (by simp [own]) fun g _ hx => by simp only [zar, zbb]; exact Heap.put_ne _ _ hx
  · have hc : cells = [] := List.eq_nil_of_length_eq_zero (by omega)
    subst hc
    rw [zaeg, hs, optk]
    refine ⟨hone, fun hm => ?_, fun hm => ⟨by simpa using hb, ?_⟩⟩
    · simp only at hm; subst hm
      exact hk _ _ _ _ (by simp) (by simp) (.inl ⟨rfl, .inr rfl⟩) (by simp [own]) fun g _ _ => rfl
    · exact hk _ _ _ _ (by simp) (by simp) (.inr ⟨nx, new, by simp, by simp only [zar, zbb, Heap.put_at], by rw [List.nil_append, List.take_of_length_le (by rw [Nat.zero_add]; omega)], by rw [Nat.zero_add]; omega⟩) (by simp [own]) fun g _ hx => by simp only [zar, zbb]; exact Heap.put_ne _ _ hx
  · rw [zsn, hs, optk, h1, rowk]
    refine ⟨rfl, hone, by omega, hb, hk _ _ _ _ (by simp) (by simp [own]) (.inr ⟨nx, cells ++ new, rfl, ?_, ?_, ?_⟩) (by simp [own]) (fun x hx1 hx => ?_)⟩
    · simp only [zar, zbb]; rw [Heap.put_at, List.drop_zero, h2]
    · rw [List.take_of_length_le]; rw [List.length_append, hlen, hnl, Nat.add_mul]; exact Nat.le_refl _
    · rw [List.length_append, hlen, hnl, Nat.add_mul]; exact Nat.le_refl _
    · simp only [zar, zbb]; rw [Heap.put_ne _ _ hx, Heap.put_ne _ _ (by simpa [own] using hx1)]
theorem QC.thaw {P : Program} {f : FuncId} {args args' : List AV} {r : AV} (h : QC P f args r) {H H0 : Heap} {nx : Nat} {G : Nat → Prop} (hf : zgy H G args' args) (h0 : ∀ g o, H0 g = some o → ¬ G g ∧ H g = some o) {kk : AV → Heap → Nat → Prop} (hk : kk r H0 nx) : za P f args' H nx kk :=
  za.thaw ((h H0 nx).mono fun v H' n' ⟨a, b, c⟩ => by subst a; subst b; subst c; exact hk) hf h0
theorem zry : ∀ {ss : List (AV × AV)} {k i : Nat} {s t : AV × AV} {g : Nat}, (owns ss).Nodup → ss[k]? = some s → ss[i]? = some t → k ≠ i → g ∈ own s.1 ++ own s.2 → g ∈ own t.1 ++ own t.2 → False
  | [], k, i, s, t, g, _, h, _, _, _, _ => by simp at h
  | u :: ss, k, i, s, t, g, nd, h1, h2, hne, m1, m2 => by
    have e : owns (u :: ss) = (own u.1 ++ own u.2) ++ owns ss := by simp [owns]
    rw [e, List.nodup_append] at nd
    obtain ⟨_, n2, n3⟩ := nd
    have mem : ∀ {j : Nat} {v : AV × AV}, ss[j]? = some v → g ∈ own v.1 ++ own v.2 → g ∈ owns ss := fun hv hg => List.mem_flatMap.2 ⟨_, List.mem_of_getElem? hv, hg⟩
    match k, i with
    | 0, 0 => exact hne rfl
    | 0, i + 1 =>
      simp at h1 h2; subst h1
      exact n3 g m1 g (mem h2 m2) rfl
    | k + 1, 0 =>
      simp at h1 h2; subst h2
      exact n3 g m2 g (mem h1 m1) rfl
    | k + 1, i + 1 => exact zry n2 (by simpa using h1) (by simpa using h2) (by omega) m1 m2
theorem zak.set {H H' : Heap} {fs : List Frm} {ss : List (AV × AV)} {i : Nat} {f : Frm} {s : AV × AV} (h : zak H fs ss) (nd : (owns ss).Nodup) (hs : ss[i]? = some s) (hk : ∀ g, g ∉ own s.1 → g ∉ own s.2 → H' g = H g) (h1 : Slot H' 3 f.vars.length (rowV f.vars) s.1) (h2 : Slot H' 3 f.stack.length (rowV f.stack) s.2) : zak H' (fs.set i f) ss := by
  refine ⟨by simp [h.1], fun k f' s' hf hs' => ?_⟩
  by_cases e : k = i
  · subst e
    rw [hs] at hs'; cases hs'
    have hl : k < fs.length := by rw [← h.1]; exact (List.getElem?_eq_some_iff.1 hs).1
    rw [List.getElem?_set_self hl] at hf
    cases hf
    exact ⟨h1, h2⟩
  · rw [List.getElem?_set_ne (Ne.symm e)] at hf
    obtain ⟨q1, q2⟩ := h.2 k f' s' hf hs'
    have hd : ∀ g, (g ∈ own s'.1 ∨ g ∈ own s'.2) → g ∉ own s.1 ∧ g ∉ own s.2 := fun g hg => by
      exact ⟨fun hx => zry nd hs' hs e (List.mem_append.2 hg) (List.mem_append_left _ hx), fun hx => zry nd hs' hs e (List.mem_append.2 hg) (List.mem_append_right _ hx)⟩
    exact ⟨q1.keep fun g hg => hk g (hd g (.inl hg)).1 (hd g (.inl hg)).2, q2.keep fun g hg => hk g (hd g (.inr hg)).1 (hd g (.inr hg)).2⟩
end Go.Proofs.YtejohcohkgcmhaaDoor
namespace Go.Proofs.YtejohcohkgcmhaaDoor
open Go Go.RowKit
theorem zagf : ∀ {fs : List Frm} {ss : List (AV × AV)} {i : Nat} {f : Frm} {s : AV × AV}, ss.length = fs.length → fs[i]? = some f → ss[i]? = some s → ((frow fs ss).drop (i * 4)).take 4 = [.int .i64 f.fn, .int .i64 f.at_, s.1, s.2]
  | [], _, i, f, s, _, h, _ => by simp at h
  | _ :: _, [], i, f, s, h0, _, h => by simp at h
  | g :: fs, t :: ss, 0, f, s, h0, h1, h2 => by simp at h1 h2; subst h1; subst h2; simp [frow]
  | g :: fs, t :: ss, i + 1, f, s, h0, h1, h2 => by
    have := zagf (fs := fs) (ss := ss) (i := i) (f := f) (s := s) (by simpa using h0) (by simpa using h1) (by simpa using h2)
    rw [← this, show (i + 1) * 4 = i * 4 + 1 + 1 + 1 + 1 by omega]
    simp [frow]
theorem zalo {cs : List AV} {fs : List Frm} {ss : List (AV × AV)} {i : Nat} {f : Frm} {s : AV × AV} (h : cs.take (fs.length * 4) = frow fs ss) (hl : ss.length = fs.length) (h1 : fs[i]? = some f) (h2 : ss[i]? = some s) : (cs.drop (i * 4)).take 4 = [.int .i64 f.fn, .int .i64 f.at_, s.1, s.2] := by
  have e := zagf hl h1 h2
  have hi := (List.getElem?_eq_some_iff.1 h1).1
  rw [← h, List.drop_take, List.take_take] at e
  rw [← e]; congr 1; omega
theorem Slot.frzP {H : Heap} {G : Nat → Prop} {sz : Nat} {xs : List (List AV)} {a : AV} (hs : Slot H sz xs.length xs.flatten a) (ho : ∀ g ∈ own a, G g) (hsz : ∀ x ∈ xs, x.length = sz) : FrzP H G a (.ro xs) := by
  rcases hs with ⟨h0, rfl | rfl⟩ | ⟨g, cs, rfl, h1, h2, h3⟩
  · rw [List.eq_nil_of_length_eq_zero h0]; exact .nils
  · rw [List.eq_nil_of_length_eq_zero h0]; exact .zs
  · refine FrzP.row (ho g (by simp [own])) h1 rfl hsz (fun i x j v hx hv => ⟨v, ?_, .same _⟩) h3
    have := zvg hsz hx hv
    rw [← h2, List.getElem?_take] at this
    split at this
    · exact this
    · cases this
def zi (fs : List Frm) : List Val := fs.flatMap fun f => f.vars ++ f.stack
theorem zuy (fs : List Frm) (f : Frm) : zi (fs ++ [f]) = zi fs ++ f.vars ++ f.stack := by simp [zi]
theorem zxv {fs : List Frm} (i : Nat) : (zi (fs.take i)).length ≤ (zi fs).length := by
  have e : zi fs = zi (fs.take i) ++ zi (fs.drop i) := by unfold zi; rw [← List.flatMap_append, List.take_append_drop]
  rw [e, List.length_append]; omega
set_option maxRecDepth 20000 in
set_option maxHeartbeats 1000000 in
theorem zahl {a : Agt} {H5 : Heap} {lo n1 gf p1 : Nat} {ss : List (AV × AV)} {cs : List AV} {Q : AV → Heap → Nat → Prop} (hb : (zi a.frames).length ≤ 4096) (hfl : a.frames.length ≤ 4096) (c1 : H5 gf = some (.row 4 cs)) (c2 : cs.take (a.frames.length * 4) = frow a.frames ss) (c3 : a.frames.length * 4 ≤ cs.length)
    (fr : zak H5 a.frames ss) (bd : ∀ g, (g = gf ∨ g ∈ owns ss) → lo ≤ g ∧ g < n1)
    (hend : ∀ H' n' l, n1 + 1 ≤ n' → (∀ g, g < n1 + 1 → H' g = H5 g) → Slot H' 3 (zi a.frames).length (rowV (zi a.frames)) l → (∀ g ∈ own l, n1 < g ∧ g < n') →
      FA 5 (.ptr n1 0) fun v29 => LD false 1 v29 H' fun v30 => za Tryd.prog 16 [v30, l] H' n' (zrs [.ptr p1 0, .ptr n1 0, l, .slc gf 0 a.frames.length, .int .i64 a.frames.length, .int .i64 a.frames.length] Q)) :
    LP (zih Q) [.ptr p1 0, .ptr n1 0, .nils, .slc gf 0 a.frames.length, .int .i64 a.frames.length, .int .i64 0] H5 (n1 + 1) := by
  refine LP.mk (fun k xs H' n' => ∃ (i : Nat) (l : AV), k = a.frames.length - i ∧ i ≤ a.frames.length ∧ xs = [.ptr p1 0, .ptr n1 0, l, .slc gf 0 a.frames.length, .int .i64 a.frames.length, .int .i64 i] ∧ n1 + 1 ≤ n' ∧ (∀ g, g < n1 + 1 → H' g = H5 g) ∧
    Slot H' 3 (zi (a.frames.take i)).length (rowV (zi (a.frames.take i))) l ∧ ∀ g ∈ own l, n1 < g ∧ g < n') a.frames.length ⟨0, .nils, rfl, by omega, rfl, Nat.le_refl _, fun _ _ => rfl, .inl ⟨rfl, .inl rfl⟩, by simp [own]⟩ ?_
  rintro k xs H' n' ⟨i, l, rfl, hi, rfl, hn, keep, sl, bl⟩
  suffices key : ∀ K : J3, (∀ (i' : Nat) (l : AV) H' n', a.frames.length - i' < a.frames.length - i → i' ≤ a.frames.length → n1 + 1 ≤ n' → (∀ g, g < n1 + 1 → H' g = H5 g) → Slot H' 3 (zi (a.frames.take i')).length (rowV (zi (a.frames.take i'))) l → (∀ g ∈ own l, n1 < g ∧ g < n') → K [.ptr p1 0, .ptr n1 0, l, .slc gf 0 a.frames.length, .int .i64 a.frames.length, .int .i64 i'] H' n') →
      zih Q K [.ptr p1 0, .ptr n1 0, l, .slc gf 0 a.frames.length, .int .i64 a.frames.length, .int .i64 i] H' n' from
    key _ fun i' l H' n' h1 h2 h3 h4 h5 h6 => ⟨_, h1, i', l, rfl, h2, rfl, h3, h4, h5, h6⟩
  intro K hK
  by_cases hil : i < a.frames.length
  · have hf : a.frames[i]? = some a.frames[i] := List.getElem?_eq_getElem hil
    have hs : ss[i]? = some (ss[i]'(by rw [fr.1]; exact hil)) := List.getElem?_eq_getElem _
    generalize a.frames[i] = f at hf
    generalize ss[i]'(by rw [fr.1]; exact hil) = s at hs
    obtain ⟨sv, st⟩ := fr.2 i f s hf hs
    have hgf := bd gf (.inl rfl)
    have e1 : H' gf = some (.row 4 cs) := (keep gf (by omega)).trans c1
    have e2 := zalo c2 fr.1 hf hs
    have one : s.1.one = true ∧ s.2.one = true := ⟨sv.one.2.1, st.one.2.1⟩
    have hsm : ∀ g, (g ∈ own s.1 ∨ g ∈ own s.2) → g < n1 := fun g hg => by
      refine (bd g (.inr (List.mem_flatMap.2 ⟨s, List.mem_of_getElem? hs, ?_⟩))).2
      simpa using hg
    have htk : a.frames.take (i + 1) = a.frames.take i ++ [f] := zcy hf
    have hle := zxv (fs := a.frames) (i + 1)
    have hadd : IntKind.i64.wrap ((i : Int) + 1) = ((i + 1 : Nat) : Int) := by rw [i64w (by omega)]; rfl
    have hr1 : zi (a.frames.take (i + 1)) = zi (a.frames.take i) ++ f.vars ++ f.stack := by rw [htk, zuy]
    rw [hr1] at hle
    simp only [List.length_append] at hle
    simp [zih, hil, e1, e2, sv.one, st.one]
    refine ⟨by omega, ?_⟩
    have lst : (frow a.frames ss).length = a.frames.length * 4 := zap fr.1
    have b0 : ∀ l : List Val, (rowV l).all AV.one = true := fun l => List.all_eq_true.2 fun c hc => zaa (zbk _ c hc)
    have z0 : ∀ l : List Val, l.length = 0 → rowV l = [] := fun l h => by rw [List.eq_nil_of_length_eq_zero h]; rfl
    generalize hX : Heap.put H' n' _ = HX
    have x1 : HX n' = some (.row 4 [.int .i64 f.fn, .int .i64 f.at_, s.1, s.2]) := by rw [← hX, Heap.put_at]
    have xk : ∀ g, g ≠ n' → HX g = H' g := fun g hg => by rw [← hX, Heap.put_ne _ _ hg]
    have xs : ∀ g, (g ∈ own s.1 ∨ g ∈ own s.2) → HX g = H5 g := fun g hg => by have := hsm g hg; rw [xk g (by omega), keep g (by omega)]
    obtain ⟨rd0, hs1⟩ := (sv.keep fun g hg => xs g (.inl hg)).src (z0 f.vars)
    refine Slot.gather (sl.keep fun g hg => xk g (by have := bl g hg; omega)) (by simp) hs1 (by simp) (b0 _) (by omega) fun v1 rd1 fr1 D1 l1 d1 s1 o1 k1 => ?_
    have y1 : (HX.apply D1) n' = some (.row 4 [.int .i64 f.fn, .int .i64 f.at_, s.1, s.2]) := by rw [k1 n' (fun h => by have := bl _ h; omega) (by omega)]; exact x1
    have yk : ∀ g, g < n1 + 1 → (HX.apply D1) g = H5 g := fun g hg => by rw [k1 g (fun h => by have := bl _ h; omega) (by omega), xk g (by omega), keep g hg]
    have dd : n' ∉ domD D1 := fun h => by
      rcases d1 n' h with h | h
      · have := bl _ h; omega
      · omega
    generalize HX.apply D1 = HY at *
    simp only [y1, rowk]
    simp
    obtain ⟨rd2, hs2⟩ := (st.keep fun g hg => yk g (by have := hsm g (.inr hg); omega)).src (z0 f.stack)
    refine Slot.gather s1 (by simp; omega) hs2 (by simp) (b0 _) (by omega) fun v2 rd3 fr2 D2 l2 d2 s2 o2 k2 => ?_
    have zk : ∀ g, g < n1 + 1 → (HY.apply D2) g = H5 g := fun g hg => by rw [k2 g (fun h => by have := o1 _ h; omega) (by omega), yk g hg]
    generalize HY.apply D2 = HZ at *
    refine zbd (fun g _ => by simp) (zbd (fun g _ => by simp) (zbd (fun g hg => by simp; rintro rfl; exact dd hg) (zbd (fun g _ => by simp) ?_)))
    rw [hadd]
    refine hK (i + 1) v2 HZ _ (by omega) (by omega) (by omega) zk ?_ fun g hg => ?_
    · rw [hr1, zhi, zhi]
      simpa [Nat.add_assoc] using s2
    · have := o2 g hg; omega
  · obtain rfl : i = a.frames.length := by omega
    rw [List.take_length] at sl
    have := hend H' n' l hn keep sl bl
    simpa [zih] using this
theorem zage {p : Val → Val} : ∀ (fs : List Frm) (ss : List (AV × AV)), frow (fs.map fun f => { f with vars := f.vars.map p, stack := f.stack.map p }) ss = frow fs ss
  | [], _ => rfl
  | _ :: _, [] => rfl
  | f :: fs, s :: ss => by simp only [List.map_cons, frow]; rw [zage fs ss]
def pkF (p : Val → Val) (f : Frm) : Frm := { f with vars := f.vars.map p, stack := f.stack.map p }
set_option maxRecDepth 20000 in
set_option maxHeartbeats 1000000 in
theorem zaks {fs : List Frm} {id trip : Int} {pr : Prg} {m : Pmt} {p : Val → Val} {hp : List Cl} {H1 : Heap} {n1 gf p1 n : Nat} {ss : List (AV × AV)} {cs : List AV} {ha : AV} {Q : AV → Heap → Nat → Prop} (hfl : fs.length ≤ 4096) (c1 : H1 gf = some (.row 4 cs)) (c2 : cs.take (fs.length * 4) = frow fs ss) (c3 : fs.length * 4 ≤ cs.length)
    (fr : zak H1 fs ss) (nd : (owns ss).Nodup) (g0 : gf ∉ owns ss) (g1 : n1 ∉ owns ss) (g2 : p1 ∉ owns ss) (g3 : p1 ≠ n1) (r1 : H1 n1 = some (.row 9 (zc id trip pr (.slc gf 0 fs.length) ha m))) (r2 : ∃ z, H1 p1 = some (.row 9 z) ∧ z.length = 9)
    (hend : ∀ H', zak H' (fs.map (pkF p)) ss → (∀ g, g ∉ owns ss → g ≠ n1 → g ≠ p1 → H' g = H1 g) → Q (.agg (zc id trip pr (.slc gf 0 fs.length) (.ro (hp.map Cl.avs)) m)) H' n) :
    LP (zii Q) [.ptr p1 0, .ptr n1 0, .ro ((zi fs).map fun v => (p v).avs), .ro (hp.map Cl.avs), .int .i64 fs.length, .int .i64 0] H1 n := by
  refine LP.mk (fun k xs H' n' => ∃ i : Nat, k = fs.length - i ∧ i ≤ fs.length ∧ n' = n ∧ xs = [.ptr p1 0, .ptr n1 0, .ro ((zi (fs.drop i)).map fun v => (p v).avs), .ro (hp.map Cl.avs), .int .i64 fs.length, .int .i64 i] ∧
    zak H' ((fs.take i).map (pkF p) ++ fs.drop i) ss ∧ ∀ g, g ∉ owns ss → H' g = H1 g) fs.length ⟨0, rfl, by omega, rfl, rfl, by simpa using fr, fun _ _ => rfl⟩ ?_
  rintro k xs H' n' ⟨i, rfl, hi, rfl, rfl, fr', keep⟩
  suffices key : ∀ K : J3, (∀ (i' : Nat) H', fs.length - i' < fs.length - i → i' ≤ fs.length → zak H' ((fs.take i').map (pkF p) ++ fs.drop i') ss → (∀ g, g ∉ owns ss → H' g = H1 g) → K [.ptr p1 0, .ptr n1 0, .ro ((zi (fs.drop i')).map fun v => (p v).avs), .ro (hp.map Cl.avs), .int .i64 fs.length, .int .i64 i'] H' n') →
      zii Q K [.ptr p1 0, .ptr n1 0, .ro ((zi (fs.drop i)).map fun v => (p v).avs), .ro (hp.map Cl.avs), .int .i64 fs.length, .int .i64 i] H' n' from
    key _ fun i' H' h1 h2 h3 h4 => ⟨_, h1, i', rfl, h2, rfl, rfl, h3, h4⟩
  intro K hK
  have e0 := (keep _ g0).trans c1
  have e1 := (keep _ g1).trans r1
  obtain ⟨z, z1, z2⟩ := r2
  have e2 := (keep _ g2).trans z1
  by_cases hil : i < fs.length
  · have hf : fs[i]? = some fs[i] := List.getElem?_eq_getElem hil
    have hs : ss[i]? = some (ss[i]'(by rw [fr.1]; exact hil)) := List.getElem?_eq_getElem _
    have hdrop : fs.drop i = fs[i] :: fs.drop (i + 1) := List.drop_eq_getElem_cons hil
    have htk : fs.take (i + 1) = fs.take i ++ [fs[i]] := zcy hf
    generalize fs[i] = f at *
    generalize ss[i]'(by rw [fr.1]; exact hil) = s at hs
    have e3 := zalo c2 fr.1 hf hs
    have hadd : IntKind.i64.wrap ((i : Int) + 1) = ((i + 1 : Nat) : Int) := by rw [i64w (by omega)]; rfl
    have hm : ((fs.take i).map (pkF p) ++ fs.drop i)[i]? = some f := by rw [List.getElem?_append_right (by simp; omega)]; simp [Nat.min_eq_left (Nat.le_of_lt hil), hf]
    obtain ⟨sv, st⟩ := fr'.2 i f s hm hs
    have hroots : zi (fs.drop i) = f.vars ++ (f.stack ++ zi (fs.drop (i + 1))) := by rw [hdrop]; simp [zi]
    have q2 : cs[i * 4 + 2]? = some s.1 := by
      have := congrArg (·[2]?) e3
      simpa using this
    have q3 : cs[i * 4 + 3]? = some s.2 := by
      have := congrArg (·[3]?) e3
      simpa using this
    rw [hroots]
    have hown : ∀ g, (g ∈ own s.1 ∨ g ∈ own s.2) → g ∈ owns ss := fun g hg => List.mem_flatMap.2 ⟨s, List.mem_of_getElem? hs, by simpa using hg⟩
    have hdis : ∀ g ∈ own s.1, g ∉ own s.2 := by
      obtain ⟨hi1, rfl⟩ := List.getElem?_eq_some_iff.1 hs
      have hsub : (own ss[i].1 ++ own ss[i].2).Sublist (owns ss) := List.sublist_flatten_of_mem (List.mem_map.2 ⟨_, List.getElem_mem hi1, rfl⟩)
      have := List.nodup_append.1 (nd.sublist hsub)
      exact fun g h1 h2 => this.2.2 g h1 g h2 rfl
    have len3 : ∀ l : List Val, ∀ x ∈ l.map (fun v => (p v).avs), x.length = 3 := fun l x hx => by obtain ⟨v, _, rfl⟩ := List.mem_map.1 hx; rfl
    have one3 : ∀ l : List Val, ∀ x ∈ l.map (fun v => (p v).avs), ∀ c ∈ x, c.one = true := fun l x hx c hc => by obtain ⟨v, _, rfl⟩ := List.mem_map.1 hx; exact zaa (zan _ c hc)
    have fl : ∀ l : List Val, (l.map fun v => (p v).avs).flatten = rowV (l.map p) := fun l => by simp [rowV, List.map_map, Function.comp_def]
    simp [zii, hil, e0, e1, zc, q2, q3]
    refine Slot.cp sv (fun x hx => ?_) (by simp) (fun x hx => ?_) fun H2 s2 k2 => ?_
    · rw [← List.map_append, ← List.map_append] at hx; exact len3 _ x hx
    · rw [← List.map_append, ← List.map_append] at hx; exact one3 _ x hx
    refine zafg (fun x hx => ?_) (by omega) (by simp; omega) ?_
    · rw [← List.map_append, ← List.map_append] at hx; exact len3 _ x hx
    have h2 : H2 gf = some (.row 4 cs) := by rw [k2 gf (fun h => g0 (hown _ (.inl h)))]; exact e0
    have hd1 : ∀ (A B : List (List AV)) (n : Nat), A.length = n → (A ++ B).drop ((n : Int).toNat) = B := fun A B n h => by simp [← h]
    rw [hd1 _ _ _ (by simp)]
    simp only [h2, rowk, q3, optk]
    refine Slot.cp (st.keep fun g hg => k2 g fun h => hdis g h hg) (fun x hx => ?_) (by simp) (fun x hx => ?_) fun H3 s3 k3 => ?_
    · rw [← List.map_append] at hx; exact len3 _ x hx
    · rw [← List.map_append] at hx; exact one3 _ x hx
    refine zafg (fun x hx => ?_) (by omega) (by simp; omega) ?_
    · rw [← List.map_append] at hx; exact len3 _ x hx
    rw [hd1 _ _ _ (by simp), hadd]
    rw [fl] at s2 s3
    have e4 : (fs.take (i + 1)).map (pkF p) ++ fs.drop (i + 1) = ((fs.take i).map (pkF p) ++ fs.drop i).set i (pkF p f) := by
      rw [htk, hdrop, List.set_append_right _ _ (by simp; omega)]
      simp [Nat.min_eq_left (Nat.le_of_lt hil)]
    refine hK (i + 1) H3 (by omega) (by omega) ?_ fun g hg => ?_
    · rw [e4]
      refine fr'.set nd hs (fun g h1 h2 => by rw [k3 g h2, k2 g h1]) ?_ ?_
      · have := s2.keep (H' := H3) fun g hg => k3 g (hdis g hg)
        simpa [pkF] using this
      · simpa [pkF] using s3
    · rw [k3 g (fun h => hg (hown _ (.inr h))), k2 g (fun h => hg (hown _ (.inl h)))]
      exact keep g hg
  · obtain rfl : i = fs.length := by omega
    rw [List.take_length, List.drop_length, List.append_nil] at fr'
    simp [zii, e1, e2, zc, z2, g3]
    have := hend ((H'.put n1 (some (.row 9 (zc id trip pr (.slc gf 0 fs.length) (.ro (hp.map Cl.avs)) m)))).put p1 (some (.row 9 (zc id trip pr (.slc gf 0 fs.length) (.ro (hp.map Cl.avs)) m ++ z.drop 9)))) (fr'.keep fun g hg => ?_) fun g q1 q2 q3 => ?_
    · simpa [zc] using this
    · have a1 : g ≠ p1 := fun e => g2 (e ▸ hg)
      have a2 : g ≠ n1 := fun e => g1 (e ▸ hg)
      rw [Heap.put_ne _ _ a1, Heap.put_ne _ _ a2]
    · rw [Heap.put_ne _ _ q3, Heap.put_ne _ _ q2]; exact keep g q1
set_option maxRecDepth 20000 in
set_option maxHeartbeats 1000000 in
theorem zapu {a : Agt} {fs : List Frm} {f : Frm} (sz : zsp a) (hfr : a.frames = fs ++ [f]) (hfl : a.frames.length ≤ 4096) (hb : (zi a.frames).length ≤ 4096) (hr : VM.right a.heap (zi a.frames) = true) :
    QC Tryd.prog 29 [.agg a.avs] (.agg (VM.pack a).avs) := by
  refine QC.of' fun H nx => ?_
  refine zaem _ H nx _ ?_
  have av : (AV.agg a.avs).cells = a.avs := by simp
  have al : a.avs.length = 9 := rfl
  have hsu : (AV.agg a.avs).sure = true := by simp [Agt.avs]
  have at9 : a.avs.take 9 = a.avs := by rw [← al, List.take_length]
  unfold zrr
  rw [av, al]
  refine ⟨hsu, ?_⟩
  simp [al, at9]
  refine zvb sz fun H1 n1 ss fa ha hn1 k1 ow => ?_
  generalize hHH : Heap.put _ (nx + 1) _ = HH at *
  have q2 : ∃ z, HH (nx + 1) = some (.row 9 z) ∧ z.length = 9 := ⟨_, by rw [← hHH, Heap.put_at], rfl⟩
  have q4 : Keep nx HH H := fun g hg => by rw [← hHH, Heap.put_ne _ _ (by omega), Heap.put_ne _ _ (by omega)]
  have h1 := ow.hp.one
  obtain ⟨gf, cs, rfl, c1, c2, c3⟩ : ∃ gf cs, fa = .slc gf 0 a.frames.length ∧ H1 gf = some (.row 4 cs) ∧ cs.take (a.frames.length * 4) = frow a.frames ss ∧ a.frames.length * 4 ≤ cs.length := by
    rcases ow.row with ⟨h0, _⟩ | ⟨gf, cs, h2⟩
    · rw [hfr] at h0; simp at h0
    · exact ⟨gf, cs, h2⟩
  have bd : ∀ g, (g = gf ∨ g ∈ owns ss) → nx + 2 ≤ g ∧ g < n1 := fun g hg => ow.bd g (by rcases hg with rfl | h <;> simp [own, *])
  have bh : ∀ g ∈ own ha, nx + 2 ≤ g ∧ g < n1 := fun g hg => ow.bd g (by simp [hg])
  have nd := ow.nd
  have e0 : own (AV.slc gf 0 a.frames.length) = [gf] := rfl
  rw [e0, List.singleton_append, List.nodup_cons, List.nodup_append] at nd
  obtain ⟨nd1, nd2, nd3, nd4⟩ := nd
  simp only [List.mem_append, not_or] at nd1
  simp [zaas, zc, h1.1, h1.2.1, h1.2.2]
  generalize hX : Heap.put H1 n1 _ = HX
  have x1 : HX n1 = some (.row 9 (zc a.id a.trip a.prog (.slc gf 0 a.frames.length) ha a.permit)) := by rw [← hX, Heap.put_at]; rfl
  have xk : ∀ g, g < n1 → HX g = H1 g := fun g hg => by rw [← hX, Heap.put_ne _ _ (by omega)]
  refine zahl (lo := nx + 2) hb hfl (by rw [xk gf (bd gf (.inl rfl)).2]; exact c1) c2 c3 (ow.frs.keep fun g hg => xk g (bd g (.inr hg)).2) bd fun H' n' l hn keep sl bl => ?_
  have x2 := (keep n1 (by omega)).trans x1
  simp [x2, zc]
  let G : Nat → Prop := fun g => g ∈ own ha ∨ g ∈ own l
  let H0 : Heap := fun g => if g ∈ own ha ∨ g ∈ own l then none else H' g
  have h0 : ∀ g o, H0 g = some o → ¬ G g ∧ H' g = some o := fun g o hg => by
    by_cases h : g ∈ own ha ∨ g ∈ own l
    · simp only [H0, if_pos h] at hg; cases hg
    · simp only [H0, if_neg h] at hg; exact ⟨h, hg⟩
  have up : ∀ g, g ∉ own ha → g < n1 + 1 → H0 g = HX g := fun g h1 h2 => by
    simp only [H0]
    rw [if_neg (fun h => by
      rcases h with h | h
      · exact h1 h
      · have := bl g h; omega)]
    exact keep g h2
  refine QC.thaw (zaoj a.heap (zi a.frames) hr sz.b5 (by omega)) (G := G) (H0 := H0) (zgy.cons (Slot.frzP (sz := 6) ?_ (fun g hg => .inl hg) (zbe _)) (zgy.cons (Slot.frzP (sz := 3) ?_ (fun g hg => .inr hg) (zbo _)) .nil)) h0 ?_
  · have := ow.hp.keep (H' := H') fun g hg => by have := bh g hg; rw [keep g (by omega), xk g (by omega)]
    simpa [rowC] using this
  · simpa [rowV] using sl
  have y1 : H0 n1 = some (.row 9 (zc a.id a.trip a.prog (.slc gf 0 a.frames.length) ha a.permit)) := by
    rw [up n1 (fun h => by have := bh _ h; omega) (by omega)]; exact x1
  have lowk : ∀ g, g < nx + 2 → H0 g = HH g := fun g hg => by
    rw [up g (fun h => by have := bh _ h; omega) (by omega), xk g (by omega), k1 g (by omega)]
  simp [zrs, y1, zc]
  obtain ⟨z, z1, z2⟩ := q2
  have hcv : (VM.canonV a.heap (zi a.frames)).map Val.avs = (zi a.frames).map fun v => (VM.put (VM.order a.heap (zi a.frames)) v).avs := by
    unfold VM.canonV; rw [List.map_map]; rfl
  rw [hcv]
  have gdis : ∀ g ∈ owns ss, g ∉ own ha := fun g hg h => nd4 g h g hg rfl
  refine zaks (id := a.id) (trip := a.trip) (pr := a.prog) (m := a.permit) (p := VM.put (VM.order a.heap (zi a.frames))) (hp := VM.canonC a.heap (zi a.frames)) (ss := ss) (cs := cs) (ha := ha) hfl ?_ c2 c3 (ow.frs.keep fun g hg => ?_) nd3 nd1.2 (fun h => by have := bd _ (.inr h); omega) (fun h => by have := bd _ (.inr h); omega) (by omega) y1 ⟨z, by rw [lowk _ (by omega)]; exact z1, z2⟩ fun H3 fr3 k3 => ?_
  · rw [up gf nd1.1 (by have := bd gf (.inl rfl); omega), xk gf (bd gf (.inl rfl)).2]; exact c1
  · rw [up g (gdis g hg) (by have := bd g (.inr hg); omega), xk g (bd g (.inr hg)).2]
  have hgf := bd gf (.inl rfl)
  refine ⟨?_, fun g hg => ?_⟩
  · have hp : VM.pack a = ⟨a.id, a.trip, a.prog, a.frames.map (pkF (VM.put (VM.order a.heap (zi a.frames)))), VM.canonC a.heap (zi a.frames), a.permit⟩ := rfl
    rw [hp]
    have ef : frow (a.frames.map (pkF (VM.put (VM.order a.heap (zi a.frames))))) ss = frow a.frames ss := zage _ _
    refine zbs (zak.frz (cs := cs) fr3 ?_ (by simpa [ef] using c2) (by simpa using c3) (by omega) (fun x hx => by have := bd x (.inr hx); omega) (by simp)) (.same _ (zcc (zag _)))
    rw [k3 gf nd1.2 (by omega) (by omega), up gf nd1.1 (by omega), xk gf hgf.2]; exact c1
  · rw [k3 g (fun h => by have := bd _ (.inr h); omega) (by omega) (by omega), lowk g (by omega)]
    exact q4 g hg
end Go.Proofs.YtejohcohkgcmhaaDoor
namespace Go.Proofs.YtejohcohkgcmhaaDoor
open Go Go.RowKit
structure zdy (H : Heap) (n sz k : Nat) (cs : List AV) (x : AV) : Prop where
  src : ∀ H' : Heap, (∀ g, g < n → H' g = H g) → ∃ rd, zm sz H' x = some (k, cs, rd)
  len : cs.length = k * sz
  one : cs.all AV.one = true
  x1 : x.cells = [x] ∧ x.one = true ∧ x.sure = true
theorem zdy.keep {H H2 : Heap} {n n2 sz k : Nat} {cs : List AV} {x : AV} (c : zdy H n sz k cs x) (hn : n ≤ n2) (hk : ∀ g, g < n → H2 g = H g) : zdy H2 n2 sz k cs x :=
  ⟨fun H' h => c.src H' fun g hg => (h g (by omega)).trans (hk g hg), c.len, c.one, c.x1⟩
theorem zdy.ro {H : Heap} {n sz : Nat} {xs : List (List AV)} (hs : ∀ x ∈ xs, x.length = sz) (ho : ∀ x ∈ xs, ∀ c ∈ x, c.one = true) : zdy H n sz xs.length xs.flatten (.ro xs) :=
  ⟨fun H' _ => ⟨[], zcn hs⟩, zba hs, List.all_eq_true.2 fun c hc => by obtain ⟨x, hx, hcx⟩ := List.mem_flatten.1 hc; exact ho x hx c hcx, rfl, rfl, rfl⟩
theorem zdy.slc {H : Heap} {n sz g k : Nat} {cs : List AV} (h : H g = some (.row sz cs)) (hg : g < n) (hl : cs.length = k * sz) (ho : cs.all AV.one = true) : zdy H n sz k cs (.slc g 0 k) := by
  refine ⟨fun H' hk => ⟨[g], ?_⟩, hl, ho, rfl, rfl, rfl⟩
  simp only [zm]
  rw [hk g hg, h]
  simp only [Nat.zero_add, List.drop_zero]
  rw [if_pos (by omega), List.take_of_length_le (by omega)]
set_option maxRecDepth 20000 in
set_option maxHeartbeats 1000000 in
theorem zwb {id trip : Int} {p : Prg} {fa ha va sa : AV} {m : Pmt} {fn at_ : Int} {k : Nat} {cs : List AV} {H : Heap} {n : Nat} {Q : AV → Heap → Nat → Prop} (cp : zdy H n 4 (k + 1) cs fa) (hk : k ≤ 4096) (h1 : ha.cells = [ha] ∧ ha.one = true ∧ ha.sure = true) (v1 : va.one = true ∧ va.sure = true) (s1 : sa.one = true ∧ sa.sure = true)
    (hq : ∀ H' n' g', n ≤ g' → g' < n' → Keep n H' H → H' g' = some (.row 4 (cs.take (k * 4) ++ [.int .i64 fn, .int .i64 at_, va, sa])) → Q (.agg (zc id trip p (.slc g' 0 (k + 1)) ha m)) H' n') :
    za Tryd.prog 51 [.agg (zc id trip p fa ha m), .agg [.int .i64 fn, .int .i64 at_, va, sa]] H n Q := by
  refine zwo _ _ H n _ ?_
  have av : ∀ fa', (AV.agg (zc id trip p fa' ha m)).cells = zc id trip p fa' ha m := fun fa' => by simp
  unfold zix
  have hsu : (AV.agg (zc id trip p fa ha m)).sure = true := by simp [zc, cp.x1.2.2, h1.2.2]
  refine ⟨hsu, by simp [v1.2, s1.2], ?_⟩
  have e9 : (zc id trip p fa ha m).length = 9 := rfl
  have e4 : (zc id trip p fa ha m)[4]? = some fa := rfl
  rw [av, e9]
  generalize hX : (((H.put n (some (AObj.row 9 (zc id trip p fa ha m)))).put (n + 1) _).put (n + 2) _).put (n + 3) _ = HX
  have x0 : HX n = some (.row 9 (zc id trip p fa ha m)) := by rw [← hX, Heap.put_ne _ _ (by omega), Heap.put_ne _ _ (by omega), Heap.put_ne _ _ (by omega), Heap.put_at]
  have x1 : HX (n + 1) = some (.row 4 [.int .i64 fn, .int .i64 at_, va, sa]) := by rw [← hX, Heap.put_ne _ _ (by omega), Heap.put_ne _ _ (by omega), Heap.put_at]; rfl
  have x2 : ∃ z, HX (n + 2) = some (.row 9 z) ∧ z.length = 9 := ⟨_, by rw [← hX, Heap.put_ne _ _ (by omega), Heap.put_at], rfl⟩
  have x3 : HX (n + 3) = some (.row 4 []) := by rw [← hX, Heap.put_at]
  have xk : ∀ g, g < n → HX g = H g := fun g hg => by rw [← hX, Heap.put_ne _ _ (by omega), Heap.put_ne _ _ (by omega), Heap.put_ne _ _ (by omega), Heap.put_ne _ _ (by omega)]
  obtain ⟨z, z1, z2⟩ := x2
  obtain ⟨rd, hs⟩ := cp.src HX xk
  have hw : IntKind.i64.wrap (k : Int) = k := i64w (by omega)
  have hl := cp.len
  have ho := cp.one
  rw [List.all_eq_true] at ho
  simp [x0, e4, hs, x3, x1, zc, hw, z1, z2, v1.1, s1.1, cp.x1.1, h1.1, h1.2.1]
  refine ⟨ho, by omega, by omega, by omega, hq _ _ (n + 4) (by omega) (by omega) (fun g hg => ?_) ?_⟩
  · rw [Heap.put_ne _ _ (by omega), Heap.put_ne _ _ (by omega), Heap.put_ne _ _ (by omega), Heap.put_ne _ _ (by omega)]
    exact xk g hg
  · rw [Heap.put_ne _ _ (by omega), Heap.put_ne _ _ (by omega), Heap.put_at, List.drop_of_length_le (by omega)]
end Go.Proofs.YtejohcohkgcmhaaDoor
namespace Go.Proofs.YtejohcohkgcmhaaDoor
open Go Go.RowKit
theorem zdf (fs : List Frm) : ∀ x ∈ fs.map Frm.avs, x.length = 4 := by intro x hx; obtain ⟨f, _, rfl⟩ := List.mem_map.1 hx; rfl
theorem oneF (fs : List Frm) : ∀ x ∈ fs.map Frm.avs, ∀ c ∈ x, c.one = true := by
  intro x hx c hc; obtain ⟨f, _, rfl⟩ := List.mem_map.1 hx
  simp [Frm.avs] at hc
  rcases hc with rfl | rfl | rfl | rfl <;> rfl
theorem zacz {A : Nat → Prop} (f : Frm) : ∀ (j : Nat) (v : AV), f.avs[j]? = some v → Bel A v := fun j v hv => by
  match j, hv with
  | 0, hv => cases hv; exact .int _ _
  | 1, hv => cases hv; exact .int _ _
  | 2, hv => cases hv; exact zcc (zea _)
  | 3, hv => cases hv; exact zcc (zea _)
  | j + 4, hv => simp [Frm.avs] at hv
theorem zve {H : Heap} {nx g : Nat} {fs : List Frm} {f : Frm} {va sa : AV} {cs : List AV} (h : H g = some (.row 4 cs)) (hc : cs = (fs.map Frm.avs).flatten ++ [.int .i64 f.fn, .int .i64 f.at_, va, sa]) (hg : nx ≤ g) (hv : Frz H nx va (.ro (f.vars.map Val.avs))) (hs : Frz H nx sa (.ro (f.stack.map Val.avs))) :
    Frz H nx (.slc g 0 (fs.length + 1)) (.ro ((fs ++ [f]).map Frm.avs)) := by
  have hl : ((fs.map Frm.avs).flatten).length = fs.length * 4 := by rw [zba (zdf fs)]; simp
  have key : ∀ (i : Nat) (x : List AV) (j : Nat) (v : AV), ((fs ++ [f]).map Frm.avs)[i]? = some x → x[j]? = some v → ∃ u, cs[0 + i * 4 + j]? = some u ∧ Frz H nx u v := fun i x j v hx hv' => by
    rw [List.getElem?_map] at hx
    obtain ⟨f', hf, rfl⟩ := Option.map_eq_some_iff.1 hx
    have hj : j < 4 := (List.getElem?_eq_some_iff.1 hv').1
    rw [Nat.zero_add, hc]
    by_cases hi : i < fs.length
    · rw [List.getElem?_append_left hi] at hf
      have hm : (fs.map Frm.avs)[i]? = some f'.avs := by rw [List.getElem?_map, hf]; rfl
      refine ⟨v, ?_, .same _ (zacz f' j v hv')⟩
      have := zvg (zdf fs) hm hv'
      rw [List.getElem?_append_left (by omega)]; exact this
    · have hi' : i = fs.length := by have := (List.getElem?_eq_some_iff.1 hf).1; simp at this; omega
      subst hi'
      rw [List.getElem?_append_right (Nat.le_refl _)] at hf
      simp at hf; subst hf
      rw [List.getElem?_append_right (by omega), hl, show fs.length * 4 + j - fs.length * 4 = j by omega]
      match j, hv' with
      | 0, hv' => cases hv'; exact ⟨_, rfl, .same _ (.int _ _)⟩
      | 1, hv' => cases hv'; exact ⟨_, rfl, .same _ (.int _ _)⟩
      | 2, hv' => cases hv'; exact ⟨_, rfl, hv⟩
      | 3, hv' => cases hv'; exact ⟨_, rfl, hs⟩
      | j + 4, hv' => omega
  refine .slc g 0 _ 4 cs _ hg h (by rw [hc, List.length_append, hl]; simp; omega) (by simp) (zdf _) (fun i j => (cs[0 + i * 4 + j]?).getD .junk) (fun i x j v hx hv' => ?_) (fun i x j v hx hv' => ?_)
  · obtain ⟨u, q1, q2⟩ := key i x j v hx hv'; rw [q1]; rfl
  · obtain ⟨u, q1, q2⟩ := key i x j v hx hv'; rw [q1]; exact q2
theorem zya {H : Heap} {n : Nat} (fs : List Frm) : zdy H n 4 fs.length (fs.map Frm.avs).flatten (.ro (fs.map Frm.avs)) := by
  have := zdy.ro (H := H) (n := n) (zdf fs) (oneF fs)
  simpa using this
theorem zabh (fs : List Frm) (f : Frm) : (((fs ++ [f]).map Frm.avs).flatten).take (fs.length * 4) = (fs.map Frm.avs).flatten := by
  have hl : ((fs.map Frm.avs).flatten).length = fs.length * 4 := by rw [zba (zdf fs)]; simp
  rw [List.map_append, List.flatten_append, List.take_append_of_le_length (by omega), List.take_of_length_le (by omega)]
set_option maxRecDepth 20000 in
set_option maxHeartbeats 1000000 in
theorem zafs {a : Agt} {fs : List Frm} {f : Frm} {k : Int} (hfr : a.frames = fs ++ [f]) (hf : fs.length ≤ 4096) (hst : f.stack.length ≤ 4096) :
    QC Tryd.prog 32 [.agg a.avs, .int .i64 k] (.agg (VM.answer a k).avs) := by
  refine QC.of' fun H n => ?_
  refine zto _ _ H n _ ?_
  have av : (AV.agg a.avs).cells = a.avs := by simp
  have hsu : (AV.agg a.avs).sure = true := by simp [Agt.avs]
  have e9 : a.avs.length = 9 := rfl
  have e4 : a.avs[4]? = some (.ro (a.frames.map Frm.avs)) := rfl
  unfold zhc
  rw [av, e9]
  refine ⟨hsu, ?_⟩
  have hw : IntKind.i64.wrap (fs.length : Int) = fs.length := i64w (by omega)
  have hlast : (fs ++ [f])[fs.length]? = some f := by simp
  rw [hfr] at e4
  have hsrc : ∀ (H : Heap) (l : List Val), zm 3 H (.ro (l.map Val.avs)) = some (l.length, rowV l, []) := fun H l => by rw [zcn (zbo l)]; simp [rowV]
  have hones : ∀ l : List Val, ∀ x ∈ rowV l, x.one = true := fun l c hc => zaa (zbk l c hc)
  have tk : (rowV f.stack).take (f.stack.length * 3) = rowV f.stack := List.take_of_length_le (by simp)
  have at9 : a.avs.take 9 = a.avs := by rw [← e9, List.take_length]
  simp [e4, hw]
  have nn1 : n ≠ n + 4 + 1 + 1 := by omega
  have nn2 : n ≠ n + 4 + 1 := by omega
  simp [Frm.avs, hsrc, tk, e9, at9, nn1, nn2]
  refine ⟨by omega, hones _, by omega, by omega, ?_⟩
  generalize hX : Heap.put _ (n + 2) _ = HX
  have x1 : ∃ z, HX (n + 1) = some (.row 9 z) ∧ z.length = 9 := ⟨_, by rw [← hX, Heap.put_ne _ _ (by omega), Heap.put_ne _ _ (by omega), Heap.put_ne _ _ (by omega), Heap.put_ne _ _ (by omega), Heap.put_ne _ _ (by omega), Heap.put_ne _ _ (by omega), Heap.put_ne _ _ (by omega), Heap.put_at], rfl⟩
  have x2 : HX (n + 4 + 1 + 1) = some (.row 3 (rowV f.stack ++ [.int .i64 0, .int .i64 k, .str []])) := by rw [← hX, Heap.put_ne _ _ (by omega), Heap.put_at]
  have xk : ∀ g, g < n → HX g = H g := fun g hg => by rw [← hX]; rw [Heap.put_ne _ _ (by omega), Heap.put_ne _ _ (by omega), Heap.put_ne _ _ (by omega), Heap.put_ne _ _ (by omega), Heap.put_ne _ _ (by omega), Heap.put_ne _ _ (by omega), Heap.put_ne _ _ (by omega), Heap.put_ne _ _ (by omega), Heap.put_ne _ _ (by omega)]
  have ea : a.avs = zc a.id a.trip a.prog (.ro ((fs ++ [f]).map Frm.avs)) (.ro (a.heap.map Cl.avs)) a.permit := by rw [Agt.avs_eq, hfr]
  rw [ea]
  have cpy := zya (H := HX) (n := n + 4 + 1 + 1 + 1) (fs ++ [f])
  rw [show (fs ++ [f]).length = fs.length + 1 by simp] at cpy
  refine zwb cpy hf ⟨rfl, rfl, rfl⟩ ⟨rfl, rfl⟩ ⟨rfl, rfl⟩ fun H' n' g' hg1 hg2 kp hr => ?_
  rw [zabh] at hr
  obtain ⟨z, z1, z2⟩ := x1
  have e1 := (kp (n + 1) (by omega)).trans z1
  have e2 := (kp (n + 4 + 1 + 1) (by omega)).trans x2
  simp [zmx, zc, e1, z2]
  rw [zvw hfr]
  refine ⟨zbs (zve (by rw [Heap.put_ne _ _ (by omega)]; exact hr) rfl (by omega) (.same _ (zcc (zea _))) ?_) (.same _ (zcc (zag _))), fun g hg => ?_⟩
  · refine Slot.frzV (.inr ⟨n + 4 + 1 + 1, _, by simp, by rw [Heap.put_ne _ _ (by omega)]; exact e2, ?_, by simp; omega⟩) (by simp [own]; omega)
    rw [List.take_of_length_le (by simp; omega), zeb]; rfl
  · rw [kp g (by omega)]; exact xk g hg
set_option maxRecDepth 20000 in
set_option maxHeartbeats 1000000 in
theorem zako {id : Int} {p : Prg} {m : Pmt} (hp : 0 < p.codes.length) (hv : 0 ≤ (VM.codeAt p 0).vars ∧ (VM.codeAt p 0).vars ≤ 4096) :
    QC Tryd.prog 34 [.int .i64 id, .agg p.avs, .agg m.avs] (.agg (VM.newAgt id p m).avs) := by
  refine QC.of' fun H nx => ?_
  refine zyq _ _ _ H nx _ ?_
  have pv : (AV.agg p.avs).cells = p.avs := by simp
  have pl : p.avs.length = 2 := rfl
  have mv : (AV.agg m.avs).cells = m.avs := by simp
  have ml : m.avs.length = 3 := rfl
  have hsp : (AV.agg p.avs).sure = true := by simp [Prg.avs]
  have hsm : (AV.agg m.avs).sure = true := by simp [Pmt.avs]
  unfold zks
  rw [pv, pl, mv, ml]
  refine ⟨hsp, hsm, ?_⟩
  have hc : p.codes[0]? = some (VM.codeAt p 0) := zms (p := p) (k := 0) hp
  obtain ⟨k, hk⟩ : ∃ k : Nat, (VM.codeAt p 0).vars = k := ⟨(VM.codeAt p 0).vars.toNat, by omega⟩
  have hc' : p.codes[0] = VM.codeAt p 0 := (List.getElem?_eq_some_iff.1 hc).2
  have na : VM.newAgt id p m = ⟨id, 0, p, [] ++ [⟨0, 0, List.replicate k VM.vzero, []⟩], [], m⟩ := by unfold VM.newAgt; rw [hk]; rfl
  have hr : rowV (List.replicate k VM.vzero) = (List.replicate k [AV.int .i64 0, AV.int .i64 0, AV.str []]).flatten := by unfold rowV; rw [List.map_replicate]; rfl
  simp [Prg.avs, Pmt.avs, hp, hc', Cod.avs, hk]
  refine ⟨by omega, by omega, fun x hx => by rcases hx with (rfl | rfl | rfl | rfl) | rfl | rfl | rfl | rfl | rfl <;> rfl, ?_⟩
  generalize hX : Heap.put _ (nx + 2) (some (AObj.row 9 (AV.int IntKind.i64 id :: _))) = HX
  have x3 : HX (nx + 3) = some (.row 3 (rowV (List.replicate k VM.vzero))) := by rw [← hX, Heap.put_ne _ _ (by omega), Heap.put_ne _ _ (by omega), Heap.put_at, hr]
  have x4 : HX (nx + 4) = some (.row 4 [AV.int .i64 0, AV.int .i64 0, .slc (nx + 3) 0 k, .nils]) := by rw [← hX, Heap.put_ne _ _ (by omega), Heap.put_at]
  rw [na]
  refine zbs (zve (fs := []) x4 rfl (by omega) (Slot.frzV (.inr ⟨nx + 3, _, by simp, x3, List.take_of_length_le (by simp), by simp⟩) (by simp [own])) .nils) .nils
end Go.Proofs.YtejohcohkgcmhaaDoor
namespace Go.Proofs.YtejohcohkgcmhaaDoor
open Go Go.RowKit
def zaz (o : List Nat) (N : Nat) : List AV := (List.range N).map fun n => .int .i64 (if n ∈ o then (o.idxOf n : Int) else -1)
@[simp] theorem zarc (o : List Nat) (N : Nat) : (zaz o N).length = N := by simp [zaz]
theorem zep {o : List Nat} {N n : Nat} (h : n < N) : (zaz o N)[n]? = some (.int .i64 (if n ∈ o then (o.idxOf n : Int) else -1)) := by simp [zaz, h]
theorem zafv {o : List Nat} {N m : Nat} (hm : m < N) (hn : m ∉ o) : (zaz o N).take m ++ AV.int .i64 o.length :: (zaz o N).drop (m + 1) = zaz (o ++ [m]) N := by
  have e : (zaz o N).take m ++ AV.int .i64 o.length :: (zaz o N).drop (m + 1) = (zaz o N).set m (.int .i64 o.length) := by
    rw [List.set_eq_take_append_cons_drop, if_pos (by simpa using hm)]
  rw [e]
  apply List.ext_getElem?
  intro n
  by_cases hN : n < N
  · rw [zep hN]
    by_cases hnm : n = m
    · subst hnm
      rw [List.getElem?_set_self (by simpa using hm)]
      simp [hn, List.idxOf_append]
    · rw [List.getElem?_set_ne (fun h => hnm h.symm), zep hN]
      by_cases ho : n ∈ o
      · simp [ho, List.idxOf_append]
      · simp [ho, hnm]
  · rw [List.getElem?_eq_none (by simp; omega), List.getElem?_eq_none (by simp; omega)]
structure zaew (H : Heap) (gp go gpl gr N : Nat) (o : List Nat) : Prop where
  p : H gp = some (.row 1 [.slc gpl 0 N])
  pl : H gpl = some (.row 1 (zaz o N))
  oo : H go = some (.row 1 [if o = [] then .nils else .slc gr 0 o.length])
  rr : o ≠ [] → H gr = some (.row 1 (zaw o))
  d1 : gp ≠ go
  d2 : gp ≠ gpl
  d3 : go ≠ gpl
  d4 : o ≠ [] → gr ≠ gp ∧ gr ≠ go ∧ gr ≠ gpl
theorem zakn (v : Val) (o : List Nat) (N : Nat) (hv : VM.WrongOk v N) (hin : VM.In o v) {H : Heap} {nx gp gpl : Nat} (h1 : H gp = some (.row 1 [.slc gpl 0 N])) (h2 : H gpl = some (.row 1 (zaz o N))) (l1 : gp < nx) (l2 : gpl < nx) :
    za Tryd.prog 41 [.agg v.avs, .ptr gp 0] H nx fun r H' _ => r = .agg (VM.put o v).avs ∧ Keep nx H' H := by
  refine zrf _ _ H nx _ ?_
  have n0 : gp ≠ nx ∧ gpl ≠ nx ∧ nx ≠ nx + 1 ∧ gp ≠ nx + 1 ∧ gpl ≠ nx + 1 := by omega
  by_cases hk : v.kind = 2
  · obtain ⟨c1, c2⟩ := hv.cell hk
    have hm := hin hk
    have hlt : v.n.toNat < N := by omega
    have e1 : (VM.put o v).kind = 2 := by unfold VM.put; rw [if_pos hk]; exact hk
    have e2 : (VM.put o v).n = (o.idxOf v.n.toNat : Nat) := by unfold VM.put; rw [if_pos hk]
    have e3 : (VM.put o v).text = v.text := by unfold VM.put; rw [if_pos hk]
    simp [zdg, Val.avs, hk, n0, h1, h2, e1, e2, e3, zep hlt, hm]
    omega
  · have e : VM.put o v = v := by unfold VM.put; rw [if_neg hk]
    simp [zdg, Val.avs, hk, n0, e]
theorem zapy (v : Val) (o : List Nat) (N : Nat) (hv : VM.WrongOk v N) (ho : (o.length + 1) * 8 ≤ 140737488355328) {H : Heap} {nx gp go gpl gr : Nat} (st : zaew H gp go gpl gr N o) (l1 : gp < nx) (l2 : go < nx) (l3 : gpl < nx) (lr : o ≠ [] → gr < nx) :
    za Tryd.prog 40 [.agg v.avs, .ptr gp 0, .ptr go 0] H nx fun r H' nx' => r = .tup [] ∧ nx ≤ nx' ∧ ∃ gr', zaew H' gp go gpl gr' N (VM.meet o v) ∧ (VM.meet o v ≠ [] → gr' < nx' ∧ ((o ≠ [] ∧ gr' = gr) ∨ nx ≤ gr')) ∧
      ∀ g, g < nx → g ≠ gpl → g ≠ go → (o ≠ [] → g ≠ gr) → H' g = H g := by
  refine zrg _ _ _ H nx _ ?_
  obtain ⟨s1, s2, s3, s4, d1, d2, d3, d4⟩ := st
  have n0 : gp ≠ nx ∧ gpl ≠ nx ∧ go ≠ nx ∧ gp ≠ nx + 1 ∧ gpl ≠ nx + 1 ∧ go ≠ nx + 1 ∧ nx ≠ nx + 1 := by omega
  have same : VM.meet o v = o → ∃ gr', zaew (H.put nx (some (.row 3 v.avs))) gp go gpl gr' N (VM.meet o v) ∧ (VM.meet o v ≠ [] → gr' < nx + 1 ∧ ((o ≠ [] ∧ gr' = gr) ∨ nx ≤ gr')) ∧ ∀ g, g < nx → g ≠ gpl → g ≠ go → (o ≠ [] → g ≠ gr) → (H.put nx (some (.row 3 v.avs))) g = H g := by
    intro e
    rw [e]
    refine ⟨gr, ⟨by rw [Heap.put_ne _ _ (by omega)]; exact s1, by rw [Heap.put_ne _ _ (by omega)]; exact s2, by rw [Heap.put_ne _ _ (by omega)]; exact s3, fun h => by rw [Heap.put_ne _ _ (by have := lr h; omega)]; exact s4 h, d1, d2, d3, d4⟩, fun h => ⟨by have := lr h; omega, .inl ⟨h, rfl⟩⟩, fun g hg _ _ _ => Heap.put_ne _ _ (by omega)⟩
  by_cases hk : v.kind = 2
  · obtain ⟨c1, c2⟩ := hv.cell hk
    obtain ⟨k, n, s⟩ := v
    simp only at hk c1 c2
    subst hk
    obtain ⟨m, rfl⟩ : ∃ m : Nat, n = m := ⟨n.toNat, by omega⟩
    have hlt : m < N := by omega
    by_cases hm : m ∈ o
    · have e : VM.meet o ⟨2, m, s⟩ = o := znq (by simp [hm])
      have nn : ¬ ((o.idxOf m : Nat) : Int) < 0 := by omega
      simp [zbp, Val.avs, n0, s1, s2, zep hlt, hm, nn]
      have := same e
      simp [Val.avs] at this
      exact ⟨hlt, this⟩
    · have e : VM.meet o ⟨2, m, s⟩ = o ++ [m] := zjg (by simp [hm])
      have ps := zafv hlt hm
      rw [e]
      by_cases h0 : o = []
      · subst h0
        simp at s3
        have ne_0 : gp ≠ go ∧ go ≠ gp ∧ gp ≠ gpl ∧ gpl ≠ gp ∧ gp ≠ nx ∧ nx ≠ gp ∧ go ≠ gpl ∧ gpl ≠ go ∧ go ≠ nx ∧ nx ≠ go ∧ gpl ≠ nx ∧ nx ≠ gpl ∧ gp ≠ nx + 1 ∧ nx + 1 ≠ gp ∧ gp ≠ nx + 2 ∧ nx + 2 ≠ gp ∧ gp ≠ nx + 3 ∧ nx + 3 ≠ gp ∧ go ≠ nx + 1 ∧ nx + 1 ≠ go ∧ go ≠ nx + 2 ∧ nx + 2 ≠ go ∧ go ≠ nx + 3 ∧ nx + 3 ≠ go ∧ gpl ≠ nx + 1 ∧ nx + 1 ≠ gpl ∧ gpl ≠ nx + 2 ∧ nx + 2 ≠ gpl ∧ gpl ≠ nx + 3 ∧ nx + 3 ≠ gpl ∧ nx ≠ nx + 1 ∧ nx + 1 ≠ nx ∧ nx ≠ nx + 2 ∧ nx + 2 ≠ nx ∧ nx ≠ nx + 3 ∧ nx + 3 ≠ nx := ⟨by omega, by omega, by omega, by omega, by omega, by omega, by omega, by omega, by omega, by omega, by omega, by omega, by omega, by omega, by omega, by omega, by omega, by omega, by omega, by omega, by omega, by omega, by omega, by omega, by omega, by omega, by omega, by omega, by omega, by omega, by omega, by omega, by omega, by omega, by omega, by omega⟩
        simp [zbp, Val.avs, n0, s1, s2, s3, zep hlt, hm, ne_0]
        refine ⟨hlt, by omega, by omega, nx + 2, ⟨?_, ?_, ?_, fun _ => ?_, d1, d2, d3, fun _ => by omega⟩, by omega, fun g hg a b => ?_⟩
        · simp [ne_0, s1]
        · simp [ne_0]; simpa using ps
        · simp [ne_0]
        · simp [ne_0, zaw]
        · repeat rw [if_neg (by omega)]
      · have r4 := d4 h0
        have lr' := lr h0
        rw [if_neg h0] at s3
        have s4' := s4 h0
        have ne_1 : gr ≠ gp ∧ gp ≠ gr ∧ gr ≠ go ∧ go ≠ gr ∧ gr ≠ gpl ∧ gpl ≠ gr ∧ gr ≠ nx ∧ nx ≠ gr ∧ gp ≠ go ∧ go ≠ gp ∧ gp ≠ gpl ∧ gpl ≠ gp ∧ gp ≠ nx ∧ nx ≠ gp ∧ go ≠ gpl ∧ gpl ≠ go ∧ go ≠ nx ∧ nx ≠ go ∧ gpl ≠ nx ∧ nx ≠ gpl ∧ gr ≠ nx + 1 ∧ nx + 1 ≠ gr ∧ gr ≠ nx + 2 ∧ nx + 2 ≠ gr ∧ gr ≠ nx + 3 ∧ nx + 3 ≠ gr ∧ gp ≠ nx + 1 ∧ nx + 1 ≠ gp ∧ gp ≠ nx + 2 ∧ nx + 2 ≠ gp ∧ gp ≠ nx + 3 ∧ nx + 3 ≠ gp ∧ go ≠ nx + 1 ∧ nx + 1 ≠ go ∧ go ≠ nx + 2 ∧ nx + 2 ≠ go ∧ go ≠ nx + 3 ∧ nx + 3 ≠ go ∧ gpl ≠ nx + 1 ∧ nx + 1 ≠ gpl ∧ gpl ≠ nx + 2 ∧ nx + 2 ≠ gpl ∧ gpl ≠ nx + 3 ∧ nx + 3 ≠ gpl ∧ nx ≠ nx + 1 ∧ nx + 1 ≠ nx ∧ nx ≠ nx + 2 ∧ nx + 2 ≠ nx ∧ nx ≠ nx + 3 ∧ nx + 3 ≠ nx := ⟨by omega, by omega, by omega, by omega, by omega, by omega, by omega, by omega, by omega, by omega, by omega, by omega, by omega, by omega, by omega, by omega, by omega, by omega, by omega, by omega, by omega, by omega, by omega, by omega, by omega, by omega, by omega, by omega, by omega, by omega, by omega, by omega, by omega, by omega, by omega, by omega, by omega, by omega, by omega, by omega, by omega, by omega, by omega, by omega, by omega, by omega, by omega, by omega, by omega, by omega⟩
        simp [zbp, Val.avs, n0, s1, s2, s3, s4', zep hlt, hm, ne_1]
        have htk : List.take o.length (zaw o) = zaw o := List.take_of_length_le (by simp)
        simp only [htk]
        refine ⟨hlt, by omega, ho, by omega, nx + 2, ⟨?_, ?_, ?_, fun _ => ?_, d1, d2, d3, fun _ => by omega⟩, by omega, fun g hg a b c => ?_⟩
        · simp [ne_1, s1]
        · simp [ne_1]; simpa using ps
        · simp [ne_1]
        · simp [ne_1, zaw]
        · have := c h0
          repeat rw [if_neg (by omega)]
  · have e : VM.meet o v = o := znq (by simp [hk])
    simp [zbp, Val.avs, hk, n0]
    have := same e
    simp [Val.avs] at this
    exact this
end Go.Proofs.YtejohcohkgcmhaaDoor
namespace Go.Proofs.YtejohcohkgcmhaaDoor
open Go Go.RowKit
structure RCan (h : List Cl) (H0 : Heap) (nx : Nat) (o : List Nat) (H : Heap) (n gr : Nat) : Prop where
  st : zaew H (nx + 1) (nx + 2) nx gr h.length o
  lr : o ≠ [] → nx + 3 ≤ gr ∧ gr < n
  keep : Keep nx H H0
  good : VM.Good h.length o
  le : nx + 3 ≤ n
theorem RCan.more {h : List Cl} {H0 H H' : Heap} {nx n n' gr : Nat} {o : List Nat} (c : RCan h H0 nx o H n gr) (hn : n ≤ n') (hk : ∀ g, g < n → H' g = H g) : RCan h H0 nx o H' n' gr := by
  have l := c.le
  refine ⟨⟨by rw [hk _ (by omega)]; exact c.st.p, by rw [hk _ (by omega)]; exact c.st.pl, by rw [hk _ (by omega)]; exact c.st.oo, fun ho => by rw [hk _ (c.lr ho).2]; exact c.st.rr ho, c.st.d1, c.st.d2, c.st.d3, c.st.d4⟩, fun ho => by have := c.lr ho; omega, fun g hg => by rw [hk _ (by omega)]; exact c.keep g hg, c.good, by omega⟩
theorem RCan.meet {h : List Cl} {H0 H : Heap} {nx n gr : Nat} {o : List Nat} (c : RCan h H0 nx o H n gr) (hs : h.length * 64 ≤ 140737488355328) {v : Val} (hv : VM.WrongOk v h.length) {Q : AV → Heap → Nat → Prop} (hq : ∀ H' n' gr', n ≤ n' → RCan h H0 nx (VM.meet o v) H' n' gr' → Q (.tup []) H' n') :
    za Tryd.prog 40 [.agg v.avs, .ptr (nx + 1) 0, .ptr (nx + 2) 0] H n Q := by
  have l := c.le
  have g := c.good.len
  refine (zapy v o h.length hv (by omega) c.st (by omega) (by omega) (by omega) (fun ho => (c.lr ho).2)).mono ?_
  rintro r H' n' ⟨rfl, hn, gr', st, q1, q2⟩
  refine hq H' n' gr' hn ⟨st, fun ho => ?_, fun x hx => ?_, c.good.meet hv.okV, by omega⟩
  · obtain ⟨a, b⟩ := q1 ho
    rcases b with ⟨b1, rfl⟩ | b
    · have := c.lr b1; omega
    · omega
  · rw [q2 x (by omega) (by omega) (by omega) (fun ho => by have := c.lr ho; omega)]; exact c.keep x hx
def avI (l : List Int) : List AV := l.map (AV.int .i64)
theorem zakq (N : Nat) : avI (List.replicate N (-1)) = zaz [] N := by
  unfold avI zaz
  rw [List.map_replicate]
  apply List.ext_getElem?
  intro i
  by_cases h : i < N
  · simp [h]
  · rw [List.getElem?_eq_none (by simp; omega), List.getElem?_eq_none (by simp; omega)]
theorem zanp (n i : Nat) (h : i < n) : List.take i (avI (List.replicate i (-1) ++ List.replicate (n - i) 0)) ++ AV.int .i64 (-1) :: List.drop (i + 1) (avI (List.replicate i (-1) ++ List.replicate (n - i) 0)) = avI (List.replicate (i + 1) (-1) ++ List.replicate (n - (i + 1)) 0) := by
  have e : n - i = (n - (i + 1)) + 1 := by omega
  rw [e, List.replicate_succ, List.replicate_succ']
  simp [avI, List.take_append, List.drop_append]
theorem zacm {h : List Cl} {l : List Val} (hr : VM.right h l = true) (hs : h.length * 64 ≤ 140737488355328) (hl : l.length * 32 ≤ 140737488355328) {H : Heap} {nx : Nat} {Q : AV → Heap → Nat → Prop}
    (hq : ∀ H' , RCan h H nx [] H' (nx + 3) 0 → LP (zcs Q) [.ro (h.map Cl.avs), .ro (l.map Val.avs), .ptr (nx + 1) 0, .ptr (nx + 2) 0, .clo 40 [.ptr (nx + 1) 0, .ptr (nx + 2) 0], .int .i64 0, .ro (l.map Val.avs), .int .i64 l.length, .int .i64 0] H' (nx + 3)) :
    zew (.ro (h.map Cl.avs)) (.ro (l.map Val.avs)) H nx Q := by
  simp [zew]
  refine ⟨by omega, by omega, ?_⟩
  refine LP.mk (fun m xs H' n' => ∃ i, m = h.length - i ∧ i ≤ h.length ∧ n' = nx + 2 ∧ xs = [.ro (h.map Cl.avs), .ro (l.map Val.avs), .ptr (nx + 1) 0, .int .i64 h.length, .int .i64 i] ∧ H' (nx + 1) = some (.row 1 [.slc nx 0 h.length]) ∧ H' nx = some (.row 1 (avI (List.replicate i (-1) ++ List.replicate (h.length - i) 0))) ∧ Keep nx H' H) h.length
    ⟨0, by omega, by omega, rfl, rfl, ?_, ?_, ?_⟩ ?_
  · rw [Heap.put_at]
  · rw [Heap.put_ne _ _ (by omega), Heap.put_at]
    simp [avI]
  · intro g hg; rw [Heap.put_ne _ _ (by omega), Heap.put_ne _ _ (by omega)]
  rintro m xs H' n' ⟨i, rfl, hi, rfl, rfl, h1, h2, hk⟩
  by_cases hil : i < h.length
  · simp [zid, hil, h1, h2]
    refine ⟨by simp [avI]; omega, h.length - (i + 1), by omega, i + 1, rfl, by omega, i64w (by omega), zanp _ _ hil, hk⟩
  · obtain rfl : i = h.length := by omega
    simp [zid]
    refine hq _ ⟨⟨?_, ?_, ?_, fun ho => absurd rfl ho, by omega, by omega, by omega, fun ho => absurd rfl ho⟩, fun ho => absurd rfl ho, ?_, VM.Good.nil, Nat.le_refl _⟩
    · rw [Heap.put_ne _ _ (by omega)]; exact h1
    · rw [Heap.put_ne _ _ (by omega), h2, ← zakq]; simp
    · rw [Heap.put_at]; rfl
    · intro g hg; rw [Heap.put_ne _ _ (by omega)]; exact hk g hg
end Go.Proofs.YtejohcohkgcmhaaDoor
namespace Go.Proofs.YtejohcohkgcmhaaDoor
open Go Go.RowKit
theorem zahq {o o' : List Nat} (h : o <+: o') {d n : Nat} (hd : o[d]? = some n) : o'[d]? = some n := by
  obtain ⟨t, rfl⟩ := h
  rw [List.getElem?_append_left (List.getElem?_eq_some_iff.1 hd).1]; exact hd
set_option maxHeartbeats 2000000 in
set_option maxRecDepth 20000 in
theorem zacn (h : List Cl) (l : List Val) (hr : VM.right h l = true) (hs : h.length * 64 ≤ 140737488355328) (hl : l.length * 32 ≤ 140737488355328) {H0 : Heap} {nx i : Nat} (hi : i < l.length) (K16 : J3)
    (hK : ∀ H n gr o, RCan h H0 nx o H n gr → VM.orderGo h (l.drop (i + 1)) o = VM.order h l →
      K16 [.ro (h.map Cl.avs), .ro (l.map Val.avs), .ptr (nx + 1) 0, .ptr (nx + 2) 0, .clo 40 [.ptr (nx + 1) 0, .ptr (nx + 2) 0], .int .i64 o.length, .ro (l.map Val.avs), .int .i64 l.length, .int .i64 (i + 1 : Nat)] H n)
    (H : Heap) (n gr : Nat) (o : List Nat) (d : Nat) (hdo : d ≤ o.length) (st : RCan h H0 nx o H n gr) (hF : VM.orderGo h (l.drop (i + 1)) (VM.drain h (h.length - d) o d) = VM.order h l) :
    LP (zcv K16) [.ro (h.map Cl.avs), .ro (l.map Val.avs), .ptr (nx + 1) 0, .ptr (nx + 2) 0, .clo 40 [.ptr (nx + 1) 0, .ptr (nx + 2) 0], .int .i64 d, .ro (l.map Val.avs), .int .i64 l.length, .int .i64 i] H n := by
  refine LP.mk (fun m xs H n => ∃ d gr o, m = h.length - d ∧ d ≤ o.length ∧ xs = [.ro (h.map Cl.avs), .ro (l.map Val.avs), .ptr (nx + 1) 0, .ptr (nx + 2) 0, .clo 40 [.ptr (nx + 1) 0, .ptr (nx + 2) 0], .int .i64 d, .ro (l.map Val.avs), .int .i64 l.length, .int .i64 i] ∧ RCan h H0 nx o H n gr ∧
    VM.orderGo h (l.drop (i + 1)) (VM.drain h (h.length - d) o d) = VM.order h l) (h.length - d) ⟨d, gr, o, rfl, hdo, rfl, st, hF⟩ ?_
  clear st hF hdo
  rintro m xs H n ⟨d, gr, o, rfl, hdo, rfl, st, hF⟩
  by_cases hd : d < o.length
  case neg =>
    obtain rfl : d = o.length := by omega
    simp [zcv, st.st.oo, zwd]
    rw [i64w (by omega)]
    rw [VM.drain_end (Nat.le_refl _)] at hF
    exact hK H n gr o st hF
  obtain ⟨c0, hc0⟩ : ∃ n0, o[d]? = some n0 := ⟨_, List.getElem?_eq_getElem hd⟩
  have hc0l : c0 < h.length := st.good.lt c0 (List.mem_of_getElem? hc0)
  have hc : h[c0]? = some h[c0] := List.getElem?_eq_getElem hc0l
  have ho : o ≠ [] := by intro e; subst e; simp at hd
  obtain ⟨w1, w2⟩ := VM.right_okC hr _ (List.mem_of_getElem? hc)
  have hol := st.good.len
  have oo := st.st.oo
  rw [if_neg ho] at oo
  have hrow : (zaw o)[d]? = some (.int .i64 c0) := zpj hc0
  obtain ⟨hdr, hrow'⟩ := List.getElem?_eq_some_iff.1 hrow
  suffices key : ∀ K28 : J3, (∀ H n gr o, RCan h H0 nx o H n gr → d + 1 ≤ o.length → VM.orderGo h (l.drop (i + 1)) (VM.drain h (h.length - (d + 1)) o (d + 1)) = VM.order h l →
      K28 [.ro (h.map Cl.avs), .ro (l.map Val.avs), .ptr (nx + 1) 0, .ptr (nx + 2) 0, .clo 40 [.ptr (nx + 1) 0, .ptr (nx + 2) 0], .int .i64 (d + 1 : Nat), .ro (l.map Val.avs), .int .i64 l.length, .int .i64 i] H n) →
      zcv K16 K28 [.ro (h.map Cl.avs), .ro (l.map Val.avs), .ptr (nx + 1) 0, .ptr (nx + 2) 0, .clo 40 [.ptr (nx + 1) 0, .ptr (nx + 2) 0], .int .i64 d, .ro (l.map Val.avs), .int .i64 l.length, .int .i64 i] H n from
    key _ fun H n gr o st' hdo' hF' => ⟨_, by omega, d + 1, gr, o, rfl, hdo', rfl, st', hF'⟩
  intro K28 hK28
  rw [show h.length - d = (h.length - (d + 1)) + 1 by omega, VM.drain_step hc0 hc] at hF
  have t1 : h[c0].avs.take 3 = h[c0].left.avs := rfl
  have t2 : (h[c0].avs.drop 3).take 3 = h[c0].right.avs := rfl
  simp [zcv, oo, hd, st.st.rr ho, hrow', zwd, hc0l, t1, CALL]
  refine st.meet hs w1 fun H2 n2 gr2 hn2 st2 => ?_
  have p1 := VM.meet_pre o h[c0].left
  have hc1 := zahq p1 hc0
  have ho1 : VM.meet o h[c0].left ≠ [] := by intro e; rw [e] at hc1; simp at hc1
  have oo2 := st2.st.oo
  rw [if_neg ho1] at oo2
  obtain ⟨hdr2, hrow2⟩ := List.getElem?_eq_some_iff.1 (zpj hc1)
  have hd1 := (List.getElem?_eq_some_iff.1 hc1).1
  simp [zoz, oo2, st2.st.rr ho1, hrow2, hd1, hc0l, t2, CALL]
  refine st2.meet hs w2 fun H3 n3 gr3 hn3 st3 => ?_
  simp [zpa]
  rw [i64w (by omega)]
  have p2 := VM.meet_pre (VM.meet o h[c0].left) h[c0].right
  exact hK28 H3 n3 gr3 _ st3 (by have := p2.length_le; omega) hF
end Go.Proofs.YtejohcohkgcmhaaDoor
namespace Go.Proofs.YtejohcohkgcmhaaDoor
open Go Go.RowKit
end Go.Proofs.YtejohcohkgcmhaaDoor
namespace Go.Proofs.YtejohcohkgcmhaaDoor
open Go Go.RowKit
theorem zxw (v : Val) (o : List Nat) (N : Nat) (hv : VM.WrongOk v N) (hin : VM.In o v) {H : Heap} {nx gp gpl : Nat} (h1 : H gp = some (.row 1 [.slc gpl 0 N])) (h2 : H gpl = some (.row 1 (zaz o N))) (l1 : gp < nx) (l2 : gpl < nx) :
    za Tryd.prog 41 [.agg v.avs, .ptr gp 0] H nx fun r H' _ => Frz H' nx r (.agg (VM.put o v).avs) ∧ Keep nx H' H :=
  (zakn v o N hv hin h1 h2 l1 l2).mono fun r H' _ hh => ⟨by rw [hh.1]; exact .same _ (zfd _), hh.2⟩
theorem zn.put {v : Val} {o : List Nat} {N : Nat} (hv : VM.WrongOk v N) (hin : VM.In o v) {H : Heap} {gp gpl n : Nat} (h1 : H gp = some (.row 1 [.slc gpl 0 N])) (h2 : H gpl = some (.row 1 (zaz o N))) {k : Kt} (hk : k (.agg (VM.put o v).avs) [gp, gpl] [] []) :
    zn Tryd.prog (.clo 41 [.ptr gp 0]) [.agg v.avs] H n k := by
  refine zn.of_qcr [gp, gpl] (by simp [h1, h2]) (fun H' n' ha => ?_) (zfd _) hk
  obtain ⟨a1, a2⟩ := ha gp (by simp)
  obtain ⟨a3, a4⟩ := ha gpl (by simp)
  exact za.pure (zxw v o N hv hin (by rw [a1]; exact h1) (by rw [a3]; exact h2) a2 a4)
set_option maxHeartbeats 2000000 in
set_option maxRecDepth 20000 in
theorem zafr (h : List Cl) (F : List Nat) (hF : VM.Good h.length F) (hok : zcr h) (hsh : VM.Shut h F F.length) (hs : h.length * 64 ≤ 140737488355328) {H0 : Heap} {nx : Nat} (a2 a4 : AV) (Q : AV → Heap → Nat → Prop) {H1 : Heap} {n1 gr : Nat} (st : RCan h H0 nx F H1 n1 gr)
    (h4 : a4 = if F = [] then AV.nils else .slc gr 0 F.length)
    (hQ : ∀ a3 H' n', n1 ≤ n' → Keep n1 H' H1 → Grow H' n1 n' 6 F.length (rowC (F.map (zbn F h))) a3 → Q (.tup [a2, a3]) H' n') :
    LP (zcu Q) [.ro (h.map Cl.avs), .clo 41 [.ptr (nx + 1) 0], a2, .nils, a4, .int .i64 F.length, .int .i64 0] H1 n1 := by
  have hFl := hF.len
  refine LP.mk (fun m xs H' n' => ∃ i a3, m = F.length - i ∧ i ≤ F.length ∧ n1 ≤ n' ∧ Keep n1 H' H1 ∧ Grow H' n1 n' 6 i (rowC ((F.take i).map (zbn F h))) a3 ∧ xs = [.ro (h.map Cl.avs), .clo 41 [.ptr (nx + 1) 0], a2, a3, a4, .int .i64 F.length, .int .i64 i]) F.length
    ⟨0, .nils, by omega, by omega, Nat.le_refl _, by simp, .inl ⟨rfl, rfl⟩, rfl⟩ ?_
  rintro m xs H n ⟨i, a3, rfl, hi, hn, hk, hg, rfl⟩
  by_cases hil : i < F.length
  case neg =>
    obtain rfl : i = F.length := by omega
    simp [zcu]
    rw [List.take_length] at hg
    exact hQ a3 H n hn hk hg
  suffices key : ∀ K75 : J3, (∀ a3 H n, n1 ≤ n → Keep n1 H H1 → Grow H n1 n 6 (i + 1) (rowC ((F.take (i + 1)).map (zbn F h))) a3 → K75 [.ro (h.map Cl.avs), .clo 41 [.ptr (nx + 1) 0], a2, a3, a4, .int .i64 F.length, .int .i64 (i + 1 : Nat)] H n) →
      zcu Q K75 [.ro (h.map Cl.avs), .clo 41 [.ptr (nx + 1) 0], a2, a3, a4, .int .i64 F.length, .int .i64 i] H n from
    key _ fun a3 H n h1 h2 h3 => ⟨_, by omega, i + 1, a3, rfl, by omega, h1, h2, h3, rfl⟩
  intro K75 hK75
  have hc0 : F[i]? = some F[i] := List.getElem?_eq_getElem hil
  have hc0l := hF.lt F[i] (List.mem_of_getElem? hc0)
  have hc : h[F[i]]? = some h[F[i]] := List.getElem?_eq_getElem hc0l
  obtain ⟨i1, i2⟩ := hsh i F[i] _ hil hc0 hc
  obtain ⟨w1, w2⟩ := hok _ (List.mem_of_getElem? hc)
  have hne : F ≠ [] := by intro e; subst e; simp at hil
  rw [if_neg hne] at h4
  subst h4
  have l := st.le
  obtain ⟨r1, r2⟩ := st.lr hne
  have kk : ∀ g, g < n1 → H g = H1 g := hk
  have hr : H gr = some (.row 1 (zaw F)) := by rw [kk _ r2]; exact st.st.rr hne
  have hp : H (nx + 1) = some (.row 1 [.slc nx 0 h.length]) := by rw [kk _ (by omega)]; exact st.st.p
  have hpl : H nx = some (.row 1 (zaz F h.length)) := by rw [kk _ (by omega)]; exact st.st.pl
  obtain ⟨hdr, hrow'⟩ := List.getElem?_eq_some_iff.1 (zpj hc0)
  have t1 : h[F[i]].avs.take 3 = h[F[i]].left.avs := rfl
  have t2 : (h[F[i]].avs.drop 3).take 3 = h[F[i]].right.avs := rfl
  have hcell : zbn F h F[i] = ⟨VM.put F h[F[i]].left, VM.put F h[F[i]].right⟩ := by unfold zbn VM.putC; rw [hc]; rfl
  simp [zcu, hil, hr, hrow', hc0l, t1]
  refine zn.put w1 i1 hp hpl ?_
  simp [zov, hc0l, t2]
  refine zn.put w2 i2 hp hpl ?_
  have hsn : rowC ((F.take (i + 1)).map (zbn F h)) = rowC ((F.take i).map (zbn F h)) ++ ((VM.put F h[F[i]].left).avs ++ (VM.put F h[F[i]].right).avs) := by
    rw [ztf _ hc0, zux, hcell]; rfl
  generalize VM.put F h[F[i]].left = pl at *
  generalize VM.put F h[F[i]].right = pr at *
  simp [zow, Val.avs]
  refine Grow.append (new := pl.avs ++ pr.avs) (hg.more (n' := n) (Nat.le_refl _) fun g _ h2 => Heap.put_ne _ _ (by omega)) (by simp; omega) (by rw [Heap.put_at]; rfl) rfl (by simp [Val.avs]) (by omega) (by omega) (by omega) fun rd D hD hk2 hg2 => ?_
  rw [← hsn] at hg2
  rw [i64w (by omega)]
  have := hK75 _ _ _ (by omega) (fun g hg => (hk2 g hg).trans ((Heap.put_ne _ _ (by omega)).trans (hk g hg))) hg2
  simpa [Val.avs] using this
end Go.Proofs.YtejohcohkgcmhaaDoor
namespace Go.Proofs.YtejohcohkgcmhaaDoor
open Go Go.RowKit
set_option maxHeartbeats 2000000 in
set_option maxRecDepth 20000 in
theorem zahi (h : List Cl) (l : List Val) (F : List Nat) (hl : l.length * 32 ≤ 140737488355328) (hs : h.length * 64 ≤ 140737488355328) (hF : VM.Good h.length F) (hok : zcr h) (hsh : VM.Shut h F F.length) (hv : ∀ v ∈ l, VM.WrongOk v h.length) (hin : ∀ v ∈ l, VM.In F v) {H0 : Heap} {nx : Nat} (Q : AV → Heap → Nat → Prop) {H1 : Heap} {n1 gr : Nat} (st : RCan h H0 nx F H1 n1 gr)
    (hQ : ∀ a2 a3 H' n' n2, Keep n1 H' H1 → n1 ≤ n2 → n2 ≤ n' → Grow H' n1 n2 3 l.length (rowV (l.map (VM.put F))) a2 → Grow H' n2 n' 6 F.length (rowC (F.map (zbn F h))) a3 → Q (.tup [a2, a3]) H' n') :
    LP (zct Q) [.ro (h.map Cl.avs), .ptr (nx + 2) 0, .clo 41 [.ptr (nx + 1) 0], .nils, .ro (l.map Val.avs), .int .i64 l.length, .int .i64 0] H1 n1 := by
  have hFl := hF.len
  refine LP.mk (fun m xs H' n' => ∃ i a3, m = l.length - i ∧ i ≤ l.length ∧ n1 ≤ n' ∧ Keep n1 H' H1 ∧ Grow H' n1 n' 3 i (rowV ((l.take i).map (VM.put F))) a3 ∧ xs = [.ro (h.map Cl.avs), .ptr (nx + 2) 0, .clo 41 [.ptr (nx + 1) 0], a3, .ro (l.map Val.avs), .int .i64 l.length, .int .i64 i]) l.length
    ⟨0, .nils, by omega, by omega, Nat.le_refl _, by simp, .zero, rfl⟩ ?_
  rintro m xs H n ⟨i, a3, rfl, hi, hn, hk, hg, rfl⟩
  have hk' : ∀ g, g < n1 → H g = H1 g := hk
  have stn : RCan h H0 nx F H n gr := by
    have l0 := st.le
    exact ⟨⟨by rw [hk' _ (by omega)]; exact st.st.p, by rw [hk' _ (by omega)]; exact st.st.pl, by rw [hk' _ (by omega)]; exact st.st.oo, fun ho => by rw [hk' _ (st.lr ho).2]; exact st.st.rr ho, st.st.d1, st.st.d2, st.st.d3, st.st.d4⟩, fun ho => by have := st.lr ho; omega, fun g hg => by rw [hk' _ (by omega)]; exact st.keep g hg, st.good, by omega⟩
  by_cases hil : i < l.length
  case neg =>
    obtain rfl : i = l.length := by omega
    rw [List.take_length] at hg
    simp [zct, stn.st.oo, zwd]
    refine zafr h F hF hok hsh hs a3 _ Q stn rfl fun a4 H' n' hn2 hk2 hg2 => ?_
    refine hQ a3 a4 H' n' n (fun g hg => (hk2 g (by omega)).trans (hk g hg)) hn hn2 (hg.more (Nat.le_refl _) fun g _ h2 => hk2 g h2) hg2
  suffices key : ∀ K56 : J3, (∀ a3 H n, n1 ≤ n → Keep n1 H H1 → Grow H n1 n 3 (i + 1) (rowV ((l.take (i + 1)).map (VM.put F))) a3 → K56 [.ro (h.map Cl.avs), .ptr (nx + 2) 0, .clo 41 [.ptr (nx + 1) 0], a3, .ro (l.map Val.avs), .int .i64 l.length, .int .i64 (i + 1 : Nat)] H n) →
      zct Q K56 [.ro (h.map Cl.avs), .ptr (nx + 2) 0, .clo 41 [.ptr (nx + 1) 0], a3, .ro (l.map Val.avs), .int .i64 l.length, .int .i64 i] H n from
    key _ fun a3 H n h1 h2 h3 => ⟨_, by omega, i + 1, a3, rfl, by omega, h1, h2, h3, rfl⟩
  intro K56 hK56
  have hvl : l[i]? = some l[i] := List.getElem?_eq_getElem hil
  have w := hv _ (List.mem_of_getElem? hvl)
  have hi1 := hin _ (List.mem_of_getElem? hvl)
  have tv : l[i].avs.take 3 = l[i].avs := rfl
  have l0 := stn.le
  simp [zct, hil, tv, CALL]
  refine ⟨fun x hx => zaa (zan _ x hx), ?_⟩
  refine za.pure_call (zxw l[i] F h.length w hi1 (gp := nx + 1) (gpl := nx) (by rw [Heap.put_ne _ _ (by omega)]; exact stn.st.p) (by rw [Heap.put_ne _ _ (by omega)]; exact stn.st.pl) (by omega) (by omega)) ?_
  have hsn : rowV ((l.take (i + 1)).map (VM.put F)) = rowV ((l.take i).map (VM.put F)) ++ (VM.put F l[i]).avs := by rw [zcy hvl, List.map_append, List.map_singleton, zeb]
  generalize VM.put F l[i] = rv at *
  have tr : rv.avs.take 3 = rv.avs := rfl
  simp [zox, tr]
  refine Grow.app (new := rv.avs) (hg.more (n' := n) (Nat.le_refl _) fun g _ h2 => ?_) (by simp; omega) (Heap.put_at _ _ _) rfl (List.all_eq_true.2 fun x hx => zaa (zan _ x hx)) (by omega) (by omega) (by omega) fun H' hk2 hg2 => ?_
  · rw [Heap.put_ne _ _ (by omega), Heap.put_ne _ _ (by omega)]
  rw [← hsn] at hg2
  rw [i64w (by omega)]
  exact hK56 _ _ _ (by omega) (fun g hg => (hk2 g hg).trans (by rw [Heap.put_ne _ _ (by omega), Heap.put_ne _ _ (by omega)]; exact hk g hg)) hg2
set_option maxHeartbeats 2000000 in
set_option maxRecDepth 20000 in
theorem zahj (h : List Cl) (l : List Val) (hr : VM.right h l = true) (hs : h.length * 64 ≤ 140737488355328) (hl : l.length * 32 ≤ 140737488355328) : QC Tryd.prog 17 [.ro (h.map Cl.avs), .ro (l.map Val.avs)] (.tup [.ro ((VM.canonV h l).map Val.avs), .ro ((VM.canonC h l).map Cl.avs)]) := by
  refine QC.of' fun H nx => zty _ _ H nx _ ?_
  refine zacm hr hs hl fun H1 st0 => ?_
  have hok : zcr h := VM.right_okC hr
  have hv := VM.right_okV hr
  refine LP.mk (fun m xs H' n' => ∃ i gr o, m = l.length - i ∧ i ≤ l.length ∧ xs = [.ro (h.map Cl.avs), .ro (l.map Val.avs), .ptr (nx + 1) 0, .ptr (nx + 2) 0, .clo 40 [.ptr (nx + 1) 0, .ptr (nx + 2) 0], .int .i64 o.length, .ro (l.map Val.avs), .int .i64 l.length, .int .i64 i] ∧
    RCan h H nx o H' n' gr ∧ VM.orderGo h (l.drop i) o = VM.order h l) l.length ⟨0, 0, [], by omega, by omega, rfl, st0, rfl⟩ ?_
  rintro m xs H2 n2 ⟨i, gr, o, rfl, hi, rfl, st, hF⟩
  by_cases hil : i < l.length
  case neg =>
    obtain rfl : i = l.length := by omega
    have hFo : o = VM.order h l := by rw [← hF, List.drop_length]; rfl
    obtain ⟨hsh, hin⟩ := VM.orderGo_shut (VM.okH hok) l [] (fun v hx => (hv v hx).okV) VM.Good.nil (fun j n c hj => by simp at hj)
    have hsh' : VM.Shut h (VM.order h l) (VM.order h l).length := hsh
    have hin' : ∀ v ∈ l, VM.In (VM.order h l) v := hin
    have hg := st.good
    subst hFo
    simp [zcs]
    refine zahi h l _ hl hs hg hok hsh' hv hin' _ st fun a2 a3 H' n' n3 hk hn3 hn' hg1 hg2 => ?_
    have l0 := st.le
    refine ⟨?_, fun g hg => (hk g (by omega)).trans (st.keep g hg)⟩
    rw [zaec hg.lt]
    refine Frz.tup2 (hg1.frz (by omega) (by simp [VM.canonV]) (zbo _) rfl fun c hc => zbi (zbk _ c hc)) (hg2.frz (by omega) (by simp) (zbe _) rfl fun c hc => zbi (zbr _ c hc))
  have hvl : l[i]? = some l[i] := List.getElem?_eq_getElem hil
  have w := hv _ (List.mem_of_getElem? hvl)
  have tv : l[i].avs.take 3 = l[i].avs := rfl
  have hdrop : l.drop i = l[i] :: l.drop (i + 1) := List.drop_eq_getElem_cons hil
  rw [hdrop] at hF
  have hF' : VM.orderGo h (l.drop (i + 1)) (VM.drain h (h.length - o.length) (VM.meet o l[i]) o.length) = VM.order h l := hF
  have l0 := st.le
  suffices key : ∀ K16 : J3, (∀ H' n' gr o, RCan h H nx o H' n' gr → VM.orderGo h (l.drop (i + 1)) o = VM.order h l →
      K16 [.ro (h.map Cl.avs), .ro (l.map Val.avs), .ptr (nx + 1) 0, .ptr (nx + 2) 0, .clo 40 [.ptr (nx + 1) 0, .ptr (nx + 2) 0], .int .i64 o.length, .ro (l.map Val.avs), .int .i64 l.length, .int .i64 (i + 1 : Nat)] H' n') →
      zcs (fun v H' _ => Frz H' nx v (.tup [.ro ((VM.canonV h l).map Val.avs), .ro ((VM.canonC h l).map Cl.avs)]) ∧ Keep nx H' H) K16 [.ro (h.map Cl.avs), .ro (l.map Val.avs), .ptr (nx + 1) 0, .ptr (nx + 2) 0, .clo 40 [.ptr (nx + 1) 0, .ptr (nx + 2) 0], .int .i64 o.length, .ro (l.map Val.avs), .int .i64 l.length, .int .i64 i] H2 n2 from
    key _ fun H' n' gr o h1 h2 => ⟨_, by omega, i + 1, gr, o, rfl, by omega, rfl, h1, h2⟩
  intro K16 hK16
  simp [zcs, hil, tv, CALL]
  refine ⟨fun x hx => zaa (zan _ x hx), ?_⟩
  refine (st.more (H' := H2.put n2 (some (AObj.row 3 l[i].avs))) (n' := n2 + 1) (by omega) (fun g hg => Heap.put_ne _ _ (by omega))).meet hs w fun H3 n3 gr3 hn3 st3 => ?_
  simp [zoy]
  exact zacn h l hr hs hl hil K16 (fun H' n' gr o h1 h2 => hK16 H' n' gr o h1 h2) H3 n3 gr3 _ o.length (VM.meet_pre o l[i]).length_le st3 hF'
end Go.Proofs.YtejohcohkgcmhaaDoor
