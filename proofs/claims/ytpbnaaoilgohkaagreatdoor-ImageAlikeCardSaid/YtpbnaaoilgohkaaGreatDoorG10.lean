/- A copy of an agent: the frames' part. A copy of an agent. Agents, by value. Sums of bytes. The number that bytes begin with. The text that bytes begin with. The readers: numbers, texts, counts. The readers: numbers, texts, counts, in the machine. The readers: values. The writer: programs. What a call is handed is read by value from then on, in part. Lists of values, and of cells, that are the same; and that may be. The laws' first question, asked of closed facts. The machine: Pack. The machine: Pack, all of it. An agent's bytes. Right agents, that go on or are away: what is asked of them, and how they pass into one another. -/
import Derived.Test.YtpbnaaoilgohkaaGreatDoorG9
import Derived.Test.YtpbnaaoilgohkaaGreatDoorG8
set_option linter.unusedSimpArgs false
set_option linter.unusedVariables false
set_option maxRecDepth 8000
namespace Go.Proofs.YtpbnaaoilgohkaaGreatDoor
open Go Go.RowKit
structure zvf (H : Heap) (lo n : Nat) (fs : List Frm) (ss : List (AV × AV)) (fa : AV) (h : List Cl) (ha : AV) : Prop where
  frs : zw H fs ss
  row : Slot H 4 fs.length (frow fs ss) fa
  hp : Slot H 6 h.length (rowC h) ha
  nd : (own fa ++ (own ha ++ owns ss)).Nodup
  bd : ∀ g ∈ own fa ++ (own ha ++ owns ss), lo ≤ g ∧ g < n
structure zfh (H : Heap) (lo n : Nat) (fs : List Frm) (ss : List (AV × AV)) (fa : AV) : Prop where
  frs : zw H fs ss
  row : Slot H 4 fs.length (frow fs ss) fa
  nd : (own fa ++ owns ss).Nodup
  bd : ∀ g ∈ own fa ++ owns ss, lo ≤ g ∧ g < n
theorem zfh.snoc {H X : Heap} {lo n N m : Nat} {fs : List Frm} {ss : List (AV × AV)} {fa : AV} {f : Frm} {va sa : AV} (h : zfh H lo n fs ss fa) (hn : n ≤ N) (hN : N ≤ m) (hlo : lo ≤ N) (hlen : (fs.length + 1) * 64 ≤ 140737488355328)
    (old : ∀ g, g < n → X g = H g) (hv : Slot X 3 f.vars.length (rowV f.vars) va) (hs : Slot X 3 f.stack.length (rowV f.stack) sa) (nd : (own va ++ own sa).Nodup) (bd : ∀ g ∈ own va ++ own sa, N ≤ g ∧ g < m)
    {t : Nat} (ht : X t = some (.row 4 [.int .i64 f.fn, .int .i64 f.at_, va, sa])) {kk : AV → Heap → Nat → Prop}
    (hk : ∀ H' a', (∀ g, g < lo → H' g = X g) → zfh H' lo (m + 1) (fs ++ [f]) (ss ++ [(va, sa)]) a' → kk a' H' (m + 1)) : APP 4 64 fa (.slc t 0 1) X m kk := by
  have hbf : ∀ g ∈ own fa, lo ≤ g ∧ g < n := fun g hg => h.bd g (List.mem_append_left _ hg)
  have hbs : ∀ g ∈ owns ss, lo ≤ g ∧ g < n := fun g hg => h.bd g (List.mem_append_right _ hg)
  obtain ⟨nd1, nd2, nd3⟩ := List.nodup_append.1 h.nd
  have hx := (h.row.keep (H' := X) fun g hg => old g (hbf g hg).2)
  refine Slot.app (bytes := 64) (nx := m) (new := [.int .i64 f.fn, .int .i64 f.at_, va, sa]) hx (zju h.frs.1) ht rfl (by simp [hv.one, hs.one]) hlen fun H' h1 h2 => ?_
  have keep : ∀ g, g ∈ owns ss → H' g = H g := fun g hg => by
    have := hbs g hg
    rw [h2 g (fun hx => nd3 g hx g hg rfl) (by omega)]; exact old g this.2
  have keep2 : ∀ g, g ∈ own va ++ own sa → H' g = X g := fun g hg => by
    have := bd g hg
    exact h2 g (fun hx => by have := hbf g hx; omega) (by omega)
  refine hk H' _ (fun g hg => h2 g (fun hx => by have := hbf g hx; omega) (by omega)) ⟨(h.frs.keep keep).snoc (hv.keep fun g hg => keep2 g (List.mem_append_left _ hg)) (hs.keep fun g hg => keep2 g (List.mem_append_right _ hg)), ?_, ?_, ?_⟩
  · refine .inr ⟨m, _, by simp, h1, ?_, ?_⟩
    · rw [ztx h.frs.1]; exact List.take_of_length_le (by simp [zju h.frs.1]; omega)
    · simp [zju h.frs.1]; omega
  · rw [ztu]
    have e0 : own (AV.slc m 0 (fs.length + 1)) = [m] := rfl
    simp only [List.length_append, List.length_singleton, e0]
    refine List.nodup_append.2 ⟨by simp, List.nodup_append.2 ⟨nd2, nd, fun a ha b hb e => ?_⟩, fun a ha b hb e => ?_⟩
    · have := hbs a ha; have := bd b hb; omega
    · simp at ha; subst ha; subst e
      rcases List.mem_append.1 hb with hb | hb
      · have := hbs _ hb; omega
      · have := bd _ hb; omega
  · intro g hg
    rw [ztu] at hg
    have e0 : own (AV.slc m 0 (fs.length + 1)) = [m] := rfl
    rcases List.mem_append.1 hg with hg | hg
    · simp [own] at hg; omega
    · rcases List.mem_append.1 hg with hg | hg
      · have := hbs g hg; omega
      · have := bd g hg; omega
set_option maxHeartbeats 2000000 in
theorem zaas {fs : List Frm} {csv wv : AV} {id trip fuel room hops : Int} {h : List Cl} {H1 : Heap} {p mid : Nat} {Q : AV → Heap → Nat → Prop} (hl : fs.length * 64 ≤ 140737488355328) (hh : h.length * 64 ≤ 140737488355328) (hfl : ∀ f ∈ fs, f.vars.length * 32 ≤ 140737488355328 ∧ f.stack.length * 32 ≤ 140737488355328) (hp : p + 2 ≤ mid)
    (r1 : H1 p = some (.row 9 [.int .i64 id, .int .i64 trip, csv, wv, .ro (fs.map Frm.avs), .ro (h.map Cl.avs), .int .i64 fuel, .int .i64 room, .int .i64 hops])) (r2 : ∃ z, H1 (p + 1) = some (.row 9 z) ∧ z.length = 9)
    (c1 : csv.cells = [csv] ∧ csv.one = true ∧ csv.sure = true) (w1 : wv.cells = [wv] ∧ wv.one = true ∧ wv.sure = true)
    (hq : ∀ H' n' ss fa ha, mid ≤ n' → (∀ g, g < mid → g ≠ p → g ≠ p + 1 → H' g = H1 g) → zvf H' mid n' fs ss fa h ha → Q (.agg [.int .i64 id, .int .i64 trip, csv, wv, fa, ha, .int .i64 fuel, .int .i64 room, .int .i64 hops]) H' n') :
    LP (zkt Q) [.ptr p 0, .ptr (p + 1) 0, .nils, .ro (fs.map Frm.avs), .int .i64 fs.length, .int .i64 0] H1 mid := by
  refine LP.mk (fun k xs H' n' => ∃ (i : Nat) (ss : List (AV × AV)) (fa : AV), k = fs.length - i ∧ i ≤ fs.length ∧ mid ≤ n' ∧ xs = [.ptr p 0, .ptr (p + 1) 0, fa, .ro (fs.map Frm.avs), .int .i64 fs.length, .int .i64 i] ∧ (∀ g, g < mid → H' g = H1 g) ∧
    zfh H' mid n' (fs.take i) ss fa) fs.length ⟨0, [], .nils, rfl, by omega, Nat.le_refl _, rfl, fun _ _ => rfl, ⟨⟨rfl, fun k f s hf => by simp at hf⟩, .inl ⟨by simp, .inl rfl⟩, by simp [own, owns], by simp [own, owns]⟩⟩ ?_
  rintro k xs H' n' ⟨i, ss, fa, rfl, hi, hn', rfl, hkeep, st⟩
  have p0 : p ≠ n' := by omega
  have p1 : p + 1 ≠ n' := by omega
  by_cases hil : i < fs.length
  · have hmem : fs[i] ∈ fs := List.getElem_mem hil
    obtain ⟨hv, hs⟩ := hfl _ hmem
    have htk : fs.take (i + 1) = fs.take i ++ [fs[i]] := (List.take_append_getElem hil).symm
    have tl : (fs.take i).length = i := by simp; omega
    have lv : (Frm.avs fs[i]).length = 4 := rfl
    have fin : ∀ {X : Heap} {N : Nat} {va sa : AV} {kk : AV → Heap → Nat → Prop}, n' + 1 ≤ N → (∀ g, g < n' → X g = H' g) → Slot X 3 fs[i].vars.length (rowV fs[i].vars) va → Slot X 3 fs[i].stack.length (rowV fs[i].stack) sa → (own va ++ own sa).Nodup → (∀ g ∈ own va ++ own sa, n' + 1 ≤ g ∧ g < N) →
        (∀ a' H3 m', mid ≤ m' → (∀ g, g < mid → H3 g = H1 g) → zfh H3 mid m' (fs.take (i + 1)) (ss ++ [(va, sa)]) a' → kk a' H3 m') →
        APP 4 64 fa (.slc N 0 1) (X.put N (some (.row 4 [.int .i64 fs[i].fn, .int .i64 fs[i].at_, va, sa]))) (N + 1) kk := by
      intro X N va sa kk hN hold h1 h2 h3 h4 hkk
      refine st.snoc (f := fs[i]) (va := va) (sa := sa) (N := n' + 1) (by omega) (by omega) (by omega) (by rw [tl]; omega) (fun g hg => ?_) (h1.keep fun g hg => ?_) (h2.keep fun g hg => ?_) h3 (fun g hg => by have := h4 g hg; omega) (Heap.put_at _ _ _) fun H3 a' q1 q2 => ?_
      · rw [Heap.put_ne _ _ (by omega)]; exact hold g hg
      · exact Heap.put_ne _ _ (by have := h4 g (List.mem_append_left _ hg); omega)
      · exact Heap.put_ne _ _ (by have := h4 g (List.mem_append_right _ hg); omega)
      · exact hkk _ _ _ (by omega) (fun g hg => by rw [q1 g hg, Heap.put_ne _ _ (by omega), hold g (by omega)]; exact hkeep g hg) (by rw [htk]; exact q2)
    have nn : n' ≠ n' + 1 + 1 := by omega
    have fin2 : ∀ {v64 : AV} {H65 : Heap} {nx66 : Nat} {ss' : List (AV × AV)}, mid ≤ nx66 → (∀ g, g < mid → H65 g = H1 g) → zfh H65 mid nx66 (fs.take (i + 1)) ss' v64 →
        ∃ m, m < fs.length - i ∧ ∃ i_1, m = fs.length - i_1 ∧ i_1 ≤ fs.length ∧ mid ≤ nx66 ∧ ∃ x x_1, (v64 = x_1 ∧ IntKind.i64.wrap ((i : Int) + 1) = (i_1 : Int)) ∧ (∀ (g : Nat), g < mid → H65 g = H1 g) ∧ zfh H65 mid nx66 (List.take i_1 fs) x x_1 :=
      fun h1 h2 h3 => ⟨fs.length - (i + 1), by omega, i + 1, rfl, by omega, h1, _, _, ⟨rfl, i64w (by omega)⟩, h2, h3⟩
    have nil : ∀ {l : List Val} {X : Heap}, l = [] → Slot X 3 l.length (rowV l) .zs := fun h => .inl ⟨by simp [h], .inr rfl⟩
    have row : ∀ {l : List Val} {X : Heap} {g : Nat}, X g = some (.row 3 (rowV l)) → Slot X 3 l.length (rowV l) (.slc g 0 l.length) := fun h => .inr ⟨_, _, rfl, h, List.take_of_length_le (by simp), by simp⟩
    simp [zkt, hil, Frm.avs]
    refine zy.cloneV hv (fun ve => ?_) (fun vne => ?_)
    · simp [zoo]
      refine zy.cloneV hs (fun se => ?_) (fun sne => ?_)
      · simp [zhi]
        exact fin (by omega) (fun g hg => Heap.put_ne _ _ (by omega)) (nil ve) (nil se) (by simp [own]) (by simp [own]) fun a' H3 m' h1 h2 h3 => fin2 h1 h2 h3
      · simp [zhi]
        exact fin (by omega) (fun g hg => by rw [Heap.put_ne _ _ (by omega), Heap.put_ne _ _ (by omega), Heap.put_ne _ _ (by omega)]) (nil ve) (row (by rw [Heap.put_ne _ _ (by omega), Heap.put_at])) (by simp [own]) (by simp [own]) fun a' H3 m' h1 h2 h3 => fin2 h1 h2 h3
    · simp [zoo]
      refine zy.cloneV hs (fun se => ?_) (fun sne => ?_)
      · simp [zhi]
        exact fin (by omega) (fun g hg => by rw [Heap.put_ne _ _ (by omega), Heap.put_ne _ _ (by omega), Heap.put_ne _ _ (by omega)]) (row (by rw [Heap.put_ne _ _ (by omega), Heap.put_at])) (nil se) (by simp [own]) (by simp [own]) fun a' H3 m' h1 h2 h3 => fin2 h1 h2 h3
      · simp [zhi, nn]
        exact fin (by omega) (fun g hg => by rw [Heap.put_ne _ _ (by omega), Heap.put_ne _ _ (by omega), Heap.put_ne _ _ (by omega), Heap.put_ne _ _ (by omega)]) (row (by rw [Heap.put_ne _ _ (by omega), Heap.put_ne _ _ (by omega), Heap.put_at])) (row (by rw [Heap.put_ne _ _ (by omega), Heap.put_at])) (by simp [own]) (by simp [own]) fun a' H3 m' h1 h2 h3 => fin2 h1 h2 h3
  · obtain rfl : i = fs.length := by omega
    obtain ⟨z, r2, z9⟩ := r2
    rw [← hkeep p (by omega)] at r1
    rw [← hkeep (p + 1) (by omega)] at r2
    simp [zkt, r1]
    refine (zadp hh .ro).mono fun hv H5 n5 ⟨hn5, k5, hc⟩ => ?_
    have e1 : H5 p = _ := (k5 p (by omega)).trans r1
    have e2 : H5 (p + 1) = _ := (k5 (p + 1) (by omega)).trans r2
    obtain ⟨s1, s2⟩ := hc.slot (zdf h)
    simp [ztm, e1, e2, z9, st.row.one.1, st.row.one.2, hc.one.1, hc.one.2, c1.1, c1.2, w1.1, w1.2]
    rw [List.take_length] at st
    obtain ⟨f1, f2, f3, f4⟩ := st
    have same : ∀ {X : Heap}, (∀ g, g ≠ p → g ≠ p + 1 → X g = H5 g) → ∀ g, mid ≤ g → g < n' → X g = H' g := fun hX g h1 h2 => by rw [hX g (by omega) (by omega)]; exact k5 g h2
    have s1' : Slot H5 6 h.length (rowC h) hv := by simpa [rowC] using s1
    refine hq _ _ ss fa hv (by omega) (fun g h1 h2 h3 => ?_) ⟨f1.keep fun g hg => ?_, f2.keep fun g hg => ?_, s1'.keep fun g hg => ?_, ?_, fun g hg => ?_⟩
    · rw [Heap.put_ne _ _ h3, Heap.put_ne _ _ h2, k5 g (by omega)]; exact hkeep g h1
    · have := f4 g (List.mem_append_right _ hg)
      exact same (fun g h1 h2 => by rw [Heap.put_ne _ _ h2, Heap.put_ne _ _ h1]) g this.1 this.2
    · have := f4 g (List.mem_append_left _ hg)
      exact same (fun g h1 h2 => by rw [Heap.put_ne _ _ h2, Heap.put_ne _ _ h1]) g this.1 this.2
    · have := s2 g hg
      rw [Heap.put_ne _ _ (by omega), Heap.put_ne _ _ (by omega)]
    · obtain ⟨d1, d2, d3⟩ := List.nodup_append.1 f3
      refine List.nodup_append.2 ⟨d1, List.nodup_append.2 ⟨zaco _, d2, fun a ha b hb e => ?_⟩, fun a ha b hb e => ?_⟩
      · have := s2 a ha; have := f4 b (List.mem_append_right _ hb); omega
      · rcases List.mem_append.1 hb with hb | hb
        · have := s2 b hb; have := f4 a (List.mem_append_left _ ha); omega
        · exact d3 a ha b hb e
    · rcases List.mem_append.1 hg with hg | hg
      · have := f4 g (List.mem_append_left _ hg); omega
      · rcases List.mem_append.1 hg with hg | hg
        · have := s2 g hg; omega
        · have := f4 g (List.mem_append_right _ hg); omega
end Go.Proofs.YtpbnaaoilgohkaaGreatDoor
set_option maxRecDepth 8000
namespace Go.Proofs.YtpbnaaoilgohkaaGreatDoor
open Go Go.RowKit
set_option maxHeartbeats 2000000 in
theorem zacp {a : Agt} {H1 : Heap} {p : Nat} {Q : AV → Heap → Nat → Prop} (b1 : a.prog.codes.length * 40 ≤ 140737488355328) (b2 : ∀ c ∈ a.prog.codes, c.ins.length * 24 ≤ 140737488355328) (b3 : a.prog.words.length * 16 ≤ 140737488355328)
    (b4 : a.frames.length * 64 ≤ 140737488355328) (b5 : a.heap.length * 64 ≤ 140737488355328) (b6 : ∀ f ∈ a.frames, f.vars.length * 32 ≤ 140737488355328 ∧ f.stack.length * 32 ≤ 140737488355328)
    (r1 : H1 p = some (.row 9 a.avs)) (r2 : ∃ z, H1 (p + 1) = some (.row 9 z) ∧ z.length = 9)
    (hq : ∀ H' n' mid ss fa ha cv wv, p + 2 ≤ mid → mid ≤ n' → (∀ g, g < p → H' g = H1 g) → FrzP H' (fun g => p + 2 ≤ g ∧ g < mid) cv (.ro (a.prog.codes.map Cod.avs)) → FrzP H' (fun g => p + 2 ≤ g ∧ g < mid) wv (.ro (a.prog.words.map fun w => [.str w])) →
      zvf H' mid n' a.frames ss fa a.heap ha → Q (.agg [.int .i64 a.id, .int .i64 a.trip, cv, wv, fa, ha, .int .i64 a.permit.fuel, .int .i64 a.permit.room, .int .i64 a.permit.hops]) H' n') :
    LP (zks Q) [.ptr p 0, .ptr (p + 1) 0, .nils, .ro (a.prog.codes.map Cod.avs), .int .i64 a.prog.codes.length, .int .i64 0] H1 (p + 2) := by
  refine LP.mk (fun k xs H' n' => ∃ (i : Nat) (cv : AV) (cells : List AV), k = a.prog.codes.length - i ∧ i ≤ a.prog.codes.length ∧ p + 2 ≤ n' ∧ xs = [.ptr p 0, .ptr (p + 1) 0, cv, .ro (a.prog.codes.map Cod.avs), .int .i64 a.prog.codes.length, .int .i64 i] ∧ (∀ g, g < p + 2 → H' g = H1 g) ∧
    zdm H' (fun g => p + 2 ≤ g ∧ g < n' ∧ g ∉ own cv) (a.prog.codes.take i) cells ∧ Slot H' 3 i cells cv ∧ ∀ g ∈ own cv, p + 2 ≤ g ∧ g < n') a.prog.codes.length ⟨0, .nils, [], rfl, by omega, Nat.le_refl _, rfl, fun _ _ => rfl, ⟨rfl, fun k c hc => by simp at hc⟩, .inl ⟨rfl, .inl rfl⟩, by simp [own]⟩ ?_
  rintro k xs H' n' ⟨i, cv, cells, rfl, hi, hn', rfl, hkeep, hc, hs, ho⟩
  have p0 : p ≠ n' := by omega
  have p1 : p + 1 ≠ n' := by omega
  by_cases hil : i < a.prog.codes.length
  · have hmem : a.prog.codes[i] ∈ a.prog.codes := List.getElem_mem hil
    have hb := b2 _ hmem
    have htk : a.prog.codes.take (i + 1) = a.prog.codes.take i ++ [a.prog.codes[i]] := (List.take_append_getElem hil).symm
    have tl : (a.prog.codes.take i).length = i := by simp; omega
    simp [zks, hil, Cod.avs]
    refine (zado hb .ro).mono fun v H5 n5 ⟨hn5, k5, hv⟩ => ?_
    have e1 : H5 n' = _ := (k5 n' (by omega)).trans (Heap.put_at _ _ _)
    have nn : n' ≠ n5 := by omega
    simp [ztn, e1, hv.one.1, hv.one.2]
    refine Slot.app (bytes := 40) (nx := n5 + 1) (new := [.int .i64 a.prog.codes[i].params, .int .i64 a.prog.codes[i].vars, v]) (hs.keep fun g hg => ?_) (by rw [hc.1, tl]) (Heap.put_at _ _ _) rfl (by simp [hv.one.2]) (by omega) fun H3 q1 q2 => ?_
    · have := ho g hg
      rw [Heap.put_ne _ _ (by omega), Heap.put_ne _ _ (by omega), k5 g (by omega), Heap.put_ne _ _ (by omega)]
    · have old : ∀ g, g < n' → g ∉ own cv → H3 g = H' g := fun g h1 h2 => by
        rw [q2 g h2 (by omega), Heap.put_ne _ _ (by omega), Heap.put_ne _ _ (by omega), k5 g (by omega), Heap.put_ne _ _ (by omega)]
      rw [i64w (by omega)]
      refine ⟨a.prog.codes.length - (i + 1), by omega, i + 1, rfl, by omega, by omega, _, ⟨rfl, by simp⟩, fun g hg => ?_, cells ++ [.int .i64 a.prog.codes[i].params, .int .i64 a.prog.codes[i].vars, v], ?_, ?_, ?_⟩
      · rw [old g (by omega) (fun h => by have := ho g h; omega)]; exact hkeep g hg
      · rw [htk]
        refine zdm.snoc (hc.more fun g ⟨h1, h2, h3⟩ => ⟨⟨h1, by omega, by simp [own]; omega⟩, old g h2 h3⟩) (hv.more fun g ⟨h1, h2⟩ => ⟨⟨by omega, by omega, by simp [own]; omega⟩, ?_⟩)
        rw [q2 g (fun h => by have := ho g h; omega) (by omega), Heap.put_ne _ _ (by omega), Heap.put_ne _ _ (by omega)]
      · refine .inr ⟨n5 + 1, _, rfl, q1, List.take_of_length_le ?_, ?_⟩
        · simp [hc.1, tl]; omega
        · simp [hc.1, tl]; omega
      · intro g hg
        simp [own] at hg; omega
  · obtain rfl : i = a.prog.codes.length := by omega
    rw [List.take_length] at hc
    obtain ⟨z, r2, z9⟩ := r2
    rw [← hkeep p (by omega)] at r1
    rw [← hkeep (p + 1) (by omega)] at r2
    simp [zks, r1, Agt.avs]
    refine (zadn b3 .ro).mono fun wv H5 n5 ⟨hn5, k5, hw⟩ => ?_
    have e1 : H5 p = _ := (k5 p (by omega)).trans r1
    have e2 : H5 (p + 1) = _ := (k5 (p + 1) (by omega)).trans r2
    simp [ztl, e1, Agt.avs, hs.one.1, hs.one.2, hw.one.1, hw.one.2]
    have pp : p + 1 ≠ p := by omega
    have fz1 : FrzP H5 (fun g => p + 2 ≤ g ∧ g < n5) cv (.ro (a.prog.codes.map Cod.avs)) := by
      refine (hc.frz (G := fun g => p + 2 ≤ g ∧ g < n') (fun g ⟨h1, h2, _⟩ => ⟨h1, h2⟩) hs ho).keep (fun g ⟨h1, h2⟩ => k5 g h2) |>.wide fun g ⟨h1, h2⟩ => ⟨h1, by omega⟩
    have fz2 : FrzP H5 (fun g => p + 2 ≤ g ∧ g < n5) wv (.ro (a.prog.words.map fun w => [.str w])) := hw.frz (fun g ⟨h1, h2⟩ => ⟨by omega, h2⟩) (zru _)
    refine zaas b4 b5 b6 (by omega) (Heap.put_at _ _ _) ⟨z, by rw [Heap.put_ne _ _ pp]; exact e2, z9⟩ hs.one hw.one fun H6 n6 ss fa ha hn6 k6 ow => ?_
    have same : ∀ g, p + 2 ≤ g → g < n5 → H6 g = H5 g := fun g h1 h2 => by rw [k6 g h2 (by omega) (by omega), Heap.put_ne _ _ (by omega)]
    refine hq H6 n6 n5 ss fa ha cv wv (by omega) hn6 (fun g hg => ?_) (fz1.keep fun g ⟨h1, h2⟩ => same g h1 h2) (fz2.keep fun g ⟨h1, h2⟩ => same g h1 h2) ow
    rw [k6 g (by omega) (by omega) (by omega), Heap.put_ne _ _ (by omega), k5 g (by omega), hkeep g (by omega)]
structure zvd (a : Agt) : Prop where
  b1 : a.prog.codes.length * 40 ≤ 140737488355328
  b2 : ∀ c ∈ a.prog.codes, c.ins.length * 24 ≤ 140737488355328
  b3 : a.prog.words.length * 16 ≤ 140737488355328
  b4 : a.frames.length * 64 ≤ 140737488355328
  b5 : a.heap.length * 64 ≤ 140737488355328
  b6 : ∀ f ∈ a.frames, f.vars.length * 32 ≤ 140737488355328 ∧ f.stack.length * 32 ≤ 140737488355328
def zam (id trip : Int) (p : Prg) (fa ha : AV) (m : Pmt) : List AV := [.int .i64 id, .int .i64 trip, .ro (p.codes.map Cod.avs), .ro (p.words.map fun w => [.str w]), fa, ha, .int .i64 m.fuel, .int .i64 m.room, .int .i64 m.hops]
theorem zain {a : Agt} (sz : zvd a) {H : Heap} {n : Nat} {Q : AV → Heap → Nat → Prop}
    (hq : ∀ H' n' ss fa ha, n ≤ n' → Keep n H' H → zvf H' n n' a.frames ss fa a.heap ha → Q (.agg (zam a.id a.trip a.prog fa ha a.permit)) H' n') : za Tryz.prog 53 [.agg a.avs] H n Q := by
  have raw : za Tryz.prog 53 [.agg a.avs] H n fun v H' n' => ∃ mid ss fa ha cv wv, v = .agg [.int .i64 a.id, .int .i64 a.trip, cv, wv, fa, ha, .int .i64 a.permit.fuel, .int .i64 a.permit.room, .int .i64 a.permit.hops] ∧ n + 2 ≤ mid ∧ mid ≤ n' ∧ Keep n H' H ∧
      FrzP H' (fun g => n + 2 ≤ g ∧ g < mid) cv (.ro (a.prog.codes.map Cod.avs)) ∧ FrzP H' (fun g => n + 2 ≤ g ∧ g < mid) wv (.ro (a.prog.words.map fun w => [.str w])) ∧ zvf H' mid n' a.frames ss fa a.heap ha := by
    refine zvs _ H n _ ?_
    have av : (AV.agg a.avs).cells = a.avs := by simp
    have al : a.avs.length = 9 := rfl
    have nn : n ≠ n + 1 := by omega
    have h2 : a.avs[2]? = some (.ro (a.prog.codes.map Cod.avs)) := rfl
    have hsu : (AV.agg a.avs).sure = true := by simp [Agt.avs]
    unfold ztk
    rw [av, al]
    refine ⟨hsu, ?_⟩
    simp [nn, h2]
    refine zacp sz.b1 sz.b2 sz.b3 sz.b4 sz.b5 sz.b6 (by rw [Heap.put_ne _ _ nn, Heap.put_at]) ⟨_, Heap.put_at _ _ _, rfl⟩ fun H' n' mid ss fa ha cv wv q1 q2 q3 q4 q5 q6 => ?_
    exact ⟨mid, ss, fa, ha, cv, wv, rfl, q1, q2, fun g hg => by rw [q3 g hg, Heap.put_ne _ _ (by omega), Heap.put_ne _ _ (by omega)], q4, q5, q6⟩
  refine za.tidy fun hlive => raw.freeze fun v H' n' ⟨mid, ss, fa, ha, cv, wv, hv, q1, q2, q3, q4, q5, q6⟩ => ?_
  subst hv
  let H2 : Heap := fun g => if n ≤ g ∧ g < mid then none else H' g
  have h2 : ∀ g, ¬ (n ≤ g ∧ g < mid) → H2 g = H' g := fun g hg => if_neg hg
  refine ⟨_, H2, fun g => n ≤ g ∧ g < mid, hq H2 n' ss fa ha (by omega) (fun g hg => by rw [h2 g (by omega)]; exact q3 g hg) ⟨q6.frs.keep fun g hg => h2 g ?_, q6.row.keep fun g hg => h2 g ?_, q6.hp.keep fun g hg => h2 g ?_, q6.nd, fun g hg => ?_⟩, ?_, fun g o hg => ?_⟩
  · have := q6.bd g (by simp [hg]); omega
  · have := q6.bd g (by simp [hg]); omega
  · have := q6.bd g (by simp [hg]); omega
  · have := q6.bd g hg; omega
  · refine .agg _ _ rfl fun j v u hv hu => ?_
    match j with
    | 0 => cases hv; cases hu; exact .same _
    | 1 => cases hv; cases hu; exact .same _
    | 2 => cases hv; cases hu; exact q4.wide fun g ⟨h1, h2⟩ => ⟨by omega, h2⟩
    | 3 => cases hv; cases hu; exact q5.wide fun g ⟨h1, h2⟩ => ⟨by omega, h2⟩
    | 4 => cases hv; cases hu; exact .same _
    | 5 => cases hv; cases hu; exact .same _
    | 6 => cases hv; cases hu; exact .same _
    | 7 => cases hv; cases hu; exact .same _
    | 8 => cases hv; cases hu; exact .same _
    | j + 9 => simp at hv
  · by_cases h : n ≤ g ∧ g < mid
    · simp only [H2, if_pos h] at hg; cases hg
    · exact ⟨h, by rw [h2 g h] at hg; exact hg⟩
end Go.Proofs.YtpbnaaoilgohkaaGreatDoor
set_option maxRecDepth 8000
namespace Go.Proofs.YtpbnaaoilgohkaaGreatDoor
open Go Go.RowKit
theorem Slot.frzN {H : Heap} {nx sz : Nat} {xs : List (List AV)} {a : AV} (hs : Slot H sz xs.length xs.flatten a) (ho : ∀ g ∈ own a, nx ≤ g) (hsz : ∀ x ∈ xs, x.length = sz) (hb : ∀ x ∈ xs, ∀ c ∈ x, scal c = true) : Frz H nx a (.ro xs) := by
  rcases hs with ⟨h0, rfl | rfl⟩ | ⟨g, cs, rfl, h1, h2, h3⟩
  · rw [List.eq_nil_of_length_eq_zero h0]; exact .nils
  · rw [List.eq_nil_of_length_eq_zero h0]; exact .zs
  · have e : ∀ (i : Nat) (x : List AV) (j : Nat) (v : AV), xs[i]? = some x → x[j]? = some v → cs[0 + i * sz + j]? = some v := fun i x j v hx hv => by
      have hxl : x.length = sz := hsz x (List.mem_of_getElem? hx)
      have hj : j < sz := by have := (List.getElem?_eq_some_iff.1 hv).1; omega
      have hi := (List.getElem?_eq_some_iff.1 hx).1
      have e1 := zjg hsz hx
      have e2 := congrArg (·[j]?) e1
      simp only [List.getElem?_take, List.getElem?_drop, hj, if_true] at e2
      rw [← h2, List.getElem?_take, hv] at e2
      have : i * sz + sz ≤ xs.length * sz := by rw [← Nat.succ_mul]; exact Nat.mul_le_mul_right _ hi
      rw [if_pos (by omega)] at e2
      rw [Nat.zero_add]; exact e2
    refine .slc g 0 _ sz cs xs (ho g (by simp [own])) h1 (by omega) rfl hsz (fun i j => (cs[0 + i * sz + j]?).getD .junk) (fun i x j v hx hv => ?_) (fun i x j v hx hv => ?_)
    · rw [e i x j v hx hv]; rfl
    · rw [e i x j v hx hv]; exact .same _ (zbf (hb x (List.mem_of_getElem? hx) v (List.mem_of_getElem? hv)))
theorem Slot.frzV {H : Heap} {nx : Nat} {l : List Val} {a : AV} (hs : Slot H 3 l.length (rowV l) a) (ho : ∀ g ∈ own a, nx ≤ g) : Frz H nx a (.ro (l.map Val.avs)) :=
  Slot.frzN (sz := 3) (by simpa [rowV] using hs) ho (zcq l) (zku l)
theorem zyy : ∀ {fs : List Frm} {ss : List (AV × AV)} {i : Nat} {f : Frm} {s : AV × AV}, fs[i]? = some f → ss[i]? = some s → (frow fs ss)[i * 4]? = some (.int .i64 f.fn) ∧ (frow fs ss)[i * 4 + 1]? = some (.int .i64 f.at_) ∧ (frow fs ss)[i * 4 + 2]? = some s.1 ∧ (frow fs ss)[i * 4 + 3]? = some s.2
  | [], _, i, f, s, h, _ => by simp at h
  | _ :: _, [], i, f, s, _, h => by simp at h
  | g :: fs, t :: ss, 0, f, s, h1, h2 => by simp at h1 h2; subst h1; subst h2; exact ⟨rfl, rfl, rfl, rfl⟩
  | g :: fs, t :: ss, i + 1, f, s, h1, h2 => by
    have := zyy (fs := fs) (ss := ss) (i := i) (f := f) (s := s) (by simpa using h1) (by simpa using h2)
    have e : ∀ k, (frow (g :: fs) (t :: ss))[(i + 1) * 4 + k]? = (frow fs ss)[i * 4 + k]? := fun k => by
      rw [show (i + 1) * 4 + k = i * 4 + k + 1 + 1 + 1 + 1 by omega]
      simp [frow]
    exact ⟨(e 0).trans this.1, (e 1).trans this.2.1, (e 2).trans this.2.2.1, (e 3).trans this.2.2.2⟩
theorem zw.frz {H : Heap} {nx : Nat} {fs : List Frm} {ss : List (AV × AV)} {g k : Nat} {cs : List AV} (h : zw H fs ss) (h1 : H g = some (.row 4 cs)) (h2 : cs.take (fs.length * 4) = frow fs ss) (h3 : fs.length * 4 ≤ cs.length) (hg : nx ≤ g) (ho : ∀ x ∈ owns ss, nx ≤ x) (hk : k = fs.length) : Frz H nx (.slc g 0 k) (.ro (fs.map Frm.avs)) := by
  subst hk
  have key : ∀ (i : Nat) (x : List AV) (j : Nat) (v : AV), (fs.map Frm.avs)[i]? = some x → x[j]? = some v → ∃ u, cs[0 + i * 4 + j]? = some u ∧ Frz H nx u v := fun i x j v hx hv => by
    rw [List.getElem?_map] at hx
    obtain ⟨f, hf, rfl⟩ := Option.map_eq_some_iff.1 hx
    have hi := (List.getElem?_eq_some_iff.1 hf).1
    have hs : ss[i]? = some (ss[i]'(by rw [h.1]; exact hi)) := List.getElem?_eq_getElem _
    obtain ⟨a, b⟩ := h.2 i f _ hf hs
    obtain ⟨q0, q1, q2, q3⟩ := zyy hf hs
    have hm := List.mem_of_getElem? hs
    have up : ∀ (j : Nat) (u : AV), j < 4 → (frow fs ss)[i * 4 + j]? = some u → cs[0 + i * 4 + j]? = some u := fun j u hj hu => by
      rw [← h2, List.getElem?_take, if_pos (by omega)] at hu; rw [Nat.zero_add]; exact hu
    match j, hv with
    | 0, hv => cases hv; exact ⟨_, up 0 _ (by omega) q0, .same _ (.int _ _)⟩
    | 1, hv => cases hv; exact ⟨_, up 1 _ (by omega) q1, .same _ (.int _ _)⟩
    | 2, hv => cases hv; exact ⟨_, up 2 _ (by omega) q2, a.frzV fun x hx => ho x (List.mem_flatMap.2 ⟨_, hm, List.mem_append_left _ hx⟩)⟩
    | 3, hv => cases hv; exact ⟨_, up 3 _ (by omega) q3, b.frzV fun x hx => ho x (List.mem_flatMap.2 ⟨_, hm, List.mem_append_right _ hx⟩)⟩
    | j + 4, hv => simp [Frm.avs] at hv
  refine .slc g 0 _ 4 cs _ hg h1 (by omega) (by simp) (fun x hx => ?_) (fun i j => (cs[0 + i * 4 + j]?).getD .junk) (fun i x j v hx hv => ?_) (fun i x j v hx hv => ?_)
  · obtain ⟨f, _, rfl⟩ := List.mem_map.1 hx; rfl
  · obtain ⟨u, q1, q2⟩ := key i x j v hx hv; rw [q1]; rfl
  · obtain ⟨u, q1, q2⟩ := key i x j v hx hv; rw [q1]; exact q2
theorem zadu (l : List Cod) {A : Nat → Prop} : Bel A (.ro (l.map Cod.avs)) := .ro _ fun i x j v hx hv => by
  rw [List.getElem?_map] at hx
  obtain ⟨c, _, rfl⟩ := Option.map_eq_some_iff.1 hx
  match j, hv with
  | 0, hv => cases hv; exact .int _ _
  | 1, hv => cases hv; exact .int _ _
  | 2, hv => cases hv; exact zpq (ztr _)
  | j + 3, hv => simp [Cod.avs] at hv
theorem zadt (l : List Str) {A : Nat → Prop} : Bel A (.ro (l.map fun w => [.str w])) := zpq (ztq l)
theorem ztw {H : Heap} {nx : Nat} {id trip : Int} {p : Prg} {fs : List Frm} {h : List Cl} {m : Pmt} {fa ha : AV} (h1 : Frz H nx fa (.ro (fs.map Frm.avs))) (h2 : Frz H nx ha (.ro (h.map Cl.avs))) : Frz H nx (.agg (zam id trip p fa ha m)) (.agg (Agt.avs ⟨id, trip, p, fs, h, m⟩)) := by
  refine .agg _ _ rfl fun j v u hv hu => ?_
  match j with
  | 0 => cases hv; cases hu; exact .same _ (.int _ _)
  | 1 => cases hv; cases hu; exact .same _ (.int _ _)
  | 2 => cases hv; cases hu; exact .same _ (zadu _)
  | 3 => cases hv; cases hu; exact .same _ (zadt _)
  | 4 => cases hv; cases hu; exact h1
  | 5 => cases hv; cases hu; exact h2
  | 6 => cases hv; cases hu; exact .same _ (.int _ _)
  | 7 => cases hv; cases hu; exact .same _ (.int _ _)
  | 8 => cases hv; cases hu; exact .same _ (.int _ _)
  | j + 9 => simp [zam] at hv
theorem Live.codes {a : Agt} {fs : List Frm} {f : Frm} (l : VM.Live a fs f) : a.prog.codes.length ≤ 5 ∧ a.prog.words.length ≤ 16 ∧ ∀ c ∈ a.prog.codes, c.ins.length ≤ 200 ∧ 0 ≤ c.vars ∧ c.vars ≤ 8 ∧ (∀ x ∈ (VM.heights c.ins).1, -1 ≤ x ∧ x ≤ 16) := by
  obtain ⟨h1, h2, h3⟩ := zbr l.prog
  refine ⟨h2, h3, fun c hc => ?_⟩
  obtain ⟨q1, q2, q3⟩ := h1 c hc
  unfold VM.codeRange at q1
  rw [decide_eq_false_iff_not] at q1
  exact ⟨by omega, by omega, by omega, (zfd q2 q3).2⟩
theorem zacu {xs : List (List AV)} {sz : Nat} (hsz : ∀ x ∈ xs, x.length = sz) {i j : Nat} {x : List AV} {v : AV} (hx : xs[i]? = some x) (hv : x[j]? = some v) : xs.flatten[i * sz + j]? = some v := by
  have hxl : x.length = sz := hsz x (List.mem_of_getElem? hx)
  have hj : j < sz := by have := (List.getElem?_eq_some_iff.1 hv).1; omega
  have e2 := congrArg (·[j]?) (zjg hsz hx)
  simp only [List.getElem?_take, List.getElem?_drop, hj, if_true] at e2
  rw [e2, hv]
end Go.Proofs.YtpbnaaoilgohkaaGreatDoor
set_option maxRecDepth 8000
namespace Go.Proofs.YtpbnaaoilgohkaaGreatDoor
open Go Go.RowKit
def bsR (b : Str) : List (List AV) := b.map fun c => [.int .u8 (c.toNat : Int)]
theorem zqd (b : Str) : (bsR b).length = b.length := by simp [bsR]
theorem zxd (b : Str) : (bsR b).flatten = bsV b := by
  induction b with
  | nil => rfl
  | cons c r ih => simp [bsR, bsV] at ih ⊢; exact ih
theorem zxc (b : Str) : ∀ x ∈ bsR b, ∀ c ∈ x, scal c = true := by
  intro x hx c hc
  obtain ⟨u, _, rfl⟩ := List.mem_map.1 hx
  simp at hc; subst hc; rfl
theorem zzj (b : Str) : ∀ x ∈ bsR b, x.length = 1 := by
  intro x hx
  obtain ⟨u, _, rfl⟩ := List.mem_map.1 hx
  rfl
theorem Slot.frzB {H : Heap} {nx : Nat} {b : Str} {a : AV} (hs : Slot H 1 b.length (bsV b) a) (ho : ∀ g ∈ own a, nx ≤ g) : Frz H nx a (.ro (bsR b)) :=
  Slot.frzN (sz := 1) (xs := bsR b) (by rw [zqd, zxd]; exact hs) ho (zzj b) (zxc b)
theorem zail (x : Nat) (hx : x < 4294967296) : QC Tryz.prog 57 [.int .u32 x, .int .i64 5] (.int .u32 (WM.rot5 x : Nat)) := by
  refine QC.of' fun H nx => ?_
  refine zha _ _ H nx _ ?_
  have h5 : bits .and .u64 5 31 = 5 := by decide
  have hor : bits BinOp.or IntKind.u32 ((x : Int) * 32 % 4294967296) ((x : Int) / 134217728) = ((WM.rot5 x : Nat) : Int) := by
    have := u32_or_nat (x * 32 % 4294967296) (x / 134217728) (by omega) (by omega)
    rw [show ((x : Int) * 32 % 4294967296) = ((x * 32 % 4294967296 : Nat) : Int) by omega, show ((x : Int) / 134217728) = ((x / 134217728 : Nat) : Int) by omega, this]
    rfl
  have w5 : IntKind.u64.wrap 5 = 5 := by decide
  have w27 : IntKind.u64.wrap 27 = 27 := by decide
  have p5 : (2 : Int) ^ min (5 : Nat) IntKind.u32.bits = 32 := rfl
  have p27 : (2 : Int) ^ min (27 : Nat) IntKind.u32.bits = 134217728 := rfl
  have fd : (x : Int).fdiv 134217728 = (x : Int) / 134217728 := Int.fdiv_eq_ediv_of_nonneg _ (by omega)
  simp [zdn, w5, h5, w27, p5, p27, fd, IntKind.wrap_u32, hor]
theorem ztp (b : WM.Bytes) (s : Nat) (hs : s < 4294967296) : b.foldl WM.sumStep s < 4294967296 := by
  induction b generalizing s with
  | nil => exact hs
  | cons c r ih => exact ih _ (by unfold WM.sumStep; omega)
set_option maxRecDepth 20000 in
set_option maxHeartbeats 1000000 in
theorem zahm (b : Str) (hb : b.length ≤ 4611686018427387904) : QC Tryz.prog 32 [.ro (bsR b)] (.int .i64 (WM.sum b : Nat)) := by
  refine QC.of' fun H nx => ?_
  refine zst _ H nx _ ?_
  simp [zqk, zqd]
  refine LP.mk (fun k xs H' n' => ∃ (i q : Nat), k = b.length - i ∧ i ≤ b.length ∧ xs = [.int .u32 q, .ro (bsR b), .int .i64 b.length, .int .i64 i] ∧ q < 4294967296 ∧ (b.drop i).foldl WM.sumStep q = WM.sum b ∧ Keep nx H' H) b.length ⟨0, 2166136261, rfl, by omega, rfl, by omega, rfl, fun _ _ => rfl⟩ ?_
  rintro k xs H' n' ⟨i, q, rfl, hil, rfl, hq, hf, hk⟩
  by_cases hlt : i < b.length
  · have hadd : IntKind.i64.wrap ((i : Int) + 1) = ((i + 1 : Nat) : Int) := by rw [i64w (by omega)]; rfl
    have hcd : b.drop i = b[i] :: b.drop (i + 1) := List.drop_eq_getElem_cons hlt
    rw [hcd] at hf
    have hcell : (bsR b)[i]? = some [.int .u8 (b[i].toNat : Int)] := by simp [bsR, hlt]
    generalize b[i] = c at *
    have hc := c.toNat_lt
    have hx := u32_xor_nat q c.toNat hq (by omega)
    have hlx : q ^^^ c.toNat < 4294967296 := Nat.xor_lt_two_pow (n := 32) hq (by omega)
    simp only [List.foldl_cons, WM.sumStep] at hf
    have hw : IntKind.u32.wrap (c.toNat : Int) = (c.toNat : Int) := by rw [IntKind.wrap_u32]; omega
    simp [zli, hlt, hcell, hw, hx]
    refine ⟨by rw [zqd]; exact hlt, QC.call (zail _ hlx) ?_⟩
    have hm : IntKind.u32.wrap ((WM.rot5 (q ^^^ c.toNat) : Int) * 16777619) = ((WM.rot5 (q ^^^ c.toNat) * 16777619 % 4294967296 : Nat) : Int) := by rw [IntKind.wrap_u32]; omega
    simp [zql, hm, hadd]
    exact ⟨b.length - (i + 1), by omega, i + 1, rfl, by omega, _, ⟨by omega, rfl⟩, by omega, hf, hk⟩
  · obtain rfl : i = b.length := by omega
    rw [List.drop_length] at hf
    have h2 := ztp b 2166136261 (by omega)
    have hw : IntKind.i64.wrap ((q : Nat) : Int) = (q : Int) := i64w (by omega)
    simp [zli, hw]
    exact ⟨by rw [← hf]; rfl, hk⟩
end Go.Proofs.YtpbnaaoilgohkaaGreatDoor
set_option maxRecDepth 8000
namespace Go.Proofs.YtpbnaaoilgohkaaGreatDoor
open Go Go.RowKit
end Go.Proofs.YtpbnaaoilgohkaaGreatDoor
set_option maxRecDepth 8000
namespace Go.Proofs.YtpbnaaoilgohkaaGreatDoor
open Go Go.RowKit
section
variable {ki kj : IntKind}
end
theorem zqv : ∀ s : Str, bytesOf? (bsV s) = some s
  | [] => rfl
  | c :: r => by
    have ih := zqv r
    simp only [bsV] at ih
    simp [bsV, bytesOf?, ih]
theorem zwx {s : Str} {H : Heap} {k : AV → Prop} (hk : k (.str s)) : CBS (.ro (bsR s)) H k := by
  have e : ze 1 H (.ro (bsR s)) = some (s.length, bsV s, []) := by
    simp only [ze, zqd, zxd]
    rw [if_pos]
    simpa using zzj s
  simp only [CBS, zhw, e, zqv, qk]
  exact hk
end Go.Proofs.YtpbnaaoilgohkaaGreatDoor
set_option maxRecDepth 8000
namespace Go.Proofs.YtpbnaaoilgohkaaGreatDoor
open Go Go.RowKit
namespace VM
theorem Goes.snoc {α : Type} {m : Rd α} {st st1 st2 : St} {l : List α} {a : α} : ∀ {n : Nat}, Goes (rMany m n) st l st1 → Goes m st1 a st2 → Goes (rMany m (n + 1)) st (l ++ [a]) st2 := by
  have key : ∀ (n : Nat) (b : Str), rMany m (n + 1) b = match rMany m n b with
      | .no e => .no e
      | .ok l r => match m r with
        | .no e => .no e
        | .ok a r => .ok (l ++ [a]) r := by
    have eq : ∀ (k : Nat) (b : Str), rMany m (k + 1) b = match m b with | .ok a r => (match rMany m k r with | .ok l r => .ok (a :: l) r | .no e => .no e) | .no e => .no e := by
      intro k b
      show Rd.bind m (fun a => Rd.bind (rMany m k) fun l => Rd.pure (a :: l)) b = _
      unfold Rd.bind
      cases m b with
      | no e => rfl
      | ok a r =>
        simp only
        cases rMany m k r with
        | no e => rfl
        | ok l r2 => rfl
    intro n
    induction n with
    | zero =>
      intro b
      show Rd.bind m (fun a => Rd.bind (Rd.pure []) fun l => Rd.pure (a :: l)) b = match m b with | .no e => .no e | .ok a r => .ok ([] ++ [a]) r
      unfold Rd.bind
      cases m b with
      | ok a r => rfl
      | no e => rfl
    | succ n ih =>
      intro b
      rw [eq (n + 1) b, eq n b]
      cases m b with
      | no e => rfl
      | ok a r =>
        simp only
        rw [ih r]
        cases rMany m n r with
        | no e => rfl
        | ok l r2 =>
          simp only
          cases m r2 with
          | no e => rfl
          | ok c r3 => rfl
  intro n h h2
  refine ⟨fun he => ?_, fun he x r hr => ?_, fun he e hr => ?_⟩
  · have h1 := h.stuck he
    rw [← h1]; exact h2.stuck (by rw [h1]; exact he)
  · rw [key] at hr
    split at hr
    · cases hr
    · rename_i l' r' hm
      obtain ⟨rfl, rfl⟩ := h.good he _ _ hm
      split at hr
      · cases hr
      · rename_i a' r2 hm2
        obtain ⟨rfl, rfl⟩ := h2.good rfl _ _ hm2
        cases hr
        exact ⟨rfl, rfl⟩
  · rw [key] at hr
    split at hr
    · rename_i e' hm
      cases hr
      obtain ⟨h1, h3⟩ := h.bad he _ hm
      refine ⟨h1, ?_⟩
      rw [← h3]; exact h2.stuck (by rw [h3]; exact h1)
    · rename_i l' r' hm
      obtain ⟨rfl, rfl⟩ := h.good he _ _ hm
      split at hr
      · rename_i e' hm2
        cases hr
        exact h2.bad rfl _ hm2
      · cases hr
end VM
end Go.Proofs.YtpbnaaoilgohkaaGreatDoor
set_option maxRecDepth 8000
namespace Go.Proofs.YtpbnaaoilgohkaaGreatDoor
open Go Go.RowKit
def PRd (st : VM.St) : AObj := .row 2 [.ro (bsR st.1), .int .i64 st.2]
section
variable {p n : Nat} {st : VM.St} {H : Heap} {Q : AV → Heap → Nat → Prop}
end
end Go.Proofs.YtpbnaaoilgohkaaGreatDoor
set_option maxRecDepth 8000
namespace Go.Proofs.YtpbnaaoilgohkaaGreatDoor
open Go Go.RowKit
namespace VM
end VM
section
variable {g : Nat} {st st' : VM.St} {H : Heap} {n : Nat} {Q : QT}
theorem zxf (A : Nat → Prop) : BelO A (PRd st) := by
  intro i y hy
  match i with
  | 0 => simp at hy; subst hy; exact .ro _ fun _ x _ v hx hv => zbf (zxc _ x (List.mem_of_getElem? hx) v (List.mem_of_getElem? hv))
  | 1 => simp at hy; subst hy; exact .int _ _
  | i + 2 => simp at hy
theorem za.rd {P : Program} {f : FuncId} {args : List AV} {r : AV} (hg : H g = some (PRd st)) (hraw : g < n → za P f args H n fun v H' _ => Frz H' n v r ∧ H' g = some (PRd st') ∧ ∀ y, y < n → y ≠ g → H' y = H y) (hq : Q r (H.put g (some (PRd st'))) n) : za P f args H n Q := by
  refine za.tidy fun hlive => ?_
  have hgn := hlive g _ hg
  refine (za.gc (R := fun v H' => v = r ∧ H' = H.put g (some (PRd st'))) (hraw hgn) fun v H' n' ⟨h1, h2, h3⟩ => ⟨r, _, ⟨rfl, rfl⟩, h1, fun y o ho => ?_⟩).mono fun v H' n' ⟨⟨h1, h2⟩, h3⟩ => by subst h1; subst h2; subst h3; exact hq
  by_cases hy : y = g
  · subst hy
    rw [Heap.put_at] at ho
    cases ho
    exact ⟨hgn, h2, .inr (zxf _)⟩
  · rw [Heap.put_ne _ _ hy] at ho
    exact ⟨hlive y o ho, by rw [h3 y (hlive y o ho) hy]; exact ho, .inl ho⟩
theorem LC.rd {f : FuncId} {args : List AV} {r : AV} (hg : H g = some (PRd st)) (hr : ∀ A : Nat → Prop, Bel A r)
    (h : ∀ (H : Heap) (n : Nat) (Q : QT), H g = some (PRd st) → Q r (H.put g (some (PRd st'))) n → za Tryz.prog f args H n Q) : LC Tryz.prog f args H [g] [] [(g, some (PRd st'))] r := by
  refine LC.of_calls (fun x hx => ?_) (by simp [domD]) (fun A _ _ => hr A) (fun A _ _ x o hx ho => ?_) fun H' n' ha => ?_
  · simp at hx; subst hx; rw [hg]; rfl
  · simp [domD] at hx; subst hx
    simp at ho
    subst ho
    exact zxf _
  · obtain ⟨a1, a2⟩ := ha g (by simp)
    refine h H' n' _ (a1.trans hg) ⟨rfl, Nat.le_refl _, fun x _ hx => ?_, fun x o hx ho => ?_⟩
    · simp [domD] at hx
      exact Heap.put_ne _ _ hx
    · simp [domD] at hx; subst hx
      simp at ho
      rw [Heap.put_at, ho]
theorem zy.rd {f : FuncId} {args : List AV} {r : AV} {kt : Kt} (hg : H g = some (PRd st)) (hr : ∀ A : Nat → Prop, Bel A r)
    (h : ∀ (H : Heap) (n : Nat) (Q : QT), H g = some (PRd st) → Q r (H.put g (some (PRd st'))) n → za Tryz.prog f args H n Q) (hk : kt r [g] [] [(g, some (PRd st'))]) : zy Tryz.prog (.clo f []) args H n kt :=
  ⟨_, [g], [], _, .inl rfl, by rw [List.append_nil]; exact LC.rd hg hr h, hk⟩
end
theorem put_put {H : Heap} {p : Nat} {x y : Option AObj} : (H.put p x).put p y = H.put p y := by
  funext g
  by_cases hgp : g = p
  · subst hgp; rw [Heap.put_at, Heap.put_at]
  · rw [Heap.put_ne _ _ hgp, Heap.put_ne _ _ hgp, Heap.put_ne _ _ hgp]
end Go.Proofs.YtpbnaaoilgohkaaGreatDoor
set_option maxRecDepth 8000
namespace Go.Proofs.YtpbnaaoilgohkaaGreatDoor
open Go Go.RowKit
structure zxh (p : Prg) : Prop where
  words : p.words.length ≤ 4096 ∧ ∀ w ∈ p.words, w.length ≤ 4096
  codes : p.codes.length ≤ 4096 ∧ ∀ c ∈ p.codes, c.ins.length ≤ 4096 ∧ I64 c.params ∧ I64 c.vars ∧ ∀ i ∈ c.ins, I64 i.op ∧ I64 i.a ∧ I64 i.b
theorem ztv (i : Ins) : VM.insB i = zu [i.op, i.a, i.b] := by simp [VM.insB, zu]
theorem zue (c : Cod) : VM.codB c = zu [c.params, c.vars, (c.ins.length : Int)] ++ c.ins.flatMap VM.insB := by simp [VM.codB, zu]
theorem zwg (i : Ins) : (VM.insB i).length ≤ 30 := by rw [ztv]; exact zck _
theorem zwu {c : Cod} (h : c.ins.length ≤ 4096) : (VM.codB c).length ≤ 200000 := by
  rw [zue, List.length_append]
  have h1 := zck [c.params, c.vars, (c.ins.length : Int)]
  have h2 := zhr (l := c.ins) (f := VM.insB) (k := 30) fun i _ => zwg i
  simp only [List.length_cons, List.length_nil] at h1
  omega
set_option maxRecDepth 20000 in
set_option maxHeartbeats 4000000 in
theorem zxl {p g n : Nat} {l : AV} {bs : Str} {pr : Prg} {cs : List AV} {H : Heap} {Q : AV → Heap → Nat → Prop} (w : WrM p l bs H n) (sp : zxh pr) (hg : H g = some (.row 9 cs)) (hgp : g < p) (c2 : cs[2]? = some (.ro (pr.codes.map Cod.avs))) (c3 : cs[3]? = some (.ro (pr.words.map fun w => [.str w]))) (hb : bs.length ≤ 1000000000000)
    (hq : ∀ H' n' l', WExt p l H n l' (bs ++ VM.prgB pr) H' n' → Q (.tup []) H' n') : za Tryz.prog 29 [.ptr p 0, .ptr g 2] H n Q := by
  refine zib _ _ H n _ ?_
  obtain ⟨⟨w1, w2⟩, c1, c4⟩ := sp
  have lt := w.lt
  have gk : ∀ {H' : Heap} {n' : Nat} {l' : AV} {bs' : Str}, WExt p l H n l' bs' H' n' → H' g = some (.row 9 cs) := fun e => (e.keep g (by omega) (by omega) fun h => by have := w.ow g h; omega).trans hg
  simp [zei, hg, c3]
  refine w.ext.nums [(pr.words.length : Int)] (by simp; omega) (by simp; omega) fun H2 n2 l2 e2 _ => ?_
  have en : zu [(pr.words.length : Int)] = WM.num pr.words.length := by simp [zu]
  rw [en] at e2
  have nl := zce pr.words.length
  have g2 := gk e2
  simp [zej, g2, c3]
  have hwl : ∀ s ∈ pr.words, (VM.textB s).length ≤ 4106 := fun s h => by have := zor s; have := w2 s h; omega
  refine LP.mk (fun k xs H' n' => ∃ (i : Nat) (l' : AV), k = pr.words.length - i ∧ i ≤ pr.words.length ∧ xs = [.ptr p 0, .ptr g 2, .ro (pr.words.map fun w => [.str w]), .int .i64 pr.words.length, .int .i64 i] ∧ WExt p l H n l' (bs ++ WM.num pr.words.length ++ (pr.words.take i).flatMap VM.textB) H' n') pr.words.length ⟨0, l2, rfl, by omega, rfl, by simpa using e2⟩ ?_
  rintro k xs H' n' ⟨i, l', rfl, hil, rfl, ext⟩
  have hft := zeg hwl hil
  have hp := ext.wr.row
  by_cases hlt : i < pr.words.length
  · have hadd : IntKind.i64.wrap ((i : Int) + 1) = ((i + 1 : Nat) : Int) := by rw [i64w (by omega)]; rfl
    have hm : pr.words[i]? = some pr.words[i] := List.getElem?_eq_getElem hlt
    have hmi := w2 _ (List.getElem_mem hlt)
    generalize hmm : pr.words[i] = m at hm hmi
    have hsn := zeh (f := VM.textB) hm
    simp [zcc, hlt, hmm, hp]
    refine zvq ext.wr.slot (by rw [List.length_append, List.length_append]; omega) (fun y hy => (ext.wr.ow y hy).2) fun H3 n3 g3 b3 => ?_
    have er := ext.row b3
    rw [List.append_assoc _ _ (VM.textB m), ← hsn] at er
    have hp3 : H3 p = some (.row 1 [l']) := by rw [b3.keep p ext.wr.lt fun h => by have := ext.wr.ow p h; omega]; exact hp
    rw [List.append_assoc _ _ (VM.textB m), ← hsn]
    simp [zen, hp3, hadd]
    exact ⟨pr.words.length - (i + 1), by omega, i + 1, rfl, by omega, rfl, _, by simpa using er⟩
  · obtain rfl : i = pr.words.length := by omega
    rw [List.take_length] at ext hft
    have g3 := gk ext
    simp [zcc, g3, c2]
    refine ext.nums [(pr.codes.length : Int)] (by rw [List.length_append, List.length_append, List.length_singleton]; omega) (by simp; omega) fun H4 n4 l4 e4 _ => ?_
    have en4 : zu [(pr.codes.length : Int)] = WM.num pr.codes.length := by simp [zu]
    rw [en4] at e4
    have nl4 := zce pr.codes.length
    have g4 := gk e4
    simp [zek, g4, c2]
    generalize hB : bs ++ WM.num pr.words.length ++ pr.words.flatMap VM.textB ++ WM.num pr.codes.length = B at e4
    have hBl : B.length ≤ 1100000000000 := by rw [← hB]; simp only [List.length_append]; omega
    have hcl : ∀ c ∈ pr.codes, (VM.codB c).length ≤ 200000 := fun c h => zwu (c4 c h).1
    refine LP.mk (fun k xs H' n' => ∃ (i : Nat) (l' : AV), k = pr.codes.length - i ∧ i ≤ pr.codes.length ∧ xs = [.ptr p 0, .ro (pr.codes.map Cod.avs), .int .i64 pr.codes.length, .int .i64 i] ∧ WExt p l H n l' (B ++ (pr.codes.take i).flatMap VM.codB) H' n') pr.codes.length ⟨0, l4, rfl, by omega, rfl, by simpa using e4⟩ ?_
    clear e4 g4 ext g3 hp e2 g2
    rintro k xs H' n' ⟨i, l', rfl, hil, rfl, ext⟩
    have hft := zeg hcl hil
    suffices key : ∀ K : J3, (∀ H' n' l', i + 1 ≤ pr.codes.length → WExt p l H n l' (B ++ (pr.codes.take (i + 1)).flatMap VM.codB) H' n' → K [.ptr p 0, .ro (pr.codes.map Cod.avs), .int .i64 pr.codes.length, .int .i64 (i + 1 : Nat)] H' n') →
        zbc Q K [.ptr p 0, .ro (pr.codes.map Cod.avs), .int .i64 pr.codes.length, .int .i64 i] H' n' from
      key _ fun H' n' l' h1 h2 => ⟨pr.codes.length - (i + 1), by omega, i + 1, l', rfl, h1, rfl, h2⟩
    intro K hK
    by_cases hlt : i < pr.codes.length
    · have hadd : IntKind.i64.wrap ((i : Int) + 1) = ((i + 1 : Nat) : Int) := by rw [i64w (by omega)]; rfl
      have hm : pr.codes[i]? = some pr.codes[i] := List.getElem?_eq_getElem hlt
      obtain ⟨d1, d2, d3, d4⟩ := c4 _ (List.getElem_mem hlt)
      generalize hmm : pr.codes[i] = m at hm d1 d2 d3 d4
      have hsn := zeh (f := VM.codB) hm
      simp [zbc, hlt, hmm, Cod.avs]
      have ep := ext.put (.row 3 m.avs)
      refine ep.nums [m.params, m.vars, (m.ins.length : Int)] (by rw [List.length_append]; simp only [List.length_cons, List.length_nil]; omega) (by simp; exact ⟨d2, d3, by omega⟩) fun H5 n5 l5 e5 k5 => ?_
      have hrow : H5 n' = some (.row 3 m.avs) := by rw [k5 n' (by omega) (by have := ext.wr.lt; omega) fun h => (by have := ext.wr.ow _ h; omega), Heap.put_at]
      have nl5 := zck [m.params, m.vars, (m.ins.length : Int)]
      simp only [List.length_cons, List.length_nil] at nl5
      simp [zel, hrow, Cod.avs]
      generalize hC : B ++ (pr.codes.take i).flatMap VM.codB ++ zu [m.params, m.vars, (m.ins.length : Int)] = C at e5
      have hCl : C.length ≤ 1200000000000 := by rw [← hC]; simp only [List.length_append]; omega
      refine LP.mk (fun k xs H' n' => ∃ (j : Nat) (l' : AV), k = m.ins.length - j ∧ j ≤ m.ins.length ∧ xs = [.ptr p 0, .ro (pr.codes.map Cod.avs), .int .i64 pr.codes.length, .int .i64 i, .ro (m.ins.map Ins.avs), .int .i64 m.ins.length, .int .i64 j] ∧ WExt p l H n l' (C ++ (m.ins.take j).flatMap VM.insB) H' n') m.ins.length ⟨0, l5, rfl, by omega, rfl, by simpa using e5⟩ ?_
      clear e5 k5 hrow ep
      rintro k xs H6 n6 ⟨j, l6, rfl, hjl, rfl, ex6⟩
      have hft6 := zeg (l := m.ins) (f := VM.insB) (k := 30) (fun x _ => zwg x) hjl
      by_cases hjt : j < m.ins.length
      · have hadd6 : IntKind.i64.wrap ((j : Int) + 1) = ((j + 1 : Nat) : Int) := by rw [i64w (by omega)]; rfl
        have hmj : m.ins[j]? = some m.ins[j] := List.getElem?_eq_getElem hjt
        obtain ⟨f1, f2, f3⟩ := d4 _ (List.getElem_mem hjt)
        generalize hmi : m.ins[j] = q at hmj f1 f2 f3
        have hsn6 := zeh (f := VM.insB) hmj
        simp [zcd, hjt, hmi, Ins.avs]
        have ep6 := ex6.put (.row 3 q.avs)
        refine ep6.nums [q.op, q.a, q.b] (by rw [List.length_append]; simp only [List.length_cons, List.length_nil]; omega) (by simp; exact ⟨f1, f2, f3⟩) fun H7 n7 l7 e7 _ => ?_
        rw [← ztv, List.append_assoc, ← hsn6] at e7
        simp [zem, hadd6]
        exact ⟨m.ins.length - (j + 1), by omega, j + 1, rfl, by omega, rfl, _, by simpa using e7⟩
      · obtain rfl : j = m.ins.length := by omega
        rw [List.take_length, ← hC, List.append_assoc _ _ (m.ins.flatMap VM.insB), ← zue, List.append_assoc, ← hsn] at ex6
        simp [zcd, hadd]
        exact hK _ _ _ (by omega) ex6
    · obtain rfl : i = pr.codes.length := by omega
      rw [List.take_length, ← hB] at ext
      simp [zbc]
      refine hq _ _ l' ?_
      have e : bs ++ VM.prgB pr = bs ++ WM.num pr.words.length ++ pr.words.flatMap VM.textB ++ WM.num pr.codes.length ++ pr.codes.flatMap VM.codB := by unfold VM.prgB; simp only [List.append_assoc]
      rw [e]; exact ext
end Go.Proofs.YtpbnaaoilgohkaaGreatDoor
set_option maxRecDepth 8000
namespace Go.Proofs.YtpbnaaoilgohkaaGreatDoor
open Go Go.RowKit
def zdg (H : Heap) (G : Nat → Prop) (xs ys : List AV) : Prop := ys.length = xs.length ∧ ∀ (j : Nat) (v u : AV), xs[j]? = some v → ys[j]? = some u → FrzP H G v u
theorem zdg.nil {H : Heap} {G : Nat → Prop} : zdg H G [] [] := ⟨rfl, fun j v u h => by simp at h⟩
theorem zdg.cons {H : Heap} {G : Nat → Prop} {v u : AV} {xs ys : List AV} (h : FrzP H G v u) (k : zdg H G xs ys) : zdg H G (v :: xs) (u :: ys) := by
  refine ⟨by simp [k.1], fun j a b ha hb => ?_⟩
  cases j with
  | zero => simp at ha hb; subst ha; subst hb; exact h
  | succ j => exact k.2 j a b (by simpa using ha) (by simpa using hb)
theorem za.thaw {P : Program} {f : FuncId} {args args' : List AV} {H H0 : Heap} {nx : Nat} {G : Nat → Prop} {Q : AV → Heap → Nat → Prop} (h : za P f args H0 nx Q) (hf : zdg H G args' args) (h0 : ∀ g o, H0 g = some o → ¬ G g ∧ H g = some o) : za P f args' H nx Q := by
  intro ρ w cargs s ha
  obtain ⟨s0, f0⟩ := s.drop (H' := H0) fun g o ho => (h0 g o ho).2
  refine zi (h ρ w cargs s0 ⟨ha.1.trans hf.1.symm, fun j u c hu hc => ?_⟩) fun cv w' ⟨r', H', nx', ρ', q1, q3, q4, q5⟩ => ⟨r', H', nx', ρ', q1, q3, q4, f0.trans q5⟩
  have hj : j < args'.length := by have := (List.getElem?_eq_some_iff.1 hu).1; rw [hf.1] at this; exact this
  have hv : args'[j]? = some args'[j] := List.getElem?_eq_getElem hj
  exact (hf.2 j _ u hv hu).rel s h0 c (ha.2 j _ c hv hc)
end Go.Proofs.YtpbnaaoilgohkaaGreatDoor
set_option maxRecDepth 8000
namespace Go.Proofs.YtpbnaaoilgohkaaGreatDoor
open Go Go.RowKit
end Go.Proofs.YtpbnaaoilgohkaaGreatDoor
set_option maxRecDepth 8000
namespace Go.Proofs.YtpbnaaoilgohkaaGreatDoor
open Go Go.RowKit
theorem zagp (h : List Cl) (l : List Val) (hr : VM.right h l = true) (hs : h.length * 64 ≤ 140737488355328) (hl : l.length * 32 ≤ 140737488355328) : QC Tryz.prog 54 [.ro (h.map Cl.avs), .ro (l.map Val.avs)] (.tup [.ro ((VM.canonV h l).map Val.avs), .ro ((VM.canonC h l).map Cl.avs)]) :=
  QC.of' fun H nx => zagq h l hr hs hl .ro .ro
end Go.Proofs.YtpbnaaoilgohkaaGreatDoor
set_option maxRecDepth 8000
namespace Go.Proofs.YtpbnaaoilgohkaaGreatDoor
open Go Go.RowKit
section
variable {ki : IntKind}
theorem zvt {s : Nat} {xs : List (List AV)} {a : Int} {H : Heap} {k : AV → Prop} (hs : ∀ x ∈ xs, x.length = s) (h0 : 0 ≤ a) (h1 : a ≤ xs.length) (hk : k (.ro (xs.drop a.toNat))) : SL s (.ro xs) (some (.int ki a)) none H k := by
  simp only [SL, zao, lohi, PURE, qk, Int.toNat_natCast, List.take_length]
  exact ⟨h0, h1, Int.le_refl _, hs, hk⟩
end
theorem Slot.cp {H : Heap} {sz k : Nat} {cells : List AV} {a : AV} {kh : AV → Heap → Prop} (hg : Slot H sz k cells a) {ys rest : List (List AV)} (hs : ∀ x ∈ ys ++ rest, x.length = sz) (hy : ys.length = k) (hone : ∀ x ∈ ys ++ rest, ∀ c ∈ x, c.one = true)
    (hk : ∀ H', Slot H' sz k ys.flatten a → (∀ g, g ∉ own a → H' g = H g) → kh (.int .i64 k) H') : CP sz a (.ro (ys ++ rest)) H kh := by
  have hsrc := zjl (H := H) hs
  rcases hg with ⟨rfl, rfl | rfl⟩ | ⟨g, cs, rfl, h1, h2, h3⟩
  · unfold CP COPY
    rw [hsrc]
    exact hk _ (.inl ⟨rfl, .inl rfl⟩) fun g _ => rfl
  · unfold CP COPY
    rw [hsrc]
    exact hk _ (.inl ⟨rfl, .inr rfl⟩) fun g _ => rfl
  · have hl : ys.flatten.length = k * sz := by rw [zde fun x hx => hs x (List.mem_append_left _ hx), hy]
    refine zaig hsrc h1 (by omega) ?_ ?_
    · refine List.all_eq_true.2 fun c hc => ?_
      obtain ⟨x, hx, hcx⟩ := List.mem_flatten.1 hc
      exact hone x hx c hcx
    · have e : min (ys ++ rest).length k = k := by simp [hy]
      rw [e]
      have et : ((ys ++ rest).flatten.take (k * sz)) = ys.flatten := by rw [List.flatten_append, List.take_append_of_le_length (by omega), List.take_of_length_le (by omega)]
      rw [et]
      refine hk _ (.inr ⟨g, _, rfl, Heap.put_at _ _ _, ?_, ?_⟩) fun x hx => Heap.put_ne _ _ (by simpa [own] using hx)
      · unfold zaf
        simp [hl]
      · unfold zaf
        simp [hl]
theorem Slot.gather {H : Heap} {sz k bytes nx m : Nat} {cells new : List AV} {a x : AV} {rdx : List Nat} {kt : Kt} (hg : Slot H sz k cells a) (hlen : cells.length = k * sz) (hs : ze sz H x = some (m, new, rdx)) (hnl : new.length = m * sz) (hone : new.all AV.one = true)
    (hb : (k + m) * bytes ≤ 140737488355328) (hk : ∀ v rd fr D, fr.length ≤ 1 → (∀ g ∈ domD D, g ∈ own a ∨ g = nx) → Slot (H.apply D) sz (k + m) (cells ++ new) v → (∀ g ∈ own v, g = nx ∧ fr.length = 1) → (∀ g, g ∉ own a → g ≠ nx → (H.apply D) g = H g) → kt v rd fr D) : zt sz bytes a x H nx kt := by
  rcases hg with ⟨rfl, rfl | rfl⟩ | ⟨g, cs, rfl, h1, h2, h3⟩
  · have hc : cells = [] := List.eq_nil_of_length_eq_zero (by omega)
    subst hc
    rw [zlp, hs, optk]
    refine ⟨hone, fun hm => ?_, fun hm => ⟨by simpa using hb, ?_⟩⟩
    · simp only at hm; subst hm
      exact hk _ _ _ _ (by simp) (by simp) (.inl ⟨rfl, .inl rfl⟩) (by simp [own]) fun g _ _ => rfl
    · exact hk _ _ _ _ (by simp) (by simp) (.inr ⟨nx, new, by simp, by simp only [zak, zat, Heap.put_at], by rw [List.nil_append, List.take_of_length_le (by rw [Nat.zero_add]; omega)], by rw [Nat.zero_add]; omega⟩) (by simp [own]) fun g _ hx => by simp only [zak, zat]; exact Heap.put_ne _ _ hx
  · have hc : cells = [] := List.eq_nil_of_length_eq_zero (by omega)
    subst hc
    rw [zun, hs, optk]
    refine ⟨hone, fun hm => ?_, fun hm => ⟨by simpa using hb, ?_⟩⟩
    · simp only at hm; subst hm
      exact hk _ _ _ _ (by simp) (by simp) (.inl ⟨rfl, .inr rfl⟩) (by simp [own]) fun g _ _ => rfl
    · exact hk _ _ _ _ (by simp) (by simp) (.inr ⟨nx, new, by simp, by simp only [zak, zat, Heap.put_at], by rw [List.nil_append, List.take_of_length_le (by rw [Nat.zero_add]; omega)], by rw [Nat.zero_add]; omega⟩) (by simp [own]) fun g _ hx => by simp only [zak, zat]; exact Heap.put_ne _ _ hx
  · rw [ziw, hs, optk, h1, rowk]
    refine ⟨rfl, hone, by omega, hb, hk _ _ _ _ (by simp) (by simp [own]) (.inr ⟨nx, cells ++ new, rfl, ?_, ?_, ?_⟩) (by simp [own]) (fun x hx1 hx => ?_)⟩
    · simp only [zak, zat]; rw [Heap.put_at, List.drop_zero, h2]
    · rw [List.take_of_length_le]; rw [List.length_append, hlen, hnl, Nat.add_mul]; exact Nat.le_refl _
    · rw [List.length_append, hlen, hnl, Nat.add_mul]; exact Nat.le_refl _
    · simp only [zak, zat]; rw [Heap.put_ne _ _ hx, Heap.put_ne _ _ (by simpa [own] using hx1)]
theorem QC.thaw {P : Program} {f : FuncId} {args args' : List AV} {r : AV} (h : QC P f args r) {H H0 : Heap} {nx : Nat} {G : Nat → Prop} (hf : zdg H G args' args) (h0 : ∀ g o, H0 g = some o → ¬ G g ∧ H g = some o) {kk : AV → Heap → Nat → Prop} (hk : kk r H0 nx) : za P f args' H nx kk :=
  za.thaw ((h H0 nx).mono fun v H' n' ⟨a, b, c⟩ => by subst a; subst b; subst c; exact hk) hf h0
theorem znh : ∀ {ss : List (AV × AV)} {k i : Nat} {s t : AV × AV} {g : Nat}, (owns ss).Nodup → ss[k]? = some s → ss[i]? = some t → k ≠ i → g ∈ own s.1 ++ own s.2 → g ∈ own t.1 ++ own t.2 → False
  | [], k, i, s, t, g, _, h, _, _, _, _ => by simp at h
  | u :: ss, k, i, s, t, g, nd, h1, h2, hne, m1, m2 => by
    have e : owns (u :: ss) = (own u.1 ++ own u.2) ++ owns ss := by simp [owns]
    rw [e, List.nodup_append] at nd
    obtain ⟨_, n2, n3⟩ := nd
    have mem : ∀ {j : Nat} {v : AV × AV}, ss[j]? = some v → g ∈ own v.1 ++ own v.2 → g ∈ owns ss := fun hv hg => List.mem_flatMap.2 ⟨_, List.mem_of_getElem? hv, hg⟩
    match k, i with
    | 0, 0 => exact hne rfl
    | 0, i + 1 =>
      simp at h1 h2; subst h1
      exact n3 g m1 g (mem h2 m2) rfl
    | k + 1, 0 =>
      simp at h1 h2; subst h2
      exact n3 g m2 g (mem h1 m1) rfl
    | k + 1, i + 1 => exact znh n2 (by simpa using h1) (by simpa using h2) (by omega) m1 m2
theorem zw.set {H H' : Heap} {fs : List Frm} {ss : List (AV × AV)} {i : Nat} {f : Frm} {s : AV × AV} (h : zw H fs ss) (nd : (owns ss).Nodup) (hs : ss[i]? = some s) (hk : ∀ g, g ∉ own s.1 → g ∉ own s.2 → H' g = H g) (h1 : Slot H' 3 f.vars.length (rowV f.vars) s.1) (h2 : Slot H' 3 f.stack.length (rowV f.stack) s.2) : zw H' (fs.set i f) ss := by
  refine ⟨by simp [h.1], fun k f' s' hf hs' => ?_⟩
  by_cases e : k = i
  · subst e
    rw [hs] at hs'; cases hs'
    have hl : k < fs.length := by rw [← h.1]; exact (List.getElem?_eq_some_iff.1 hs).1
    rw [List.getElem?_set_self hl] at hf
    cases hf
    exact ⟨h1, h2⟩
  · rw [List.getElem?_set_ne (Ne.symm e)] at hf
    obtain ⟨q1, q2⟩ := h.2 k f' s' hf hs'
    have hd : ∀ g, (g ∈ own s'.1 ∨ g ∈ own s'.2) → g ∉ own s.1 ∧ g ∉ own s.2 := fun g hg => by
      exact ⟨fun hx => znh nd hs' hs e (List.mem_append.2 hg) (List.mem_append_left _ hx), fun hx => znh nd hs' hs e (List.mem_append.2 hg) (List.mem_append_right _ hx)⟩
    exact ⟨q1.keep fun g hg => hk g (hd g (.inl hg)).1 (hd g (.inl hg)).2, q2.keep fun g hg => hk g (hd g (.inr hg)).1 (hd g (.inr hg)).2⟩
end Go.Proofs.YtpbnaaoilgohkaaGreatDoor
set_option maxRecDepth 8000
namespace Go.Proofs.YtpbnaaoilgohkaaGreatDoor
open Go Go.RowKit
theorem zwk : ∀ {fs : List Frm} {ss : List (AV × AV)} {i : Nat} {f : Frm} {s : AV × AV}, ss.length = fs.length → fs[i]? = some f → ss[i]? = some s → ((frow fs ss).drop (i * 4)).take 4 = [.int .i64 f.fn, .int .i64 f.at_, s.1, s.2]
  | [], _, i, f, s, _, h, _ => by simp at h
  | _ :: _, [], i, f, s, h0, _, h => by simp at h
  | g :: fs, t :: ss, 0, f, s, h0, h1, h2 => by simp at h1 h2; subst h1; subst h2; simp [frow]
  | g :: fs, t :: ss, i + 1, f, s, h0, h1, h2 => by
    have := zwk (fs := fs) (ss := ss) (i := i) (f := f) (s := s) (by simpa using h0) (by simpa using h1) (by simpa using h2)
    rw [← this, show (i + 1) * 4 = i * 4 + 1 + 1 + 1 + 1 by omega]
    simp [frow]
theorem zadj {cs : List AV} {fs : List Frm} {ss : List (AV × AV)} {i : Nat} {f : Frm} {s : AV × AV} (h : cs.take (fs.length * 4) = frow fs ss) (hl : ss.length = fs.length) (h1 : fs[i]? = some f) (h2 : ss[i]? = some s) : (cs.drop (i * 4)).take 4 = [.int .i64 f.fn, .int .i64 f.at_, s.1, s.2] := by
  have e := zwk hl h1 h2
  have hi := (List.getElem?_eq_some_iff.1 h1).1
  rw [← h, List.drop_take, List.take_take] at e
  rw [← e]; congr 1; omega
theorem Slot.frzP {H : Heap} {G : Nat → Prop} {sz : Nat} {xs : List (List AV)} {a : AV} (hs : Slot H sz xs.length xs.flatten a) (ho : ∀ g ∈ own a, G g) (hsz : ∀ x ∈ xs, x.length = sz) : FrzP H G a (.ro xs) := by
  rcases hs with ⟨h0, rfl | rfl⟩ | ⟨g, cs, rfl, h1, h2, h3⟩
  · rw [List.eq_nil_of_length_eq_zero h0]; exact .nils
  · rw [List.eq_nil_of_length_eq_zero h0]; exact .zs
  · refine FrzP.row (ho g (by simp [own])) h1 rfl hsz (fun i x j v hx hv => ⟨v, ?_, .same _⟩) h3
    have := zacu hsz hx hv
    rw [← h2, List.getElem?_take] at this
    split at this
    · exact this
    · cases this
def zc (fs : List Frm) : List Val := fs.flatMap fun f => f.vars ++ f.stack
theorem zoz (fs : List Frm) (f : Frm) : zc (fs ++ [f]) = zc fs ++ f.vars ++ f.stack := by simp [zc]
theorem zqn {fs : List Frm} (i : Nat) : (zc (fs.take i)).length ≤ (zc fs).length := by
  have e : zc fs = zc (fs.take i) ++ zc (fs.drop i) := by unfold zc; rw [← List.flatMap_append, List.take_append_drop]
  rw [e, List.length_append]; omega
set_option maxRecDepth 20000 in
set_option maxHeartbeats 1000000 in
theorem zxv {a : Agt} {H5 : Heap} {lo n1 gf p1 : Nat} {ss : List (AV × AV)} {cs : List AV} {Q : AV → Heap → Nat → Prop} (hb : (zc a.frames).length ≤ 4096) (hfl : a.frames.length ≤ 4096) (c1 : H5 gf = some (.row 4 cs)) (c2 : cs.take (a.frames.length * 4) = frow a.frames ss) (c3 : a.frames.length * 4 ≤ cs.length)
    (fr : zw H5 a.frames ss) (bd : ∀ g, (g = gf ∨ g ∈ owns ss) → lo ≤ g ∧ g < n1)
    (hend : ∀ H' n' l, n1 + 1 ≤ n' → (∀ g, g < n1 + 1 → H' g = H5 g) → Slot H' 3 (zc a.frames).length (rowV (zc a.frames)) l → (∀ g ∈ own l, n1 < g ∧ g < n') →
      FA 5 (.ptr n1 0) fun v29 => LD false 1 v29 H' fun v30 => za Tryz.prog 54 [v30, l] H' n' (znb [.ptr p1 0, .ptr n1 0, l, .slc gf 0 a.frames.length, .int .i64 a.frames.length, .int .i64 a.frames.length] Q)) :
    LP (zgk Q) [.ptr p1 0, .ptr n1 0, .nils, .slc gf 0 a.frames.length, .int .i64 a.frames.length, .int .i64 0] H5 (n1 + 1) := by
  refine LP.mk (fun k xs H' n' => ∃ (i : Nat) (l : AV), k = a.frames.length - i ∧ i ≤ a.frames.length ∧ xs = [.ptr p1 0, .ptr n1 0, l, .slc gf 0 a.frames.length, .int .i64 a.frames.length, .int .i64 i] ∧ n1 + 1 ≤ n' ∧ (∀ g, g < n1 + 1 → H' g = H5 g) ∧
    Slot H' 3 (zc (a.frames.take i)).length (rowV (zc (a.frames.take i))) l ∧ ∀ g ∈ own l, n1 < g ∧ g < n') a.frames.length ⟨0, .nils, rfl, by omega, rfl, Nat.le_refl _, fun _ _ => rfl, .inl ⟨rfl, .inl rfl⟩, by simp [own]⟩ ?_
  rintro k xs H' n' ⟨i, l, rfl, hi, rfl, hn, keep, sl, bl⟩
  suffices key : ∀ K : J3, (∀ (i' : Nat) (l : AV) H' n', a.frames.length - i' < a.frames.length - i → i' ≤ a.frames.length → n1 + 1 ≤ n' → (∀ g, g < n1 + 1 → H' g = H5 g) → Slot H' 3 (zc (a.frames.take i')).length (rowV (zc (a.frames.take i'))) l → (∀ g ∈ own l, n1 < g ∧ g < n') → K [.ptr p1 0, .ptr n1 0, l, .slc gf 0 a.frames.length, .int .i64 a.frames.length, .int .i64 i'] H' n') →
      zgk Q K [.ptr p1 0, .ptr n1 0, l, .slc gf 0 a.frames.length, .int .i64 a.frames.length, .int .i64 i] H' n' from
    key _ fun i' l H' n' h1 h2 h3 h4 h5 h6 => ⟨_, h1, i', l, rfl, h2, rfl, h3, h4, h5, h6⟩
  intro K hK
  by_cases hil : i < a.frames.length
  · have hf : a.frames[i]? = some a.frames[i] := List.getElem?_eq_getElem hil
    have hs : ss[i]? = some (ss[i]'(by rw [fr.1]; exact hil)) := List.getElem?_eq_getElem _
    generalize a.frames[i] = f at hf
    generalize ss[i]'(by rw [fr.1]; exact hil) = s at hs
    obtain ⟨sv, st⟩ := fr.2 i f s hf hs
    have hgf := bd gf (.inl rfl)
    have e1 : H' gf = some (.row 4 cs) := (keep gf (by omega)).trans c1
    have e2 := zadj c2 fr.1 hf hs
    have one : s.1.one = true ∧ s.2.one = true := ⟨sv.one.2.1, st.one.2.1⟩
    have hsm : ∀ g, (g ∈ own s.1 ∨ g ∈ own s.2) → g < n1 := fun g hg => by
      refine (bd g (.inr (List.mem_flatMap.2 ⟨s, List.mem_of_getElem? hs, ?_⟩))).2
      simpa using hg
    have htk : a.frames.take (i + 1) = a.frames.take i ++ [f] := zds hf
    have hle := zqn (fs := a.frames) (i + 1)
    have hadd : IntKind.i64.wrap ((i : Int) + 1) = ((i + 1 : Nat) : Int) := by rw [i64w (by omega)]; rfl
    have hr1 : zc (a.frames.take (i + 1)) = zc (a.frames.take i) ++ f.vars ++ f.stack := by rw [htk, zoz]
    rw [hr1] at hle
    simp only [List.length_append] at hle
    simp [zgk, hil, e1, e2, sv.one, st.one]
    refine ⟨by omega, ?_⟩
    have lst : (frow a.frames ss).length = a.frames.length * 4 := zju fr.1
    have b0 : ∀ l : List Val, (rowV l).all AV.one = true := fun l => List.all_eq_true.2 fun c hc => zbe (zdt _ c hc)
    have z0 : ∀ l : List Val, l.length = 0 → rowV l = [] := fun l h => by rw [List.eq_nil_of_length_eq_zero h]; rfl
    generalize hX : Heap.put H' n' _ = HX
    have x1 : HX n' = some (.row 4 [.int .i64 f.fn, .int .i64 f.at_, s.1, s.2]) := by rw [← hX, Heap.put_at]
    have xk : ∀ g, g ≠ n' → HX g = H' g := fun g hg => by rw [← hX, Heap.put_ne _ _ hg]
    have xs : ∀ g, (g ∈ own s.1 ∨ g ∈ own s.2) → HX g = H5 g := fun g hg => by have := hsm g hg; rw [xk g (by omega), keep g (by omega)]
    obtain ⟨rd0, hs1⟩ := (sv.keep fun g hg => xs g (.inl hg)).src (z0 f.vars)
    refine Slot.gather (sl.keep fun g hg => xk g (by have := bl g hg; omega)) (by simp) hs1 (by simp) (b0 _) (by omega) fun v1 rd1 fr1 D1 l1 d1 s1 o1 k1 => ?_
    have y1 : (HX.apply D1) n' = some (.row 4 [.int .i64 f.fn, .int .i64 f.at_, s.1, s.2]) := by rw [k1 n' (fun h => by have := bl _ h; omega) (by omega)]; exact x1
    have yk : ∀ g, g < n1 + 1 → (HX.apply D1) g = H5 g := fun g hg => by rw [k1 g (fun h => by have := bl _ h; omega) (by omega), xk g (by omega), keep g hg]
    have dd : n' ∉ domD D1 := fun h => by
      rcases d1 n' h with h | h
      · have := bl _ h; omega
      · omega
    generalize HX.apply D1 = HY at *
    simp only [y1, rowk]
    simp
    obtain ⟨rd2, hs2⟩ := (st.keep fun g hg => yk g (by have := hsm g (.inr hg); omega)).src (z0 f.stack)
    refine Slot.gather s1 (by simp; omega) hs2 (by simp) (b0 _) (by omega) fun v2 rd3 fr2 D2 l2 d2 s2 o2 k2 => ?_
    have zk : ∀ g, g < n1 + 1 → (HY.apply D2) g = H5 g := fun g hg => by rw [k2 g (fun h => by have := o1 _ h; omega) (by omega), yk g hg]
    generalize HY.apply D2 = HZ at *
    refine zax (fun g _ => by simp) (zax (fun g _ => by simp) (zax (fun g hg => by simp; rintro rfl; exact dd hg) (zax (fun g _ => by simp) ?_)))
    rw [hadd]
    refine hK (i + 1) v2 HZ _ (by omega) (by omega) (by omega) zk ?_ fun g hg => ?_
    · rw [hr1, zng, zng]
      simpa [Nat.add_assoc] using s2
    · have := o2 g hg; omega
  · obtain rfl : i = a.frames.length := by omega
    rw [List.take_length] at sl
    have := hend H' n' l hn keep sl bl
    simpa [zgk] using this
theorem zwj {p : Val → Val} : ∀ (fs : List Frm) (ss : List (AV × AV)), frow (fs.map fun f => { f with vars := f.vars.map p, stack := f.stack.map p }) ss = frow fs ss
  | [], _ => rfl
  | _ :: _, [] => rfl
  | f :: fs, s :: ss => by simp only [List.map_cons, frow]; rw [zwj fs ss]
def pkF (p : Val → Val) (f : Frm) : Frm := { f with vars := f.vars.map p, stack := f.stack.map p }
set_option maxRecDepth 20000 in
set_option maxHeartbeats 1000000 in
theorem zacn {fs : List Frm} {id trip : Int} {pr : Prg} {m : Pmt} {p : Val → Val} {hp : List Cl} {H1 : Heap} {n1 gf p1 n : Nat} {ss : List (AV × AV)} {cs : List AV} {ha : AV} {Q : AV → Heap → Nat → Prop} (hfl : fs.length ≤ 4096) (c1 : H1 gf = some (.row 4 cs)) (c2 : cs.take (fs.length * 4) = frow fs ss) (c3 : fs.length * 4 ≤ cs.length)
    (fr : zw H1 fs ss) (nd : (owns ss).Nodup) (g0 : gf ∉ owns ss) (g1 : n1 ∉ owns ss) (g2 : p1 ∉ owns ss) (g3 : p1 ≠ n1) (r1 : H1 n1 = some (.row 9 (zam id trip pr (.slc gf 0 fs.length) ha m))) (r2 : ∃ z, H1 p1 = some (.row 9 z) ∧ z.length = 9)
    (hend : ∀ H', zw H' (fs.map (pkF p)) ss → (∀ g, g ∉ owns ss → g ≠ n1 → g ≠ p1 → H' g = H1 g) → Q (.agg (zam id trip pr (.slc gf 0 fs.length) (.ro (hp.map Cl.avs)) m)) H' n) :
    LP (zgl Q) [.ptr p1 0, .ptr n1 0, .ro ((zc fs).map fun v => (p v).avs), .ro (hp.map Cl.avs), .int .i64 fs.length, .int .i64 0] H1 n := by
  refine LP.mk (fun k xs H' n' => ∃ i : Nat, k = fs.length - i ∧ i ≤ fs.length ∧ n' = n ∧ xs = [.ptr p1 0, .ptr n1 0, .ro ((zc (fs.drop i)).map fun v => (p v).avs), .ro (hp.map Cl.avs), .int .i64 fs.length, .int .i64 i] ∧
    zw H' ((fs.take i).map (pkF p) ++ fs.drop i) ss ∧ ∀ g, g ∉ owns ss → H' g = H1 g) fs.length ⟨0, rfl, by omega, rfl, rfl, by simpa using fr, fun _ _ => rfl⟩ ?_
  rintro k xs H' n' ⟨i, rfl, hi, rfl, rfl, fr', keep⟩
  suffices key : ∀ K : J3, (∀ (i' : Nat) H', fs.length - i' < fs.length - i → i' ≤ fs.length → zw H' ((fs.take i').map (pkF p) ++ fs.drop i') ss → (∀ g, g ∉ owns ss → H' g = H1 g) → K [.ptr p1 0, .ptr n1 0, .ro ((zc (fs.drop i')).map fun v => (p v).avs), .ro (hp.map Cl.avs), .int .i64 fs.length, .int .i64 i'] H' n') →
      zgl Q K [.ptr p1 0, .ptr n1 0, .ro ((zc (fs.drop i)).map fun v => (p v).avs), .ro (hp.map Cl.avs), .int .i64 fs.length, .int .i64 i] H' n' from
    key _ fun i' H' h1 h2 h3 h4 => ⟨_, h1, i', rfl, h2, rfl, rfl, h3, h4⟩
  intro K hK
  have e0 := (keep _ g0).trans c1
  have e1 := (keep _ g1).trans r1
  obtain ⟨z, z1, z2⟩ := r2
  have e2 := (keep _ g2).trans z1
  by_cases hil : i < fs.length
  · have hf : fs[i]? = some fs[i] := List.getElem?_eq_getElem hil
    have hs : ss[i]? = some (ss[i]'(by rw [fr.1]; exact hil)) := List.getElem?_eq_getElem _
    have hdrop : fs.drop i = fs[i] :: fs.drop (i + 1) := List.drop_eq_getElem_cons hil
    have htk : fs.take (i + 1) = fs.take i ++ [fs[i]] := zds hf
    generalize fs[i] = f at *
    generalize ss[i]'(by rw [fr.1]; exact hil) = s at hs
    have e3 := zadj c2 fr.1 hf hs
    have hadd : IntKind.i64.wrap ((i : Int) + 1) = ((i + 1 : Nat) : Int) := by rw [i64w (by omega)]; rfl
    have hm : ((fs.take i).map (pkF p) ++ fs.drop i)[i]? = some f := by rw [List.getElem?_append_right (by simp; omega)]; simp [Nat.min_eq_left (Nat.le_of_lt hil), hf]
    obtain ⟨sv, st⟩ := fr'.2 i f s hm hs
    have hroots : zc (fs.drop i) = f.vars ++ (f.stack ++ zc (fs.drop (i + 1))) := by rw [hdrop]; simp [zc]
    have q2 : cs[i * 4 + 2]? = some s.1 := by
      have := congrArg (·[2]?) e3
      simpa using this
    have q3 : cs[i * 4 + 3]? = some s.2 := by
      have := congrArg (·[3]?) e3
      simpa using this
    rw [hroots]
    have hown : ∀ g, (g ∈ own s.1 ∨ g ∈ own s.2) → g ∈ owns ss := fun g hg => List.mem_flatMap.2 ⟨s, List.mem_of_getElem? hs, by simpa using hg⟩
    have hdis : ∀ g ∈ own s.1, g ∉ own s.2 := by
      obtain ⟨hi1, rfl⟩ := List.getElem?_eq_some_iff.1 hs
      have hsub : (own ss[i].1 ++ own ss[i].2).Sublist (owns ss) := List.sublist_flatten_of_mem (List.mem_map.2 ⟨_, List.getElem_mem hi1, rfl⟩)
      have := List.nodup_append.1 (nd.sublist hsub)
      exact fun g h1 h2 => this.2.2 g h1 g h2 rfl
    have len3 : ∀ l : List Val, ∀ x ∈ l.map (fun v => (p v).avs), x.length = 3 := fun l x hx => by obtain ⟨v, _, rfl⟩ := List.mem_map.1 hx; rfl
    have one3 : ∀ l : List Val, ∀ x ∈ l.map (fun v => (p v).avs), ∀ c ∈ x, c.one = true := fun l x hx c hc => by obtain ⟨v, _, rfl⟩ := List.mem_map.1 hx; exact zbe (zbd _ c hc)
    have fl : ∀ l : List Val, (l.map fun v => (p v).avs).flatten = rowV (l.map p) := fun l => by simp [rowV, List.map_map, Function.comp_def]
    simp [zgl, hil, e0, e1, zam, q2, q3]
    refine Slot.cp sv (fun x hx => ?_) (by simp) (fun x hx => ?_) fun H2 s2 k2 => ?_
    · rw [← List.map_append, ← List.map_append] at hx; exact len3 _ x hx
    · rw [← List.map_append, ← List.map_append] at hx; exact one3 _ x hx
    refine zvt (fun x hx => ?_) (by omega) (by simp; omega) ?_
    · rw [← List.map_append, ← List.map_append] at hx; exact len3 _ x hx
    have h2 : H2 gf = some (.row 4 cs) := by rw [k2 gf (fun h => g0 (hown _ (.inl h)))]; exact e0
    have hd1 : ∀ (A B : List (List AV)) (n : Nat), A.length = n → (A ++ B).drop ((n : Int).toNat) = B := fun A B n h => by simp [← h]
    rw [hd1 _ _ _ (by simp)]
    simp only [h2, rowk, q3, optk]
    refine Slot.cp (st.keep fun g hg => k2 g fun h => hdis g h hg) (fun x hx => ?_) (by simp) (fun x hx => ?_) fun H3 s3 k3 => ?_
    · rw [← List.map_append] at hx; exact len3 _ x hx
    · rw [← List.map_append] at hx; exact one3 _ x hx
    refine zvt (fun x hx => ?_) (by omega) (by simp; omega) ?_
    · rw [← List.map_append] at hx; exact len3 _ x hx
    rw [hd1 _ _ _ (by simp), hadd]
    rw [fl] at s2 s3
    have e4 : (fs.take (i + 1)).map (pkF p) ++ fs.drop (i + 1) = ((fs.take i).map (pkF p) ++ fs.drop i).set i (pkF p f) := by
      rw [htk, hdrop, List.set_append_right _ _ (by simp; omega)]
      simp [Nat.min_eq_left (Nat.le_of_lt hil)]
    refine hK (i + 1) H3 (by omega) (by omega) ?_ fun g hg => ?_
    · rw [e4]
      refine fr'.set nd hs (fun g h1 h2 => by rw [k3 g h2, k2 g h1]) ?_ ?_
      · have := s2.keep (H' := H3) fun g hg => k3 g (hdis g hg)
        simpa [pkF] using this
      · simpa [pkF] using s3
    · rw [k3 g (fun h => hg (hown _ (.inr h))), k2 g (fun h => hg (hown _ (.inl h)))]
      exact keep g hg
  · obtain rfl : i = fs.length := by omega
    rw [List.take_length, List.drop_length, List.append_nil] at fr'
    simp [zgl, e1, e2, zam, z2, g3]
    have := hend ((H'.put n1 (some (.row 9 (zam id trip pr (.slc gf 0 fs.length) (.ro (hp.map Cl.avs)) m)))).put p1 (some (.row 9 (zam id trip pr (.slc gf 0 fs.length) (.ro (hp.map Cl.avs)) m ++ z.drop 9)))) (fr'.keep fun g hg => ?_) fun g q1 q2 q3 => ?_
    · simpa [zam] using this
    · have a1 : g ≠ p1 := fun e => g2 (e ▸ hg)
      have a2 : g ≠ n1 := fun e => g1 (e ▸ hg)
      rw [Heap.put_ne _ _ a1, Heap.put_ne _ _ a2]
    · rw [Heap.put_ne _ _ q3, Heap.put_ne _ _ q2]; exact keep g q1
set_option maxRecDepth 20000 in
set_option maxHeartbeats 1000000 in
theorem zahu {a : Agt} {fs : List Frm} {f : Frm} (sz : zvd a) (hfr : a.frames = fs ++ [f]) (hfl : a.frames.length ≤ 4096) (hb : (zc a.frames).length ≤ 4096) (hr : VM.right a.heap (zc a.frames) = true) :
    QC Tryz.prog 27 [.agg a.avs] (.agg (VM.pack a).avs) := by
  refine QC.of' fun H nx => ?_
  refine zur _ H nx _ ?_
  have av : (AV.agg a.avs).cells = a.avs := by simp
  have al : a.avs.length = 9 := rfl
  have hsu : (AV.agg a.avs).sure = true := by simp [Agt.avs]
  have at9 : a.avs.take 9 = a.avs := by rw [← al, List.take_length]
  unfold zrs
  rw [av, al]
  refine ⟨hsu, ?_⟩
  simp [al, at9]
  refine zain sz fun H1 n1 ss fa ha hn1 k1 ow => ?_
  generalize hHH : Heap.put _ (nx + 1) _ = HH at *
  have q2 : ∃ z, HH (nx + 1) = some (.row 9 z) ∧ z.length = 9 := ⟨_, by rw [← hHH, Heap.put_at], rfl⟩
  have q4 : Keep nx HH H := fun g hg => by rw [← hHH, Heap.put_ne _ _ (by omega), Heap.put_ne _ _ (by omega)]
  have h1 := ow.hp.one
  obtain ⟨gf, cs, rfl, c1, c2, c3⟩ : ∃ gf cs, fa = .slc gf 0 a.frames.length ∧ H1 gf = some (.row 4 cs) ∧ cs.take (a.frames.length * 4) = frow a.frames ss ∧ a.frames.length * 4 ≤ cs.length := by
    rcases ow.row with ⟨h0, _⟩ | ⟨gf, cs, h2⟩
    · rw [hfr] at h0; simp at h0
    · exact ⟨gf, cs, h2⟩
  have bd : ∀ g, (g = gf ∨ g ∈ owns ss) → nx + 2 ≤ g ∧ g < n1 := fun g hg => ow.bd g (by rcases hg with rfl | h <;> simp [own, *])
  have bh : ∀ g ∈ own ha, nx + 2 ≤ g ∧ g < n1 := fun g hg => ow.bd g (by simp [hg])
  have nd := ow.nd
  have e0 : own (AV.slc gf 0 a.frames.length) = [gf] := rfl
  rw [e0, List.singleton_append, List.nodup_cons, List.nodup_append] at nd
  obtain ⟨nd1, nd2, nd3, nd4⟩ := nd
  simp only [List.mem_append, not_or] at nd1
  simp [zrt, zam, h1.1, h1.2.1, h1.2.2]
  generalize hX : Heap.put H1 n1 _ = HX
  have x1 : HX n1 = some (.row 9 (zam a.id a.trip a.prog (.slc gf 0 a.frames.length) ha a.permit)) := by rw [← hX, Heap.put_at]; rfl
  have xk : ∀ g, g < n1 → HX g = H1 g := fun g hg => by rw [← hX, Heap.put_ne _ _ (by omega)]
  refine zxv (lo := nx + 2) hb hfl (by rw [xk gf (bd gf (.inl rfl)).2]; exact c1) c2 c3 (ow.frs.keep fun g hg => xk g (bd g (.inr hg)).2) bd fun H' n' l hn keep sl bl => ?_
  have x2 := (keep n1 (by omega)).trans x1
  simp [x2, zam]
  let G : Nat → Prop := fun g => g ∈ own ha ∨ g ∈ own l
  let H0 : Heap := fun g => if g ∈ own ha ∨ g ∈ own l then none else H' g
  have h0 : ∀ g o, H0 g = some o → ¬ G g ∧ H' g = some o := fun g o hg => by
    by_cases h : g ∈ own ha ∨ g ∈ own l
    · simp only [H0, if_pos h] at hg; cases hg
    · simp only [H0, if_neg h] at hg; exact ⟨h, hg⟩
  have up : ∀ g, g ∉ own ha → g < n1 + 1 → H0 g = HX g := fun g h1 h2 => by
    simp only [H0]
    rw [if_neg (fun h => by
      rcases h with h | h
      · exact h1 h
      · have := bl g h; omega)]
    exact keep g h2
  refine QC.thaw (zagp a.heap (zc a.frames) hr sz.b5 (by omega)) (G := G) (H0 := H0) (zdg.cons (Slot.frzP (sz := 6) ?_ (fun g hg => .inl hg) (zdf _)) (zdg.cons (Slot.frzP (sz := 3) ?_ (fun g hg => .inr hg) (zcq _)) .nil)) h0 ?_
  · have := ow.hp.keep (H' := H') fun g hg => by have := bh g hg; rw [keep g (by omega), xk g (by omega)]
    simpa [rowC] using this
  · simpa [rowV] using sl
  have y1 : H0 n1 = some (.row 9 (zam a.id a.trip a.prog (.slc gf 0 a.frames.length) ha a.permit)) := by
    rw [up n1 (fun h => by have := bh _ h; omega) (by omega)]; exact x1
  have lowk : ∀ g, g < nx + 2 → H0 g = HH g := fun g hg => by
    rw [up g (fun h => by have := bh _ h; omega) (by omega), xk g (by omega), k1 g (by omega)]
  simp [znb, y1, zam]
  obtain ⟨z, z1, z2⟩ := q2
  have hcv : (VM.canonV a.heap (zc a.frames)).map Val.avs = (zc a.frames).map fun v => (VM.put (VM.order a.heap (zc a.frames)) v).avs := by
    unfold VM.canonV; rw [List.map_map]; rfl
  rw [hcv]
  have gdis : ∀ g ∈ owns ss, g ∉ own ha := fun g hg h => nd4 g h g hg rfl
  refine zacn (id := a.id) (trip := a.trip) (pr := a.prog) (m := a.permit) (p := VM.put (VM.order a.heap (zc a.frames))) (hp := VM.canonC a.heap (zc a.frames)) (ss := ss) (cs := cs) (ha := ha) hfl ?_ c2 c3 (ow.frs.keep fun g hg => ?_) nd3 nd1.2 (fun h => by have := bd _ (.inr h); omega) (fun h => by have := bd _ (.inr h); omega) (by omega) y1 ⟨z, by rw [lowk _ (by omega)]; exact z1, z2⟩ fun H3 fr3 k3 => ?_
  · rw [up gf nd1.1 (by have := bd gf (.inl rfl); omega), xk gf (bd gf (.inl rfl)).2]; exact c1
  · rw [up g (gdis g hg) (by have := bd g (.inr hg); omega), xk g (bd g (.inr hg)).2]
  have hgf := bd gf (.inl rfl)
  refine ⟨?_, fun g hg => ?_⟩
  · have hp : VM.pack a = ⟨a.id, a.trip, a.prog, a.frames.map (pkF (VM.put (VM.order a.heap (zc a.frames)))), VM.canonC a.heap (zc a.frames), a.permit⟩ := rfl
    rw [hp]
    have ef : frow (a.frames.map (pkF (VM.put (VM.order a.heap (zc a.frames))))) ss = frow a.frames ss := zwj _ _
    refine ztw (zw.frz (cs := cs) fr3 ?_ (by simpa [ef] using c2) (by simpa using c3) (by omega) (fun x hx => by have := bd x (.inr hx); omega) (by simp)) (.same _ (zpq (zov _)))
    rw [k3 gf nd1.2 (by omega) (by omega), up gf nd1.1 (by omega), xk gf hgf.2]; exact c1
  · rw [k3 g (fun h => by have := bd _ (.inr h); omega) (by omega) (by omega), lowk g (by omega)]
    exact q4 g hg
end Go.Proofs.YtpbnaaoilgohkaaGreatDoor
set_option maxRecDepth 8000
namespace Go.Proofs.YtpbnaaoilgohkaaGreatDoor
open Go Go.RowKit
theorem WExt.numsL {p n n' : Nat} {l l' : AV} {bs : Str} {H H' : Heap} {Q : AV → Heap → Nat → Prop} (e : WExt p l H n l' bs H' n') (ns : List Int) (hb : bs.length + 10 * ns.length ≤ 100000000000000) (hi : ∀ m ∈ ns, -9223372036854775808 ≤ m ∧ m ≤ 9223372036854775807)
    (hq : ∀ H2 n2 l2, WExt p l H n l2 (bs ++ zu ns) H2 n2 → (∀ y, y < n' → y ≠ p → y ∉ own l' → H2 y = H' y ∧ y ∉ own l2 ∧ y < n2) → Q (.tup []) H2 n2) : za Tryz.prog 28 [.ptr p 0, .slc n' 0 ns.length] (H'.put n' (some (.row 1 (ns.map (AV.int .i64))))) (n' + 1) Q := by
  have w := e.wr
  have e1 := e.put (.row 1 (ns.map (AV.int .i64)))
  refine zyu e1.wr (Heap.put_at _ _ _) (by have := w.lt; omega) (fun h => by have := w.ow _ h; omega) (by omega) hb hi fun H2 n2 l2 e2 => hq _ _ _ (e1.trans e2) fun y h1 h2 h3 => ⟨?_, fun h4 => ?_, by have := e2.le; omega⟩
  · rw [e2.keep y (by omega) h2 h3, Heap.put_ne _ _ (by omega)]
  · rcases e2.new y h4 with h5 | h5
    · exact h3 h5
    · omega
theorem zty (f : Frm) : VM.frmB f = zu [f.fn, f.at_] ++ VM.valsB f.vars ++ VM.valsB f.stack := by simp [VM.frmB, zu]
theorem zop {l : List Val} (h : I64l l) (hl : l.length ≤ 4096) : (VM.valsB l).length ≤ 20000000 := by
  unfold VM.valsB
  have h1 := zce l.length
  have h2 := zhr (l := l) (f := VM.valB) (k := 4116) fun v hv => by have := zji v; have := (h v hv).2; omega
  rw [List.length_append]
  omega
structure zadz (b : Agt) : Prop where
  prog : zxh b.prog
  id : I64 b.id
  trip : I64 b.trip
  pmt : I64 b.permit.fuel ∧ I64 b.permit.room ∧ I64 b.permit.hops
  frames : b.frames.length ≤ 4096 ∧ ∀ f ∈ b.frames, I64 f.fn ∧ I64 f.at_ ∧ (I64l f.vars ∧ f.vars.length ≤ 4096) ∧ (I64l f.stack ∧ f.stack.length ≤ 4096)
  heap : b.heap.length ≤ 4096 ∧ ∀ c ∈ b.heap, (I64v c.left ∧ c.left.text.length ≤ 4096) ∧ (I64v c.right ∧ c.right.text.length ≤ 4096)
theorem zafo {f : Frm} (h1 : I64l f.vars ∧ f.vars.length ≤ 4096) (h2 : I64l f.stack ∧ f.stack.length ≤ 4096) : (VM.frmB f).length ≤ 50000000 := by
  rw [zty, List.length_append, List.length_append]
  have := zck [f.fn, f.at_]
  have := zop h1.1 h1.2
  have := zop h2.1 h2.2
  simp only [List.length_cons, List.length_nil] at *
  omega
theorem zaih {c : Cl} (h1 : c.left.text.length ≤ 4096) (h2 : c.right.text.length ≤ 4096) : (VM.clB c).length ≤ 10000 := by
  unfold VM.clB
  have := zji c.left
  have := zji c.right
  rw [List.length_append]
  omega
theorem zafa {p : Prg} (h : zxh p) : (VM.prgB p).length ≤ 1000000000 := by
  unfold VM.prgB
  have h1 := zce p.words.length
  have h2 := zce p.codes.length
  have h3 := zhr (l := p.words) (f := VM.textB) (k := 4106) fun w hw => by have := zor w; have := h.words.2 w hw; omega
  have h4 := zhr (l := p.codes) (f := VM.codB) (k := 200000) fun c hc => zwu (h.codes.2 c hc).1
  have := h.words.1
  have := h.codes.1
  simp only [List.length_append]
  omega
set_option maxRecDepth 20000 in
set_option maxHeartbeats 4000000 in
theorem zags {a : Agt} {fs : List Frm} {f : Frm} (sz : zvd a) (hfr : a.frames = fs ++ [f]) (hfl : a.frames.length ≤ 4096) (hroots : (zc a.frames).length ≤ 4096) (hr : VM.right a.heap (zc a.frames) = true) (sm : zadz (VM.pack a)) :
    QC Tryz.prog 9 [.agg a.avs] (.ro (bsR (VM.image a))) := by
  refine QC.of' fun H nx => ?_
  refine zqi _ H nx _ ?_
  have al : a.avs.length = 9 := rfl
  have at9 : a.avs.take 9 = a.avs := rfl
  have hsu : (AV.agg a.avs).sure = true := by simp [Agt.avs]
  unfold zlz
  refine ⟨hsu, ?_⟩
  simp [al, at9]
  refine QC.call (zahu sz hfr hfl hroots hr) ?_
  have him : VM.image a = VM.agtB (VM.pack a) ++ WM.num (WM.sum (VM.agtB (VM.pack a))) := rfl
  rw [him]
  generalize VM.pack a = b at *
  clear hfr hfl hroots hr sz at9 al hsu
  have bl : b.avs.length = 9 := rfl
  have bt : b.avs.take 9 = b.avs := rfl
  have bd : b.avs.drop 9 = [] := rfl
  have hsb : (AV.agg b.avs).sure = true := by simp [Agt.avs]
  have bav : b.avs = [.int .i64 b.id, .int .i64 b.trip, .ro (b.prog.codes.map Cod.avs), .ro (b.prog.words.map fun w => [.str w]), .ro (b.frames.map Frm.avs), .ro (b.heap.map Cl.avs), .int .i64 b.permit.fuel, .int .i64 b.permit.room, .int .i64 b.permit.hops] := rfl
  have ne_0 : nx ≠ nx + 1 ∧ nx + 1 ≠ nx ∧ nx ≠ nx + 1 + 1 ∧ nx + 1 + 1 ≠ nx := ⟨by omega, by omega, by omega, by omega⟩
  simp [zkx, bav]
  rw [← bav]
  generalize hX : Heap.put _ (nx + 1 + 1) _ = X
  have x1 : X (nx + 1 + 1) = some (.row 1 [.nils]) := by rw [← hX, Heap.put_at]
  have x2 : X (nx + 1) = some (.row 9 b.avs) := by rw [← hX, Heap.put_ne _ _ (by omega), Heap.put_at]
  have xk : ∀ y, y < nx → X y = H y := fun y hy => by rw [← hX, Heap.put_ne _ _ (by omega), Heap.put_ne _ _ (by omega), Heap.put_ne _ _ (by omega)]
  clear hX
  have w : WrM (nx + 1 + 1) .nils [] X (nx + 1 + 2) := ⟨x1, .inl ⟨rfl, .inl rfl⟩, by simp [own], by omega⟩
  have gk : ∀ {H' : Heap} {n' : Nat} {l' : AV} {bs' : Str}, WExt (nx + 1 + 1) .nils X (nx + 1 + 2) l' bs' H' n' → H' (nx + 1) = some (.row 9 b.avs) := fun e => (e.keep _ (by omega) (by omega) (by simp [own])).trans x2
  have b4 : b.avs[4]? = some (.ro (b.frames.map Frm.avs)) := rfl
  have b5 : b.avs[5]? = some (.ro (b.heap.map Cl.avs)) := rfl
  obtain ⟨sp, s1, s2, ⟨s3, s4, s5⟩, ⟨f1, f2⟩, ⟨h1, h2⟩⟩ := sm
  refine w.ext.nums [b.id, b.trip, b.permit.fuel, b.permit.room, b.permit.hops] (by simp) (by simp; exact ⟨s1, s2, s3, s4, s5⟩) fun H1 n1 l1 e1 _ => ?_
  rw [List.nil_append] at e1
  have nl1 := zck [b.id, b.trip, b.permit.fuel, b.permit.room, b.permit.hops]
  simp only [List.length_cons, List.length_nil] at nl1
  simp only [zky]
  refine zxl e1.wr sp (gk e1) (by omega) rfl rfl (by omega) fun H2 n2 l2 e2' => ?_
  have e2 := e1.trans e2'
  have pl := zafa sp
  have g2 := gk e2
  simp [zkz, g2, b4]
  refine e2.nums [(b.frames.length : Int)] (by rw [List.length_append, List.length_singleton]; omega) (by simp; omega) fun H3 n3 l3 e3 _ => ?_
  have nl3 := zck [(b.frames.length : Int)]
  simp only [List.length_singleton] at nl3
  have g3 := gk e3
  simp [zma, g3, b4]
  generalize hB : zu [b.id, b.trip, b.permit.fuel, b.permit.room, b.permit.hops] ++ VM.prgB b.prog ++ zu [(b.frames.length : Int)] = B at e3
  have hBl : B.length ≤ 2000000000 := by rw [← hB]; simp only [List.length_append]; omega
  have hfl : ∀ f ∈ b.frames, (VM.frmB f).length ≤ 50000000 := fun f hf => zafo (f2 f hf).2.2.1 (f2 f hf).2.2.2
  have hcl : ∀ c ∈ b.heap, (VM.clB c).length ≤ 10000 := fun c hc => zaih (h2 c hc).1.2 (h2 c hc).2.2
  refine LP.mk (fun k xs H' n' => ∃ (i : Nat) (l' : AV), k = b.frames.length - i ∧ i ≤ b.frames.length ∧ xs = [.ptr (nx + 1) 0, .ptr (nx + 1 + 1) 0, .ro (b.frames.map Frm.avs), .int .i64 b.frames.length, .int .i64 i] ∧ WExt (nx + 1 + 1) .nils X (nx + 1 + 2) l' (B ++ (b.frames.take i).flatMap VM.frmB) H' n') b.frames.length ⟨0, l3, rfl, by omega, rfl, by simpa using e3⟩ ?_
  clear e3 g3 e2 g2 e2' e1
  rintro k xs H4 n4 ⟨i, l4, rfl, hil, rfl, e4⟩
  have hft := zeg hfl hil
  by_cases hlt : i < b.frames.length
  · have hadd : IntKind.i64.wrap ((i : Int) + 1) = ((i + 1 : Nat) : Int) := by rw [i64w (by omega)]; rfl
    have hm : b.frames[i]? = some b.frames[i] := List.getElem?_eq_getElem hlt
    obtain ⟨d1, d2, ⟨d3, d4⟩, ⟨d5, d6⟩⟩ := f2 _ (List.getElem_mem hlt)
    generalize hmm : b.frames[i] = m at hm d1 d2 d3 d4 d5 d6
    have hsn := zeh (f := VM.frmB) hm
    simp [zhd, hlt, hmm, Frm.avs]
    have ep := e4.put (.row 4 m.avs)
    have lp := e4.wr.lt
    have nop : n4 ∉ own l4 := fun h => by have := e4.wr.ow _ h; omega
    refine ep.numsL [m.fn, m.at_] (by rw [List.length_append]; simp only [List.length_cons, List.length_nil]; omega) (by simp; exact ⟨d1, d2⟩) fun H5 n5 l5 e5 k5 => ?_
    have nl5 := zck [m.fn, m.at_]
    simp only [List.length_cons, List.length_nil] at nl5
    obtain ⟨r5, o5, lt5⟩ := k5 n4 (by omega) (by omega) nop
    rw [Heap.put_at] at r5
    simp [zmg, r5, Frm.avs]
    refine zto e5.wr d3 (by omega) (by simp only [List.length_append]; omega) fun H6 n6 l6 e6 => ?_
    have e6' := e5.trans e6
    have lv := zop d3 d4
    have r6 : H6 n4 = some (.row 4 m.avs) := (e6.keep n4 lt5 (by omega) o5).trans r5
    simp [zmh, r6, Frm.avs]
    refine zto e6'.wr d5 (by omega) (by simp only [List.length_append]; omega) fun H7 n7 l7 e7 => ?_
    have e7' := e6'.trans e7
    have eb : B ++ (b.frames.take i).flatMap VM.frmB ++ zu [m.fn, m.at_] ++ VM.valsB m.vars ++ VM.valsB m.stack = B ++ (b.frames.take (i + 1)).flatMap VM.frmB := by rw [hsn, zty]; simp only [List.append_assoc]
    rw [eb] at e7'
    simp [zmi, hadd]
    exact ⟨b.frames.length - (i + 1), by omega, i + 1, rfl, by omega, rfl, _, e7'⟩
  · obtain rfl : i = b.frames.length := by omega
    rw [List.take_length] at e4 hft
    have g4 := gk e4
    simp [zhd, g4, b5]
    refine e4.nums [(b.heap.length : Int)] (by rw [List.length_append, List.length_singleton]; omega) (by simp; omega) fun H5 n5 l5 e5 _ => ?_
    have nl5 := zck [(b.heap.length : Int)]
    simp only [List.length_singleton] at nl5
    have g5 := gk e5
    simp [zmb, g5, b5]
    generalize hC : B ++ b.frames.flatMap VM.frmB ++ zu [(b.heap.length : Int)] = C at e5
    have hCl : C.length ≤ 500000000000 := by rw [← hC]; simp only [List.length_append]; omega
    refine LP.mk (fun k xs H' n' => ∃ (i : Nat) (l' : AV), k = b.heap.length - i ∧ i ≤ b.heap.length ∧ xs = [.ptr (nx + 1 + 1) 0, .ro (b.heap.map Cl.avs), .int .i64 b.heap.length, .int .i64 i] ∧ WExt (nx + 1 + 1) .nils X (nx + 1 + 2) l' (C ++ (b.heap.take i).flatMap VM.clB) H' n') b.heap.length ⟨0, l5, rfl, by omega, rfl, by simpa using e5⟩ ?_
    clear e5 g5 e4 g4
    rintro k xs H6 n6 ⟨i, l6, rfl, hil, rfl, e6⟩
    have hft6 := zeg hcl hil
    by_cases hlt : i < b.heap.length
    · have hadd : IntKind.i64.wrap ((i : Int) + 1) = ((i + 1 : Nat) : Int) := by rw [i64w (by omega)]; rfl
      have hm : b.heap[i]? = some b.heap[i] := List.getElem?_eq_getElem hlt
      obtain ⟨⟨d1, d2⟩, ⟨d3, d4⟩⟩ := h2 _ (List.getElem_mem hlt)
      generalize hmm : b.heap[i] = m at hm d1 d2 d3 d4
      have hsn := zeh (f := VM.clB) hm
      simp [zhe, hlt, hmm, Cl.avs, Val.avs]
      have ep := e6.put (.row 6 m.avs)
      have lp := e6.wr.lt
      have nop : n6 ∉ own l6 := fun h => by have := e6.wr.ow _ h; omega
      refine zrc ep.wr d1 (by simp only [List.length_append]; omega) fun H7 n7 l7 e7 => ?_
      have vl := zji m.left
      have e7' := ep.trans e7
      have r7 : H7 n6 = some (.row 6 m.avs) := by rw [e7.keep n6 (by omega) (by omega) nop, Heap.put_at]; rfl
      simp [zme, r7, Cl.avs, Val.avs]
      refine zrc e7'.wr d3 (by simp only [List.length_append]; omega) fun H8 n8 l8 e8 => ?_
      have e8' := e7'.trans e8
      have eb : C ++ (b.heap.take i).flatMap VM.clB ++ VM.valB m.left ++ VM.valB m.right = C ++ (b.heap.take (i + 1)).flatMap VM.clB := by rw [hsn]; unfold VM.clB; simp only [List.append_assoc]
      rw [eb] at e8'
      simp [zmf, hadd]
      exact ⟨b.heap.length - (i + 1), by omega, i + 1, rfl, by omega, rfl, _, e8'⟩
    · obtain rfl : i = b.heap.length := by omega
      rw [List.take_length] at e6 hft6
      have ea : C ++ b.heap.flatMap VM.clB = VM.agtB b := by rw [← hC, ← hB]; simp [VM.agtB, zu]
      have hal : (VM.agtB b).length ≤ 600000000000 := by rw [← ea]; simp only [List.length_append]; omega
      rw [ea] at e6
      have rp := e6.wr.row
      simp [zhe, rp]
      have hsm := ztp (VM.agtB b) 2166136261 (by omega)
      have hs64 : (WM.sum (VM.agtB b) : Int) ≤ 9223372036854775807 := by
        have e : WM.sum (VM.agtB b) = (VM.agtB b).foldl WM.sumStep 2166136261 := rfl
        rw [e]; omega
      refine QC.readsC (zahm (VM.agtB b) (by omega)) (by simp) (LFrz.cons (Slot.frzB e6.wr.slot fun _ _ => Nat.zero_le _) LFrz.nil) ?_
      simp [zmc]
      refine e6.nums [((WM.sum (VM.agtB b) : Nat) : Int)] (by rw [List.length_singleton]; omega) (by simp; omega) fun H7 n7 l7 e7 _ => ?_
      have en : zu [((WM.sum (VM.agtB b) : Nat) : Int)] = WM.num (WM.sum (VM.agtB b)) := by simp [zu]
      rw [en] at e7
      have r7 := e7.wr.row
      simp [zmd, r7]
      refine ⟨Slot.frzB e7.wr.slot fun y hy => (by have := e7.wr.ow y hy; omega), fun y hy => ?_⟩
      rw [e7.keep y (by omega) (by omega) (by simp [own])]
      exact xk y hy
end Go.Proofs.YtpbnaaoilgohkaaGreatDoor
set_option maxRecDepth 8000
namespace Go.Proofs.YtpbnaaoilgohkaaGreatDoor
namespace VM
structure Went (p : Prg) (f : Frm) : Prop where
  pos : 0 < f.at_
  op : ((codeAt p f.fn).ins.getD (f.at_.toNat - 1) ⟨0, 0, 0⟩).op = 13
  seen : 0 ≤ (hts p f).getD (f.at_.toNat - 1) 0
  hei : (hts p f)[f.at_.toNat]? = some ((f.stack.length : Int) + 1)
section
variable {a : Agt} {k : Nat} {f : Frm}
end
theorem chain_get {p : Prg} {fs : List Frm} {fn : Int} (h : WChain p fs fn) : ∀ (f : Frm), f.fn = fn → ∀ (k : Nat) (g : Frm), fs[k]? = some g → Waits p g ((((fs ++ [f])[k + 1]?).map (·.fn)).getD 0) := by
  induction h with
  | nil fn => intro f _ k g hg; simp at hg
  | snoc gs g' fn hc hw ih =>
    intro f hf k g hg
    by_cases hk : k < gs.length
    · rw [List.getElem?_append_left hk] at hg
      have := ih g' rfl k g hg
      rw [List.append_assoc, show k + 1 = k + 1 from rfl]
      have e : (gs ++ ([g'] ++ [f]))[k + 1]? = (gs ++ [g'])[k + 1]? := by
        rw [← List.append_assoc, List.getElem?_append_left (by simp; omega)]
      rw [e]; exact this
    · have hk' : k = gs.length := by have := (List.getElem?_eq_some_iff.1 hg).1; simp at this; omega
      subst hk'
      rw [List.getElem?_append_right (Nat.le_refl _)] at hg
      simp at hg
      subst hg
      have e : ((gs ++ [g']) ++ [f])[gs.length + 1]? = some f := by
        rw [List.getElem?_append_right (by simp)]; simp
      rw [e]
      simp only [Option.map_some, Option.getD_some, hf]
      exact hw
structure Gone (a : Agt) (fs : List Frm) (f : Frm) : Prop where
  fr : a.frames = fs ++ [f]
  prog : program a.prog = 0
  id : 0 ≤ a.id ∧ a.id ≤ 1073741824
  trip : 0 ≤ a.trip ∧ a.trip ≤ 1073741824
  fuel : 0 ≤ a.permit.fuel ∧ a.permit.fuel ≤ 2000
  room : 0 ≤ a.permit.room
  hops : 0 ≤ a.permit.hops ∧ a.permit.hops ≤ 12
  flen : fs.length < 12
  hlen : (a.heap.length : Int) + a.permit.room ≤ 60
  ok : ∀ g ∈ fs ++ [f], FrOk a.prog a.heap.length g
  chain : WChain a.prog fs f.fn
  went : Went a.prog f
  cells : ∀ c ∈ a.heap, WrongOk c.left a.heap.length ∧ WrongOk c.right a.heap.length
theorem frame_gone {a : Agt} {k : Nat} {f : Frm} (hp : program a.prog = 0) (hk : a.frames[k]? = some f) (h : frame a k true = 0) : FrOk a.prog a.heap.length f ∧ (k + 1 = a.frames.length → Went a.prog f) ∧ (k + 1 ≠ a.frames.length → Waits a.prog f (((a.frames[k + 1]?).map (·.fn)).getD 0)) := by
  unfold frame at h
  rw [hk] at h
  simp only at h
  by_cases hfn : 0 ≤ f.fn
  case neg => rw [if_neg hfn] at h; simp at h
  rw [if_pos hfn] at h
  cases hc : a.prog.codes[f.fn.toNat]? with
  | none => rw [hc] at h; simp at h
  | some c =>
  rw [hc] at h
  simp only at h
  by_cases hat : 0 ≤ f.at_
  case neg => rw [if_neg hat] at h; simp at h
  rw [if_pos hat] at h
  cases hi : c.ins[f.at_.toNat]? with
  | none => rw [hi] at h; simp at h
  | some i =>
  rw [hi] at h
  simp only at h
  by_cases hv : (f.vars.length : Int) ≠ c.vars
  · rw [if_pos hv] at h; omega
  rw [if_neg hv] at h
  have hcode := (List.getElem?_eq_some_iff.1 hc).1
  have hca : codeAt a.prog f.fn = c := by unfold codeAt; rw [List.getD_eq_getElem?_getD, hc]; rfl
  have hil := (List.getElem?_eq_some_iff.1 hi).1
  obtain ⟨pr, _⟩ := zbr hp
  obtain ⟨_, calm, hz⟩ := pr _ (List.mem_of_getElem? hc)
  have hlen := (zfd calm hz).1
  have hh : (heights c.ins).1[f.at_.toNat]? = some ((heights c.ins).1.getD f.at_.toNat 0) := by
    rw [List.getD_eq_getElem?_getD, List.getElem?_eq_getElem (by omega)]; rfl
  have main : VM.firstErr (fun v => wrong v a.heap.length) (f.vars ++ f.stack) = 0 ∧ f.at_ ≠ 0 ∧ 0 ≤ (heights c.ins).1.getD (f.at_.toNat - 1) 0 ∧ (heights c.ins).1.getD f.at_.toNat 0 = f.stack.length + 1 ∧ (k + 1 = a.frames.length → (c.ins.getD (f.at_.toNat - 1) ⟨0, 0, 0⟩).op = 13) ∧ (k + 1 ≠ a.frames.length → (c.ins.getD (f.at_.toNat - 1) ⟨0, 0, 0⟩).op = 17 ∧
      (c.ins.getD (f.at_.toNat - 1) ⟨0, 0, 0⟩).a = ((a.frames[k + 1]?).map (·.fn)).getD 0) := by
    by_cases hlast : k + 1 = a.frames.length
    · simp only [hlast, decide_true, Bool.not_true, Bool.false_or, Bool.true_and, Bool.false_and, Bool.or_true, if_true] at h
      by_cases hw : (decide (f.at_ = 0) || (decide ((c.ins.getD (f.at_.toNat - 1) ⟨0, 0, 0⟩).op ≠ 13) || decide ((heights c.ins).1.getD (f.at_.toNat - 1) 0 < 0))) = true
      · rw [if_pos hw] at h; omega
      · rw [if_neg hw] at h
        by_cases hst : (heights c.ins).1.getD f.at_.toNat 0 - 1 < 0 ∨ (f.stack.length : Int) ≠ (heights c.ins).1.getD f.at_.toNat 0 - 1
        · rw [if_pos hst] at h; omega
        · rw [if_neg hst] at h
          simp only [Bool.or_eq_true, decide_eq_true_eq, not_or, Classical.not_not] at hw
          obtain ⟨w1, w2, w4⟩ := hw
          exact ⟨h, w1, by omega, by omega, fun _ => w2, fun hx => absurd hlast hx⟩
    · simp only [hlast, decide_false, Bool.not_false, Bool.true_and, Bool.or_false, Bool.false_and, Bool.true_or, if_true] at h
      by_cases hw : (decide (f.at_ = 0) || (decide ((c.ins.getD (f.at_.toNat - 1) ⟨0, 0, 0⟩).op ≠ 17) || decide ((c.ins.getD (f.at_.toNat - 1) ⟨0, 0, 0⟩).a ≠ ((a.frames[k + 1]?).map (·.fn)).getD 0) || decide ((heights c.ins).1.getD (f.at_.toNat - 1) 0 < 0))) = true
      · rw [if_pos hw] at h; omega
      · rw [if_neg hw] at h
        by_cases hst : (heights c.ins).1.getD f.at_.toNat 0 - 1 < 0 ∨ (f.stack.length : Int) ≠ (heights c.ins).1.getD f.at_.toNat 0 - 1
        · rw [if_pos hst] at h; omega
        · rw [if_neg hst] at h
          simp only [Bool.or_eq_true, decide_eq_true_eq, not_or, Classical.not_not] at hw
          obtain ⟨w1, ⟨w2, w3⟩, w4⟩ := hw
          exact ⟨h, w1, by omega, by omega, fun hx => absurd hx hlast, fun _ => ⟨w2, w3⟩⟩
  obtain ⟨m1, w1, w4, w5, m2, m3⟩ := main
  obtain ⟨e1, e2⟩ := firstErr_app m1
  refine ⟨⟨hfn, hat, hcode, by rw [hca]; exact hil, by rw [hca]; omega, fun v hv => wrong_ok (e1 v hv), fun v hv => wrong_ok (e2 v hv)⟩, fun hlast => ?_, fun hlast => ?_⟩
  · refine ⟨by omega, by rw [hca]; exact m2 hlast, by unfold hts; rw [hca]; exact w4, ?_⟩
    unfold hts
    rw [hca, hh, w5]
  · obtain ⟨w2, w3⟩ := m3 hlast
    refine ⟨by omega, by rw [hca]; exact w2, by rw [hca]; exact w3, by unfold hts; rw [hca]; exact w4, ?_⟩
    unfold hts
    rw [hca, hh, w5]
theorem agent_gone {a : Agt} (h : agent a true = 0) : ∃ fs f, Gone a fs f := by
  unfold agent at h
  by_cases h1 : program a.prog ≠ 0
  · rw [if_pos h1] at h; exact absurd h h1
  rw [if_neg h1] at h
  have hp := Classical.not_not.1 h1
  split at h
  · omega
  rename_i h2
  split at h
  · omega
  rename_i h3
  split at h
  · omega
  rename_i h4
  by_cases h5 : framesErr a true ≠ 0
  · rw [if_pos h5] at h; exact absurd h h5
  rw [if_neg h5] at h
  have hfr := zbb (Classical.not_not.1 h5)
  have hcell := zbb h
  obtain ⟨n, hn⟩ : ∃ n, a.frames.length = n + 1 := ⟨a.frames.length - 1, by omega⟩
  have hlast : a.frames[n]? = some a.frames[n] := List.getElem?_eq_getElem (by omega)
  have hall : ∀ (k : Nat) (g : Frm), a.frames[k]? = some g → frame a k true = 0 := fun k g hg => hfr k (List.mem_range.2 (List.getElem?_eq_some_iff.1 hg).1)
  have hsplit : a.frames = a.frames.take n ++ [a.frames[n]] := by
    have : a.frames.take (n + 1) = a.frames.take n ++ [a.frames[n]] := by rw [List.take_add_one, hlast]; rfl
    rw [← this, List.take_of_length_le (by omega)]
  refine ⟨a.frames.take n, a.frames[n], hsplit, hp, by omega, by omega, by omega, by omega, by omega, by rw [List.length_take]; omega, by omega, fun g hg => ?_, ?_, (frame_gone hp hlast (hall n _ hlast)).2.1 (by omega), fun c hc => ?_⟩
  · rw [← hsplit] at hg
    obtain ⟨k, hk, rfl⟩ := List.getElem_of_mem hg
    exact (frame_gone hp (List.getElem?_eq_getElem hk) (hall k _ (List.getElem?_eq_getElem hk))).1
  · exact chain_of n _ hlast fun j g hj hg => (frame_gone hp hg (hall j g hg)).2.2 (by omega)
  · have := hcell c hc
    unfold cellErr at this
    split at this
    · rename_i hx; exact absurd this hx
    · rename_i hx
      exact ⟨wrong_ok (Classical.not_not.1 hx), wrong_ok this⟩
end VM
end Go.Proofs.YtpbnaaoilgohkaaGreatDoor
