/- Packed, it goes on the same: an agent's run. What is to be shown of each function, written out. Each operation, reckoned: what it comes to, what it reads, what is new, what it changes. A function's text, run: what a call comes to, reckoned. A function's text, run: the steps. -/
import Derived.Test.YtobioljjoipimaaDoorG13
import Derived.Test.YtobioljjoipimaaDoorG8
import Derived.Test.YtobioljjoipimaaDoorG3
import Derived.Test.YtobioljjoipimaaDoorG5
set_option linter.unusedSimpArgs false
set_option linter.unusedVariables false
set_option maxRecDepth 8000
namespace Go.Proofs.YtobioljjoipimaaDoor
namespace VM
theorem step_al {a b : Agt} {π : Nat → Nat} {D : Nat → Prop} {fs : List Frm} {f : Frm} (l : Live a fs f) (h : Al a b π D) {s : Spt} (hs : ∀ x ∈ s.facts, WrongOk x.val (0 : Int)) : AlR (step a s) (step b s) := by
  unfold step
  rw [h.bs.permit]
  by_cases hf : a.permit.fuel = 0
  · rw [if_pos hf, if_pos hf]
    exact ⟨rfl, π, D, h⟩
  rw [if_neg hf, if_neg hf]
  have e1 : a.frames.getLast? = some f := by rw [l.fr]; simp
  have e2 : a.frames.dropLast = fs := by rw [l.fr]; simp
  have e3 : b.frames.getLast? = some (renF π f) := by rw [h.frames, l.fr]; simp
  have e4 : b.frames.dropLast = fs.map (renF π) := by rw [h.frames, l.fr]; simp
  rw [e1, e3]
  simp only [e2, e4]
  have ei : insAt b.prog (renF π f) = insAt a.prog f := by rw [h.bs.prog]; rfl
  rw [ei]
  have dom := h.dom
  rw [l.fr] at dom
  have hfd := dom f (by simp)
  obtain ⟨o1, o2, o3, o4⟩ := numbers_ok l.now.num
  exact opDo_al (a := { a with permit := { a.permit with fuel := a.permit.fuel - 1 } }) (b := { b with permit := { a.permit with fuel := a.permit.fuel - 1 } }) ⟨h.bs.id, h.bs.trip, h.bs.prog, rfl, h.bs.turn⟩ hs (fun g hg => dom g (by simp [hg])) (f := { f with at_ := f.at_ + 1 }) ⟨hfd.vars, hfd.stack⟩ l.cells (l.ok f (by simp)).sv ⟨by omega, by omega⟩
theorem run_al {s : Spt} (hs : ∀ x ∈ s.facts, WrongOk x.val (0 : Int)) : ∀ (n : Nat) {a b : Agt} {π : Nat → Nat} {D : Nat → Prop} {fs : List Frm} {f : Frm}, Live a fs f → Al a b π D → AlR (run s n a) (run s n b)
  | 0, a, b, π, D, fs, f, _, h => ⟨rfl, π, D, h⟩
  | n + 1, a, b, π, D, fs, f, l, h => by
    have st := step_al l h hs
    obtain ⟨ev, π', D', al⟩ := st
    simp only [run]
    by_cases hk : (step a s).2.kind ≠ 0
    · rw [if_pos hk, if_pos (by rw [ev]; exact hk)]
      exact ⟨ev, π', D', al⟩
    · rw [if_neg hk, if_neg (by rw [ev]; exact hk)]
      obtain ⟨gs, g, l'⟩ := step_live l hs (by simpa using hk)
      exact run_al hs n l' al
structure GoodA (a : Agt) : Prop where
  vals : ∀ f ∈ a.frames, ∀ v, (v ∈ f.vars ∨ v ∈ f.stack) → WrongOk v a.heap.length
  cells : ∀ c ∈ a.heap, WrongOk c.left a.heap.length ∧ WrongOk c.right a.heap.length
theorem Live.good {a : Agt} {fs : List Frm} {f : Frm} (l : Live a fs f) : GoodA a := ⟨fun g hg v hv => by
  rw [l.fr] at hg
  have ok := l.ok g hg
  rcases hv with hv | hv
  · exact ok.vv v hv
  · exact ok.sv v hv, l.cells⟩
theorem Gone.good {a : Agt} {fs : List Frm} {f : Frm} (l : Gone a fs f) : GoodA a := ⟨fun g hg v hv => by
  rw [l.fr] at hg
  have ok := l.ok g hg
  rcases hv with hv | hv
  · exact ok.vv v hv
  · exact ok.sv v hv, l.cells⟩
def FineE (h : List Cl) (fs : List Frm) (f : Frm) (r : Agt × Evt) : Prop := (r.2.kind = 4 ∨ r.2.kind = 5) → r.1.heap = h ∧ (∀ g ∈ r.1.frames, g ∈ fs ∨ (g.vars = f.vars ∧ g.stack.length ≤ f.stack.length ∧ ∀ v ∈ g.stack, v ∈ f.stack)) ∧ r.1.frames.length ≤ fs.length + 1
theorem fine_ite {h : List Cl} {fs : List Frm} {f : Frm} {c : Prop} [Decidable c] {x y : Agt × Evt} (h1 : c → FineE h fs f x) (h2 : ¬ c → FineE h fs f y) : FineE h fs f (if c then x else y) := by
  by_cases hc : c
  · rw [if_pos hc]; exact h1 hc
  · rw [if_neg hc]; exact h2 hc
theorem fine_flat {h : List Cl} {fs : List Frm} {f : Frm} {a : Agt} {g : Frm} {e : Evt} (he : a.heap = h) (hv : g.vars = f.vars) (hl : g.stack.length ≤ f.stack.length) (hs : ∀ v ∈ g.stack, v ∈ f.stack) : FineE h fs f (toF a fs g, e) := by
  intro _
  refine ⟨he, fun x hx => ?_, by simp [toF]⟩
  simp only [toF, List.mem_append, List.mem_singleton] at hx
  rcases hx with hx | rfl
  · exact .inl hx
  · exact .inr ⟨hv, hl, hs⟩
theorem fine_ev {h : List Cl} {fs : List Frm} {f : Frm} {a : Agt} {e : Evt} (he : e.kind ≠ 4 ∧ e.kind ≠ 5) : FineE h fs f (a, e) := fun hk => by
  rcases hk with hk | hk
  · exact absurd hk he.1
  · exact absurd hk he.2
theorem opDo_fine (a : Agt) (s : Spt) (fs : List Frm) (f : Frm) (i : Ins) : FineE a.heap fs f (opDo a s fs f i) := by
  unfold opDo push
  repeat' (refine fine_ite (fun _ => ?_) (fun _ => ?_))
  all_goals first
    | exact fine_flat rfl rfl (by simp only [low_len]; omega) fun v hv => low_mem hv
    | exact fine_flat rfl rfl (Nat.le_refl _) fun v hv => hv
    | (refine fine_ev ?_; simp [ev0]; done)
    | skip
  split
  · exact fun _ => ⟨rfl, fun g hg => (by cases hg), by simp⟩
  · exact fine_ev ⟨by simp [ev0], by simp [ev0]⟩
theorem step_good {a : Agt} {fs : List Frm} {f : Frm} {s : Spt} (l : Live a fs f) (hs : ∀ x ∈ s.facts, WrongOk x.val (0 : Int)) : GoodA (step a s).1 := by
  rcases step_kinds a s with k | k | k | k | k
  · obtain ⟨gs, g, l'⟩ := step_live l hs k; exact l'.good
  · obtain ⟨gs, g, l'⟩ := step_says l k; exact l'.good
  · obtain ⟨g, l', _⟩ := step_goes l k (yes := 0) (by omega); exact l'.good
  all_goals
    by_cases hf : a.permit.fuel = 0
    · have e : step a s = (a, dead 12) := by unfold step; rw [if_pos hf]
      rw [e]; exact l.good
    · have e : step a s = opDo { a with permit := { a.permit with fuel := a.permit.fuel - 1 } } s fs { f with at_ := f.at_ + 1 } (insAt a.prog f) := by
        unfold step
        rw [if_neg hf]
        have e1 : a.frames.getLast? = some f := by rw [l.fr]; simp
        have e2 : a.frames.dropLast = fs := by rw [l.fr]; simp
        rw [e1]
        simp only [e2]
      rw [e] at k ⊢
      have fn := opDo_fine { a with permit := { a.permit with fuel := a.permit.fuel - 1 } } s fs { f with at_ := f.at_ + 1 } (insAt a.prog f) (by first | exact .inl k | exact .inr k)
      obtain ⟨h1, h2, _⟩ := fn
      have okf := l.ok f (by simp)
      refine ⟨fun g hg v hv => ?_, fun c hc => ?_⟩
      · rw [h1]
        rcases h2 g hg with hm | ⟨e1, _, e2⟩
        · have ok := l.ok g (by simp [hm])
          rcases hv with hv | hv
          · exact ok.vv v hv
          · exact ok.sv v hv
        · rcases hv with hv | hv
          · rw [e1] at hv; exact okf.vv v hv
          · exact okf.sv v (e2 v hv)
      · rw [h1] at hc ⊢
        exact l.cells c hc
theorem run_good {s : Spt} (hs : ∀ x ∈ s.facts, WrongOk x.val (0 : Int)) : ∀ (n : Nat) {a : Agt} {fs : List Frm} {f : Frm}, Live a fs f → GoodA (run s n a).1
  | 0, a, fs, f, l => l.good
  | n + 1, a, fs, f, l => by
    simp only [run]
    by_cases hk : (step a s).2.kind ≠ 0
    · rw [if_pos hk]; exact step_good l hs
    · rw [if_neg hk]
      obtain ⟨gs, g, l'⟩ := step_live l hs (by simpa using hk)
      exact run_good hs n l'
structure SmallA (a : Agt) : Prop where
  frames : a.frames.length ≤ 12
  stk : ∀ f ∈ a.frames, f.vars.length ≤ 8 ∧ f.stack.length ≤ 17
theorem Live.small {a : Agt} {fs : List Frm} {f : Frm} (l : Live a fs f) : SmallA a :=
  ⟨by rw [l.fr]; have := l.flen; simp; omega, fun g hg => by have := Live.stk l g hg; omega⟩
theorem step_small {a : Agt} {fs : List Frm} {f : Frm} {s : Spt} (l : Live a fs f) (hs : ∀ x ∈ s.facts, WrongOk x.val (0 : Int)) : SmallA (step a s).1 := by
  have sf := Live.stk l f (by rw [l.fr]; simp)
  have fl := l.flen
  rcases step_kinds a s with k | k | k | k | k
  · obtain ⟨gs, g, l'⟩ := step_live l hs k; exact l'.small
  · obtain ⟨gs, g, l'⟩ := step_says l k; exact l'.small
  · obtain ⟨g, l', hlen, _⟩ := step_goes l k (yes := 0) (by omega)
    refine ⟨by rw [l'.fr]; have := l'.flen; simp; omega, fun x hx => ?_⟩
    rw [l'.fr] at hx
    have hv := (l'.ok x hx).vars
    have h8 := zaax l'.prog x.fn
    refine ⟨by omega, ?_⟩
    rcases List.mem_append.1 hx with hx | hx
    · have := Live.stk l x (by rw [l.fr]; simp [hx]); omega
    · simp at hx; subst hx; omega
  all_goals
    by_cases hf : a.permit.fuel = 0
    · have e : step a s = (a, dead 12) := by unfold step; rw [if_pos hf]
      rw [e]; exact l.small
    · have e : step a s = opDo { a with permit := { a.permit with fuel := a.permit.fuel - 1 } } s fs { f with at_ := f.at_ + 1 } (insAt a.prog f) := by
        unfold step
        rw [if_neg hf]
        have e1 : a.frames.getLast? = some f := by rw [l.fr]; simp
        have e2 : a.frames.dropLast = fs := by rw [l.fr]; simp
        rw [e1]
        simp only [e2]
      rw [e] at k ⊢
      have fn := opDo_fine { a with permit := { a.permit with fuel := a.permit.fuel - 1 } } s fs { f with at_ := f.at_ + 1 } (insAt a.prog f) (by first | exact .inl k | exact .inr k)
      obtain ⟨_, h2, h3⟩ := fn
      refine ⟨by omega, fun g hg => ?_⟩
      rcases h2 g hg with hm | ⟨e1, e2, _⟩
      · have := Live.stk l g (by rw [l.fr]; simp [hm]); omega
      · rw [e1]
        simp only at e2 ⊢
        omega
theorem run_small {s : Spt} (hs : ∀ x ∈ s.facts, WrongOk x.val (0 : Int)) : ∀ (n : Nat) {a : Agt} {fs : List Frm} {f : Frm}, Live a fs f → SmallA (run s n a).1
  | 0, a, fs, f, l => l.small
  | n + 1, a, fs, f, l => by
    simp only [run]
    by_cases hk : (step a s).2.kind ≠ 0
    · rw [if_pos hk]; exact step_small l hs
    · rw [if_neg hk]
      obtain ⟨gs, g, l'⟩ := step_live l hs (by simpa using hk)
      exact run_small hs n l'
theorem SmallA.roots {a : Agt} (h : SmallA a) : (ze a.frames).length ≤ 4096 := by
  have key : ∀ fs : List Frm, (∀ f ∈ fs, f.vars.length ≤ 8 ∧ f.stack.length ≤ 17) → (ze fs).length ≤ 25 * fs.length := by
    intro fs
    induction fs with
    | nil => intro _; simp [ze]
    | cons f r ih =>
      intro hf
      have h1 := hf f (by simp)
      have h2 := ih fun g hg => hf g (by simp [hg])
      have e : ze (f :: r) = f.vars ++ f.stack ++ ze r := by simp [ze]
      rw [e]
      simp only [List.length_append, List.length_cons]
      omega
  have := key a.frames h.stk
  have := h.frames
  omega
theorem mem_roots {fs : List Frm} {v : Val} : v ∈ ze fs ↔ ∃ f ∈ fs, v ∈ f.vars ∨ v ∈ f.stack := by
  unfold ze; simp [List.mem_flatMap]
theorem GoodA.right {a : Agt} (g : GoodA a) : right a.heap (ze a.frames) = true :=
  ok_right (fun v hv => by obtain ⟨f, hf, hv⟩ := mem_roots.1 hv; exact g.vals f hf v hv) g.cells
theorem pack_al {a : Agt} (g : GoodA a) : Al a (pack a) (order a.heap (ze a.frames)).idxOf (· ∈ order a.heap (ze a.frames)) := by
  obtain ⟨t, hin, _⟩ := order_turn g.right
  refine ⟨⟨rfl, rfl, rfl, rfl, t⟩, rfl, fun f hf => ⟨fun v hv k => ⟨?_, ?_⟩, fun v hv k => ⟨?_, ?_⟩⟩⟩
  · have := (g.vals f hf v (.inl hv)).cell k; omega
  · exact hin v (mem_roots.2 ⟨f, hf, .inl hv⟩) k
  · have := (g.vals f hf v (.inr hv)).cell k; omega
  · exact hin v (mem_roots.2 ⟨f, hf, .inr hv⟩) k
theorem Al.lt {a b : Agt} {π : Nat → Nat} {D : Nat → Prop} (h : Al a b π D) {n : Nat} (hn : D n) : π n < b.heap.length := by
  obtain ⟨c, _, hc, _⟩ := h.bs.turn.cell n hn
  exact (List.getElem?_eq_some_iff.1 hc).1
theorem waits_ren {p : Prg} {π : Nat → Nat} {f : Frm} {fn : Int} (h : Waits p f fn) : Waits p (renF π f) fn :=
  ⟨h.pos, h.op, h.to, h.seen, by have := h.hei; simpa [renF, hts] using this⟩
theorem chain_ren {p : Prg} {π : Nat → Nat} {fs : List Frm} {fn : Int} (h : WChain p fs fn) : WChain p (fs.map (renF π)) fn := by
  induction h with
  | nil fn => exact .nil fn
  | snoc gs g fn _ hw ih =>
    rw [List.map_append]
    exact .snoc _ (renF π g) fn ih (waits_ren hw)
theorem Al.live {a b : Agt} {π : Nat → Nat} {D : Nat → Prop} {fs : List Frm} {f : Frm} (h : Al a b π D) (l : Live a fs f) (hlen : b.heap.length ≤ a.heap.length) (hc : ∀ c ∈ b.heap, WrongOk c.left b.heap.length ∧ WrongOk c.right b.heap.length) : Live b (fs.map (renF π)) (renF π f) := by
  have l7 := l.hlen
  refine ⟨by rw [h.frames, l.fr]; simp, by rw [h.bs.prog]; exact l.prog, by rw [h.bs.id]; exact l.id, by rw [h.bs.trip]; exact l.trip, by rw [h.bs.permit]; exact l.fuel, by rw [h.bs.permit]; exact l.room, by rw [h.bs.permit]; exact l.hops, by simpa using l.flen, by rw [h.bs.permit]; omega, fun g hg => ?_, by rw [h.bs.prog]; exact chain_ren l.chain, ?_, hc⟩
  · have hg' : g ∈ (fs ++ [f]).map (renF π) := by simpa using hg
    obtain ⟨g0, hg0, rfl⟩ := List.mem_map.1 hg'
    have ok := l.ok g0 hg0
    have dm := h.dom g0 (by rw [l.fr]; exact hg0)
    rw [h.bs.prog]
    refine ⟨ok.fn0, ok.at0, ok.code, ok.ins, by have := ok.vars; simpa [renF] using this, fun v hv => ?_, fun v hv => ?_⟩
    · obtain ⟨u, hu, rfl⟩ := List.mem_map.1 hv
      exact (ok.vv u hu).ren fun k => h.lt (dm.vars u hu k).2
    · obtain ⟨u, hu, rfl⟩ := List.mem_map.1 hv
      exact (ok.sv u hu).ren fun k => h.lt (dm.stack u hu k).2
  · have := l.still
    unfold Still at this ⊢
    rw [h.bs.prog]
    simpa [renF, hts] using this
theorem roots_ren {fs : List Frm} {π : Nat → Nat} : ze (fs.map (renF π)) = (ze fs).map (ren π) := by
  unfold ze
  rw [List.flatMap_map, List.map_flatMap]
  congr 1
  funext f
  simp [renF]
theorem Al.pack {a b : Agt} {π : Nat → Nat} {D : Nat → Prop} (h : Al a b π D) (ga : GoodA a) (gb : GoodA b) : pack b = pack a := by
  have t := h.bs.turn
  have hl : ∀ v ∈ ze a.frames, OkV a.heap.length v := fun v hv => by
    obtain ⟨f, hf, hv⟩ := mem_roots.1 hv
    exact (ga.vals f hf v hv).okV
  have hd : ∀ v ∈ ze a.frames, v.kind = 2 → D v.n.toNat := fun v hv k => by
    obtain ⟨f, hf, hv⟩ := mem_roots.1 hv
    rcases hv with hv | hv
    · exact ((h.dom f hf).vars v hv k).2
    · exact ((h.dom f hf).stack v hv k).2
  have hl' : ∀ v ∈ ze a.frames, OkV b.heap.length (ren π v) := fun v hv => by
    obtain ⟨f, hf, hv⟩ := mem_roots.1 hv
    refine (gb.vals (renF π f) (by rw [h.frames]; exact List.mem_map_of_mem hf) (ren π v) ?_).okV
    rcases hv with hv | hv
    · exact .inl (List.mem_map_of_mem hv)
    · exact .inr (List.mem_map_of_mem hv)
  obtain ⟨c1, c2⟩ := canon_turn t (okH ga.cells) (okH gb.cells) hl hd hl'
  obtain ⟨e, hF⟩ := orderGo_turn t (okH ga.cells) (okH gb.cells) (ze a.frames) [] hl hd hl' Good.nil Good.nil (fun n hn => by simp at hn)
  have e' : order b.heap ((ze a.frames).map (ren π)) = (order a.heap (ze a.frames)).map π := e
  have hr : roots b = (ze a.frames).map (ren π) := by
    show ze b.frames = _
    rw [h.frames, roots_ren]
  have ha : roots a = ze a.frames := rfl
  unfold VM.pack
  rw [hr, ha, c2, h.frames, h.bs.id, h.bs.trip, h.bs.prog, h.bs.permit, e', List.map_map]
  congr 1
  refine List.map_congr_left fun f hf => ?_
  have dm := h.dom f hf
  simp only [Function.comp, renF, List.map_map]
  rw [List.map_congr_left (f := put ((order a.heap (ze a.frames)).map π) ∘ ren π) (g := put (order a.heap (ze a.frames))) fun v hv => put_turn t hF (fun k => (dm.vars v hv k).2),
    List.map_congr_left (f := put ((order a.heap (ze a.frames)).map π) ∘ ren π) (g := put (order a.heap (ze a.frames))) fun v hv => put_turn t hF (fun k => (dm.stack v hv k).2)]
theorem packed_law {a : Agt} {fs : List Frm} {f : Frm} (l : Live a fs f) {s : Spt} (hs : ∀ x ∈ s.facts, WrongOk x.val (0 : Int)) (n : Nat) : ∃ gs g, Live (pack a) gs g ∧ (run s n (pack a)).2 = (run s n a).2 ∧ pack (run s n (pack a)).1 = pack (run s n a).1 ∧ GoodA (run s n a).1 ∧ GoodA (run s n (pack a)).1 := by
  have ga := l.good
  have al := pack_al ga
  obtain ⟨_, c1, c2, _⟩ := canon_law ga.right
  have lp : Live (pack a) (fs.map (renF _)) (renF _ f) := al.live l c1 (right_okC c2)
  obtain ⟨ev, π, D, al'⟩ := run_al hs n l al
  have g1 := run_good hs n l
  have g2 := run_good hs n lp
  exact ⟨_, _, lp, ev, al'.pack g1 g2, g1, g2⟩
end VM
end Go.Proofs.YtobioljjoipimaaDoor
set_option maxRecDepth 8000
namespace Go.Proofs.YtobioljjoipimaaDoor
open Go Go.RowKit
def zhw (D54 : zg) (rd56 : List Nat) (Q : QT) (H21 : Heap) (D27 : zg) (D33 : zg) (nx17 : Nat) (fr26 : List Nat) (fr32 : List Nat) (D39 : zg) (D43 : zg) (D60 : zg) (fr38 : List Nat) (fr42 : List Nat) (fr53 : List Nat) (fr59 : List Nat) (v61 : AV) (rd62 : List Nat) (fr63 : List Nat) (D64 : zg) : Prop :=
 zf (domD D54) rd56 (
 zf (domD D54) [] (
 Q v61 (((((((((H21.apply D27).apply D33).put ((((nx17 + 2) + fr26.length) + fr32.length)) (some (AObj.row 9 [AV.int IntKind.i64 0, AV.int IntKind.i64 0, AV.nils, AV.nils, AV.nils, AV.nils, AV.int IntKind.i64 0, AV.int IntKind.i64 0, AV.int IntKind.i64 0]))).put (((((nx17 + 2) + fr26.length) + fr32.length) + 1)) (some (AObj.row 3 [AV.int IntKind.i64 0, AV.str [], AV.int IntKind.i64 0]))).apply D39).apply D43).apply D54).apply D60).apply D64) (((((((((nx17 + 2) + fr26.length) + fr32.length) + 2) + fr38.length) + fr42.length) + fr53.length) + fr59.length) + fr63.length)))
def zhv (v51 : AV) (H21 : Heap) (D27 : zg) (D33 : zg) (nx17 : Nat) (fr26 : List Nat) (fr32 : List Nat) (D39 : zg) (D43 : zg) (D54 : zg) (fr38 : List Nat) (fr42 : List Nat) (fr53 : List Nat) (rd56 : List Nat) (Q : QT) (v57 : AV) (rd58 : List Nat) (fr59 : List Nat) (D60 : zg) : Prop :=
 zo Tryd.prog (AV.clo 24 []) [v51, v57] ((((((((H21.apply D27).apply D33).put ((((nx17 + 2) + fr26.length) + fr32.length)) (some (AObj.row 9 [AV.int IntKind.i64 0, AV.int IntKind.i64 0, AV.nils, AV.nils, AV.nils, AV.nils, AV.int IntKind.i64 0, AV.int IntKind.i64 0, AV.int IntKind.i64 0]))).put (((((nx17 + 2) + fr26.length) + fr32.length) + 1)) (some (AObj.row 3 [AV.int IntKind.i64 0, AV.str [], AV.int IntKind.i64 0]))).apply D39).apply D43).apply D54).apply D60) ((((((((nx17 + 2) + fr26.length) + fr32.length) + 2) + fr38.length) + fr42.length) + fr53.length) + fr59.length) (zhw D54 rd56 Q H21 D27 D33 nx17 fr26 fr32 D39 D43 D60 fr38 fr42 fr53 fr59)
def zhu (nx17 : Nat) (fr26 : List Nat) (fr32 : List Nat) (H21 : Heap) (D27 : zg) (D33 : zg) (D39 : zg) (D43 : zg) (fr38 : List Nat) (fr42 : List Nat) (Q : QT) (v51 : AV) (_ : List Nat) (fr53 : List Nat) (D54 : zg) : Prop :=
 LDR true 9 (AV.ptr (((nx17 + 2) + fr26.length) + fr32.length) 0) (((((((H21.apply D27).apply D33).put ((((nx17 + 2) + fr26.length) + fr32.length)) (some (AObj.row 9 [AV.int IntKind.i64 0, AV.int IntKind.i64 0, AV.nils, AV.nils, AV.nils, AV.nils, AV.int IntKind.i64 0, AV.int IntKind.i64 0, AV.int IntKind.i64 0]))).put (((((nx17 + 2) + fr26.length) + fr32.length) + 1)) (some (AObj.row 3 [AV.int IntKind.i64 0, AV.str [], AV.int IntKind.i64 0]))).apply D39).apply D43).apply D54) fun v55 rd56 =>
 zo Tryd.prog (AV.clo 25 []) [v55] (((((((H21.apply D27).apply D33).put ((((nx17 + 2) + fr26.length) + fr32.length)) (some (AObj.row 9 [AV.int IntKind.i64 0, AV.int IntKind.i64 0, AV.nils, AV.nils, AV.nils, AV.nils, AV.int IntKind.i64 0, AV.int IntKind.i64 0, AV.int IntKind.i64 0]))).put (((((nx17 + 2) + fr26.length) + fr32.length) + 1)) (some (AObj.row 3 [AV.int IntKind.i64 0, AV.str [], AV.int IntKind.i64 0]))).apply D39).apply D43).apply D54) (((((((nx17 + 2) + fr26.length) + fr32.length) + 2) + fr38.length) + fr42.length) + fr53.length) (zhv v51 H21 D27 D33 nx17 fr26 fr32 D39 D43 D54 fr38 fr42 fr53 rd56 Q)
def zht (nx17 : Nat) (fr26 : List Nat) (H21 : Heap) (D27 : zg) (rd29 : List Nat) (rd23 : List Nat) (rd25 : List Nat) (Q : QT) (v30 : AV) (rd31 : List Nat) (fr32 : List Nat) (D33 : zg) : Prop :=
 EX v30 0 fun v34 =>
 EX v30 1 fun v35 =>
 zah 9 (AV.ptr (((nx17 + 2) + fr26.length) + fr32.length) 0) v34 ((((H21.apply D27).apply D33).put ((((nx17 + 2) + fr26.length) + fr32.length)) (some (AObj.row 9 [AV.int IntKind.i64 0, AV.int IntKind.i64 0, AV.nils, AV.nils, AV.nils, AV.nils, AV.int IntKind.i64 0, AV.int IntKind.i64 0, AV.int IntKind.i64 0]))).put (((((nx17 + 2) + fr26.length) + fr32.length) + 1)) (some (AObj.row 3 [AV.int IntKind.i64 0, AV.str [], AV.int IntKind.i64 0]))) fun _ _ fr38 D39 =>
 zah 3 (AV.ptr ((((nx17 + 2) + fr26.length) + fr32.length) + 1) 0) v35 (((((H21.apply D27).apply D33).put ((((nx17 + 2) + fr26.length) + fr32.length)) (some (AObj.row 9 [AV.int IntKind.i64 0, AV.int IntKind.i64 0, AV.nils, AV.nils, AV.nils, AV.nils, AV.int IntKind.i64 0, AV.int IntKind.i64 0, AV.int IntKind.i64 0]))).put (((((nx17 + 2) + fr26.length) + fr32.length) + 1)) (some (AObj.row 3 [AV.int IntKind.i64 0, AV.str [], AV.int IntKind.i64 0]))).apply D39) fun _ _ fr42 D43 =>
 zf (domD D27) rd29 (
 zf (domD D27) [] (
 zf (domD D27) [] (
 zf (domD D27) [] (
 (((nx17 + 2) + fr26.length) + fr32.length) ∉ rd23 ∧
 zf (domD D27) [] (
 zf (domD D27) [(((nx17 + 2) + fr26.length) + fr32.length)] (
 (((nx17 + 2) + fr26.length) + fr32.length) ∉ rd25 ∧
 (((nx17 + 2) + fr26.length) + fr32.length) ∉ rd29 ∧
 (((nx17 + 2) + fr26.length) + fr32.length) ∉ [] ∧
 zf (domD D33) [] (
 zf (domD D33) [(((nx17 + 2) + fr26.length) + fr32.length)] (
 (((nx17 + 2) + fr26.length) + fr32.length) ∉ rd31 ∧
 (((nx17 + 2) + fr26.length) + fr32.length) ∉ [] ∧
 (((nx17 + 2) + fr26.length) + fr32.length) ∉ [] ∧
 (((nx17 + 2) + fr26.length) + fr32.length) ∉ [] ∧
 ((((nx17 + 2) + fr26.length) + fr32.length) + 1) ∉ rd23 ∧
 zf (domD D27) [] (
 zf (domD D27) [((((nx17 + 2) + fr26.length) + fr32.length) + 1)] (
 ((((nx17 + 2) + fr26.length) + fr32.length) + 1) ∉ rd25 ∧
 ((((nx17 + 2) + fr26.length) + fr32.length) + 1) ∉ rd29 ∧
 ((((nx17 + 2) + fr26.length) + fr32.length) + 1) ∉ [] ∧
 zf (domD D33) [] (
 zf (domD D33) [((((nx17 + 2) + fr26.length) + fr32.length) + 1)] (
 ((((nx17 + 2) + fr26.length) + fr32.length) + 1) ∉ rd31 ∧
 ((((nx17 + 2) + fr26.length) + fr32.length) + 1) ∉ [] ∧
 ((((nx17 + 2) + fr26.length) + fr32.length) + 1) ∉ [] ∧
 ((((nx17 + 2) + fr26.length) + fr32.length) + 1) ∉ [] ∧
 (((nx17 + 2) + fr26.length) + fr32.length) ∉ [] ∧
 (((nx17 + 2) + fr26.length) + fr32.length) ∉ [((((nx17 + 2) + fr26.length) + fr32.length) + 1)] ∧
 ((((nx17 + 2) + fr26.length) + fr32.length) + 1) ∉ [] ∧
 zf (domD D39) [] (
 LDR true 3 (AV.ptr (nx17 + 1) 0) ((((((H21.apply D27).apply D33).put ((((nx17 + 2) + fr26.length) + fr32.length)) (some (AObj.row 9 [AV.int IntKind.i64 0, AV.int IntKind.i64 0, AV.nils, AV.nils, AV.nils, AV.nils, AV.int IntKind.i64 0, AV.int IntKind.i64 0, AV.int IntKind.i64 0]))).put (((((nx17 + 2) + fr26.length) + fr32.length) + 1)) (some (AObj.row 3 [AV.int IntKind.i64 0, AV.str [], AV.int IntKind.i64 0]))).apply D39).apply D43) fun v44 _ =>
 LDR true 3 (AV.ptr ((((nx17 + 2) + fr26.length) + fr32.length) + 1) 0) ((((((H21.apply D27).apply D33).put ((((nx17 + 2) + fr26.length) + fr32.length)) (some (AObj.row 9 [AV.int IntKind.i64 0, AV.int IntKind.i64 0, AV.nils, AV.nils, AV.nils, AV.nils, AV.int IntKind.i64 0, AV.int IntKind.i64 0, AV.int IntKind.i64 0]))).put (((((nx17 + 2) + fr26.length) + fr32.length) + 1)) (some (AObj.row 3 [AV.int IntKind.i64 0, AV.str [], AV.int IntKind.i64 0]))).apply D39).apply D43) fun v46 _ =>
 gd (eqsT 48) (
 BA [AV.int IntKind.i64 0, AV.str [], AV.int IntKind.i64 0] BinOp.eql v44 v46 fun v48 =>
 CND v48
 (LDR true 9 (AV.ptr nx17 0) ((((((H21.apply D27).apply D33).put ((((nx17 + 2) + fr26.length) + fr32.length)) (some (AObj.row 9 [AV.int IntKind.i64 0, AV.int IntKind.i64 0, AV.nils, AV.nils, AV.nils, AV.nils, AV.int IntKind.i64 0, AV.int IntKind.i64 0, AV.int IntKind.i64 0]))).put (((((nx17 + 2) + fr26.length) + fr32.length) + 1)) (some (AObj.row 3 [AV.int IntKind.i64 0, AV.str [], AV.int IntKind.i64 0]))).apply D39).apply D43) fun v49 _ =>
 zo Tryd.prog (AV.clo 25 []) [v49] ((((((H21.apply D27).apply D33).put ((((nx17 + 2) + fr26.length) + fr32.length)) (some (AObj.row 9 [AV.int IntKind.i64 0, AV.int IntKind.i64 0, AV.nils, AV.nils, AV.nils, AV.nils, AV.int IntKind.i64 0, AV.int IntKind.i64 0, AV.int IntKind.i64 0]))).put (((((nx17 + 2) + fr26.length) + fr32.length) + 1)) (some (AObj.row 3 [AV.int IntKind.i64 0, AV.str [], AV.int IntKind.i64 0]))).apply D39).apply D43) ((((((nx17 + 2) + fr26.length) + fr32.length) + 2) + fr38.length) + fr42.length) (zhu nx17 fr26 fr32 H21 D27 D33 D39 D43 fr38 fr42 Q))
 (Q (AV.bool false) ((((((H21.apply D27).apply D33).put ((((nx17 + 2) + fr26.length) + fr32.length)) (some (AObj.row 9 [AV.int IntKind.i64 0, AV.int IntKind.i64 0, AV.nils, AV.nils, AV.nils, AV.nils, AV.int IntKind.i64 0, AV.int IntKind.i64 0, AV.int IntKind.i64 0]))).put (((((nx17 + 2) + fr26.length) + fr32.length) + 1)) (some (AObj.row 3 [AV.int IntKind.i64 0, AV.str [], AV.int IntKind.i64 0]))).apply D39).apply D43) ((((((nx17 + 2) + fr26.length) + fr32.length) + 2) + fr38.length) + fr42.length))))))))))))))))
def zhs (nx : Nat) (H21 : Heap) (a2 : AV) (nx17 : Nat) (rd23 : List Nat) (Q : QT) (v24 : AV) (rd25 : List Nat) (fr26 : List Nat) (D27 : zg) : Prop :=
 LDR true 4 (AV.ptr (nx + 1) 0) (H21.apply D27) fun v28 rd29 =>
 zo Tryd.prog (AV.clo 23 []) [v24, v28, a2] (H21.apply D27) ((nx17 + 2) + fr26.length) (zht nx17 fr26 H21 D27 rd29 rd23 rd25 Q)
def zhr (nx : Nat) (a2 : AV) (Q : QT) (v15 : AV) (H16 : Heap) (nx17 : Nat) : Prop :=
 EX v15 0 fun v18 =>
 EX v15 1 fun v19 =>
 ST 9 (AV.ptr nx17 0) v18 ((H16.put nx17 (some (AObj.row 9 [AV.int IntKind.i64 0, AV.int IntKind.i64 0, AV.nils, AV.nils, AV.nils, AV.nils, AV.int IntKind.i64 0, AV.int IntKind.i64 0, AV.int IntKind.i64 0]))).put ((nx17 + 1)) (some (AObj.row 3 [AV.int IntKind.i64 0, AV.str [], AV.int IntKind.i64 0]))) fun H20 =>
 ST 3 (AV.ptr (nx17 + 1) 0) v19 H20 fun H21 =>
 LDR true 9 (AV.ptr nx 0) H21 fun v22 rd23 =>
 zo Tryd.prog (AV.clo 25 []) [v22] H21 (nx17 + 2) (zhs nx H21 a2 nx17 rd23 Q)
def zbm (Q : QT) (a2 : AV) (nx : Nat) (v7 : AV) (H8 : Heap) (nx9 : Nat) : Prop :=
 UO UnOp.not v7 fun v10 =>
 CND v10
 (Q (AV.bool true) H8 nx9)
 (BI BinOp.lss a2 (AV.int IntKind.i64 0) fun v11 =>
 CND v11
 (Q (AV.bool true) H8 nx9)
 (BI BinOp.gtr a2 (AV.int IntKind.i64 500) fun v12 =>
 CNDC v12
 (Q (AV.bool true) H8 nx9)
 (LD true 9 (AV.ptr nx 0) H8 fun v13 =>
 LD true 4 (AV.ptr (nx + 1) 0) H8 fun v14 =>
 za Tryd.prog 23 [v13, v14, a2] H8 nx9 (zhr nx a2 Q))))
def zhq (Q : QT) (nx : Nat) (a2 : AV) (v1 : AV) (H2 : Heap) (nx3 : Nat) : Prop :=
 UO UnOp.not v1 fun v4 =>
 CNDC v4
 (Q (AV.bool false) H2 nx3)
 (LD true 9 (AV.ptr nx 0) H2 fun v5 =>
 LD true 4 (AV.ptr (nx + 1) 0) H2 fun v6 =>
 za Tryd.prog 22 [v5, v6] H2 nx3 (zbm Q a2 nx))
def zhp (a0 a1 a2 : AV) (H : Heap) (nx : Nat) (Q : QT) : Prop :=
 a0.sure = true ∧
 a1.sure = true ∧
 za Tryd.prog 21 [] ((H.put nx (some (AObj.row a0.cells.length a0.cells))).put ((nx + 1)) (some (AObj.row a1.cells.length a1.cells))) (nx + 2) (zhq Q nx a2)
theorem zmy (a0 a1 a2 : AV) (H : Heap) (nx : Nat) (Q : QT) : zhp a0 a1 a2 H nx Q → za Tryd.prog 7 [a0, a1, a2] H nx Q :=
  zj (lv := lvOf []) (c := zp Tryd.f7) zy zz mixed Tryd.func7 (by kernel_rfl) (by kernel_rfl) (by kernel_rfl) (by kernel_rfl) (by kernel_rfl)
end Go.Proofs.YtobioljjoipimaaDoor
set_option maxRecDepth 8000
namespace Go.Proofs.YtobioljjoipimaaDoor
open Go Go.RowKit
abbrev XR := AV × List Nat × List Nat × zg
abbrev xp (v : AV) : Option XR := some (v, [], [], [])
abbrev xn (nx : Nat) (o : AObj) (v : AV) : Option XR := some (v, [], [nx], [(nx, some o)])
def xg (b : Bool) (r : Option XR) : Option XR := match b with | true => r | false => none
abbrev XOk (r : Option XR) (A : Kt → Prop) : Prop := ∀ v rd fr D, r = some (v, rd, fr, D) → ∀ k : Kt, k v rd fr D → A k
theorem XOk.none {A : Kt → Prop} : XOk none A := fun _ _ _ _ h => by cases h
theorem XOk.some {v : AV} {rd fr : List Nat} {D : zg} {A : Kt → Prop} (h : ∀ k : Kt, k v rd fr D → A k) : XOk (some (v, rd, fr, D)) A := fun _ _ _ _ e k hk => by cases e; exact h k hk
theorem XOk.pure {v : AV} : XOk (xp v) (PURE v) := XOk.some fun _ h => h
theorem XOk.new {nx : Nat} {o : AObj} {v : AV} : XOk (xn nx o v) (NEW nx o v) := XOk.some fun _ h => h
theorem XOk.gd {b : Bool} {r : Option XR} {A : Kt → Prop} (h : b = true → XOk r A) : XOk (xg b r) A := by
  cases b with
  | true => exact h rfl
  | false => exact XOk.none
theorem zkc {b : Bool} {r : Option XR} {x : XR} : xg b r = some x ↔ b = true ∧ r = some x := by cases b <;> simp [xg]
theorem XOk.mono {r : Option XR} {A B : Kt → Prop} (h : XOk r A) (k : ∀ kt, A kt → B kt) : XOk r B := fun v rd fr D e kt hk => k kt (h v rd fr D e kt hk)
def zabu (c a b : AV) : Option XR := match c with | .bool t => xp (bif t then a else b) | _ => none
theorem zagp {c a b : AV} : XOk (zabu c a b) (PICK c a b) := by
  unfold zabu PICK; split <;> first | exact XOk.pure | exact XOk.none
def zrj (agg : Bool) (sz : Nat) (p : AV) (H : Heap) : Option XR := match rdp H p with
  | some (cells, off, rd) => match ldv agg sz cells off with | some v => some (v, rd, [], []) | none => none
  | none => none
theorem zags {agg : Bool} {sz : Nat} {p : AV} {H : Heap} : XOk (zrj agg sz p H) (LOAD agg sz p H) := by
  intro v rd fr D e k hk
  unfold zrj at e; unfold LOAD
  repeat' split at e
  all_goals (cases e <;> simp_all [PURE, NEW])
def zxt (sz : Nat) (p v : AV) (H : Heap) : Option XR := match p with
  | .ptr g off => match H g with
    | some (.row es cells) => xg (Nat.beq v.cells.length sz && Nat.ble (off + sz) cells.length && v.cells.all AV.one && v.sure) (some (.und, [g], [], [(g, some (.row es (zai cells off v.cells)))]))
    | _ => none
  | _ => none
theorem zaeg {sz : Nat} {p v : AV} {H : Heap} : XOk (zxt sz p v H) (zah sz p v H) := by
  intro v' rd fr D e k hk
  unfold zxt at e; unfold zah
  repeat' split at e
  · simp only [zkc, Bool.and_eq_true, Nat.beq_eq, Nat.ble_eq] at e
    obtain ⟨h, e⟩ := e
    cases e
    simp_all
  · cases e
  · cases e
def zabv (x : AV) : Option XR := match x with
  | .ptr _ _ | .rop _ _ | .clo _ _ => xp x
  | _ => none
theorem zagq {x : AV} : XOk (zabv x) (NILC x) := by
  unfold zabv NILC; split <;> first | exact XOk.pure | exact XOk.none
def zxy (off : Nat) (p : AV) : Option XR := match p with
  | .ptr g o => xp (.ptr g (o + off))
  | .rop cs o => xp (.rop cs (o + off))
  | _ => none
theorem zpq {off : Nat} {p : AV} : XOk (zxy off p) (zml off p) := by
  unfold zxy zml; split <;> first | exact XOk.pure | exact XOk.none
def ztw (agg : Bool) (sz off : Nat) (x : AV) : Option XR := match x with
  | .agg cs => match zqn agg sz off cs with | some v => xp v | none => none
  | _ => none
theorem zvq {agg : Bool} {sz off : Nat} {x : AV} : XOk (ztw agg sz off x) (zdr agg sz off x) := by
  intro v rd fr D e k hk
  unfold ztw at e; unfold zdr
  repeat' split at e
  all_goals (cases e <;> simp_all [PURE, NEW])
def xat (i : AV) (len : Nat) (f : Nat → Option XR) : Option XR := match i with
  | .int _ n => match n with
    | .ofNat m => xg (Nat.blt m len) (f m)
    | .negSucc _ => none
  | _ => none
theorem zpn {i : AV} {len : Nat} {f : Nat → Option XR} {A : Kt → Prop} (h : ∀ (k : IntKind) (m : Nat), i = .int k (m : Int) → m < len → XOk (f m) A) : XOk (xat i len f) A := by
  unfold xat
  split
  · split
    · exact XOk.gd fun hb => h _ _ rfl (by simpa using hb)
    · exact XOk.none
  · exact XOk.none
def zxx (esz : Nat) (x i : AV) : Option XR := match x with
  | .slc g off len => xat i len fun m => xp (.ptr g (off + m * esz))
  | .ro xs => xat i xs.length fun m => match xs.getD m [] with | c => xg (Nat.beq c.length esz) (xp (.rop c 0))
  | _ => none
theorem zpp {esz : Nat} {x i : AV} : XOk (zxx esz x i) (zoy esz x i) := by
  unfold zxx
  split
  · refine zpn fun k m e hm => ?_
    subst e
    exact XOk.pure.mono fun kt h => ⟨by omega, by omega, by simpa using h⟩
  · refine zpn fun k m e hm => ?_
    subst e
    refine XOk.gd fun hb => ?_
    exact XOk.pure.mono fun kt h => ⟨by omega, by omega, by simpa using hb, by simpa using h⟩
  · exact XOk.none
def zaej (esz len : Nat) (p i : AV) : Option XR := xat i len fun m => match p with
  | .ptr g o => xp (.ptr g (o + m * esz))
  | .rop cs o => xp (.rop cs (o + m * esz))
  | _ => none
theorem zps {esz len : Nat} {p i : AV} : XOk (zaej esz len p i) (zoz esz len p i) := by
  refine zpn fun k m e hm => ?_
  subst e
  split
  · exact XOk.pure.mono fun kt h => ⟨by omega, by omega, by simpa using h⟩
  · exact XOk.pure.mono fun kt h => ⟨by omega, by omega, by simpa using h⟩
  · exact XOk.none
def zxv (x i : AV) : Option XR := match x with
  | .str s => xat i s.length fun m => xp (.int .u8 ((s.getD m 0).toNat : Int))
  | _ => none
theorem zaeh {x i : AV} : XOk (zxv x i) (zox x i) := by
  unfold zxv
  split
  · refine zpn fun k m e hm => ?_
    subst e
    exact XOk.pure.mono fun kt h => ⟨by omega, by omega, by simpa using h⟩
  · exact XOk.none
def zaav (agg : Bool) (esz len : Nat) (x i : AV) : Option XR := xat i len fun m => ztw agg esz (m * esz) x
theorem zacn {agg : Bool} {esz len : Nat} {x i : AV} : XOk (zaav agg esz len x i) (zip agg esz len x i) := by
  refine zpn fun k m e hm => ?_
  subst e
  exact zvq.mono fun kt h => ⟨by omega, by omega, by simpa using h⟩
def zaca (x : AV) : Option XR := match x with
  | .str s => xp (.int .i64 (.ofNat s.length))
  | _ => none
theorem zagt {x : AV} : XOk (zaca x) (LENS x) := by unfold zaca LENS; split <;> first | exact XOk.pure | exact XOk.none
def zacc (x : AV) : Option XR := match x with
  | .nils | .zs => xp (.int .i64 0)
  | .slc _ _ n => xp (.int .i64 (.ofNat n))
  | .ro xs => xp (.int .i64 (.ofNat xs.length))
  | _ => none
theorem zagv {x : AV} : XOk (zacc x) (LENL x) := by unfold zacc LENL; split <;> first | exact XOk.pure | exact XOk.none
def zacb (x : AV) (H : Heap) : Option XR := match x with
  | .nilm => xp (.int .i64 0)
  | .amap g => match H g with | some (.mp es) => some (.int .i64 (.ofNat es.length), [g], [], []) | _ => none
  | _ => none
theorem zagu {x : AV} {H : Heap} : XOk (zacb x H) (LENM x H) := by
  intro v rd fr D e k hk
  unfold zacb at e; unfold LENM
  repeat' split at e
  all_goals (cases e <;> simp_all [PURE, NEW])
def zacd (x : AV) (i : Nat) : Option XR := match x with
  | .tup vs => match vs[i]? with | some v => xp v | none => none
  | _ => none
theorem zagw {x : AV} {i : Nat} : XOk (zacd x i) (EXTR x i) := by
  intro v rd fr D e k hk
  unfold zacd at e; unfold EXTR
  repeat' split at e
  all_goals (cases e <;> simp_all [PURE, NEW])
def ztx (place : Nat → Option (Nat × Nat)) (zero : List AV) (parts : List (Nat × AV)) : Option XR := match zbj place zero parts with
  | some cells => xp (.agg cells)
  | none => none
theorem zpr {place : Nat → Option (Nat × Nat)} {zero : List AV} {parts : List (Nat × AV)} : XOk (ztx place zero parts) (zfo place zero parts) := by
  intro v rd fr D e k hk
  unfold ztx at e; unfold zfo
  repeat' split at e
  all_goals (cases e <;> simp_all [PURE, NEW])
def zuz (len esz : Nat) (zero : List AV) (parts : List (Nat × AV)) (r : AV) (nx : Nat) : Option XR :=
  match zbj (fun i => some (i * esz, esz)) ((List.replicate len zero).flatten) parts with
  | some cells => xn nx (.row esz cells) r
  | none => none
theorem znr {len esz : Nat} {zero : List AV} {parts : List (Nat × AV)} {r : AV} {nx : Nat} : XOk (zuz len esz zero parts r nx) (zrh len esz zero parts r nx) := by
  intro v rd fr D e k hk
  unfold zuz at e; unfold zrh
  repeat' split at e
  all_goals (cases e <;> simp_all [PURE, NEW])
def iLt : Int → Int → Bool
  | .ofNat a, .ofNat b => Nat.blt a b
  | .ofNat _, .negSucc _ => false
  | .negSucc _, .ofNat _ => true
  | .negSucc a, .negSucc b => Nat.blt b a
theorem zyu (a b : Int) : iLt a b = decide (a < b) := by
  rw [Bool.eq_iff_iff]
  cases a <;> cases b <;> simp [iLt] <;> omega
def iEq : Int → Int → Bool
  | .ofNat a, .ofNat b => Nat.beq a b
  | .negSucc a, .negSucc b => Nat.beq a b
  | _, _ => false
theorem zuf (a b : Int) : iEq a b = (a == b) := by
  rw [Bool.eq_iff_iff]
  cases a <;> cases b <;> simp [iEq]
  all_goals omega
def znt (k : IntKind) (n : Int) : Int := match k, n with
  | .i64, .ofNat m => bif Nat.blt m 9223372036854775808 then .ofNat m else k.wrap n
  | .i64, .negSucc m => bif Nat.blt m 9223372036854775808 then .negSucc m else k.wrap n
  | _, _ => k.wrap n
theorem zya (k : IntKind) (n : Int) : znt k n = k.wrap n := by
  have key : ∀ z : Int, -9223372036854775808 ≤ z → z < 9223372036854775808 → IntKind.wrap .i64 z = z := by
    intro z h1 h2
    unfold IntKind.wrap
    have eb : IntKind.i64.bits = 64 := rfl
    have es : IntKind.i64.signed = true := rfl
    simp only [eb, es, Bool.true_and, decide_eq_true_eq]
    have e1 : (2 : Int) ^ 64 = 18446744073709551616 := by simp
    have e2 : (2 : Int) ^ (64 - 1) = 9223372036854775808 := by simp
    rw [e1, e2]
    split <;> omega
  unfold znt
  split
  · rename_i m
    cases h : Nat.blt m 9223372036854775808 with
    | false => rw [cond_false]
    | true =>
      simp only [Nat.blt_eq] at h
      rw [cond_true, key _ (by simp only [Int.ofNat_eq_natCast]; omega) (by simp only [Int.ofNat_eq_natCast]; omega)]
  · rename_i m
    cases h : Nat.blt m 9223372036854775808 with
    | false => rw [cond_false]
    | true =>
      simp only [Nat.blt_eq] at h
      rw [cond_true, key _ (by omega) (by omega)]
  · rfl
def sEq : List UInt8 → List UInt8 → Bool
  | [], [] => true
  | a :: r, b :: s => Nat.beq a.toNat b.toNat && sEq r s
  | _, _ => false
theorem zyh : ∀ a b : List UInt8, sEq a b = (a == b)
  | [], [] => rfl
  | [], _ :: _ => rfl
  | _ :: _, [] => rfl
  | a :: r, b :: s => by
    rw [Bool.eq_iff_iff]
    simp only [sEq, zyh r s, Bool.and_eq_true, Nat.beq_eq, beq_iff_eq, List.cons.injEq]
    rw [UInt8.toNat_inj]
def ztv (op : BinOp) (k : IntKind) (a b : Int) : Option XR := match op with
  | .add => xp (.int k (znt k (a + b)))
  | .sub => xp (.int k (znt k (a - b)))
  | .mul => xp (.int k (znt k (a * b)))
  | .quo => xg (!iEq b 0) (xp (.int k (znt k (a.tdiv b))))
  | .rem => xg (!iEq b 0) (xp (.int k (a.tmod b)))
  | .shl => xg (!iLt b 0) (xp (.int k (k.wrap (a * 2 ^ (min b.toNat k.bits)))))
  | .shr => xg (!iLt b 0) (xp (.int k (a.fdiv (2 ^ (min b.toNat k.bits)))))
  | .and | .or | .xor | .andNot => match zfk op k a b with | some r => xp (.int k r) | none => none
  | .eql => xp (.bool (iEq a b))
  | .neq => xp (.bool (!iEq a b))
  | .lss => xp (.bool (iLt a b))
  | .leq => xp (.bool (!iLt b a))
  | .gtr => xp (.bool (iLt b a))
  | .geq => xp (.bool (!iLt a b))
theorem zxw {op : BinOp} {k : IntKind} {a b : Int} : XOk (ztv op k a b) (IBIN op k a b) := by
  unfold ztv IBIN
  cases op <;> simp only [zya, zuf, zyu]
  case quo => exact XOk.gd fun h => XOk.pure.mono fun kt hk => ⟨by simpa using h, hk⟩
  case rem => exact XOk.gd fun h => XOk.pure.mono fun kt hk => ⟨by simpa using h, hk⟩
  case shl => exact XOk.gd fun h => XOk.pure.mono fun kt hk => ⟨by simpa using h, hk⟩
  case shr => exact XOk.gd fun h => XOk.pure.mono fun kt hk => ⟨by simpa using h, hk⟩
  case and =>
    generalize zfk .and k a b = r
    cases r <;> first | exact XOk.none | exact XOk.pure
  case or =>
    generalize zfk .or k a b = r
    cases r <;> first | exact XOk.none | exact XOk.pure
  case xor =>
    generalize zfk .xor k a b = r
    cases r <;> first | exact XOk.none | exact XOk.pure
  case andNot =>
    generalize zfk .andNot k a b = r
    cases r <;> first | exact XOk.none | exact XOk.pure
  case eql => exact XOk.pure
  case neq => exact XOk.pure.mono fun kt h => by simpa [icmp, bne] using h
  case lss => exact XOk.pure
  case leq =>
    have : (!decide (b < a)) = decide (a ≤ b) := by rw [Bool.eq_iff_iff]; simp
    rw [this]; exact XOk.pure
  case gtr => exact XOk.pure
  case geq =>
    have : (!decide (a < b)) = decide (a ≥ b) := by rw [Bool.eq_iff_iff]; simp
    rw [this]; exact XOk.pure
  all_goals exact XOk.pure
def zabt (op : BinOp) (a b : List UInt8) : Option XR := match op with
  | .add => xg (Nat.ble (a.length + b.length) 9223372036854775807) (xp (.str (a ++ b)))
  | .eql => xp (.bool (sEq a b))
  | .neq => xp (.bool (!sEq a b))
  | .lss => xp (.bool (Op.bytesLess a b))
  | .leq => xp (.bool (Op.bytesLess a b || a == b))
  | .gtr => xp (.bool (!(Op.bytesLess a b || a == b)))
  | .geq => xp (.bool (!Op.bytesLess a b))
  | _ => none
theorem zago {op : BinOp} {a b : List UInt8} : XOk (zabt op a b) (SBIN op a b) := by
  unfold zabt SBIN
  cases op <;> simp only [zyh] <;> first | exact XOk.pure | exact XOk.none | skip
  exact XOk.gd fun h => XOk.pure.mono fun kt hk => ⟨by simpa using h, hk⟩
def zack (op : BinOp) (x y : AV) : Option XR := match x, y with
  | .int k a, .int k' b => xg (zaq op || decide (k' = k)) (ztv op k a b)
  | _, _ => none
theorem zaha {op : BinOp} {x y : AV} : XOk (zack op x y) (BINI op x y) := by
  unfold zack BINI
  split
  · exact XOk.gd fun h => zxw.mono fun kt hk => ⟨fun hs => by simpa [hs] using h, hk⟩
  · exact XOk.none
def zach (op : BinOp) (x y : AV) : Option XR := match x, y with
  | .str a, .str b => zabt op a b
  | _, _ => none
theorem zagx {op : BinOp} {x y : AV} : XOk (zach op x y) (BINS op x y) := by
  unfold zach BINS
  split
  · exact zago
  · exact XOk.none
def zacm (op : BinOp) (x y : AV) : Option XR := match zao op with
  | some neg => match x, y with
    | .bool a, .bool b => xp (.bool (neg ^^ (a == b)))
    | _, _ => none
  | none => none
theorem zahc {op : BinOp} {x y : AV} : XOk (zacm op x y) (BINB op x y) := by
  intro v rd fr D e k hk
  unfold zacm at e; unfold BINB
  repeat' split at e
  all_goals (cases e <;> simp_all [PURE, NEW])
def zxi (zs : List AV) (op : BinOp) (x y : AV) : Option XR := match zao op with
  | some neg => match x, y with
    | .agg a, .agg b => xg (zd zs a).isSome (match zd a b with | some t => xp (.bool (neg ^^ t)) | none => none)
    | _, _ => none
  | none => none
theorem ztb {zs : List AV} {op : BinOp} {x y : AV} : XOk (zxi zs op x y) (BINA zs op x y) := by
  intro v rd fr D e k hk
  unfold zxi at e; unfold BINA
  split at e
  · rename_i neg h1
    simp only [h1]
    split at e
    · rw [zkc] at e
      obtain ⟨h, e⟩ := e
      refine ⟨h, ?_⟩
      split at e <;> cases e
      rename_i h3
      simp only [h3, PURE]; exact hk
    · cases e
  · cases e
def zaci (op : BinOp) (x y : AV) : Option XR := match zao op with
  | some neg => match x, y with
    | .nilp, v => match nilP v with | some t => xp (.bool (neg ^^ t)) | none => none
    | v, .nilp => match nilP v with | some t => xp (.bool (neg ^^ t)) | none => none
    | _, _ => none
  | none => none
theorem zagy {op : BinOp} {x y : AV} : XOk (zaci op x y) (BINP op x y) := by
  intro v rd fr D e k hk
  unfold zaci at e; unfold BINP
  repeat' split at e
  all_goals (cases e <;> simp_all [PURE, NEW])
def zacj (op : BinOp) (x y : AV) : Option XR := match zao op, y with
  | some neg, .nils => match x with
    | .nils => xp (.bool (neg ^^ true))
    | .zs => xp .bany
    | .ro xs => match xs with | [] => xp .bany | _ :: _ => xp (.bool (neg ^^ false))
    | .slc _ _ n => match n with | 0 => xp .bany | _ + 1 => xp (.bool (neg ^^ false))
    | _ => none
  | _, _ => none
theorem zagz {op : BinOp} {x y : AV} : XOk (zacj op x y) (BINL op x y) := by
  intro v rd fr D e k hk
  unfold zacj at e; unfold BINL
  repeat' split at e
  all_goals (cases e <;> simp_all [PURE])
def zacl (op : BinOp) (x y : AV) : Option XR := match zao op, y with
  | some neg, .inil => match x with
    | .inil => xp (.bool (neg ^^ true))
    | .ifc => xp (.bool (neg ^^ false))
    | _ => none
  | _, _ => none
theorem zahb {op : BinOp} {x y : AV} : XOk (zacl op x y) (BINF op x y) := by
  intro v rd fr D e k hk
  unfold zacl at e; unfold BINF
  repeat' split at e
  all_goals (cases e <;> simp_all [PURE])
def xUN (op : UnOp) (x : AV) : Option XR := match op, x with
  | .not, .bool b => xp (.bool (!b))
  | .neg, .int k n => ztv .sub k 0 n
  | .xor, .int k n => ztv .xor k (if k.signed then -1 else k.max) n
  | _, _ => none
theorem zakz {op : UnOp} {x : AV} : XOk (xUN op x) (UN op x) := by
  unfold xUN UN
  split <;> first | exact XOk.pure | exact zxw | exact XOk.none
def xlh (lo hi : Option AV) (n : Nat) (f : Nat → Nat → Option XR) : Option XR := match lohi lo hi n with
  | some (a, b) => match a, b with
    | .ofNat a, .ofNat b => xg (Nat.ble a b && Nat.ble b n) (f a b)
    | _, _ => none
  | none => none
theorem zmz {lo hi : Option AV} {n : Nat} {f : Nat → Nat → Option XR} {A : Kt → Prop} (h : ∀ a b : Nat, lohi lo hi n = some ((a : Int), (b : Int)) → a ≤ b → b ≤ n → XOk (f a b) A) : XOk (xlh lo hi n f) A := by
  unfold xlh
  split
  · rename_i a b e
    split
    · refine XOk.gd fun hb => ?_
      simp only [Bool.and_eq_true, Nat.ble_eq] at hb
      exact h _ _ e hb.1 hb.2
    · exact XOk.none
  · exact XOk.none
def zuu (x : AV) (lo hi : Option AV) : Option XR := match x with
  | .str s => xlh lo hi s.length fun a b => xp (.str ((s.take b).drop a))
  | _ => none
theorem zabs {x : AV} {lo hi : Option AV} : XOk (zuu x lo hi) (zgs x lo hi) := by
  unfold zuu zgs
  split
  · refine zmz fun a b e h1 h2 => XOk.pure.mono fun kt hk => ?_
    simp only [e]
    exact ⟨by omega, by omega, by omega, by simpa using hk⟩
  · exact XOk.none
def zxu (esz : Nat) (x : AV) (lo hi : Option AV) (H : Heap) : Option XR := match x with
  | .ro xs => xlh lo hi xs.length fun a b => xg (xs.all fun x => Nat.beq x.length esz) (xp (.ro ((xs.take b).drop a)))
  | .slc g off len => xlh lo hi len fun a b => match H g with
      | some (.row sz _) => xg (Nat.beq sz esz) (some (.slc g (off + a * esz) (b - a), [g], [], []))
      | _ => none
  | .nils => xlh lo hi 0 fun _ _ => xp .nils
  | .zs => xlh lo hi 0 fun _ _ => xp .zs
  | _ => none
theorem zpo {esz : Nat} {x : AV} {lo hi : Option AV} {H : Heap} : XOk (zxu esz x lo hi H) (zbk esz x lo hi H) := by
  unfold zxu zbk
  split
  · refine zmz fun a b e h1 h2 => XOk.gd fun h3 => XOk.pure.mono fun kt hk => ?_
    simp only [e]
    exact ⟨by omega, by omega, by omega, fun x hx => by simpa using List.all_eq_true.1 h3 x hx, by simpa using hk⟩
  · refine zmz fun a b e h1 h2 => ?_
    split
    · rename_i sz cs hg
      refine XOk.gd fun h3 => XOk.some fun kt hk => ?_
      simp only [e]
      simp only [hg]
      refine ⟨by simpa using h3, by omega, by omega, by omega, ?_⟩
      have : ((b : Int) - (a : Int)).toNat = b - a := by omega
      rw [this]; simpa using hk
    · exact XOk.none
  · refine zmz fun a b e h1 h2 => XOk.pure.mono fun kt hk => ?_
    simp only [e]
    exact ⟨by omega, by omega, hk⟩
  · refine zmz fun a b e h1 h2 => XOk.pure.mono fun kt hk => ?_
    simp only [e]
    exact ⟨by omega, by omega, hk⟩
  · exact XOk.none
def zuw (x : AV) (lo hi mx : AV) : Option XR := match lo, hi, mx with
  | .int _ a, .int _ b, .int _ c => xg (iEq a 0 && iEq b 0 && iEq c 0) (match x with
    | .nils => xp .nils
    | .zs | .ro _ | .slc _ _ _ => xp .zs
    | _ => none)
  | _, _, _ => none
theorem znp {x lo hi mx : AV} : XOk (zuw x lo hi mx) (zio x lo hi mx) := by
  unfold zuw zio
  split
  · refine XOk.gd fun h => ?_
    simp only [zuf, Bool.and_eq_true, beq_iff_eq] at h
    split <;> first | exact XOk.pure.mono fun kt hk => ⟨h.1.1, h.1.2, h.2, hk⟩ | exact XOk.none
  · exact XOk.none
def zxz (k : IntKind) (x : AV) : Option XR := match x with | .int _ n => xp (.int k (znt k n)) | _ => none
theorem zaei {k : IntKind} {x : AV} : XOk (zxz k x) (zmm k x) := by
  unfold zxz zmm
  split
  · rw [zya]; exact XOk.pure
  · exact XOk.none
def zuv (esz n : Nat) (x : AV) (lo hi : Option AV) (H : Heap) : Option XR := match x with
  | .ptr g off => xlh lo hi n fun a b => match H g with
      | some (.row sz cells) => xg (Nat.beq sz esz && Nat.ble (off + n * esz) cells.length) (some (.slc g (off + a * esz) (b - a), [g], [], []))
      | _ => none
  | _ => none
theorem zno {esz n : Nat} {x : AV} {lo hi : Option AV} {H : Heap} : XOk (zuv esz n x lo hi H) (zlh esz n x lo hi H) := by
  unfold zuv zlh
  split
  · refine zmz fun a b e h1 h2 => ?_
    split
    · rename_i sz cs hg
      refine XOk.gd fun h3 => XOk.some fun kt hk => ?_
      simp only [Bool.and_eq_true, Nat.beq_eq, Nat.ble_eq] at h3
      simp only [e]
      simp only [hg]
      refine ⟨h3.1, h3.2, by omega, by omega, by omega, ?_⟩
      have : ((b : Int) - (a : Int)).toNat = b - a := by omega
      rw [this]; simpa using hk
    · exact XOk.none
  · exact XOk.none
def xMM (mn : Bool) (x y : AV) : Option AV := match x, y with
  | .int ki a, .int kj b => match decide (ki = kj) with
    | true => some (.int ki (bif mn then (bif iLt b a then b else a) else (bif iLt a b then b else a)))
    | false => none
  | _, _ => none
def zkd (mn : Bool) (x y : AV) : Option XR := match xMM mn x y with | some v => xp v | none => none
theorem znq {mn : Bool} {x y : AV} : XOk (zkd mn x y) (zbv mn x y) := by
  unfold zkd xMM zbv
  split
  · rename_i h
    split at h
    · split at h
      · rename_i hk
        cases h
        refine XOk.pure.mono fun kt hk' => ⟨by simpa using hk, ?_⟩
        simp only [zyu] at hk'
        cases mn <;> simp only [cond_true, cond_false, Bool.cond_decide] at hk' ⊢ <;> exact hk'
      · cases h
    · cases h
  · exact XOk.none
def zabx (x y z : AV) : Option XR := match xMM false x y with | some v => zkd false v z | none => none
theorem zagr {x y z : AV} : XOk (zabx x y z) (MAX3 x y z) := by
  unfold zabx MAX3
  split
  · rename_i v h
    intro v' rd fr D e k hk
    refine znq v [] [] [] (by unfold zkd; rw [h]) _ (znq v' rd fr D e k hk)
  · exact XOk.none
def zuy (x : AV) (H : Heap) : Option XR := match x with
  | .str _ => none
  | x => match zi 1 H x with
    | some (_, news, rd) => match bytesOf? news with
      | some s => some (.str s, rd, [], [])
      | none => none
    | none => none
theorem zacg {x : AV} {H : Heap} : XOk (zuy x H) (zlj x H) := by
  intro v rd fr D e k hk
  unfold zuy at e; unfold zlj
  repeat' split at e
  all_goals (cases e <;> simp_all [PURE, NEW])
def zux (x : AV) (nx : Nat) : Option XR := match x with
  | .str s => xn nx (.row 1 (s.map fun b => .int .u8 (b.toNat : Int))) (.slc nx 0 s.length)
  | _ => none
theorem zacf {x : AV} {nx : Nat} : XOk (zux x nx) (znj x nx) := by
  unfold zux znj; split <;> first | exact XOk.new | exact XOk.none
def zva (esz bytes : Nat) (s x : AV) (H : Heap) (nx : Nat) : Option XR :=
  match zi esz H x with
  | some (m, news, rd) => xg (news.all AV.one) (match s with
    | .nils => match m with | 0 => some (.nils, rd, [], []) | m + 1 => xg (Nat.ble ((m + 1) * bytes) 140737488355328) (some (.slc nx 0 (m + 1), rd, [nx], [(nx, some (.row esz news))]))
    | .zs => match m with | 0 => some (.zs, rd, [], []) | m + 1 => xg (Nat.ble ((m + 1) * bytes) 140737488355328) (some (.slc nx 0 (m + 1), rd, [nx], [(nx, some (.row esz news))]))
    | .slc g off len => match H g with
      | some (.row sz cells) => xg (Nat.beq sz esz && Nat.ble (off + len * esz) cells.length && Nat.ble ((len + m) * bytes) 140737488355328)
          (some (.slc nx 0 (len + m), g :: rd, [nx], [(g, none), (nx, some (.row esz ((cells.drop off).take (len * esz) ++ news)))]))
      | _ => none
    | _ => none)
  | none => none
theorem zjo {esz bytes : Nat} {s x : AV} {H : Heap} {nx : Nat} : XOk (zva esz bytes s x H nx) (zad esz bytes s x H nx) := by
  unfold zva zad
  cases hs : zi esz H x with
  | none => exact XOk.none
  | some p =>
    obtain ⟨m, news, rd⟩ := p
    refine XOk.gd fun h0 => ?_
    cases s
    case nils =>
      cases m with
      | zero => exact XOk.some fun kt hk => ⟨h0, fun _ => hk, fun h => absurd rfl h⟩
      | succ m => exact XOk.gd fun h => XOk.some fun kt hk => ⟨h0, fun h => by omega, fun _ => ⟨by simpa using h, hk⟩⟩
    case zs =>
      cases m with
      | zero => exact XOk.some fun kt hk => ⟨h0, fun _ => hk, fun h => absurd rfl h⟩
      | succ m => exact XOk.gd fun h => XOk.some fun kt hk => ⟨h0, fun h => by omega, fun _ => ⟨by simpa using h, hk⟩⟩
    case slc g off len =>
      cases hg : H g with
      | none => simp only [hg]; exact XOk.none
      | some ob =>
        cases ob with
        | row sz cells =>
          simp only [hg]
          refine XOk.gd fun h => XOk.some fun kt hk => ?_
          simp only [Bool.and_eq_true, Nat.beq_eq, Nat.ble_eq] at h
          exact ⟨h0, h.1.1, h.1.2, h.2, hk⟩
        | mp es => simp only [hg]; exact XOk.none
        | it a b c => simp only [hg]; exact XOk.none
    all_goals exact XOk.none
def zaby (esz bytes : Nat) (zero : List AV) (l c : AV) (nx : Nat) : Option XR := match l, c with
  | .int _ n, .int _ m => match n with
    | .ofNat a => xg (iEq m n && Nat.ble a 140737488355328 && Nat.ble (a * bytes) 140737488355328) (xn nx (.row esz ((List.replicate a zero).flatten)) (.slc nx 0 a))
    | .negSucc _ => none
  | _, _ => none
theorem zsy {esz bytes : Nat} {zero : List AV} {l c : AV} {nx : Nat} : XOk (zaby esz bytes zero l c nx) (MAKE esz bytes zero l c nx) := by
  unfold zaby MAKE
  split
  · split
    · refine XOk.gd fun h => XOk.new.mono fun kt hk => ?_
      simp only [zuf, Bool.and_eq_true, beq_iff_eq, Nat.ble_eq] at h
      exact ⟨h.1.1, by simp, by rw [Int.ofNat_eq_natCast]; omega, by simpa using h.2, by simpa using hk⟩
    · exact XOk.none
  · exact XOk.none
def zace (esz : Nat) (d x : AV) (H : Heap) : Option XR :=
  match zi esz H x with
  | some (m, news, rd) => match d with
    | .nils | .zs => some (.int .i64 0, rd, [], [])
    | .slc g off len => match H g with
      | some (.row sz cells) => xg (Nat.beq sz esz && Nat.ble (off + len * esz) cells.length && news.all AV.one)
          (some (.int .i64 (min m len : Nat), g :: rd, [], [(g, some (.row sz (zai cells off (news.take (min m len * esz)))))]))
      | _ => none
    | _ => none
  | none => none
theorem zta {esz : Nat} {d x : AV} {H : Heap} : XOk (zace esz d x H) (COPY esz d x H) := by
  unfold zace COPY
  cases hs : zi esz H x with
  | none => exact XOk.none
  | some p =>
    obtain ⟨m, news, rd⟩ := p
    cases d
    case nils => exact XOk.some fun _ h => h
    case zs => exact XOk.some fun _ h => h
    case slc g off len =>
      cases hg : H g with
      | none => simp only [hg]; exact XOk.none
      | some ob =>
        cases ob with
        | row sz cells =>
          simp only [hg]
          refine XOk.gd fun h => XOk.some fun kt hk => ?_
          simp only [Bool.and_eq_true, Nat.beq_eq, Nat.ble_eq] at h
          exact ⟨h.1.1, h.1.2, h.2, hk⟩
        | mp es => simp only [hg]; exact XOk.none
        | it a b c => simp only [hg]; exact XOk.none
    all_goals exact XOk.none
def zabz (zero : List AV) (agg : Bool) (m key : AV) (ok : Bool) (H : Heap) : Option XR :=
  match m with
  | .nilm => xp (bif ok then .tup [(bif agg then .agg zero else zero.getD 0 .junk), .bool false] else (bif agg then .agg zero else zero.getD 0 .junk))
  | .amap g => match H g with
    | some (.mp es) => match zal key es with
      | some (some (_, v)) => some (bif ok then .tup [v, .bool true] else v, [g], [], [])
      | some none => some (bif ok then .tup [(bif agg then .agg zero else zero.getD 0 .junk), .bool false] else (bif agg then .agg zero else zero.getD 0 .junk), [g], [], [])
      | none => none
    | _ => none
  | _ => none
theorem zsz {zero : List AV} {agg ok : Bool} {m key : AV} {H : Heap} : XOk (zabz zero agg m key ok H) (LOOK zero agg m key ok H) := by
  intro v rd fr D e k hk
  unfold zabz at e; unfold LOOK
  repeat' split at e
  all_goals (cases e <;> simp_all [PURE, NEW])
def zabw (m key v : AV) (H : Heap) : Option XR := match m with
  | .amap g => match H g with
    | some (.mp es) => match zal key es with
      | some (some (i, _)) => some (.und, [g], [], [(g, some (.mp (es.set i (key, v))))])
      | some none => some (.und, [g], [], [(g, some (.mp (es ++ [(key, v)])))])
      | none => none
    | _ => none
  | _ => none
theorem zsx {m key v : AV} {H : Heap} : XOk (zabw m key v H) (MUPD m key v H) := by
  intro v rd fr D e k hk
  unfold zabw at e; unfold MUPD
  repeat' split at e
  all_goals (cases e <;> simp_all [PURE, NEW])
section
variable (T : Nat → Option AT) (eqs : Nat → Bool)
def xaop (e : Operand → AV) (H : Heap) (nx : Nat) (o : Oper) : Option XR :=
  match o.op with
  | .move x | .assign x => xp (e x)
  | .pick c a b => zabu (e c) (e a) (e b)
  | .alloc t => match T t with | some a => xn nx (.row (zxj T a) a.zero) (.ptr nx 0) | none => none
  | .box _ v => match e v with | v => xg v.sure (xn nx (.row v.cells.length v.cells) (.ptr nx 0))
  | .build t ps => match T t with
    | some ⟨.struct fs, _, _, zero⟩ => xg (fs.all fun p => zb T p.1 != 0) (ztx (zaa T fs) zero (ps.toList.map fun p => (p.1, e p.2)))
    | some ⟨.array _ el, _, _, zero⟩ => xg (zb T el != 0) (ztx (fun i => some (i * zb T el, zb T el)) zero (ps.toList.map fun p => (p.1, e p.2)))
    | _ => none
  | .buildSlice t len ps => match T t with
    | some ⟨.slice el, _, _, _⟩ => match T el with
      | some a => xg (Nat.ble (len * a.size) 16777216 && Nat.blt 0 a.size) (zuz len a.size a.zero (ps.toList.map fun p => (p.1, e p.2)) (zv eqs t len nx) nx)
      | none => none
    | _ => none
  | .load t p => match T t with | some a => zrj a.kind.isAgg a.size (e p) H | none => none
  | .store t p v => match T t with | some a => zxt a.size (e p) (e v) H | none => none
  | .nilCheck x => zabv (e x)
  | .binOp op t x y _ => match T t with
    | some ⟨.int _, _, _, _⟩ => zack op (e x) (e y)
    | some ⟨.str, _, _, _⟩ => zach op (e x) (e y)
    | some ⟨.bool, _, _, _⟩ => zacm op (e x) (e y)
    | some ⟨.struct _, _, _, zs⟩ => xg (eqs t) (zxi zs op (e x) (e y))
    | some ⟨.array _ _, _, _, zs⟩ => xg (eqs t) (zxi zs op (e x) (e y))
    | some ⟨.ptr _, _, _, _⟩ => zaci op (e x) (e y)
    | some ⟨.slice _, _, _, _⟩ => zacj op (e x) (e y)
    | some ⟨.iface, _, _, _⟩ => match y with | .const _ => zacl op (e x) (e y) | _ => none
    | _ => none
  | .unOp op _ x => xUN op (e x)
  | .convert s d x => match T s, T d with
    | some ⟨.int _, _, _, _⟩, some ⟨.int kd, _, _, _⟩ => zxz kd (e x)
    | some ⟨.slice el, _, _, _⟩, some ⟨.str, _, _, _⟩ => match T el with
      | some ⟨.int .u8, _, _, _⟩ => zuy (e x) H
      | _ => none
    | some ⟨.str, _, _, _⟩, some ⟨.slice el, _, _, _⟩ => match T el with
      | some ⟨.int .u8, _, _, _⟩ => zux (e x) nx
      | _ => none
    | _, _ => none
  | .makeFunc fn first cap => match fn, first.toList with
    | .func f, [] => xp (.clo f (cap.toList.map e))
    | _, _ => none
  | .makeMap _ r => match r with
    | none => xn nx (.mp []) (.amap nx)
    | some _ => none
  | .makeSlice t l c => match T t with
    | some ⟨.slice el, _, _, _⟩ => match T el with | some a => xg (Nat.blt 0 a.size) (zaby a.size a.bytes a.zero (e l) (e c) nx) | none => none
    | _ => none
  | .slice t x lo hi mx => match mx with
    | none => match T t with
      | some ⟨.slice el, _, _, _⟩ => xg (zb T el != 0) (zxu (zb T el) (e x) (lo.map e) (hi.map e) H)
      | some ⟨.str, _, _, _⟩ => zuu (e x) (lo.map e) (hi.map e)
      | some ⟨.ptr ar, _, _, _⟩ => match T ar with
        | some ⟨.array n el, _, _, _⟩ => xg (zb T el != 0) (zuv (zb T el) n (e x) (lo.map e) (hi.map e) H)
        | _ => none
      | _ => none
    | some mx => match lo, hi with
      | some lo, some hi => match T t with
        | some ⟨.slice el, _, _, _⟩ => xg (zb T el != 0) (zuw (e x) (e lo) (e hi) (e mx))
        | _ => none
      | _, _ => none
  | .fieldAddr t x f => match T t with
    | some ⟨.struct fs, _, _, _⟩ => match zaa T fs f with | some (off, sz) => xg (sz != 0) (zxy off (e x)) | none => none
    | _ => none
  | .field t x f => match T t with
    | some ⟨.struct fs, _, _, _⟩ => match fs[f]? with
      | some (ft, off) => match T ft with | some a => ztw a.kind.isAgg a.size off (e x) | none => none
      | none => none
    | _ => none
  | .indexAddr t x i => match T t with
    | some ⟨.slice el, _, _, _⟩ => xg (zb T el != 0) (zxx (zb T el) (e x) (e i))
    | some ⟨.array n el, _, _, _⟩ => xg (zb T el != 0) (zaej (zb T el) n (e x) (e i))
    | _ => none
  | .index t x i => match T t with
    | some ⟨.str, _, _, _⟩ => zxv (e x) (e i)
    | some ⟨.array n el, _, _, _⟩ => match T el with | some a => zaav a.kind.isAgg a.size n (e x) (e i) | none => none
    | _ => none
  | .lookup t m key ok => match T t with
    | some ⟨.map kt el, _, _, _⟩ => match T el, T kt with | some a, some ka => xg (zx ka.kind (e key)) (zabz a.zero a.kind.isAgg (e m) (e key) ok H) | _, _ => none
    | _ => none
  | .mapUpdate t m key v | .insert t m key v => match T t with
    | some ⟨.map kt _, _, _, _⟩ => match T kt with | some ka => xg (zx ka.kind (e key)) (zabw (e m) (e key) (e v) H) | none => none
    | _ => none
  | .extract x i => zacd (e x) i
  | .call c => match c.callee, c.args.toList, c.argTypes.toList with
    | .builtin .len, [x], [t] => match T t with
      | some ⟨.str, _, _, _⟩ => zaca (e x)
      | some ⟨.slice _, _, _, _⟩ => zacc (e x)
      | some ⟨.map _ _, _, _, _⟩ => zacb (e x) H
      | _ => none
    | .builtin .min, [x, y], [_, _] => zkd true (e x) (e y)
    | .builtin .max, [x, y], [_, _] => zkd false (e x) (e y)
    | .builtin .max, [x, y, z], [_, _, _] => zabx (e x) (e y) (e z)
    | .builtin .append, [s, x], [t, t2] => match T t with
      | some ⟨.slice el, _, _, _⟩ => match T el with | some a => xg (Nat.blt 0 a.size && Nat.blt 0 a.bytes && (zig T t2 || zme T t2)) (zva a.size a.bytes (e s) (srcV T t2 a.zero (e x)) H nx) | none => none
      | _ => none
    | .builtin .copy, [d, x], [t, _] => match T t with
      | some ⟨.slice el, _, _, _⟩ => match T el with | some a => xg (Nat.blt 0 a.size) (zace a.size (e d) (e x) H) | none => none
      | _ => none
    | _, _, _ => none
  | _ => none
theorem zaau {e : Operand → AV} {H : Heap} {nx : Nat} {o : Oper} : XOk (xaop T eqs e H nx o) (aop T eqs e H nx o) := by
  intro v rd fr D h k hk
  cases hop : o.op <;> simp only [xaop, hop] at h <;> simp only [aop, hop]
  all_goals (repeat' split at h)
  all_goals first
    | (cases h; done)
    | (simp only [zkc, Bool.and_eq_true, Nat.blt_eq, Nat.ble_eq, bne_iff_ne] at h; simp only [*])
    | simp only [*]
    | skip
  all_goals first
    | with_reducible exact hk
    | (cases h; exact hk)
    | with_reducible exact zagp _ _ _ _ h _ hk
    | with_reducible exact zags _ _ _ _ h _ hk
    | with_reducible exact zaeg _ _ _ _ h _ hk
    | with_reducible exact zagq _ _ _ _ h _ hk
    | with_reducible exact zaha _ _ _ _ h _ hk
    | with_reducible exact zagx _ _ _ _ h _ hk
    | with_reducible exact zahc _ _ _ _ h _ hk
    | with_reducible exact zagy _ _ _ _ h _ hk
    | with_reducible exact zagz _ _ _ _ h _ hk
    | with_reducible exact zahb _ _ _ _ h _ hk
    | with_reducible exact zakz _ _ _ _ h _ hk
    | with_reducible exact zaei _ _ _ _ h _ hk
    | with_reducible exact zacg _ _ _ _ h _ hk
    | with_reducible exact zacf _ _ _ _ h _ hk
    | with_reducible exact zabs _ _ _ _ h _ hk
    | with_reducible exact zvq _ _ _ _ h _ hk
    | with_reducible exact zaeh _ _ _ _ h _ hk
    | with_reducible exact zacn _ _ _ _ h _ hk
    | with_reducible exact zagw _ _ _ _ h _ hk
    | with_reducible exact zagt _ _ _ _ h _ hk
    | with_reducible exact zagv _ _ _ _ h _ hk
    | with_reducible exact zagu _ _ _ _ h _ hk
    | with_reducible exact znq _ _ _ _ h _ hk
    | with_reducible exact zagr _ _ _ _ h _ hk
    | (obtain ⟨hb, h⟩ := h; try simp only [true_and]
       first
        | (cases h; exact hk)
        | with_reducible exact zpr _ _ _ _ h _ hk
        | with_reducible exact ⟨hb, zpr _ _ _ _ h _ hk⟩
        | with_reducible exact ⟨hb.1, hb.2, zpr _ _ _ _ h _ hk⟩
        | with_reducible exact ztb _ _ _ _ h _ hk
        | with_reducible exact ⟨hb, ztb _ _ _ _ h _ hk⟩
        | with_reducible exact ⟨hb.1, hb.2, ztb _ _ _ _ h _ hk⟩
        | with_reducible exact zpo _ _ _ _ h _ hk
        | with_reducible exact ⟨hb, zpo _ _ _ _ h _ hk⟩
        | with_reducible exact ⟨hb.1, hb.2, zpo _ _ _ _ h _ hk⟩
        | with_reducible exact zno _ _ _ _ h _ hk
        | with_reducible exact ⟨hb, zno _ _ _ _ h _ hk⟩
        | with_reducible exact ⟨hb.1, hb.2, zno _ _ _ _ h _ hk⟩
        | with_reducible exact znp _ _ _ _ h _ hk
        | with_reducible exact ⟨hb, znp _ _ _ _ h _ hk⟩
        | with_reducible exact ⟨hb.1, hb.2, znp _ _ _ _ h _ hk⟩
        | with_reducible exact zpq _ _ _ _ h _ hk
        | with_reducible exact ⟨hb, zpq _ _ _ _ h _ hk⟩
        | with_reducible exact ⟨hb.1, hb.2, zpq _ _ _ _ h _ hk⟩
        | with_reducible exact zpp _ _ _ _ h _ hk
        | with_reducible exact ⟨hb, zpp _ _ _ _ h _ hk⟩
        | with_reducible exact ⟨hb.1, hb.2, zpp _ _ _ _ h _ hk⟩
        | with_reducible exact zps _ _ _ _ h _ hk
        | with_reducible exact ⟨hb, zps _ _ _ _ h _ hk⟩
        | with_reducible exact ⟨hb.1, hb.2, zps _ _ _ _ h _ hk⟩
        | with_reducible exact zsy _ _ _ _ h _ hk
        | with_reducible exact ⟨hb, zsy _ _ _ _ h _ hk⟩
        | with_reducible exact ⟨hb.1, hb.2, zsy _ _ _ _ h _ hk⟩
        | with_reducible exact zta _ _ _ _ h _ hk
        | with_reducible exact ⟨hb, zta _ _ _ _ h _ hk⟩
        | with_reducible exact ⟨hb.1, hb.2, zta _ _ _ _ h _ hk⟩
        | with_reducible exact zsz _ _ _ _ h _ hk
        | with_reducible exact ⟨hb, zsz _ _ _ _ h _ hk⟩
        | with_reducible exact ⟨hb.1, hb.2, zsz _ _ _ _ h _ hk⟩
        | with_reducible exact zsx _ _ _ _ h _ hk
        | with_reducible exact ⟨hb, zsx _ _ _ _ h _ hk⟩
        | with_reducible exact ⟨hb.1, hb.2, zsx _ _ _ _ h _ hk⟩
        | with_reducible exact znr _ _ _ _ h _ hk
        | with_reducible exact ⟨hb, znr _ _ _ _ h _ hk⟩
        | with_reducible exact ⟨hb.1, hb.2, znr _ _ _ _ h _ hk⟩
        | with_reducible exact zjo _ _ _ _ h _ hk
        | with_reducible exact ⟨hb, zjo _ _ _ _ h _ hk⟩
        | with_reducible exact ⟨hb.1, hb.2, zjo _ _ _ _ h _ hk⟩
        | exact ⟨hb.1.1, hb.1.2, hb.2, zjo _ _ _ _ h _ hk⟩)
    | skip
end
end Go.Proofs.YtobioljjoipimaaDoor
set_option maxRecDepth 8000
namespace Go.Proofs.YtobioljjoipimaaDoor
open Go Go.RowKit
/-! Trees by number. -/
inductive Tr (α : Type) where
  | nil
  | node (v : Option α) (l r : Tr α)
noncomputable def Tr.get {α : Type} (t : Tr α) : Nat → Option α :=
  Tr.rec (motive := fun _ => Nat → Option α) (fun _ => none) (fun v _ _ gl gr k => match k with
    | 0 => v
    | k + 1 => bif Nat.beq (Nat.mod k 2) 0 then gl (Nat.div k 2) else gr (Nat.div k 2)) t
def Tr.setK {α β : Type} : Nat → Tr α → Nat → Option α → (Tr α → β) → β
  | 0, t, _, _, c => c t
  | f + 1, t, k, v, c => match k with
    | 0 => match t with
      | .nil => c (.node v .nil .nil)
      | .node _ l r => c (.node v l r)
    | k + 1 => match t with
      | .nil => bif Nat.beq (Nat.mod k 2) 0 then Tr.setK f .nil (Nat.div k 2) v fun l => c (.node none l .nil) else Tr.setK f .nil (Nat.div k 2) v fun r => c (.node none .nil r)
      | .node w l r => bif Nat.beq (Nat.mod k 2) 0 then Tr.setK f l (Nat.div k 2) v fun l => c (.node w l r) else Tr.setK f r (Nat.div k 2) v fun r => c (.node w l r)
def Tr.set {α : Type} (t : Tr α) (k : Nat) (v : Option α) : Tr α := Tr.setK (k + 1) t k v id
theorem Tr.setK_eq {α β : Type} : ∀ (f : Nat) (t : Tr α) (k : Nat) (v : Option α) (c : Tr α → β), Tr.setK f t k v c = c (Tr.setK f t k v id)
  | 0, t, k, v, c => rfl
  | f + 1, t, 0, v, c => by cases t <;> rfl
  | f + 1, t, k + 1, v, c => by
    cases t with
    | nil =>
      simp only [Tr.setK]
      cases Nat.beq (Nat.mod k 2) 0 with
      | true => exact (Tr.setK_eq f _ _ _ _).trans (congrArg c (Tr.setK_eq f _ _ _ (fun l => Tr.node none l .nil)).symm)
      | false => exact (Tr.setK_eq f _ _ _ _).trans (congrArg c (Tr.setK_eq f _ _ _ (fun r => Tr.node none .nil r)).symm)
    | node w l r =>
      simp only [Tr.setK]
      cases Nat.beq (Nat.mod k 2) 0 with
      | true => exact (Tr.setK_eq f _ _ _ _).trans (congrArg c (Tr.setK_eq f _ _ _ (fun l => Tr.node w l r)).symm)
      | false => exact (Tr.setK_eq f _ _ _ _).trans (congrArg c (Tr.setK_eq f _ _ _ (fun r => Tr.node w l r)).symm)
theorem Tr.get_nil {α : Type} (j : Nat) : (Tr.nil : Tr α).get j = none := rfl
theorem Tr.get_set {α : Type} : ∀ (f : Nat) (t : Tr α) (k : Nat) (v : Option α) (j : Nat), k < f → (Tr.setK f t k v id).get j = if j = k then v else t.get j
  | 0, t, k, v, j, h => by omega
  | f + 1, t, 0, v, j, _ => by
    cases t <;> cases j <;> simp [Tr.setK, Tr.get]
  | f + 1, t, k + 1, v, j, h => by
    have hk : Nat.div k 2 < f := by have : Nat.div k 2 = k / 2 := rfl; omega
    have e2 : ∀ a : Nat, Nat.div a 2 = a / 2 := fun _ => rfl
    have m2 : ∀ a : Nat, Nat.mod a 2 = a % 2 := fun _ => rfl
    cases t with
    | nil =>
      simp only [Tr.setK]
      cases hb : Nat.beq (Nat.mod k 2) 0 with
      | true =>
        simp only [cond_true]
        rw [Tr.setK_eq]
        cases j with
        | zero => simp [Tr.get]
        | succ j =>
          show (bif Nat.beq (Nat.mod j 2) 0 then (Tr.setK f .nil (Nat.div k 2) v id).get (Nat.div j 2) else (Tr.nil : Tr α).get (Nat.div j 2)) = _
          rw [Nat.beq_eq, m2] at hb
          cases hj : Nat.beq (Nat.mod j 2) 0 with
          | true =>
            rw [Nat.beq_eq, m2] at hj
            simp only [cond_true]
            rw [Tr.get_set f _ _ _ _ hk, e2, e2]
            by_cases he : j = k
            · simp [he]
            · rw [if_neg (by omega), if_neg (by omega)]; rfl
          | false =>
            rw [← Bool.not_eq_true, Nat.beq_eq, m2] at hj
            simp only [cond_false]
            rw [if_neg (by omega)]; rfl
      | false =>
        simp only [cond_false]
        rw [Tr.setK_eq]
        cases j with
        | zero => simp [Tr.get]
        | succ j =>
          show (bif Nat.beq (Nat.mod j 2) 0 then (Tr.nil : Tr α).get (Nat.div j 2) else (Tr.setK f .nil (Nat.div k 2) v id).get (Nat.div j 2)) = _
          rw [← Bool.not_eq_true, Nat.beq_eq, m2] at hb
          cases hj : Nat.beq (Nat.mod j 2) 0 with
          | true =>
            rw [Nat.beq_eq, m2] at hj
            simp only [cond_true]
            rw [if_neg (by omega)]; rfl
          | false =>
            rw [← Bool.not_eq_true, Nat.beq_eq, m2] at hj
            simp only [cond_false]
            rw [Tr.get_set f _ _ _ _ hk, e2, e2]
            by_cases he : j = k
            · simp [he]
            · rw [if_neg (by omega), if_neg (by omega)]; rfl
    | node w l r =>
      simp only [Tr.setK]
      cases hb : Nat.beq (Nat.mod k 2) 0 with
      | true =>
        simp only [cond_true]
        rw [Tr.setK_eq]
        cases j with
        | zero => simp [Tr.get]
        | succ j =>
          show (bif Nat.beq (Nat.mod j 2) 0 then (Tr.setK f l (Nat.div k 2) v id).get (Nat.div j 2) else r.get (Nat.div j 2)) = if _ then _ else (bif Nat.beq (Nat.mod j 2) 0 then l.get (Nat.div j 2) else r.get (Nat.div j 2))
          rw [Nat.beq_eq, m2] at hb
          cases hj : Nat.beq (Nat.mod j 2) 0 with
          | true =>
            rw [Nat.beq_eq, m2] at hj
            simp only [cond_true]
            rw [Tr.get_set f _ _ _ _ hk, e2, e2]
            by_cases he : j = k
            · simp [he]
            · rw [if_neg (by omega), if_neg (by omega)]
          | false =>
            rw [← Bool.not_eq_true, Nat.beq_eq, m2] at hj
            simp only [cond_false]
            rw [if_neg (by omega)]
      | false =>
        simp only [cond_false]
        rw [Tr.setK_eq]
        cases j with
        | zero => simp [Tr.get]
        | succ j =>
          show (bif Nat.beq (Nat.mod j 2) 0 then l.get (Nat.div j 2) else (Tr.setK f r (Nat.div k 2) v id).get (Nat.div j 2)) = if _ then _ else (bif Nat.beq (Nat.mod j 2) 0 then l.get (Nat.div j 2) else r.get (Nat.div j 2))
          rw [← Bool.not_eq_true, Nat.beq_eq, m2] at hb
          cases hj : Nat.beq (Nat.mod j 2) 0 with
          | true =>
            rw [Nat.beq_eq, m2] at hj
            simp only [cond_true]
            rw [if_neg (by omega)]
          | false =>
            rw [← Bool.not_eq_true, Nat.beq_eq, m2] at hj
            simp only [cond_false]
            rw [Tr.get_set f _ _ _ _ hk, e2, e2]
            by_cases he : j = k
            · simp [he]
            · rw [if_neg (by omega), if_neg (by omega)]
/-! Values, looked at before they are laid. -/
section
variable {β : Type}
def fN (n : Nat) (c : Nat → β) : β := match n with
  | 0 => c 0
  | m + 1 => c (Nat.succ m)
theorem zxl (n : Nat) (c : Nat → β) : fN n c = c n := by cases n <;> rfl
def fI (n : Int) (c : Int → β) : β := match n with
  | .ofNat a => fN a fun a => c (.ofNat a)
  | .negSucc a => fN a fun a => c (.negSucc a)
theorem zamr (n : Int) (c : Int → β) : fI n c = c n := by cases n <;> simp [fI, zxl]
def fL {α : Type} : List α → (List α → β) → β
  | [], c => c []
  | x :: r, c => fL r fun r => c (x :: r)
theorem zadi {α : Type} : ∀ (l : List α) (c : List α → β), fL l c = c l
  | [], c => rfl
  | x :: r, c => by simp only [fL]; rw [zadi r]
def fV0 (v : AV) (c : AV → β) : β := match v with
  | .int k n => fI n fun n => c (.int k n)
  | .bool b => match b with | true => c (.bool true) | false => c (.bool false)
  | .str s => fL s fun s => c (.str s)
  | .ptr g o => fN g fun g => fN o fun o => c (.ptr g o)
  | .slc g o n => fN g fun g => fN o fun o => fN n fun n => c (.slc g o n)
  | .amap g => fN g fun g => c (.amap g)
  | .ro xs => fL xs fun xs => c (.ro xs)
  | .rop cs o => fL cs fun cs => fN o fun o => c (.rop cs o)
  | .clo f xs => fL xs fun xs => c (.clo f xs)
  | .junk => c .junk | .und => c .und | .bany => c .bany | .nilp => c .nilp | .nils => c .nils | .nilf => c .nilf | .nilm => c .nilm | .zs => c .zs | .inil => c .inil | .ifc => c .ifc
  | .agg xs => c (.agg xs)
  | .tup xs => c (.tup xs)
theorem zuj (v : AV) (c : AV → β) : fV0 v c = c v := by
  cases v <;> simp only [fV0, zamr, zadi, zxl]
  rename_i b; cases b <;> rfl
def fCs : List AV → (List AV → β) → β
  | [], c => c []
  | x :: r, c => fV0 x fun x => fCs r fun r => c (x :: r)
theorem zza : ∀ (l : List AV) (c : List AV → β), fCs l c = c l
  | [], c => rfl
  | x :: r, c => by simp only [fCs, zuj]; rw [zza r]
def fV (v : AV) (c : AV → β) : β := match v with
  | .agg xs => fCs xs fun xs => c (.agg xs)
  | .tup xs => fCs xs fun xs => c (.tup xs)
  | v => fV0 v c
theorem zui (v : AV) (c : AV → β) : fV v c = c v := by
  cases v <;> simp only [fV, zuj, zza]
def fO (o : AObj) (c : AObj → β) : β := match o with
  | .row s cs => fCs cs fun cs => c (.row s cs)
  | .mp es => fL es fun es => c (.mp es)
  | .it g n l => fL l fun l => c (.it g n l)
theorem zajo (o : AObj) (c : AObj → β) : fO o c = c o := by cases o <;> simp only [fO, zza, zadi]
end
abbrev EB := Tr AV
abbrev HB := Tr AObj
noncomputable def toE (E : EB) : Env := fun k => match E.get k with | some v => v | none => .junk
noncomputable def toH (H : HB) : Heap := fun g => H.get g
section
variable {β : Type}
def putE (E : EB) (d : Option Nat) (v : AV) (c : EB → β) : β := match d with
  | none => c E
  | some t => Tr.setK (t + 1) E t (some v) c
def putD : zg → HB → (HB → β) → β
  | [], H, c => c H
  | (g, o) :: r, H, c => match o with
    | none => Tr.setK (g + 1) H g none fun H => putD r H c
    | some o => fO o fun o => Tr.setK (g + 1) H g (some o) fun H => putD r H c
end
def zrl (E : EB) (d : Option Nat) (v : AV) : EB := putE E d v id
def zgl (D : zg) (H : HB) : HB := putD D H id
theorem zrk {β : Type} (E : EB) (d : Option Nat) (v : AV) (c : EB → β) : putE E d v c = c (zrl E d v) := by
  cases d with
  | none => rfl
  | some t => simp only [putE, zrl]; rw [Tr.setK_eq]
theorem zrm {β : Type} : ∀ (D : zg) (H : HB) (c : HB → β), putD D H c = c (zgl D H)
  | [], H, c => rfl
  | (g, none) :: r, H, c => by
    simp only [putD, zgl]
    rw [Tr.setK_eq, Tr.setK_eq (c := fun H => putD r H id), zrm r]; rfl
  | (g, some o) :: r, H, c => by
    simp only [putD, zgl, zajo]
    rw [Tr.setK_eq, Tr.setK_eq (c := fun H => putD r H id), zrm r]; rfl
theorem zeh (E : EB) (d : Option Nat) (v : AV) : toE (zrl E d v) = (toE E).putO d v := by
  cases d with
  | none => rfl
  | some t =>
    funext u
    show (match (Tr.setK (t + 1) E t (some v) id).get u with | some v => v | none => .junk) = bif Nat.beq u t then v else toE E u
    rw [Tr.get_set _ _ _ _ _ (Nat.lt_succ_self _)]
    by_cases h : u = t
    · subst h; simp
    · have : Nat.beq u t = false := by rw [← Bool.not_eq_true, Nat.beq_eq]; exact h
      rw [if_neg h, this]; rfl
theorem zvb (H : HB) (g : Nat) (o : Option AObj) : toH (Tr.setK (g + 1) H g o id) = (toH H).put g o := by
  funext u
  show (Tr.setK (g + 1) H g o id).get u = bif Nat.beq u g then o else toH H u
  rw [Tr.get_set _ _ _ _ _ (Nat.lt_succ_self _)]
  by_cases h : u = g
  · subst h; simp
  · have : Nat.beq u g = false := by rw [← Bool.not_eq_true, Nat.beq_eq]; exact h
    rw [if_neg h, this]; rfl
theorem zna : ∀ (D : zg) (H : HB), toH (zgl D H) = (toH H).apply D
  | [], H => rfl
  | (g, none) :: r, H => by
    simp only [zgl, putD]
    rw [Tr.setK_eq, show putD r _ id = zgl r _ from rfl, zna r, zvb]; rfl
  | (g, some o) :: r, H => by
    simp only [zgl, putD, zajo]
    rw [Tr.setK_eq, show putD r _ id = zgl r _ from rfl, zna r, zvb]; rfl
/-! Are two values the same? -/
def all2 {α : Type} (p : α → α → Bool) : List α → List α → Bool
  | [], [] => true
  | x :: r, y :: s => p x y && all2 p r s
  | _, _ => false
theorem zgb {α : Type} {p : α → α → Bool} (h : ∀ x y, p x y = true → x = y) : ∀ l m : List α, all2 p l m = true → l = m
  | [], [], _ => rfl
  | x :: r, y :: s, e => by
    simp only [all2, Bool.and_eq_true] at e
    rw [h x y e.1, zgb h r s e.2]
  | [], _ :: _, e => by cases e
  | _ :: _, [], e => by cases e
def avEq : Nat → AV → AV → Bool
  | 0, _, _ => false
  | n + 1, x, y => match x, y with
    | .int k a, .int j b => decide (k = j) && iEq a b
    | .bool a, .bool b => a == b
    | .str a, .str b => sEq a b
    | .nilp, .nilp | .nils, .nils | .nilf, .nilf | .nilm, .nilm | .zs, .zs | .inil, .inil => true
    | .ptr g o, .ptr h q => Nat.beq g h && Nat.beq o q
    | .slc g o n, .slc h q m => Nat.beq g h && Nat.beq o q && Nat.beq n m
    | .amap g, .amap h => Nat.beq g h
    | .ro a, .ro b => all2 (all2 (avEq n)) a b
    | .rop a o, .rop b q => all2 (avEq n) a b && Nat.beq o q
    | .agg a, .agg b => all2 (avEq n) a b
    | .tup a, .tup b => all2 (avEq n) a b
    | .clo f a, .clo g b => Nat.beq f g && all2 (avEq n) a b
    | _, _ => false
theorem znh : ∀ (n : Nat) (x y : AV), avEq n x y = true → x = y
  | 0, x, y, h => by simp [avEq] at h
  | n + 1, x, y, h => by
    have ih := znh n
    unfold avEq at h
    split at h <;> try simp only [Bool.and_eq_true, Nat.beq_eq, zuf, zyh, beq_iff_eq, decide_eq_true_eq, reduceCtorEq] at h
    all_goals first
      | rfl
      | (cases h; done)
      | (obtain ⟨rfl, rfl⟩ := h; rfl)
      | (obtain ⟨⟨rfl, rfl⟩, rfl⟩ := h; rfl)
      | (subst h; rfl)
      | (rw [zgb (zgb ih) _ _ h])
      | (rw [zgb ih _ _ h])
      | (rw [zgb ih _ _ h.1, h.2])
      | (rw [zgb ih _ _ h.2, h.1])
def obEq (x y : Option AObj) : Bool := match x, y with
  | some (.row s a), some (.row t b) => Nat.beq s t && all2 (avEq 40) a b
  | some (.mp a), some (.mp b) => all2 (fun p q => avEq 40 p.1 q.1 && avEq 40 p.2 q.2) a b
  | none, none => true
  | _, _ => false
theorem zakg {x y : Option AObj} (h : obEq x y = true) : x = y := by
  unfold obEq at h
  split at h
  · simp only [Bool.and_eq_true, Nat.beq_eq] at h
    rw [h.1, zgb (znh 40) _ _ h.2]
  · rw [zgb (fun p q e => by simp only [Bool.and_eq_true] at e; exact Prod.ext (znh 40 _ _ e.1) (znh 40 _ _ e.2)) _ _ h]
  · rfl
  · cases h
end Go.Proofs.YtobioljjoipimaaDoor
set_option maxRecDepth 8000
namespace Go.Proofs.YtobioljjoipimaaDoor
open Go Go.RowKit
abbrev XCl := Nat → List AV → HB → Nat → Option (AV × HB × Nat)
noncomputable def isH (H : HB) (g : Nat) : Bool := match H.get g with | some _ => true | none => false
noncomputable def chkD (H : HB) (rd fr : List Nat) (D : zg) : Bool := rd.all (isH H) && D.all fun p => isH H p.1 || fr.any fun g => Nat.beq p.1 g
noncomputable def zke (seen : List Nat) : Nat → List Nat
  | 0 => []
  | n + 1 => bif seen.any (fun j => Nat.beq j n) then zke seen n else n :: zke seen n
section
variable (T : Nat → Option AT) (eqs : Nat → Bool)
noncomputable def xpl (o : Oper) (e : Operand → AV) (H : HB) (nx : Nat) : Option XR := match o.op with
  | .range t x => xg (zxk T t) (match e x with
    | .amap g => match H.get g with
      | some (.mp es) => some (.ptr nx 0, [g], [nx], [(nx, some (.it g es.length []))])
      | _ => none
    | _ => none)
  | .next x false => match e x with
    | .ptr y 0 => match H.get y with
      | some (.it g n seen) => match H.get g with
        | some (.mp es) => xg (Nat.beq es.length n) (match zke seen n with
          | [] => some (.tup [.bool false], [y, g], [], [])
          | [i] => match es[i]? with
            | some e => some (.tup [.bool true, e.1, e.2], [y, g], [], [(y, some (.it g n (seen ++ [i])))])
            | none => none
          | _ => none)
        | _ => none
      | _ => none
    | _ => none
  | .entry x => match e x with
    | .ptr y 0 => match H.get y with
      | some (.it g n seen) => match H.get g with
        | some (.mp es) => xg (Nat.beq es.length n) (match seen.getLast? with
          | some i => match es[i]? with
            | some e => some (.tup [e.1, e.2], [y, g], [], [])
            | none => none
          | none => none)
        | _ => none
      | _ => none
    | _ => none
  | _ => xaop T eqs e (toH H) nx o
section
variable {β : Type} (call : XCl)
noncomputable def xcal (o : Oper) (e : Operand → AV) : Option (Nat × List AV) := match o.op with
  | .call c => match c.callee with
    | .value f => match e f with
      | .clo f cap => some (f, c.args.toList.map e ++ cap)
      | _ => none
    | _ => none
  | _ => none
noncomputable def zri (o : Oper) (E : EB) (H : HB) (nx : Nat) (c : AV → HB → Nat → Option β) : Option β := match isCl o with
  | true => match xcal o (toE E).ev with
    | some (f, args) => match call f args H nx with
      | some (v, H, nx) => c v H nx
      | none => none
    | none => none
  | false => match xpl T eqs o (toE E).ev H nx with
    | some (v, rd, fr, D) => match chkD H rd fr D with
      | true => fV v fun v => putD D H fun H => fN (nx + fr.length) fun nx => c v H nx
      | false => none
    | none => none
noncomputable def xops (all : List Oper) : List Oper → zax → EB → HB → Nat → (EB → HB → Nat → Option β) → Option β
  | [], _, E, H, nx, c => c E H nx
  | o :: r, kn, E, H, nx, c => match o.guard with
    | none => zri T eqs call o E H nx fun v H nx => putE E o.dst v fun E => xops all r (zbw o.dst kn) E H nx c
    | some (j, want) => match gdst all j with
      | none => none
      | some t => match zoj t kn with
        | some none => putE E o.dst .und fun E => xops all r (zcb o.dst kn) E H nx c
        | some (some b) => match b == want with
          | true => zri T eqs call o E H nx fun v H nx => putE E o.dst v fun E => xops all r (zbw o.dst kn) E H nx c
          | false => putE E o.dst .und fun E => xops all r (zcb o.dst kn) E H nx c
        | none => match toE E t with
          | .bool b => match b == want with
            | true => zri T eqs call o E H nx fun v H nx => putE E o.dst v fun E => xops all r (zbw o.dst ((t, some b) :: kn)) E H nx c
            | false => putE E o.dst .und fun E => xops all r (zcb o.dst ((t, some b) :: kn)) E H nx c
          | _ => none
/-! Where the order is drawn. -/
def zqp : Nat → AV → List Nat → List Nat
  | 0, _, l => l
  | n + 1, v, l => match v with
    | .ptr g _ | .slc g _ _ | .amap g => bif l.any (Nat.beq g) then l else g :: l
    | .agg xs | .tup xs | .clo _ xs => xs.foldl (fun l v => zqp n v l) l
    | _ => l
noncomputable def znc (H : HB) : Nat → List Nat → List Nat → List Nat
  | 0, _, done => done
  | _ + 1, [], done => done
  | f + 1, g :: todo, done => bif done.any (Nat.beq g) then znc H f todo done else match H.get g with
    | some (.row _ cs) => znc H f (cs.foldl (fun l v => zqp 3 v l) todo) (g :: done)
    | some (.mp es) => znc H f (es.foldl (fun l v => zqp 3 v.2 l) todo) (g :: done)
    | _ => znc H f todo done
noncomputable def zbn (H : HB) : List Nat → HB
  | [] => .nil
  | g :: r => match H.get g with
    | some o => Tr.setK (g + 1) (zbn H r) g (some o) id
    | none => zbn H r
noncomputable def zel (H H' : HB) : List Nat → zg
  | [] => []
  | g :: r => match H'.get g with
    | o => match obEq (H.get g) o with
      | true => zel H H' r
      | false => (g, o) :: zel H H' r
def zcu (nx : Nat) : Nat → List Nat
  | 0 => []
  | n + 1 => nx :: zcu (nx + 1) n
noncomputable def zxs (f : Nat) (args : List AV) (H : HB) (nx : Nat) : Option XR :=
  match znc H 1000 (args.foldl (fun l v => zqp 3 v l) []) [] with
  | rs => match zbn H rs with
    | H0 => match call f args H0 nx with
      | some (v, H1, nx1) => match zcu nx (nx1 - nx) with
        | fr => some (v, rs, fr, zel H0 H1 rs ++ fr.map fun g => (g, H1.get g))
      | none => none
noncomputable def ztu (o : Oper) (E : EB) (H : HB) (nx : Nat) : Option XR := match isCl o with
  | true => match xcal o (toE E).ev with
    | some (f, args) => zxs call f args H nx
    | none => none
  | false => xaop T eqs (toE E).ev (toH H) nx o
noncomputable def znn (all : List Oper) : List Oper → zax → EB → HB → Nat → List Rec → (EB → HB → Nat → List Rec → Option β) → Option β
  | [], _, E, H, nx, log, c => c E H nx log
  | o :: r, kn, E, H, nx, log, c =>
    let run : zax → Option β := fun kn => match ztu T eqs call o E H nx with
      | some (v, rd, fr, D) => match chkD H rd fr D with
        | true => fV v fun v => putD D H fun H' => fN (nx + fr.length) fun nx' => putE E o.dst v fun E' => znn all r (zbw o.dst kn) E' H' nx' (log ++ [⟨v, rd, fr, D, false, fun _ => .junk, fun _ => none, ptOf T (toE E).ev o, isCl o⟩]) c
        | false => none
      | none => none
    let skip : zax → Option β := fun kn => putE E o.dst .und fun E' => znn all r (zcb o.dst kn) E' H nx (log ++ [⟨.und, [], [], [], true, fun _ => .junk, fun _ => none, none, false⟩]) c
    match o.guard with
    | none => run kn
    | some (j, want) => match gdst all j with
      | none => none
      | some t => match zoj t kn with
        | some none => skip kn
        | some (some b) => match b == want with
          | true => run kn
          | false => skip kn
        | none => match toE E t with
          | .bool b => match b == want with
            | true => run ((t, some b) :: kn)
            | false => skip ((t, some b) :: kn)
          | _ => none
def zxm (l m : List Nat) : Bool := l.all fun g => !m.any (Nat.beq g)
def zamy (g q : Nat) (v : AV) (D : zg) : Bool := D.all fun p => !Nat.beq p.1 g || match p.2 with
  | some (.row _ cs) => match cs[q]? with | some u => avEq 40 u v | none => false
  | _ => false
def zajj (a b : Rec) : Bool := match b.cl, a.pt with
  | true, some (.ptr g q) => zamy g q a.v b.D
  | _, _ => zxm (domD b.D) a.rd
def zacx (L : List Rec) (p : Nat × Nat) : Bool := match L[p.1]?, L[p.2]? with
  | some a, some b => zxm (domD a.D) b.rd && zxm (domD a.D) (domD b.D) && zajj a b
  | _, _ => false
/-! The text. -/
inductive XO where
  | nrm | exi (i : Nat) | ret
noncomputable def ztt (body : EB → HB → Nat → Option (XO × EB × HB × Nat)) : Nat → EB → HB → Nat → Option (XO × EB × HB × Nat)
  | 0, _, _, _ => none
  | n + 1, E, H, nx => match body E H nx with
    | some (x, E, H, nx) => match x with
      | .nrm => ztt body n E H nx
      | .exi i => some (.exi i, E, H, nx)
      | .ret => some (.ret, E, H, nx)
    | none => none
noncomputable def zbs : Code → EB → HB → Nat → Option (XO × EB × HB × Nat)
  | .skip, E, H, nx => some (.nrm, E, H, nx)
  | .label _, E, H, nx => some (.nrm, E, H, nx)
  | .exit i, E, H, nx => some (.exi i, E, H, nx)
  | .ret, E, H, nx => some (.ret, E, H, nx)
  | .region _ ops false, E, H, nx => xops T eqs call ops.toList ops.toList [] E H nx fun E H nx => some (.nrm, E, H, nx)
  | .region _ ops true, E, H, nx => znn T eqs call ops.toList ops.toList [] E H nx [] fun E H nx log => match (zne ops).all (zacx log) with
    | true => some (.nrm, E, H, nx)
    | false => none
  | .seq a b, E, H, nx => match zbs a E H nx with
    | some (x, E, H, nx) => match x with
      | .nrm => zbs b E H nx
      | .exi i => some (.exi i, E, H, nx)
      | .ret => some (.ret, E, H, nx)
    | none => none
  | .cond c a b, E, H, nx => match (toE E).ev c with
    | .bool t => match t with
      | true => zbs a E H nx
      | false => zbs b E H nx
    | _ => none
  | .block id a, E, H, nx => match zbs a E H nx with
    | some (x, E, H, nx) => match x with
      | .nrm => some (.nrm, E, H, nx)
      | .exi i => match Nat.beq i id with
        | true => some (.nrm, E, H, nx)
        | false => some (.exi i, E, H, nx)
      | .ret => some (.ret, E, H, nx)
    | none => none
  | .loop a, E, H, nx => ztt (zbs a) 3000 E H nx
  | .scope a, E, H, nx => zbs a E H nx
  | _, _, _, _ => none
noncomputable def xret : List ResultVar → EB → HB → (List AV → Option β) → Option β
  | [], _, _, c => c []
  | .tmp t :: r, E, H, c => fV0 (toE E t) fun v => xret r E H fun vs => c (v :: vs)
  | .cell a t :: r, E, H, c => match T t with
    | some at_ => match zrj at_.kind.isAgg at_.size (toE E a) (toH H) with
      | some (v, _, _, _) => fV v fun v => xret r E H fun vs => c (v :: vs)
      | none => none
    | none => none
noncomputable def zxn : List AV → Nat → EB → (EB → Option β) → Option β
  | [], _, E, c => c E
  | v :: r, t, E, c => fV v fun v => Tr.setK (t + 1) E t (some v) fun E => zxn r (t + 1) E c
end
noncomputable def xfun (P : Program) (ok : Nat → Bool) (orc : Nat → List AV → Option AV) : Nat → XCl
  | 0, _, _, _, _ => none
  | n + 1, f, args, H, nx => match orc f args with
    | some v => some (v, H, nx)
    | none => match ok f with
      | false => none
      | true => match P.funcs[f]? with
        | some fn => match fn.body with
          | some c => match Nat.ble args.length fn.ntmps with
            | true => zxn args 0 .nil fun E => match zbs T eqs (xfun P ok orc n) c E H nx with
              | some (x, E, H, nx) => match x with
                | .exi _ => none
                | .nrm => xret T fn.results.toList E H fun vs => some (match vs with | [v] => v | vs => .tup vs, H, nx)
                | .ret => xret T fn.results.toList E H fun vs => some (match vs with | [v] => v | vs => .tup vs, H, nx)
              | none => none
            | false => none
          | none => none
        | none => none
end
end Go.Proofs.YtobioljjoipimaaDoor
