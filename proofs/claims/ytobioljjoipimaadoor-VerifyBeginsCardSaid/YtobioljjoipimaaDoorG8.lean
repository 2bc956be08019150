/- Rows that are built by appending. What a call has made is read by value from now on, in part. The machine in memory: who owns what. The machine in memory: what changes, and what stays. A call that changes what it is handed by address, where the order is drawn: what it leaves names no more than what was there named. The machine's small functions: top, dead, pop, push. What is made of two values: the program's function, and the document's. The machine's functions: setting out, asking, operations. The machine's functions: cells made, and changed; operations. The machine's functions: operations, and cells made. The machine's functions: calls. The machine's functions: coming back; and how it ends. The machine's small functions: push, where the order is drawn. The machine's step: one instruction. A copy of an agent: the program's part. A copy of an agent: the frames' part. A copy of an agent. The machine goes on: Run. The machine goes on: Run. A program, and an agent, are the same as themselves. The machine: Answer. What a call is handed is read by value from then on, in part. The machine: New. What is made of two values: the document's function. The laws' first question, asked of closed facts. The machine: Pack. The machine: Pack, all of it. Words, and instructions: what the document's functions make of them. Rows of numbers. Heights: what the document's function makes of a code. Programs: what the document's function says is wrong with them. Agents: what the document's function says is wrong with one. Agents: what the document's function says is wrong with one, on. Agents: what the document's function says is wrong with one, whole. A copy; and which agents, at which places, may be. How great an agent is behind so many steps. VmTells, walked. -/
import Derived.Test.YtobioljjoipimaaDoorG7
import Derived.Test.YtobioljjoipimaaDoorG6
set_option linter.unusedSimpArgs false
set_option linter.unusedVariables false
set_option maxRecDepth 8000
namespace Go.Proofs.YtobioljjoipimaaDoor
open Go Go.RowKit
def Grow (H : Heap) (lo n sz k : Nat) (cells : List AV) (a : AV) : Prop := (k = 0 ∧ a = .nils) ∨ (0 < k ∧ ∃ g, lo ≤ g ∧ g < n ∧ a = .slc g 0 k ∧ H g = some (.row sz cells))
theorem Grow.zero {H : Heap} {lo n sz : Nat} {cells : List AV} : Grow H lo n sz 0 cells .nils := .inl ⟨rfl, rfl⟩
theorem Grow.more {H H' : Heap} {lo n n' sz k : Nat} {cells : List AV} {a : AV} (h : Grow H lo n sz k cells a) (hn : n ≤ n') (hk : ∀ g, lo ≤ g → g < n → H' g = H g) : Grow H' lo n' sz k cells a := by
  rcases h with h | ⟨h0, g, h1, h2, h3, h4⟩
  · exact .inl h
  · exact .inr ⟨h0, g, h1, by omega, h3, by rw [hk g h1 h2]; exact h4⟩
theorem Grow.len {H : Heap} {lo n sz k : Nat} {cells : List AV} {a : AV} (h : Grow H lo n sz k cells a) {q : AV → Prop} : LNL a q = q (.int .i64 k) := by
  rcases h with ⟨rfl, rfl⟩ | ⟨h0, g, h1, h2, rfl, h4⟩ <;> simp
theorem Grow.app {H : Heap} {lo n sz k bytes t nx : Nat} {cells new : List AV} {a : AV} {kk : AV → Heap → Nat → Prop} (hg : Grow H lo n sz k cells a) (hlen : cells.length = k * sz) (ht : H t = some (.row sz new)) (hnl : new.length = sz) (hone : new.all AV.one = true)
    (hb : (k + 1) * bytes ≤ 140737488355328) (hn : n ≤ nx) (hlo : lo ≤ nx) (hk : ∀ H', Keep lo H' H → Grow H' lo (nx + 1) sz (k + 1) (cells ++ new) (.slc nx 0 (k + 1)) → kk (.slc nx 0 (k + 1)) H' (nx + 1)) : APP sz bytes a (.slc t 0 1) H nx kk := by
  have hs : ze sz H (.slc t 0 1) = some (1, new, [t]) := by
    simp only [ze, ht]
    rw [if_pos (by omega)]
    simp [← hnl]
  rcases hg with ⟨rfl, rfl⟩ | ⟨h0, g, h1, h2, rfl, h4⟩
  · rw [zzk, hs, optk]
    have hc : cells = [] := List.eq_nil_of_length_eq_zero (by omega)
    subst hc
    refine ⟨hone, fun h => absurd h Nat.one_ne_zero, fun _ => ?_⟩
    exact ⟨by simpa using hb, hk _ (fun x hx => Heap.put_ne _ _ (by omega)) (.inr ⟨by omega, nx, hlo, by omega, rfl, by rw [Heap.put_at]; rfl⟩)⟩
  · rw [zaav, hs, optk, h4, rowk]
    refine ⟨rfl, hone, by omega, hb, hk _ (fun x hx => ?_) (.inr ⟨by omega, nx, hlo, by omega, rfl, ?_⟩)⟩
    · rw [Heap.put_ne _ _ (by omega), Heap.put_ne _ _ (by omega)]
    · rw [Heap.put_at, List.drop_zero, List.take_of_length_le (by omega)]
theorem Grow.append {H : Heap} {lo n sz k bytes t nx : Nat} {cells new : List AV} {a : AV} {kt : Kt} (hg : Grow H lo n sz k cells a) (hlen : cells.length = k * sz) (ht : H t = some (.row sz new)) (hnl : new.length = sz) (hone : new.all AV.one = true)
    (hb : (k + 1) * bytes ≤ 140737488355328) (hn : n ≤ nx) (hlo : lo ≤ nx) (hk : ∀ rd D, (∀ g ∈ domD D, lo ≤ g) → Keep lo (H.apply D) H → Grow (H.apply D) lo (nx + 1) sz (k + 1) (cells ++ new) (.slc nx 0 (k + 1)) → kt (.slc nx 0 (k + 1)) rd [nx] D) : zad sz bytes a (.slc t 0 1) H nx kt := by
  have hs : ze sz H (.slc t 0 1) = some (1, new, [t]) := by
    simp only [ze, ht]
    rw [if_pos (by omega)]
    simp [← hnl]
  rcases hg with ⟨rfl, rfl⟩ | ⟨h0, g, h1, h2, rfl, h4⟩
  · rw [zmq, hs, optk]
    have hc : cells = [] := List.eq_nil_of_length_eq_zero (by omega)
    subst hc
    refine ⟨hone, fun h => absurd h Nat.one_ne_zero, fun _ => ?_⟩
    exact ⟨by simpa using hb, hk _ _ (by simpa using hlo) (fun x hx => Heap.put_ne _ _ (by omega)) (.inr ⟨by omega, nx, hlo, by omega, rfl, by simp only [zbv, zcg, Heap.put_at]; rfl⟩)⟩
  · rw [zoj, hs, optk, h4, rowk]
    refine ⟨rfl, hone, by omega, hb, hk _ _ (by simp; omega) (fun x hx => ?_) (.inr ⟨by omega, nx, hlo, by omega, rfl, ?_⟩)⟩
    · simp only [zbv, zcg]; rw [Heap.put_ne _ _ (by omega), Heap.put_ne _ _ (by omega)]
    · simp only [zbv, zcg]; rw [Heap.put_at, List.drop_zero, List.take_of_length_le (by omega)]
theorem Grow.frz {H : Heap} {lo n sz k nx : Nat} {cells : List AV} {a : AV} {xs : List (List AV)} (h : Grow H lo n sz k cells a) (hnx : nx ≤ lo) (hl : xs.length = k) (hs : ∀ x ∈ xs, x.length = sz) (hc : xs.flatten = cells) (hb : ∀ c ∈ cells, Bel (· < nx) c) : Frz H nx a (.ro xs) := by
  rcases h with ⟨rfl, rfl⟩ | ⟨h0, g, h1, h2, rfl, h4⟩
  · rw [List.eq_nil_of_length_eq_zero hl]; exact .nils
  · exact Frz.row (by omega) h4 hl hs hc hb
end Go.Proofs.YtobioljjoipimaaDoor
set_option maxRecDepth 8000
namespace Go.Proofs.YtobioljjoipimaaDoor
open Go Go.RowKit
inductive FrzP (H : Heap) (G : Nat → Prop) : AV → AV → Prop
  | same (v : AV) : FrzP H G v v
  | nils : FrzP H G .nils (.ro [])
  | zs : FrzP H G .zs (.ro [])
  | slc (g off len sz : Nat) (cells : List AV) (xs : List (List AV)) : G g → H g = some (.row sz cells) → off + len * sz ≤ cells.length → xs.length = len → (∀ x ∈ xs, x.length = sz) →
      (U : Nat → Nat → AV) → (∀ (i : Nat) (x : List AV) (j : Nat) (v : AV), xs[i]? = some x → x[j]? = some v → cells[off + i * sz + j]? = some (U i j)) →
      (∀ (i : Nat) (x : List AV) (j : Nat) (v : AV), xs[i]? = some x → x[j]? = some v → FrzP H G (U i j) v) → FrzP H G (.slc g off len) (.ro xs)
  | agg (xs ys : List AV) : ys.length = xs.length → (∀ (j : Nat) (v u : AV), xs[j]? = some v → ys[j]? = some u → FrzP H G v u) → FrzP H G (.agg xs) (.agg ys)
theorem FrzP.rel {A : Nat → Prop} {ρ : Nat → Loc} {H H0 : Heap} {w : World} {G : Nat → Prop} (s : Sim A ρ H w) (h0 : ∀ g o, H0 g = some o → ¬ G g ∧ H g = some o) {v u : AV} (h : FrzP H G v u) :
    ∀ (c : Value), VRel (Kof ρ H w) ρ A v c → VRel (Kof ρ H0 w) ρ A u c := by
  have hK : ∀ b o, Kof ρ H w b = some o → Kof ρ H0 w b = some o := fun b o hb => by
    obtain ⟨h1, h2⟩ := zj.1 hb
    refine zj.2 ⟨fun g hg => ?_, h2⟩
    obtain ⟨o', ho'⟩ := Option.isSome_iff_exists.1 hg
    exact h1 g (by rw [(h0 g o' ho').2]; rfl)
  induction h with
  | same v => exact fun c hc => hc.mono hK (fun _ h => ⟨rfl, h⟩)
  | nils =>
    intro c hc
    cases hc
    exact .ro [] none 0 0 0 0 0 (fun _ _ => undef) rfl (Nat.le_refl _) (fun h => absurd rfl h) (fun x hx => by cases hx) (fun i x j v hx => by simp at hx) (fun i x j v hx => by simp at hx)
  | zs =>
    intro c hc
    cases hc with
    | zs a => exact .ro [] a 0 0 0 0 0 (fun _ _ => undef) rfl (Nat.le_refl _) (fun h => absurd rfl h) (fun x hx => by cases hx) (fun i x j v hx => by simp at hx) (fun i x j v hx => by simp at hx)
  | slc g off len sz cells xs hg hH hle hl hsz U hU _ ih =>
    intro c hc
    cases hc with
    | slc _ _ _ cap a hA hcl hcap =>
      obtain ⟨cc, el, lo, hi, q1, q2, q3, q4, q5, q6⟩ := s.obj g _ hH
      have hKb : Kof ρ H0 w (ρ g).block = some (.cells cc el (lo, hi)) := by
        refine zj.2 ⟨fun x hx e => ?_, q1⟩
        obtain ⟨o', ho'⟩ := Option.isSome_iff_exists.1 hx
        obtain ⟨h1, h2⟩ := h0 x o' ho'
        have := s.inj x g (by rw [h2]; rfl) (by rw [hH]; rfl) e
        subst this
        exact h1 hg
      have hex : ∀ (i : Nat) (x : List AV) (j : Nat) (v : AV), xs[i]? = some x → x[j]? = some v → ∃ cv, cc[(ρ g).base + (off + i * sz + j)]? = some cv ∧ VRel (Kof ρ H w) ρ A (U i j) cv := fun i x j v hx hv => q6 _ _ (hU i x j v hx hv)
      refine .ro xs a len cap sz (ρ g).block ((ρ g).base + off) (fun i j => (cc[(ρ g).base + (off + i * sz + j)]?).getD undef) hl.symm hcl (fun hne => ?_) hsz (fun i x j v hx hv => ?_) (fun i x j v hx hv => ?_)
      · have hpos : 0 < xs.length := List.length_pos_iff.2 hne
        exact (hcap (by omega)).2
      · obtain ⟨cv, h1, h2⟩ := hex i x j v hx hv
        unfold zdq
        rw [hKb]
        simp only [h1, Option.getD_some]
        rw [← h1]; congr 1; omega
      · obtain ⟨cv, h1, h2⟩ := hex i x j v hx hv
        rw [h1]
        exact ih i x j v hx hv cv h2
  | agg xs ys hl _ ih =>
    intro c hc
    cases hc with
    | agg _ cs h1 h2 =>
    exact .agg ys cs (by omega) fun j v c hv hc => by
        have hlt := (List.getElem?_eq_some_iff.1 hv).1
        have hx : xs[j]? = some (xs[j]'(by omega)) := List.getElem?_eq_getElem (by omega)
        exact ih j _ v hx hv c (h2 j _ c hx hc)
theorem FrzP.row {H : Heap} {G : Nat → Prop} {g sz len : Nat} {cells : List AV} {xs : List (List AV)} (hg : G g) (hH : H g = some (.row sz cells)) (hl : xs.length = len) (hs : ∀ x ∈ xs, x.length = sz) (hc : ∀ (i : Nat) (x : List AV) (j : Nat) (v : AV), xs[i]? = some x → x[j]? = some v → ∃ u, cells[i * sz + j]? = some u ∧ FrzP H G u v) (hle : len * sz ≤ cells.length) : FrzP H G (.slc g 0 len) (.ro xs) := by
  refine .slc g 0 len sz cells xs hg hH (by omega) hl hs (fun i j => (cells[i * sz + j]?).getD .junk) (fun i x j v hx hv => ?_) fun i x j v hx hv => ?_
  · obtain ⟨u, h1, h2⟩ := hc i x j v hx hv
    rw [Nat.zero_add, h1]; rfl
  · obtain ⟨u, h1, h2⟩ := hc i x j v hx hv
    rw [h1]; exact h2
end Go.Proofs.YtobioljjoipimaaDoor
set_option maxRecDepth 8000
namespace Go.Proofs.YtobioljjoipimaaDoor
open Go Go.RowKit
@[simp] theorem zafp : AV.zs.cells = [AV.zs] := rfl
@[simp] theorem zaft : AV.zs.sure = true := rfl
@[simp] theorem zahj : AV.zs.one = true := rfl
@[simp ↓] theorem zxb {esz bytes nx : Nat} {x : AV} {H : Heap} {kt : Kt} : zad esz bytes .zs x H nx kt = OPTK (ze esz H x) fun p => p.2.1.all AV.one = true ∧
    (p.1 = 0 → kt .zs p.2.2 [] []) ∧ (p.1 ≠ 0 → p.1 * bytes ≤ 140737488355328 ∧ kt (.slc nx 0 p.1) p.2.2 [nx] [(nx, some (.row esz p.2.1))]) := by
  simp only [zad, OPTK]
  cases hs : ze esz H x with
  | none => simp
  | some p => obtain ⟨m, news, rd⟩ := p; simp
def Slot (H : Heap) (sz k : Nat) (cells : List AV) (a : AV) : Prop := (k = 0 ∧ (a = .nils ∨ a = .zs)) ∨ ∃ g cs, a = .slc g 0 k ∧ H g = some (.row sz cs) ∧ cs.take (k * sz) = cells ∧ k * sz ≤ cs.length
def own : AV → List Nat
  | .slc g _ _ => [g]
  | _ => []
theorem Slot.keep {H H' : Heap} {sz k : Nat} {cells : List AV} {a : AV} (h : Slot H sz k cells a) (hk : ∀ g ∈ own a, H' g = H g) : Slot H' sz k cells a := by
  rcases h with h | ⟨g, cs, rfl, h1, h2, h3⟩
  · exact .inl h
  · exact .inr ⟨g, cs, rfl, by rw [hk g (by simp [own])]; exact h1, h2, h3⟩
theorem Slot.len {H : Heap} {sz k : Nat} {cells : List AV} {a : AV} (h : Slot H sz k cells a) {q : AV → Prop} : LNL a q = q (.int .i64 k) := by
  rcases h with ⟨rfl, rfl | rfl⟩ | ⟨g, cs, rfl, _⟩ <;> simp
theorem Slot.cut {H : Heap} {sz k j : Nat} {cells : List AV} {g off : Nat} (h : Slot H sz k cells (.slc g off k)) (hj : j ≤ k) : Slot H sz j (cells.take (j * sz)) (.slc g off j) := by
  rcases h with ⟨_, h | h⟩ | ⟨g', cs, h0, h1, h2, h3⟩
  · cases h
  · cases h
  · cases h0
    have : j * sz ≤ k * sz := Nat.mul_le_mul_right _ hj
    exact .inr ⟨g, cs, rfl, h1, by rw [← h2, List.take_take, Nat.min_eq_left this], by omega⟩
theorem Slot.src {H : Heap} {sz k : Nat} {cells : List AV} {a : AV} (h : Slot H sz k cells a) (h0 : k = 0 → cells = []) : ∃ rd, ze sz H a = some (k, cells, rd) := by
  rcases h with ⟨rfl, rfl | rfl⟩ | ⟨g, cs, rfl, h1, h2, h3⟩
  · exact ⟨[], by rw [h0 rfl]; rfl⟩
  · exact ⟨[], by rw [h0 rfl]; rfl⟩
  · refine ⟨[g], ?_⟩
    simp only [ze, h1, Nat.zero_add, List.drop_zero]
    rw [if_pos h3, h2]
theorem Slot.append {H : Heap} {sz k bytes t nx : Nat} {cells new : List AV} {a : AV} {kt : Kt} (hg : Slot H sz k cells a) (hlen : cells.length = k * sz) (ht : H t = some (.row sz new)) (hnl : new.length = sz) (hone : new.all AV.one = true)
    (hb : (k + 1) * bytes ≤ 140737488355328) (hk : ∀ rd D, (∀ g ∈ domD D, g ∈ own a ∨ g = nx) → (H.apply D) nx = some (.row sz (cells ++ new)) → (∀ g, g ∉ own a → g ≠ nx → (H.apply D) g = H g) → kt (.slc nx 0 (k + 1)) rd [nx] D) : zad sz bytes a (.slc t 0 1) H nx kt := by
  have hs : ze sz H (.slc t 0 1) = some (1, new, [t]) := by
    simp only [ze, ht]
    rw [if_pos (by omega)]
    simp [← hnl]
  rcases hg with ⟨rfl, rfl | rfl⟩ | ⟨g, cs, rfl, h1, h2, h3⟩
  · rw [zmq, hs, optk]
    have hc : cells = [] := List.eq_nil_of_length_eq_zero (by omega)
    subst hc
    refine ⟨hone, fun h => absurd h Nat.one_ne_zero, fun _ => ?_⟩
    exact ⟨by simpa using hb, hk _ _ (by simp) (by simp only [zbv, zcg, Heap.put_at]; rfl) (fun x _ hx => by simp only [zbv, zcg]; exact Heap.put_ne _ _ hx)⟩
  · rw [zxb, hs, optk]
    have hc : cells = [] := List.eq_nil_of_length_eq_zero (by omega)
    subst hc
    refine ⟨hone, fun h => absurd h Nat.one_ne_zero, fun _ => ?_⟩
    exact ⟨by simpa using hb, hk _ _ (by simp) (by simp only [zbv, zcg, Heap.put_at]; rfl) (fun x _ hx => by simp only [zbv, zcg]; exact Heap.put_ne _ _ hx)⟩
  · rw [zoj, hs, optk, h1, rowk]
    refine ⟨rfl, hone, by omega, hb, hk _ _ (by simp [own]) ?_ (fun x hx1 hx => ?_)⟩
    · simp only [zbv, zcg]; rw [Heap.put_at, List.drop_zero, h2]
    · simp only [zbv, zcg]; rw [Heap.put_ne _ _ hx, Heap.put_ne _ _ (by simpa [own] using hx1)]
theorem Slot.app {H : Heap} {sz k bytes t nx : Nat} {cells new : List AV} {a : AV} {kk : AV → Heap → Nat → Prop} (hg : Slot H sz k cells a) (hlen : cells.length = k * sz) (ht : H t = some (.row sz new)) (hnl : new.length = sz) (hone : new.all AV.one = true)
    (hb : (k + 1) * bytes ≤ 140737488355328) (hk : ∀ H', H' nx = some (.row sz (cells ++ new)) → (∀ g, g ∉ own a → g ≠ nx → H' g = H g) → kk (.slc nx 0 (k + 1)) H' (nx + 1)) : APP sz bytes a (.slc t 0 1) H nx kk := by
  have := hg.append (bytes := bytes) (t := t) (nx := nx) (new := new) (kt := fun v _ fr D => kk v (H.apply D) (nx + fr.length)) hlen ht hnl hone hb fun rd D _ h1 h2 => hk _ h1 h2
  exact this
def frow : List Frm → List (AV × AV) → List AV
  | f :: fs, s :: ss => .int .i64 f.fn :: .int .i64 f.at_ :: s.1 :: s.2 :: frow fs ss
  | _, _ => []
theorem zex : ∀ {fs : List Frm} {ss : List (AV × AV)}, ss.length = fs.length → (frow fs ss).length = fs.length * 4
  | [], [], _ => rfl
  | f :: fs, s :: ss, h => by simp [frow, zex (fs := fs) (ss := ss) (by simpa using h)]; omega
  | [], s :: ss, h => by simp at h
  | f :: fs, [], h => by simp at h
theorem zfh : ∀ {fs : List Frm} {ss : List (AV × AV)} {f : Frm} {s : AV × AV}, ss.length = fs.length → frow (fs ++ [f]) (ss ++ [s]) = frow fs ss ++ [.int .i64 f.fn, .int .i64 f.at_, s.1, s.2]
  | [], [], f, s, _ => rfl
  | g :: fs, t :: ss, f, s, h => by simp [frow, zfh (fs := fs) (ss := ss) (f := f) (s := s) (by simpa using h)]
  | [], s :: ss, _, _, h => by simp at h
  | f :: fs, [], _, _, h => by simp at h
def owns (ss : List (AV × AV)) : List Nat := ss.flatMap fun s => own s.1 ++ own s.2
def Spt.avs (s : Spt) : List AV := [.str s.name, .ro (s.facts.map fun x => .str x.key :: x.val.avs), .int .i64 s.fuel, .int .i64 s.cells]
def Evt.avs (e : Evt) : List AV := [.int .i64 e.kind, .str e.text, .int .i64 e.err]
def zdy (id trip : Int) (p : Prg) (fa ha : AV) (m : Pmt) (gs : Nat) (e : Evt) : List AV :=
  [.int .i64 id, .int .i64 trip, .ro (p.codes.map Cod.avs), .ro (p.words.map fun w => [.str w]), fa, ha, .int .i64 m.fuel, .int .i64 m.room, .int .i64 m.hops, .ptr gs 0, .int .i64 e.kind, .str e.text, .int .i64 e.err]
def zq (H : Heap) (fs : List Frm) (ss : List (AV × AV)) : Prop := ss.length = fs.length ∧ ∀ (k : Nat) (f : Frm) (s : AV × AV), fs[k]? = some f → ss[k]? = some s → Slot H 3 f.vars.length (rowV f.vars) s.1 ∧ Slot H 3 f.stack.length (rowV f.stack) s.2
theorem zq.keep {H H' : Heap} {fs : List Frm} {ss : List (AV × AV)} (h : zq H fs ss) (hk : ∀ g ∈ owns ss, H' g = H g) : zq H' fs ss := by
  refine ⟨h.1, fun k f s hf hs => ?_⟩
  obtain ⟨a, b⟩ := h.2 k f s hf hs
  have hm := List.mem_of_getElem? hs
  exact ⟨a.keep fun g hg => hk g (List.mem_flatMap.2 ⟨s, hm, List.mem_append_left _ hg⟩), b.keep fun g hg => hk g (List.mem_flatMap.2 ⟨s, hm, List.mem_append_right _ hg⟩)⟩
theorem zq.snoc {H : Heap} {fs : List Frm} {ss : List (AV × AV)} {f : Frm} {s : AV × AV} (h : zq H fs ss) (h1 : Slot H 3 f.vars.length (rowV f.vars) s.1) (h2 : Slot H 3 f.stack.length (rowV f.stack) s.2) : zq H (fs ++ [f]) (ss ++ [s]) := by
  refine ⟨by simp [h.1], fun k f' s' hf hs => ?_⟩
  by_cases hk : k < fs.length
  · rw [List.getElem?_append_left hk] at hf
    rw [List.getElem?_append_left (by rw [h.1]; exact hk)] at hs
    exact h.2 k f' s' hf hs
  · have hk' : k = fs.length := by have := (List.getElem?_eq_some_iff.1 hf).1; simp at this; omega
    subst hk'
    rw [List.getElem?_append_right (Nat.le_refl _)] at hf
    rw [List.getElem?_append_right (by rw [h.1]; exact Nat.le_refl _), h.1] at hs
    simp at hf hs
    subst hf; subst hs
    exact ⟨h1, h2⟩
theorem zq.last {H : Heap} {fs : List Frm} {ss : List (AV × AV)} {f : Frm} {s : AV × AV} (h : zq H (fs ++ [f]) (ss ++ [s])) : zq H fs ss ∧ Slot H 3 f.vars.length (rowV f.vars) s.1 ∧ Slot H 3 f.stack.length (rowV f.stack) s.2 := by
  have hl : ss.length = fs.length := by simpa using h.1
  refine ⟨⟨hl, fun k f' s' hf hs => ?_⟩, h.2 fs.length f s (by simp) (by rw [← hl]; simp)⟩
  have h1 := (List.getElem?_eq_some_iff.1 hf).1
  exact h.2 k f' s' (by rw [List.getElem?_append_left h1]; exact hf) (by rw [List.getElem?_append_left (by omega)]; exact hs)
structure RL (H0 H : Heap) (lo n gr gs gf : Nat) (id trip : Int) (p : Prg) (s : Spt) (fs : List Frm) (ss : List (AV × AV)) (f : Frm) (va sa : AV) (h : List Cl) (ha : AV) (m : Pmt) (e : Evt) : Prop where
  run : H gr = some (.row 13 (zdy id trip p (.slc gf 0 (fs.length + 1)) ha m gs e))
  fr : ∃ cs, H gf = some (.row 4 cs) ∧ cs.take ((fs.length + 1) * 4) = frow fs ss ++ [.int .i64 f.fn, .int .i64 f.at_, va, sa] ∧ (fs.length + 1) * 4 ≤ cs.length
  frs : zq H fs ss
  sv : Slot H 3 f.vars.length (rowV f.vars) va
  st : Slot H 3 f.stack.length (rowV f.stack) sa
  hp : Slot H 6 h.length (rowC h) ha
  spot : H gs = some (.row 4 s.avs)
  nd : (gr :: gs :: gf :: (own ha ++ (owns ss ++ (own va ++ own sa)))).Nodup
  gsn : gs < n
  bd : ∀ g ∈ gr :: gf :: (own ha ++ (owns ss ++ (own va ++ own sa))), lo ≤ g ∧ g < n
  keep : Keep lo H H0
  le : lo ≤ n
end Go.Proofs.YtobioljjoipimaaDoor
set_option maxRecDepth 8000
namespace Go.Proofs.YtobioljjoipimaaDoor
open Go Go.RowKit
structure zzy (n gr gs gf : Nat) (ha : AV) (ss : List (AV × AV)) (va sa : AV) : Prop where
  rs : gr ≠ gs
  rf : gr ≠ gf
  sf : gs ≠ gf
  r : gr < n
  s : gs < n
  f : gf < n
  h : ∀ g ∈ own ha, g < n ∧ g ≠ gr ∧ g ≠ gs ∧ g ≠ gf ∧ g ∉ owns ss ∧ g ∉ own va ∧ g ∉ own sa
  w : ∀ g ∈ owns ss, g < n ∧ g ≠ gr ∧ g ≠ gs ∧ g ≠ gf ∧ g ∉ own ha ∧ g ∉ own va ∧ g ∉ own sa
  v : ∀ g ∈ own va, g < n ∧ g ≠ gr ∧ g ≠ gs ∧ g ≠ gf ∧ g ∉ own ha ∧ g ∉ owns ss ∧ g ∉ own sa
  t : ∀ g ∈ own sa, g < n ∧ g ≠ gr ∧ g ≠ gs ∧ g ≠ gf ∧ g ∉ own ha ∧ g ∉ owns ss ∧ g ∉ own va
theorem zxc {lo n gr gs gf : Nat} {ha va sa : AV} {ss : List (AV × AV)} (nd : (gr :: gs :: gf :: (own ha ++ (owns ss ++ (own va ++ own sa)))).Nodup) (gsn : gs < n) (bd : ∀ g ∈ gr :: gf :: (own ha ++ (owns ss ++ (own va ++ own sa))), lo ≤ g ∧ g < n) : zzy n gr gs gf ha ss va sa := by
  simp only [List.nodup_cons, List.nodup_append, List.mem_cons, List.mem_append, not_or] at nd
  simp only [List.mem_cons, List.mem_append] at bd
  obtain ⟨⟨a1, a2, a3, a4, a5, a6⟩, ⟨b1, b2, b3, b4, b5⟩, ⟨c1, c2, c3, c4⟩, n1, ⟨n2, ⟨n3, n4, n5⟩, n6⟩, n7⟩ := nd
  refine ⟨a1, a2, b1, (bd gr (by simp)).2, gsn, (bd gf (by simp)).2, fun g hg => ⟨(bd g (by simp [hg])).2, fun e => a3 (e ▸ hg), fun e => b2 (e ▸ hg), fun e => c1 (e ▸ hg), fun h => n7 g hg g (.inl h) rfl, fun h => n7 g hg g (.inr (.inl h)) rfl, fun h => n7 g hg g (.inr (.inr h)) rfl⟩,
    fun g hg => ⟨(bd g (by simp [hg])).2, fun e => a4 (e ▸ hg), fun e => b3 (e ▸ hg), fun e => c2 (e ▸ hg), fun h => n7 g h g (.inl hg) rfl, fun h => n6 g hg g (.inl h) rfl, fun h => n6 g hg g (.inr h) rfl⟩,
    fun g hg => ⟨(bd g (by simp [hg])).2, fun e => a5 (e ▸ hg), fun e => b4 (e ▸ hg), fun e => c3 (e ▸ hg), fun h => n7 g h g (.inr (.inl hg)) rfl, fun h => n6 g h g (.inl hg) rfl, fun h => n5 g hg g h rfl⟩,
    fun g hg => ⟨(bd g (by simp [hg])).2, fun e => a6 (e ▸ hg), fun e => b5 (e ▸ hg), fun e => c4 (e ▸ hg), fun h => n7 g h g (.inr (.inr hg)) rfl, fun h => n6 g h g (.inr hg) rfl, fun h => n5 g h g hg rfl⟩⟩
section
variable {H0 H : Heap} {lo n gr gs gf : Nat} {id trip : Int} {p : Prg} {s : Spt} {fs : List Frm} {ss : List (AV × AV)} {f : Frm} {va sa : AV} {h : List Cl} {ha : AV} {m : Pmt} {e : Evt}
theorem RL.apart (st : RL H0 H lo n gr gs gf id trip p s fs ss f va sa h ha m e) : zzy n gr gs gf ha ss va sa := zxc st.nd st.gsn st.bd
theorem RL.upd (st : RL H0 H lo n gr gs gf id trip p s fs ss f va sa h ha m e) {H' : Heap} {n' : Nat} {f' : Frm} {va' sa' : AV} {h' : List Cl} {ha' : AV} {m' : Pmt} {e' : Evt} (hn : n ≤ n')
    (run' : H' gr = some (.row 13 (zdy id trip p (.slc gf 0 (fs.length + 1)) ha' m' gs e'))) (fr' : ∃ cs, H' gf = some (.row 4 cs) ∧ cs.take ((fs.length + 1) * 4) = frow fs ss ++ [.int .i64 f'.fn, .int .i64 f'.at_, va', sa'] ∧ (fs.length + 1) * 4 ≤ cs.length)
    (sv' : Slot H' 3 f'.vars.length (rowV f'.vars) va') (st' : Slot H' 3 f'.stack.length (rowV f'.stack) sa') (hp' : Slot H' 6 h'.length (rowC h') ha')
    (hk : ∀ g, g < n → g ≠ gr → g ≠ gf → g ∉ own ha → g ∉ own va → g ∉ own sa → H' g = H g)
    (oh : ∀ g ∈ own ha', g ∈ own ha ∨ (n ≤ g ∧ g < n')) (ov : ∀ g ∈ own va', g ∈ own va ∨ (n ≤ g ∧ g < n')) (ot : ∀ g ∈ own sa', g ∈ own sa ∨ (n ≤ g ∧ g < n'))
    (nd3 : (own ha' ++ (own va' ++ own sa')).Nodup) : RL H0 H' lo n' gr gs gf id trip p s fs ss f' va' sa' h' ha' m' e' := by
  have ap := st.apart
  have b := st.bd
  simp only [List.mem_cons, List.mem_append] at b
  refine ⟨run', fr', st.frs.keep fun g hg => ?_, sv', st', hp', by rw [hk gs ap.s ap.rs.symm ap.sf (fun h => (ap.h _ h).2.2.1 rfl) (fun h => (ap.v _ h).2.2.1 rfl) (fun h => (ap.t _ h).2.2.1 rfl)]; exact st.spot, ?_, by have := st.gsn; omega, ?_, ?_, by have := st.le; omega⟩
  · obtain ⟨w1, w2, w3, w4, w5, w6, w7⟩ := ap.w g hg
    exact hk g w1 w2 w4 w5 w6 w7
  · have mh : ∀ g ∈ own ha', g ≠ gr ∧ g ≠ gs ∧ g ≠ gf ∧ g ∉ owns ss := fun g hg => by
      rcases oh g hg with h | h
      · obtain ⟨w1, w2, w3, w4, w5, w6, w7⟩ := ap.h g h; exact ⟨w2, w3, w4, w5⟩
      · have := ap.r; have := ap.s; have := ap.f
        exact ⟨by omega, by omega, by omega, fun hx => by have := (ap.w g hx).1; omega⟩
    have mv : ∀ g ∈ own va', g ≠ gr ∧ g ≠ gs ∧ g ≠ gf ∧ g ∉ owns ss := fun g hg => by
      rcases ov g hg with h | h
      · obtain ⟨w1, w2, w3, w4, w5, w6, w7⟩ := ap.v g h; exact ⟨w2, w3, w4, w6⟩
      · have := ap.r; have := ap.s; have := ap.f
        exact ⟨by omega, by omega, by omega, fun hx => by have := (ap.w g hx).1; omega⟩
    have mt : ∀ g ∈ own sa', g ≠ gr ∧ g ≠ gs ∧ g ≠ gf ∧ g ∉ owns ss := fun g hg => by
      rcases ot g hg with h | h
      · obtain ⟨w1, w2, w3, w4, w5, w6, w7⟩ := ap.t g h; exact ⟨w2, w3, w4, w6⟩
      · have := ap.r; have := ap.s; have := ap.f
        exact ⟨by omega, by omega, by omega, fun hx => by have := (ap.w g hx).1; omega⟩
    have ndw : (owns ss).Nodup := by
      have := st.nd
      simp only [List.nodup_cons, List.nodup_append] at this
      exact this.2.2.2.2.1.1
    simp only [List.nodup_append] at nd3
    obtain ⟨z1, ⟨z2, z3, z4⟩, z5⟩ := nd3
    simp only [List.nodup_cons, List.nodup_append, List.mem_cons, List.mem_append, not_or]
    refine ⟨⟨ap.rs, ap.rf, fun h => (mh _ h).1 rfl, fun h => (ap.w _ h).2.1 rfl, fun h => (mv _ h).1 rfl, fun h => (mt _ h).1 rfl⟩, ⟨ap.sf, fun h => (mh _ h).2.1 rfl, fun h => (ap.w _ h).2.2.1 rfl, fun h => (mv _ h).2.1 rfl, fun h => (mt _ h).2.1 rfl⟩, ⟨fun h => (mh _ h).2.2.1 rfl, fun h => (ap.w _ h).2.2.2.1 rfl, fun h => (mv _ h).2.2.1 rfl, fun h => (mt _ h).2.2.1 rfl⟩, z1, ⟨ndw, ⟨z2, z3, z4⟩, ?_⟩, ?_⟩
    · rintro x hx y (hy | hy) rfl
      · exact (mv _ hy).2.2.2 hx
      · exact (mt _ hy).2.2.2 hx
    · rintro x hx y (hy | hy | hy) rfl
      · exact (mh _ hx).2.2.2 hy
      · exact z5 _ hx _ (List.mem_append_left _ hy) rfl
      · exact z5 _ hx _ (List.mem_append_right _ hy) rfl
  · intro g hg
    have hl := st.le
    simp only [List.mem_cons, List.mem_append] at hg
    have old : (lo ≤ g ∧ g < n) → lo ≤ g ∧ g < n' := fun h => by omega
    have new : (n ≤ g ∧ g < n') → lo ≤ g ∧ g < n' := fun h => by omega
    rcases hg with hg | hg | hg | hg | hg | hg
    · exact old (b g (.inl hg))
    · exact old (b g (.inr (.inl hg)))
    · rcases oh g hg with h | h
      · exact old (b g (.inr (.inr (.inl h))))
      · exact new h
    · exact old (b g (.inr (.inr (.inr (.inl hg)))))
    · rcases ov g hg with h | h
      · exact old (b g (.inr (.inr (.inr (.inr (.inl h))))))
      · exact new h
    · rcases ot g hg with h | h
      · exact old (b g (.inr (.inr (.inr (.inr (.inr h))))))
      · exact new h
  · intro g hg
    have lb : ∀ x, (x = gr ∨ x = gf ∨ x ∈ own ha ∨ x ∈ owns ss ∨ x ∈ own va ∨ x ∈ own sa) → lo ≤ x := fun x hx => (b x hx).1
    have hl := st.le
    rw [hk g (by omega) (fun e => by have := lb gr (.inl rfl); omega) (fun e => by have := lb gf (.inr (.inl rfl)); omega) (fun h => by have := lb g (.inr (.inr (.inl h))); omega) (fun h => by have := lb g (.inr (.inr (.inr (.inr (.inl h))))); omega) (fun h => by have := lb g (.inr (.inr (.inr (.inr (.inr h))))); omega)]
    exact st.keep g hg
theorem RL.nd3 (st : RL H0 H lo n gr gs gf id trip p s fs ss f va sa h ha m e) : (own ha ++ (own va ++ own sa)).Nodup := by
  have := st.nd
  simp only [List.nodup_cons, List.nodup_append, List.mem_append] at this
  obtain ⟨_, _, _, n1, ⟨n2, ⟨n3, n4, n5⟩, n6⟩, n7⟩ := this
  simp only [List.nodup_append, List.mem_append]
  exact ⟨n1, ⟨n3, n4, n5⟩, fun a ha b hb => n7 a ha b (.inr hb)⟩
theorem RL.more (st : RL H0 H lo n gr gs gf id trip p s fs ss f va sa h ha m e) {H' : Heap} {n' : Nat} (hn : n ≤ n') (hk : ∀ g, g < n → H' g = H g) : RL H0 H' lo n' gr gs gf id trip p s fs ss f va sa h ha m e := by
  have ap := st.apart
  obtain ⟨cs, c1, c2⟩ := st.fr
  exact st.upd hn (by rw [hk _ ap.r]; exact st.run) ⟨cs, by rw [hk _ ap.f]; exact c1, c2⟩ (st.sv.keep fun g hg => hk g (ap.v g hg).1) (st.st.keep fun g hg => hk g (ap.t g hg).1) (st.hp.keep fun g hg => hk g (ap.h g hg).1) (fun g hg _ _ _ _ _ => hk g hg) (fun g hg => .inl hg) (fun g hg => .inl hg) (fun g hg => .inl hg) st.nd3
end
end Go.Proofs.YtobioljjoipimaaDoor
set_option maxRecDepth 8000
namespace Go.Proofs.YtobioljjoipimaaDoor
open Go Go.RowKit
theorem zxa {D : zg} : ∀ {H H' : Heap} {g : Nat}, g ∈ domD D → (H.apply D) g = (H'.apply D) g := by
  induction D with
  | nil => intro H H' g hg; simp at hg
  | cons d r ih =>
    obtain ⟨g', o⟩ := d
    intro H H' g hg
    show ((H.put g' o).apply r) g = ((H'.put g' o).apply r) g
    by_cases hr : g ∈ domD r
    · exact ih hr
    · rw [zic hr, zic hr]
      have : g = g' := by simpa [hr] using hg
      subst this
      rw [Heap.put_at, Heap.put_at]
theorem LC.of_calls {P : Program} {f : FuncId} {args : List AV} {r : AV} {H0 : Heap} {rd : List Nat} {D : zg} (hrd : ∀ g ∈ rd, (H0 g).isSome = true) (hdom : ∀ g ∈ domD D, g ∈ rd) (hr : ∀ A : Nat → Prop, (∀ g ∈ rd, A g) → (∀ g ∈ rd, ∀ o, H0 g = some o → BelO A o) → Bel A r)
    (hb : ∀ A : Nat → Prop, (∀ g ∈ rd, A g) → (∀ g ∈ rd, ∀ o, H0 g = some o → BelO A o) → ∀ g o, g ∈ domD D → (H0.apply D) g = some o → BelO A o)
    (h : ∀ H nx, (∀ g ∈ rd, H g = H0 g ∧ g < nx) → zb P f args H nx fun v H' nx' => v = r ∧ nx ≤ nx' ∧ (∀ g, g < nx → g ∉ domD D → H' g = H g) ∧ (∀ g o, g ∈ domD D → (H0.apply D) g = some o → H' g = some o)) : LC P f args H0 rd [] D r := by
  intro A ρ H w cargs ⟨N, hN⟩ s ha hag _
  have sN : Sim (· < N) ρ H w := ⟨fun g o ho => hN g (s.live g o ho), fun g o ho => (s.obj g o ho).mono rfl (fun _ _ h => h) (fun g hg => ⟨rfl, hN g hg⟩), s.inj, s.lay⟩
  have aN : LRel (Kof ρ H w) ρ (· < N) args cargs.toList := ⟨ha.1, fun j v c hv hc => (ha.2 j v c hv hc).mono (fun _ _ h => h) (fun g hg => ⟨rfl, hN g hg⟩)⟩
  have hrdA : ∀ g ∈ rd, A g := fun g hg => by
    obtain ⟨o, ho⟩ := Option.isSome_iff_exists.1 (hrd g hg)
    exact s.live g o ((hag g hg).trans ho)
  have hrdB : ∀ g ∈ rd, ∀ o, H0 g = some o → BelO A o := fun g hg o ho => (s.obj g o ((hag g hg).trans ho)).bel
  refine zh (h H N (fun g hg => ⟨hag g hg, hN g (hrdA g hg)⟩) ρ w cargs sN aN) fun cv w' ⟨v, H', nx', ρ', ⟨hv, hnx, hsame, hchg⟩, q3, q4, q5⟩ => ?_
  subst hv
  have hρ : ∀ g, g < N → ρ' g = ρ g := fun g hg => (q5.agree g hg).1
  have hAe : (fun x => A x ∨ x ∈ ([] : List Nat)) = A := by funext x; simp
  have lv : ∀ g o, (H.apply D) g = some o → A g ∧ H' g = some o ∧ BelO A o := fun g o ho => by
    by_cases hg : g ∈ domD D
    · rw [zxa (H' := H0) hg] at ho
      exact ⟨hrdA g (hdom g hg), hchg g o hg ho, hb A hrdA hrdB g o hg ho⟩
    · rw [zic hg] at ho
      have hA := s.live g o ho
      exact ⟨hA, by rw [hsame g (hN g hA) hg]; exact ho, (s.obj g o ho).bel⟩
  have hK : ∀ b o, Kof ρ' H' w' b = some o → Kof ρ' (H.apply D) w' b = some o := fun b o hb => by
    obtain ⟨h1, h2⟩ := zj.1 hb
    refine zj.2 ⟨fun g hg => ?_, h2⟩
    obtain ⟨o1, ho1⟩ := Option.isSome_iff_exists.1 hg
    exact h1 g (by rw [(lv g o1 ho1).2.1]; rfl)
  refine ⟨ρ', ?_, ?_, ?_⟩
  · rw [hAe]
    refine ⟨fun g o ho => (lv g o ho).1, fun g o ho => ?_, fun x y hx hy hxy => ?_, q3.lay.mono hK⟩
    · obtain ⟨_, h1, h2⟩ := lv g o ho
      exact ((q3.obj g o h1).restrict h2).mono rfl hK (fun _ h => ⟨rfl, h⟩)
    · obtain ⟨o1, ho1⟩ := Option.isSome_iff_exists.1 hx
      obtain ⟨o2, ho2⟩ := Option.isSome_iff_exists.1 hy
      exact q3.inj x y (by rw [(lv x o1 ho1).2.1]; rfl) (by rw [(lv y o2 ho2).2.1]; rfl) hxy
  · rw [hAe]
    exact (q4.restrict (hr A hrdA hrdB)).mono hK (fun g hg => ⟨rfl, hg⟩)
  · rw [hAe]
    exact ⟨fun g hg => ⟨hρ g (hN g hg), hg⟩, fun b o hb => hK b o (q5.k b o hb), q5.os, q5.tape, q5.output, q5.size⟩
theorem LC.of_callsN {P : Program} {f : FuncId} {args : List AV} {r : AV} {H0 : Heap} {rd : List Nat} {D : zg} {g0 : Nat} (hrd : ∀ g ∈ rd, (H0 g).isSome = true) (hdom : ∀ g ∈ domD D, g ∈ rd ∨ g = g0)
    (h : ∀ A : Nat → Prop, (∀ g ∈ rd, A g) → (∀ g ∈ rd, ∀ o, H0 g = some o → BelO A o) → ∀ H nx, (∀ g ∈ rd, H g = H0 g ∧ g < nx) → zb P f args H nx fun v H' nx' => ∃ gn, nx ≤ gn ∧ gn < nx' ∧ Rn A gn g0 v r ∧ (∀ g, g < nx → g ∉ domD D → H' g = H g) ∧
      (∀ g o, g ∈ domD D → g ≠ g0 → (H.apply D) g = some o → ∃ o', H' g = some o' ∧ RnO A gn g0 o' o) ∧ (∃ o o', (H.apply D) g0 = some o ∧ H' gn = some o' ∧ RnO A gn g0 o' o)) : LC P f args H0 rd [g0] D r := by
  intro A ρ H w cargs ⟨N0, hN0⟩ s ha hag hfresh
  obtain ⟨N, hN, hg0N⟩ : ∃ N, (∀ g, A g → g < N) ∧ g0 < N := ⟨max N0 (g0 + 1), fun g hg => by have := hN0 g hg; omega, by omega⟩
  have hg0 : ¬ A g0 := hfresh g0 (by simp)
  have sN : Sim (· < N) ρ H w := ⟨fun g o ho => hN g (s.live g o ho), fun g o ho => (s.obj g o ho).mono rfl (fun _ _ h => h) (fun g hg => ⟨rfl, hN g hg⟩), s.inj, s.lay⟩
  have aN : LRel (Kof ρ H w) ρ (· < N) args cargs.toList := ⟨ha.1, fun j v c hv hc => (ha.2 j v c hv hc).mono (fun _ _ h => h) (fun g hg => ⟨rfl, hN g hg⟩)⟩
  have hrdA : ∀ g ∈ rd, A g := fun g hg => by
    obtain ⟨o, ho⟩ := Option.isSome_iff_exists.1 (hrd g hg)
    exact s.live g o ((hag g hg).trans ho)
  have hrdB : ∀ g ∈ rd, ∀ o, H0 g = some o → BelO A o := fun g hg o ho => (s.obj g o ((hag g hg).trans ho)).bel
  refine zh (h A hrdA hrdB H N (fun g hg => ⟨hag g hg, hN g (hrdA g hg)⟩) ρ w cargs sN aN) fun cv w' ⟨v, H', nx', ρ', ⟨gn, hgN, hgn, hv, hsame, hchg, onew, onew', hn1, hn2, hn3⟩, q3, q4, q5⟩ => ?_
  have hρ : ∀ g, g < N → ρ' g = ρ g := fun g hg => (q5.agree g hg).1
  let ρ2 : Nat → Loc := fun g => if g = g0 then ρ' gn else ρ' g
  have h20 : ρ2 g0 = ρ' gn := if_pos rfl
  have h2 : ∀ g, g ≠ g0 → ρ2 g = ρ' g := fun g hg => if_neg hg
  have hAne : ∀ g, A g → g ≠ g0 := fun g hg e => hg0 (e ▸ hg)
  have hR : ∀ g, A g → g < nx' → ρ2 g = ρ' g ∧ (A g ∨ g ∈ [g0]) := fun g hg _ => ⟨h2 g (hAne g hg), .inl hg⟩
  have hRA : ∀ g, A g → g < nx' := fun g hg => by have := hN g hg; omega
  have hG : ρ2 g0 = ρ' gn ∧ (A g0 ∨ g0 ∈ [g0]) := ⟨h20, .inr (by simp)⟩
  -- who stands for whom
  have lv : ∀ g o, (H.apply D) g = some o → (A g ∨ g ∈ [g0]) ∧ ∃ g' o', H' g' = some o' ∧ ρ2 g = ρ' g' ∧ (g = g0 → g' = gn) ∧ (g ≠ g0 → g' = g ∧ A g) ∧
      (∀ K, zy K ρ' (· < nx') w' (ρ' g') o' → zy K ρ2 (fun x => A x ∨ x ∈ [g0]) w' (ρ2 g) o) := fun g o ho => by
    by_cases hgg : g = g0
    · subst hgg
      rw [hn1] at ho
      obtain rfl := Option.some.inj ho
      exact ⟨.inr (by simp), gn, onew', hn2, h20, fun _ => rfl, fun h => absurd rfl h, fun K hk => by rw [h20]; exact hk.rn hn3 hR hRA hG⟩
    · by_cases hg : g ∈ domD D
      · obtain ⟨o', h1, h3⟩ := hchg g o hg hgg ho
        have hA : A g := by
          rcases hdom g hg with h | h
          · exact hrdA g h
          · exact absurd h hgg
        exact ⟨.inl hA, g, o', h1, h2 g hgg, fun h => absurd h hgg, fun _ => ⟨rfl, hA⟩, fun K hk => by rw [h2 g hgg]; exact hk.rn h3 hR hRA hG⟩
      · rw [zic hg] at ho
        have hA := s.live g o ho
        refine ⟨.inl hA, g, o, by rw [hsame g (hN g hA) hg]; exact ho, h2 g hgg, fun h => absurd h hgg, fun _ => ⟨rfl, hA⟩, fun K hk => ?_⟩
        rw [h2 g hgg]
        exact (hk.restrict (s.obj g o ho).bel).mono rfl (fun _ _ h => h) (fun x hx => ⟨h2 x (hAne x hx), .inl hx⟩)
  have hK : ∀ b o, Kof ρ' H' w' b = some o → Kof ρ2 (H.apply D) w' b = some o := fun b o hb => by
    obtain ⟨k1, k2⟩ := zj.1 hb
    refine zj.2 ⟨fun g hg => ?_, k2⟩
    obtain ⟨o1, ho1⟩ := Option.isSome_iff_exists.1 hg
    obtain ⟨_, g', o', e1, e2, _⟩ := lv g o1 ho1
    rw [e2]
    exact k1 g' (by rw [e1]; rfl)
  refine ⟨ρ2, ⟨fun g o ho => (lv g o ho).1, fun g o ho => ?_, fun x y hx hy hxy => ?_, q3.lay.mono hK⟩, ?_, ⟨fun g hg => ⟨(h2 g (hAne g hg)).trans (hρ g (hN g hg)), .inl hg⟩, fun b o hb => hK b o (q5.k b o hb), q5.os, q5.tape, q5.output, q5.size⟩⟩
  · obtain ⟨_, g', o', e1, _, _, _, e4⟩ := lv g o ho
    exact (e4 _ (q3.obj g' o' e1)).mono rfl hK (fun _ h => ⟨rfl, h⟩)
  · obtain ⟨o1, ho1⟩ := Option.isSome_iff_exists.1 hx
    obtain ⟨o2, ho2⟩ := Option.isSome_iff_exists.1 hy
    obtain ⟨_, x', p1, e1, e2, e3, e4, _⟩ := lv x o1 ho1
    obtain ⟨_, y', p2, f1, f2, f3, f4, _⟩ := lv y o2 ho2
    rw [e2, f2] at hxy
    have hxy' := q3.inj x' y' (by rw [e1]; rfl) (by rw [f1]; rfl) hxy
    by_cases hx0 : x = g0
    · by_cases hy0 : y = g0
      · rw [hx0, hy0]
      · have := (f4 hy0).1
        have hAy := hN y (f4 hy0).2
        have := e3 hx0
        omega
    · by_cases hy0 : y = g0
      · have := (e4 hx0).1
        have hAx := hN x (e4 hx0).2
        have := f3 hy0
        omega
      · rw [← (e4 hx0).1, ← (f4 hy0).1]; exact hxy'
  · exact (q4.rn hv hR hRA hG).mono hK (fun g hg => ⟨rfl, hg⟩)
end Go.Proofs.YtobioljjoipimaaDoor
set_option maxRecDepth 8000
namespace Go.Proofs.YtobioljjoipimaaDoor
open Go Go.RowKit
section
variable {ki : IntKind}
@[simp ↓] theorem zxy {s g off len : Nat} {a : Int} {H : Heap} {kt : Kt} : zbc s (.slc g off len) none (some (.int ki a)) H kt = ROWK (H g) fun sz _ => sz = s ∧ 0 ≤ a ∧ a ≤ len ∧ kt (.slc g off a.toNat) [g] [] [] := by
  simp only [zbc, lohi]
  refine zcv (fun sz cs h => ?_) fun h => ?_
  · simp [h]
  · intro ha
    split at ha
    · rename_i sz cs he; exact h _ _ he
    · exact ha
@[simp ↓] theorem zub {s g off len : Nat} {a : Int} {H : Heap} {kt : Kt} : zbc s (.slc g off len) (some (.int ki a)) none H kt = ROWK (H g) fun sz _ => sz = s ∧ 0 ≤ a ∧ a ≤ len ∧ kt (.slc g (off + a.toNat * s) ((len : Int) - a).toNat) [g] [] [] := by
  simp only [zbc, lohi]
  refine zcv (fun sz cs h => ?_) fun h => ?_
  · simp [h]
  · intro ha
    split at ha
    · rename_i sz cs he; exact h _ _ he
    · exact ha
end
section
variable {H0 H : Heap} {lo n gr gs gf : Nat} {id trip : Int} {p : Prg} {s : Spt} {fs : List Frm} {ss : List (AV × AV)} {f : Frm} {va sa : AV} {h : List Cl} {ha : AV} {m : Pmt} {e : Evt}
theorem zaao {cs : List AV} {k : Nat} {w x y z : AV} {pre : List AV} (h : cs.take ((k + 1) * 4) = pre ++ [w, x, y, z]) (hp : pre.length = k * 4) (hl : (k + 1) * 4 ≤ cs.length) :
    cs[k * 4]? = some w ∧ cs[k * 4 + 1]? = some x ∧ cs[k * 4 + 2]? = some y ∧ cs[k * 4 + 3]? = some z := by
  have key : ∀ j, j < 4 → cs[k * 4 + j]? = ([w, x, y, z] : List AV)[j]? := fun j hj => by
    have := congrArg (·[k * 4 + j]?) h
    simp only [List.getElem?_take] at this
    rw [if_pos (by omega), List.getElem?_append_right (by omega)] at this
    rw [this, hp]; congr 1; omega
  exact ⟨key 0 (by omega), key 1 (by omega), key 2 (by omega), key 3 (by omega)⟩
theorem RL.last (st : RL H0 H lo n gr gs gf id trip p s fs ss f va sa h ha m e) : ∃ cs, H gf = some (.row 4 cs) ∧ cs.take ((fs.length + 1) * 4) = frow fs ss ++ [.int .i64 f.fn, .int .i64 f.at_, va, sa] ∧ (fs.length + 1) * 4 ≤ cs.length ∧
    cs[fs.length * 4]? = some (.int .i64 f.fn) ∧ cs[fs.length * 4 + 1]? = some (.int .i64 f.at_) ∧ cs[fs.length * 4 + 2]? = some va ∧ cs[fs.length * 4 + 3]? = some sa := by
  obtain ⟨cs, h1, h2, h3⟩ := st.fr
  exact ⟨cs, h1, h2, h3, zaao h2 (zex st.frs.1) h3⟩
theorem zvt {rc cs : List AV} {k : Nat} (h1 : H gr = some (.row 13 rc)) (h2 : rc[4]? = some (.slc gf 0 (k + 1))) (h3 : H gf = some (.row 4 cs)) (hk : k ≤ 4096) {Q : AV → Heap → Nat → Prop} (hq : Q (.ptr gf (k * 4)) H n) : zb Tryd.prog 84 [.ptr gr 0] H n Q := by
  refine zks _ H n _ ?_
  have hw2 : IntKind.i64.wrap (k : Int) = k := i64w (by omega)
  simp [zha, h1, h2, hw2]
  exact ⟨by omega, hq⟩
end
end Go.Proofs.YtobioljjoipimaaDoor
set_option maxRecDepth 8000
namespace Go.Proofs.YtobioljjoipimaaDoor
open Go Go.RowKit
end Go.Proofs.YtobioljjoipimaaDoor
set_option maxRecDepth 8000
namespace Go.Proofs.YtobioljjoipimaaDoor
open Go Go.RowKit
section
variable {H0 H : Heap} {lo n gr gs gf : Nat} {id trip : Int} {p : Prg} {s : Spt} {fs : List Frm} {ss : List (AV × AV)} {f : Frm} {va sa : AV} {h : List Cl} {ha : AV} {m : Pmt} {e : Evt}
@[simp] theorem zakf (v : Val) : v.avs[0]? = some (.int .i64 v.kind) := rfl
@[simp] theorem zake (v : Val) : v.avs[1]? = some (.int .i64 v.n) := rfl
@[simp] theorem zakd (v : Val) : v.avs[2]? = some (.str v.text) := rfl
@[simp] theorem zakc (v : Val) : v.avs.take 3 = v.avs := rfl
theorem zaaj (v : Val) : ∀ x ∈ v.avs, x.one = true := fun x hx => zqv (zdw v x hx)
def Fct.avs (x : Fct) : List AV := .str x.key :: x.val.avs
end
end Go.Proofs.YtobioljjoipimaaDoor
set_option maxRecDepth 8000
namespace Go.Proofs.YtobioljjoipimaaDoor
open Go Go.RowKit
section
variable {H0 H : Heap} {lo n gr gs gf : Nat} {id trip : Int} {p : Prg} {s : Spt} {fs : List Frm} {ss : List (AV × AV)} {f : Frm} {va sa : AV} {h : List Cl} {ha : AV} {m : Pmt} {e : Evt}
@[simp ↓] theorem zaje {g o : Nat} {k : AV → Prop} : BP .eql (.ptr g o) .nilp k = k (.bool false) := rfl
end
end Go.Proofs.YtobioljjoipimaaDoor
set_option maxRecDepth 8000
namespace Go.Proofs.YtobioljjoipimaaDoor
open Go Go.RowKit
section
variable {H0 H : Heap} {lo n gr gs gf : Nat} {id trip : Int} {p : Prg} {s : Spt} {fs : List Frm} {ss : List (AV × AV)} {f : Frm} {va sa : AV} {h : List Cl} {ha : AV} {m : Pmt} {e : Evt}
end
end Go.Proofs.YtobioljjoipimaaDoor
set_option maxRecDepth 8000
namespace Go.Proofs.YtobioljjoipimaaDoor
open Go Go.RowKit
section
variable {ki : IntKind}
theorem zaar {e g off len mm : Nat} {x : AV} {H : Heap} {cells news : List AV} {rd : List Nat} {kh : AV → Heap → Prop} (hs : ze e H x = some (mm, news, rd)) (hg : H g = some (.row e cells)) (hle : off + len * e ≤ cells.length) (hone : news.all AV.one = true)
    (hk : kh (.int .i64 (min mm len : Nat)) (H.put g (some (.row e (zu cells off (news.take (min mm len * e))))))) : CP e (.slc g off len) x H kh := by
  unfold CP COPY
  rw [hs]
  simp only [hg]
  exact ⟨trivial, hle, hone, hk⟩
@[simp ↓] theorem zakl {s g off len : Nat} {a : Int} {H : Heap} {k : AV → Prop} : SL s (.slc g off len) (some (.int ki a)) none H k = ROWK (H g) fun sz _ => sz = s ∧ 0 ≤ a ∧ a ≤ len ∧ k (.slc g (off + a.toNat * s) ((len : Int) - a).toNat) := by
  unfold SL
  rw [zub]; rfl
@[simp ↓] theorem zakm {s g off len : Nat} {a : Int} {H : Heap} {k : AV → Prop} : SL s (.slc g off len) none (some (.int ki a)) H k = ROWK (H g) fun sz _ => sz = s ∧ 0 ≤ a ∧ a ≤ len ∧ k (.slc g off a.toNat) := by
  unfold SL
  rw [zxy]; rfl
@[simp ↓] theorem zahf {s : Nat} {a : Int} {H : Heap} {k : AV → Prop} : SL s .nils (some (.int ki a)) none H k = (a = 0 ∧ k .nils) := by
  simp [SL, zbc, lohi, PURE, qk]
@[simp ↓] theorem zahd {s : Nat} {a : Int} {H : Heap} {k : AV → Prop} : SL s .zs (some (.int ki a)) none H k = (a = 0 ∧ k .zs) := by
  simp [SL, zbc, lohi, PURE, qk]
@[simp ↓] theorem zahe {s : Nat} {a : Int} {H : Heap} {k : AV → Prop} : SL s .zs none (some (.int ki a)) H k = (a = 0 ∧ k .zs) := by
  simp [SL, zbc, lohi, PURE, qk]
@[simp ↓] theorem zahg {s : Nat} {a : Int} {H : Heap} {k : AV → Prop} : SL s .nils none (some (.int ki a)) H k = (a = 0 ∧ k .nils) := by
  simp [SL, zbc, lohi, PURE, qk]
end
section
variable {H0 H : Heap} {lo n gr gs gf : Nat} {id trip : Int} {p : Prg} {s : Spt} {fs : List Frm} {ss : List (AV × AV)} {f : Frm} {va sa : AV} {h : List Cl} {ha : AV} {m : Pmt} {e : Evt}
theorem zcb (ss : List (AV × AV)) (t : AV × AV) : owns (ss ++ [t]) = owns ss ++ (own t.1 ++ own t.2) := by simp [owns]
theorem RL.call (st : RL H0 H lo n gr gs gf id trip p s fs ss f va sa h ha m e) {H' : Heap} {n' gv gf' N : Nat} {f2 f3 : Frm} {sa2 : AV} (hn : n ≤ n') (hv : n ≤ gv ∧ gv < n') (hg : n ≤ gf' ∧ gf' < n') (hne : gv ≠ gf')
    (run' : H' gr = some (.row 13 (zdy id trip p (.slc gf' 0 (fs.length + 1 + 1)) ha m gs e))) (fr' : ∃ cs, H' gf' = some (.row 4 cs) ∧ cs.take ((fs.length + 1 + 1) * 4) = frow (fs ++ [f2]) (ss ++ [(va, sa2)]) ++ [.int .i64 f3.fn, .int .i64 f3.at_, .slc gv 0 N, .nils] ∧ (fs.length + 1 + 1) * 4 ≤ cs.length)
    (hvars : f2.vars = f.vars) (sa2' : Slot H' 3 f2.stack.length (rowV f2.stack) sa2) (own2 : own sa2 = own sa) (sv' : Slot H' 3 f3.vars.length (rowV f3.vars) (.slc gv 0 N)) (st3 : f3.stack = [])
    (hk : ∀ x, x < n → x ≠ gr → x ≠ gf → H' x = H x) : RL H0 H' lo n' gr gs gf' id trip p s (fs ++ [f2]) (ss ++ [(va, sa2)]) f3 (.slc gv 0 N) .nils h ha m e := by
  have ap := st.apart
  have b := st.bd
  simp only [List.mem_cons, List.mem_append] at b
  have hl := st.le
  refine ⟨by rw [run']; simp, by simpa using fr', ?_, sv', .inl ⟨by rw [st3]; rfl, .inl rfl⟩, st.hp.keep fun x hx => hk x (ap.h x hx).1 (ap.h x hx).2.1 (ap.h x hx).2.2.2.1, by rw [hk gs ap.s ap.rs.symm ap.sf]; exact st.spot, ?_, by have := st.gsn; omega, ?_, ?_, by omega⟩
  · refine (st.frs.keep fun x hx => hk x (ap.w x hx).1 (ap.w x hx).2.1 (ap.w x hx).2.2.2.1).snoc ?_ sa2'
    rw [hvars]
    exact st.sv.keep fun x hx => hk x (ap.v x hx).1 (ap.v x hx).2.1 (ap.v x hx).2.2.2.1
  · have nd := st.nd
    simp only [List.nodup_cons, List.nodup_append, List.mem_cons, List.mem_append, not_or] at nd
    obtain ⟨⟨a1, a2, a3, a4, a5, a6⟩, ⟨b1, b2, b3, b4, b5⟩, ⟨c1, c2, c3, c4⟩, n1, ⟨n2, ⟨n3, n4, n5⟩, n6⟩, n7⟩ := nd
    have r := ap.r
    have s' := ap.s
    have fh : ∀ x, (x ∈ own ha ∨ x ∈ owns ss ∨ x ∈ own va ∨ x ∈ own sa) → x < n := fun x hx => by
      rcases hx with h | h | h | h
      · exact (ap.h x h).1
      · exact (ap.w x h).1
      · exact (ap.v x h).1
      · exact (ap.t x h).1
    rw [zcb]
    have ow1 : own (.slc gv 0 N) = [gv] := rfl
    have ow2 : own .nils = [] := rfl
    simp only [own2, ow1, ow2, List.append_nil, List.nodup_cons, List.nodup_append, List.mem_cons, List.mem_append, not_or, List.not_mem_nil, or_false, not_false_eq_true, List.nodup_nil, and_true]
    refine ⟨⟨a1, by omega, a3, ⟨a4, a5, a6⟩, by omega⟩, ⟨by omega, b2, ⟨b3, b4, b5⟩, by omega⟩, ⟨fun h => by have := fh _ (.inl h); omega, ⟨fun h => by have := fh _ (.inr (.inl h)); omega, fun h => by have := fh _ (.inr (.inr (.inl h))); omega, fun h => by have := fh _ (.inr (.inr (.inr h))); omega⟩, fun h => hne h.symm⟩, n1, ⟨⟨n2, ⟨n3, n4, n5⟩, n6⟩, ?_⟩, ?_⟩
    · refine ⟨trivial, ?_⟩
      rintro x hx y rfl rfl
      have := fh x (.inr hx); omega
    · rintro x hx y (hy | rfl) rfl
      · exact n7 x hx x hy rfl
      · have := fh x (.inl hx); omega
  · intro g hg'
    rw [zcb] at hg'
    have ow1 : own (.slc gv 0 N) = [gv] := rfl
    have ow2 : own .nils = [] := rfl
    simp only [own2, ow1, ow2, List.append_nil, List.mem_cons, List.mem_append, List.not_mem_nil, or_false] at hg'
    have old : (lo ≤ g ∧ g < n) → lo ≤ g ∧ g < n' := fun h => by omega
    rcases hg' with h | h | h | (h | h | h) | h
    · exact old (b g (.inl h))
    · omega
    · exact old (b g (.inr (.inr (.inl h))))
    · exact old (b g (.inr (.inr (.inr (.inl h)))))
    · exact old (b g (.inr (.inr (.inr (.inr (.inl h))))))
    · exact old (b g (.inr (.inr (.inr (.inr (.inr h))))))
    · omega
  · intro g hg'
    have l1 := (b gr (.inl rfl)).1
    have l2 := (b gf (.inr (.inl rfl))).1
    rw [hk g (by omega) (by omega) (by omega)]
    exact st.keep g hg'
theorem zaas {p : Prg} {k : Int} (h : k.toNat < p.codes.length) : p.codes[k.toNat]? = some (VM.codeAt p k) := by
  unfold VM.codeAt
  rw [List.getElem?_eq_getElem h, List.getD_eq_getElem?_getD, List.getElem?_eq_getElem h]; rfl
end
end Go.Proofs.YtobioljjoipimaaDoor
set_option maxRecDepth 8000
namespace Go.Proofs.YtobioljjoipimaaDoor
open Go Go.RowKit
def Fin (H0 H : Heap) (lo gr : Nat) (id trip : Int) (p : Prg) (frames : List Frm) (h : List Cl) (m : Pmt) (e : Evt) : Prop := ∃ gs gf ss ha cs, H gr = some (.row 13 (zdy id trip p (.slc gf 0 frames.length) ha m gs e)) ∧ H gf = some (.row 4 cs) ∧ cs.take (frames.length * 4) = frow frames ss ∧ frames.length * 4 ≤ cs.length ∧
  zq H frames ss ∧ Slot H 6 h.length (rowC h) ha ∧ lo ≤ gf ∧ (∀ g ∈ own ha, lo ≤ g) ∧ (∀ g ∈ owns ss, lo ≤ g) ∧ Keep lo H H0
section
variable {H0 H : Heap} {lo n gr gs gf : Nat} {id trip : Int} {p : Prg} {s : Spt} {fs : List Frm} {ss : List (AV × AV)} {f : Frm} {va sa : AV} {h : List Cl} {ha : AV} {m : Pmt} {e : Evt}
theorem RL.fin (st : RL H0 H lo n gr gs gf id trip p s fs ss f va sa h ha m e) : Fin H0 H lo gr id trip p (fs ++ [f]) h m e := by
  obtain ⟨cs, c1, c2, c3⟩ := st.fr
  have b := st.bd
  simp only [List.mem_cons, List.mem_append] at b
  refine ⟨gs, gf, ss ++ [(va, sa)], ha, cs, by rw [st.run]; simp, c1, by rw [zfh st.frs.1]; simpa using c2, by simpa using c3, st.frs.snoc st.sv st.st, st.hp, (b gf (.inr (.inl rfl))).1, fun g hg => (b g (.inr (.inr (.inl hg)))).1, fun g hg => ?_, st.keep⟩
  rw [zcb] at hg
  rcases List.mem_append.1 hg with h | h
  · exact (b g (.inr (.inr (.inr (.inl h))))).1
  · rcases List.mem_append.1 h with h | h
    · exact (b g (.inr (.inr (.inr (.inr (.inl h)))))).1
    · exact (b g (.inr (.inr (.inr (.inr (.inr h)))))).1
theorem RL.back {gs' : List Frm} {g' : Frm} {ts : List (AV × AV)} {t : AV × AV} (st : RL H0 H lo n gr gs gf id trip p s (gs' ++ [g']) (ts ++ [t]) f va sa h ha m e) : RL H0 (H.put gr (some (.row 13 (zdy id trip p (.slc gf 0 (gs'.length + 1)) ha m gs e)))) lo n gr gs gf id trip p s gs' ts g' t.1 t.2 h ha m e := by
  have ap := st.apart
  have b := st.bd
  obtain ⟨cs, c1, c2, c3⟩ := st.fr
  have hk : ∀ x, x ≠ gr → (H.put gr (some (.row 13 (zdy id trip p (.slc gf 0 (gs'.length + 1)) ha m gs e)))) x = H x := fun x hx => Heap.put_ne _ _ hx
  obtain ⟨f1, f2, f3⟩ := st.frs.last
  have ow : ∀ x ∈ owns ts ++ (own t.1 ++ own t.2), x ∈ owns (ts ++ [t]) := fun x hx => by rw [zcb]; exact hx
  have wr : ∀ x ∈ owns ts ++ (own t.1 ++ own t.2), x ≠ gr := fun x hx => (ap.w x (ow x hx)).2.1
  refine ⟨Heap.put_at _ _ _, ⟨cs, by rw [hk _ ap.rf.symm]; exact c1, ?_, by simp at c3; omega⟩, f1.keep fun x hx => hk x (wr x (List.mem_append_left _ hx)), f2.keep fun x hx => hk x (wr x (List.mem_append_right _ (List.mem_append_left _ hx))), f3.keep fun x hx => hk x (wr x (List.mem_append_right _ (List.mem_append_right _ hx))),
    st.hp.keep fun x hx => hk x (ap.h x hx).2.1, by rw [hk _ ap.rs.symm]; exact st.spot, ?_, st.gsn, ?_, ?_, st.le⟩
  · have hl := zex st.frs.1
    have e1 := congrArg (List.take ((gs'.length + 1) * 4)) c2
    rw [List.take_take, Nat.min_eq_left (by simp; omega)] at e1
    rw [e1, List.take_append_of_le_length (by rw [hl]; simp), List.take_of_length_le (by rw [hl]; simp), zfh f1.1]
  · have nd := st.nd
    rw [zcb] at nd
    refine List.Sublist.nodup ?_ nd
    refine .cons_cons _ (.cons_cons _ (.cons_cons _ (List.Sublist.append (List.Sublist.refl _) ?_)))
    exact List.sublist_append_left _ _
  · intro g hg
    refine b g ?_
    simp only [List.mem_cons, List.mem_append] at hg ⊢
    rcases hg with h | h | h | h | h | h
    · exact .inl h
    · exact .inr (.inl h)
    · exact .inr (.inr (.inl h))
    · exact .inr (.inr (.inr (.inl (ow _ (by simp [h])))))
    · exact .inr (.inr (.inr (.inl (ow _ (by simp [h])))))
    · exact .inr (.inr (.inr (.inl (ow _ (by simp [h])))))
  · intro g hg
    have l1 := (b gr (by simp)).1
    rw [hk g (by omega)]
    exact st.keep g hg
theorem Slot.frzC {a : AV} {h : List Cl} (hs : Slot H 6 h.length (rowC h) a) : Frz H 0 a (.ro (h.map Cl.avs)) := by
  rcases hs with ⟨h0, rfl | rfl⟩ | ⟨g, cs, rfl, h1, h2, h3⟩
  · rw [List.eq_nil_of_length_eq_zero h0]; exact .nils
  · rw [List.eq_nil_of_length_eq_zero h0]; exact .zs
  · refine .slc g 0 _ 6 cs _ (Nat.zero_le _) h1 (by omega) (by simp) (zez h) (fun i j => (cs[i * 6 + j]?).getD .junk) (fun i x j v hx hv => ?_) (fun i x j v hx hv => ?_)
    all_goals
      have hj : j < 6 := by
        have := (List.getElem?_eq_some_iff.1 hv).1
        rw [zez h x (List.mem_of_getElem? hx)] at this; exact this
      have hi : i < h.length := by have := (List.getElem?_eq_some_iff.1 hx).1; simpa using this
      have e : cs[i * 6 + j]? = some v := by
        have e1 := zgv (zez h) hx
        have e2 : (rowC h)[i * 6 + j]? = some v := by
          have := congrArg (·[j]?) e1
          simp only [List.getElem?_take, List.getElem?_drop, hj, if_true] at this
          unfold rowC; rw [this]; exact hv
        rw [← h2, List.getElem?_take, if_pos (by omega)] at e2
        exact e2
    · rw [Nat.zero_add, e]; rfl
    · rw [e]
      exact .same _ (zdx (zca h x (List.mem_of_getElem? hx) v (List.mem_of_getElem? hv)))
theorem zaa.show {a : AV} {h : List Cl} {v : Val} (hs : Slot H 6 h.length (rowC h) a) (hc : zpd h) (hv : VM.WrongOk v h.length) {nx : Nat} {k : Kt} (hk : k (.str (VM.vshow h 4 v)) (own a) [] []) : zaa Tryd.prog (.clo 94 []) [a, .agg v.avs, .int .i64 4] H nx k := by
  refine zaa.of_qcr (own a) (fun g hg => ?_) (fun H' n' hh => QC.reads (zow hc 4 v 4 hv rfl (by omega) (by omega)) (by simp) (.cons (Slot.frzC (hs.keep fun g hg => (hh g hg).1)) (.cons (.same _ (zvy v)) (.cons (.same _ (.int _ _)) .nil)))) (.str _) hk
  rcases hs with ⟨_, rfl | rfl⟩ | ⟨g', cs, rfl, h1, _⟩
  · simp [own] at hg
  · simp [own] at hg
  · simp [own] at hg; subst hg; rw [h1]; rfl
end
end Go.Proofs.YtobioljjoipimaaDoor
set_option maxRecDepth 8000
namespace Go.Proofs.YtobioljjoipimaaDoor
open Go Go.RowKit
section
variable {H0 H : Heap} {lo n gr gs gf : Nat} {id trip : Int} {p : Prg} {s : Spt} {fs : List Frm} {ss : List (AV × AV)} {f : Frm} {va sa : AV} {h : List Cl} {ha : AV} {m : Pmt} {e : Evt}
structure zrt (H : Heap) (gr gf k j : Nat) (cs cells : List AV) (sa : AV) : Prop where
  run : ∃ rc, H gr = some (.row 13 rc) ∧ rc[4]? = some (.slc gf 0 (k + 1))
  fr : H gf = some (.row 4 cs)
  frl : (k + 1) * 4 ≤ cs.length
  cell : cs[k * 4 + 3]? = some sa
  st : Slot H 3 j cells sa
  len : cells.length = j * 3
  kb : k ≤ 4096
  jb : j ≤ 4096
  of : gf ∉ own sa
def zcw (cs : List AV) (k g j : Nat) : List AV := cs.take (k * 4 + 3) ++ AV.slc g 0 (j + 1) :: cs.drop (k * 4 + 3 + 1)
set_option maxHeartbeats 1000000 in
theorem zug {k j : Nat} {cs cells : List AV} (v : Val) (st : zrt H gr gf k j cs cells sa) (l1 : gr < n) (l2 : gf < n) (l3 : ∀ g ∈ own sa, g < n) {Q : AV → Heap → Nat → Prop}
    (hq : ∀ H' n' g', n ≤ g' → g' < n' → H' gf = some (.row 4 (zcw cs k g' j)) → H' g' = some (.row 3 (cells ++ v.avs)) → (∀ x, x < n → x ≠ gf → x ∉ own sa → H' x = H x) → Q (.tup []) H' n') : zb Tryd.prog 85 [.ptr gr 0, .agg v.avs] H n Q := by
  refine zji _ _ H n _ ?_
  simp [zfv]
  obtain ⟨rc, h1, h2⟩ := st.run
  have c1 := st.fr
  have c3 := st.frl
  have c7 := st.cell
  have rn0 : gr ≠ n := by omega
  have fn0 : gf ≠ n := by omega
  refine zvt (rc := rc) (cs := cs) (k := k) (by rw [Heap.put_ne _ _ rn0]; exact h1) h2 (by rw [Heap.put_ne _ _ fn0]; exact c1) st.kb ?_
  have tv : v.avs.take 3 = v.avs := rfl
  have lv : v.avs.length = 3 := rfl
  have fnn : gf ≠ n + 1 := by omega
  have gn1 : n ≠ n + 1 := by omega
  have hlen := st.len
  have hjb := st.jb
  simp [zfw, c1, c7, tv, lv, fn0, gn1]
  have sa1 : Slot ((H.put n (some (AObj.row 3 v.avs))).put (n + 1) (some (AObj.row 3 v.avs))) 3 j cells sa := st.st.keep fun g hg => by
    have := l3 g hg
    rw [Heap.put_ne _ _ (by omega), Heap.put_ne _ _ (by omega)]
  refine Slot.append (new := v.avs) sa1 st.len (Heap.put_at _ _ _) rfl (List.all_eq_true.2 (zaaj v)) (by omega) fun rd D hD q1 q2 => ?_
  have hgf : (((H.put n (some (AObj.row 3 v.avs))).put (n + 1) (some (AObj.row 3 v.avs))).apply D) gf = some (.row 4 cs) := by
    rw [q2 gf st.of (by omega), Heap.put_ne _ _ fnn, Heap.put_ne _ _ fn0]; exact c1
  have hold : ∀ g, g < n → g ∉ own sa → (((H.put n (some (AObj.row 3 v.avs))).put (n + 1) (some (AObj.row 3 v.avs))).apply D) g = H g := fun g hg hs => by
    rw [q2 g hs (by omega), Heap.put_ne _ _ (by omega), Heap.put_ne _ _ (by omega)]
  generalize ((H.put n (some (AObj.row 3 v.avs))).put (n + 1) (some (AObj.row 3 v.avs))).apply D = HD at *
  simp [hgf]
  refine ⟨by omega, by omega, zrk (by simp) (hq _ _ (n + 1 + 1) (by omega) (by omega) (by rw [Heap.put_at]; rfl) (by rw [Heap.put_ne _ _ (by omega)]; exact q1) fun x h1 h2 h3 => by rw [Heap.put_ne _ _ h2]; exact hold x h1 h3)⟩
def gone (sa : AV) : zg := (own sa).map fun g => (g, none)
theorem zaa.push {k j : Nat} {cs cells : List AV} {v : Val} (st : zrt H gr gf k j cs cells sa) (hc : ∀ c ∈ cells, scal c = true) {kt : Kt} (hne : ∀ g, g ∈ own sa → g ≠ n ∧ g ≠ gf) (hfn : gf ≠ n) (hk : kt (.tup []) (gr :: gf :: own sa) [n] (gone sa ++ [(gf, some (.row 4 (zcw cs k n j))), (n, some (.row 3 (cells ++ v.avs)))])) :
    zaa Tryd.prog (.clo 85 []) [.ptr gr 0, .agg v.avs] H n kt := by
  obtain ⟨rc, h1, h2⟩ := st.run
  have c1 := st.fr
  have dg : ∀ x, x ∈ domD (gone sa) ↔ x ∈ own sa := fun x => by simp [gone, domD]
  have dD : ∀ x, x ∈ domD (gone sa ++ [(gf, some (.row 4 (zcw cs k n j))), (n, some (.row 3 (cells ++ v.avs)))]) ↔ x ∈ own sa ∨ x = gf ∨ x = n := fun x => by simp [domD, gone]
  have app : ∀ Hx : Heap, (Hx.apply (gone sa ++ [(gf, some (.row 4 (zcw cs k n j))), (n, some (.row 3 (cells ++ v.avs)))])) gf = some (.row 4 (zcw cs k n j)) ∧ (Hx.apply (gone sa ++ [(gf, some (.row 4 (zcw cs k n j))), (n, some (.row 3 (cells ++ v.avs)))])) n = some (.row 3 (cells ++ v.avs)) ∧
      ∀ x ∈ own sa, (Hx.apply (gone sa ++ [(gf, some (.row 4 (zcw cs k n j))), (n, some (.row 3 (cells ++ v.avs)))])) x = none := fun Hx => by
    have e : ∀ (D1 D2 : zg) (Hy : Heap), Hy.apply (D1 ++ D2) = (Hy.apply D1).apply D2 := fun D1 D2 Hy => by
      induction D1 generalizing Hy with
      | nil => rfl
      | cons d D1 ih => obtain ⟨g, o⟩ := d; exact ih (Hy.put g o)
    rw [e]
    simp only [zbv, zcg]
    refine ⟨by rw [Heap.put_ne _ _ hfn, Heap.put_at], by rw [Heap.put_at], fun x hx => ?_⟩
    obtain ⟨a, b⟩ := hne x hx
    rw [Heap.put_ne _ _ a, Heap.put_ne _ _ b]
    cases sa <;> simp [own] at hx
    subst hx
    simp [gone, own]
  refine ⟨_, gr :: gf :: own sa, [n], _, .inr (.inl rfl), LC.of_callsN (fun x hx => ?_) (fun x hx => ?_) (fun A hA hB H' n' hag => ?_), hk⟩
  · simp at hx
    rcases hx with rfl | rfl | hx
    · rw [h1]; rfl
    · rw [c1]; rfl
    · rcases st.st with ⟨_, rfl | rfl⟩ | ⟨g, gcs, rfl, g1, _⟩
      · simp [own] at hx
      · simp [own] at hx
      · simp [own] at hx; subst hx; rw [g1]; rfl
  · rcases (dD x).1 hx with h | h | h
    · exact .inl (by simp [h])
    · exact .inl (by simp [h])
    · exact .inr h
  · obtain ⟨a1, a2⟩ := hag gr (by simp)
    obtain ⟨a3, a4⟩ := hag gf (by simp)
    have st' : zrt H' gr gf k j cs cells sa := ⟨⟨rc, by rw [a1]; exact h1, h2⟩, by rw [a3]; exact c1, st.frl, st.cell, st.st.keep fun g hg => (hag g (by simp [hg])).1, st.len, st.kb, st.jb, st.of⟩
    refine zug v st' a2 a4 (fun g hg => (hag g (by simp [hg])).2) fun H'' n'' g' hg1 hg2 q1 q2 old => ?_
    obtain ⟨p1, p2, p3⟩ := app H'
    have hb := hB gf (by simp) _ c1
    refine ⟨g', hg1, hg2, .same _ (.tup _ fun j v hv => by simp at hv), fun x hx hd => ?_, fun x o hx hxn ho => ?_, ⟨_, _, p2, q2, rfl, rfl, fun j x u hx hu => ?_⟩⟩
    · have := (not_congr (dD x)).1 hd
      simp only [not_or] at this
      exact old x hx this.2.1 this.1
    · rcases (dD x).1 hx with h | h | h
      · rw [p3 x h] at ho; cases ho
      · subst h
        rw [p1] at ho
        cases ho
        refine ⟨_, q1, rfl, by simp [zcw], fun j x u hx hu => ?_⟩
        unfold zcw at hx hu
        have hl : (cs.take (k * 4 + 3)).length = k * 4 + 3 := by have := st.frl; simp; omega
        by_cases hj : j < k * 4 + 3
        · rw [List.getElem?_append_left (by omega)] at hx hu
          rw [hx] at hu; cases hu
          rw [List.getElem?_take, if_pos hj] at hx
          exact .same _ (hb j x hx)
        · rw [List.getElem?_append_right (by omega)] at hx hu
          rw [hl] at hx hu
          cases hjj : j - (k * 4 + 3) with
          | zero =>
            rw [hjj] at hx hu
            simp at hx hu; subst hx; subst hu
            exact .slc _ _
          | succ i =>
            rw [hjj] at hx hu
            simp only [List.getElem?_cons_succ] at hx hu
            rw [hx] at hu; cases hu
            rw [List.getElem?_drop] at hx
            exact .same _ (hb _ x hx)
      · exact absurd h hxn
    · rw [hx] at hu; cases hu
      have hm := List.mem_of_getElem? hx
      refine .same _ (zdx ?_)
      rcases List.mem_append.1 hm with h | h
      · exact hc x h
      · exact zdw v x h
end
end Go.Proofs.YtobioljjoipimaaDoor
namespace Go.Proofs.YtobioljjoipimaaDoor
open Go Go.RowKit
section
variable {H0 H : Heap} {lo n gr gs gf : Nat} {id trip : Int} {p : Prg} {s : Spt} {fs : List Frm} {ss : List (AV × AV)} {f : Frm} {va sa : AV} {h : List Cl} {ha : AV} {m : Pmt} {e : Evt}
end
section
variable {H0 H : Heap} {lo n gr gs gf : Nat} {a : Agt} {s : Spt} {fs : List Frm} {ss : List (AV × AV)} {f : Frm} {va sa : AV} {ha : AV}
end
end Go.Proofs.YtobioljjoipimaaDoor
set_option maxRecDepth 8000
namespace Go.Proofs.YtobioljjoipimaaDoor
open Go Go.RowKit
theorem zuq (l : List Ins) : ∀ x ∈ l.map Ins.avs, x.length = 3 := by intro x hx; obtain ⟨v, _, rfl⟩ := List.mem_map.1 hx; rfl
theorem zvx (l : List Ins) : ∀ x ∈ l.map Ins.avs, ∀ c ∈ x, scal c = true := by
  intro x hx c hc
  obtain ⟨v, _, rfl⟩ := List.mem_map.1 hx
  simp [Ins.avs] at hc
  rcases hc with rfl | rfl | rfl <;> rfl
theorem zvw (l : List Str) : ∀ x ∈ l.map (fun w => [AV.str w]), ∀ c ∈ x, scal c = true := by
  intro x hx c hc
  obtain ⟨v, _, rfl⟩ := List.mem_map.1 hx
  simp at hc
  subst hc; rfl
def zep (H : Heap) (R : Nat → Prop) (sz : Nat) (xs : List (List AV)) (a : AV) : Prop := (xs = [] ∧ a = .nils) ∨ ∃ g, R g ∧ a = .slc g 0 xs.length ∧ H g = some (.row sz xs.flatten)
theorem zep.more {H H' : Heap} {R R' : Nat → Prop} {sz : Nat} {xs : List (List AV)} {a : AV} (h : zep H R sz xs a) (hR : ∀ g, R g → R' g ∧ H' g = H g) : zep H' R' sz xs a := by
  rcases h with h | ⟨g, h1, h3, h4⟩
  · exact .inl h
  · exact .inr ⟨g, (hR g h1).1, h3, by rw [(hR g h1).2]; exact h4⟩
theorem zep.one {H : Heap} {R : Nat → Prop} {sz : Nat} {xs : List (List AV)} {a : AV} (h : zep H R sz xs a) : a.cells = [a] ∧ a.one = true ∧ a.sure = true := by
  rcases h with ⟨_, rfl⟩ | ⟨g, _, rfl, _⟩ <;> exact ⟨rfl, rfl, rfl⟩
theorem Slot.one {H : Heap} {sz k : Nat} {cells : List AV} {a : AV} (h : Slot H sz k cells a) : a.cells = [a] ∧ a.one = true ∧ a.sure = true := by
  rcases h with ⟨_, rfl | rfl⟩ | ⟨g, cs, rfl, _⟩ <;> exact ⟨rfl, rfl, rfl⟩
theorem zep.frz {H : Heap} {R : Nat → Prop} {sz : Nat} {xs : List (List AV)} {a : AV} {G : Nat → Prop} (h : zep H R sz xs a) (hG : ∀ g, R g → G g) (hs : ∀ x ∈ xs, x.length = sz) : FrzP H G a (.ro xs) := by
  rcases h with ⟨rfl, rfl⟩ | ⟨g, h1, rfl, h4⟩
  · exact .nils
  · refine FrzP.row (hG g h1) h4 rfl hs (fun i x j v hx hv => ?_) (by rw [zbu hs]; exact Nat.le_refl _)
    have hj : j < sz := by
      have := (List.getElem?_eq_some_iff.1 hv).1
      rw [hs x (List.mem_of_getElem? hx)] at this; exact this
    have e1 := zgv hs hx
    have := congrArg (·[j]?) e1
    simp only [List.getElem?_take, List.getElem?_drop, hj, if_true] at this
    exact ⟨v, by rw [this]; exact hv, .same v⟩
def zec (H : Heap) (R : Nat → Prop) (cs : List Cod) (cells : List AV) : Prop := cells.length = cs.length * 3 ∧ ∀ (k : Nat) (c : Cod), cs[k]? = some c → cells[k * 3]? = some (.int .i64 c.params) ∧ cells[k * 3 + 1]? = some (.int .i64 c.vars) ∧ ∃ a, cells[k * 3 + 2]? = some a ∧ zep H R 3 (c.ins.map Ins.avs) a
theorem zec.more {H H' : Heap} {R R' : Nat → Prop} {cs : List Cod} {cells : List AV} (h : zec H R cs cells) (hR : ∀ g, R g → R' g ∧ H' g = H g) : zec H' R' cs cells :=
  ⟨h.1, fun k c hc => let ⟨a, b, x, h1, h2⟩ := h.2 k c hc; ⟨a, b, x, h1, h2.more hR⟩⟩
theorem zec.snoc {H : Heap} {R : Nat → Prop} {cs : List Cod} {cells : List AV} {c : Cod} {a : AV} (h : zec H R cs cells) (ha : zep H R 3 (c.ins.map Ins.avs) a) : zec H R (cs ++ [c]) (cells ++ [.int .i64 c.params, .int .i64 c.vars, a]) := by
  refine ⟨by simp [h.1]; omega, fun k c' hc => ?_⟩
  by_cases hk : k < cs.length
  · rw [List.getElem?_append_left hk] at hc
    obtain ⟨q1, q2, x, q3, q4⟩ := h.2 k c' hc
    have hl := h.1
    refine ⟨by rw [List.getElem?_append_left (by omega)]; exact q1, by rw [List.getElem?_append_left (by omega)]; exact q2, x, by rw [List.getElem?_append_left (by omega)]; exact q3, q4⟩
  · have hk' : k = cs.length := by have := (List.getElem?_eq_some_iff.1 hc).1; simp at this; omega
    subst hk'
    rw [List.getElem?_append_right (Nat.le_refl _)] at hc
    simp at hc
    subst hc
    have hl := h.1
    refine ⟨?_, ?_, a, ?_, ha⟩
    · rw [List.getElem?_append_right (by omega), hl]; simp
    · rw [List.getElem?_append_right (by omega), hl, show cs.length * 3 + 1 - cs.length * 3 = 1 by omega]; rfl
    · rw [List.getElem?_append_right (by omega), hl, show cs.length * 3 + 2 - cs.length * 3 = 2 by omega]; rfl
theorem zec.frz {H : Heap} {R : Nat → Prop} {cs : List Cod} {cells : List AV} {a : AV} {G : Nat → Prop} (h : zec H R cs cells) (hG : ∀ g, R g → G g) (ha : Slot H 3 cs.length cells a) (hA : ∀ g ∈ own a, G g) : FrzP H G a (.ro (cs.map Cod.avs)) := by
  rcases ha with ⟨h0, rfl | rfl⟩ | ⟨g, cs', rfl, h1, h2, h3⟩
  · rw [List.eq_nil_of_length_eq_zero h0]; exact .nils
  · rw [List.eq_nil_of_length_eq_zero h0]; exact .zs
  · refine FrzP.row (hA g (by simp [own])) h1 (by simp) (fun x hx => ?_) (fun i x j v hx hv => ?_) h3
    · obtain ⟨c, _, rfl⟩ := List.mem_map.1 hx; rfl
    · rw [List.getElem?_map] at hx
      obtain ⟨c, hc, rfl⟩ := Option.map_eq_some_iff.1 hx
      obtain ⟨q1, q2, y, q3, q4⟩ := h.2 i c hc
      have hi := (List.getElem?_eq_some_iff.1 hc).1
      have up : ∀ (j : Nat) (u : AV), j < 3 → cells[i * 3 + j]? = some u → cs'[i * 3 + j]? = some u := fun j u hj hu => by
        rw [← h2, List.getElem?_take, if_pos (by omega)] at hu; exact hu
      match j, hv with
      | 0, hv => cases hv; exact ⟨_, up 0 _ (by omega) q1, .same _⟩
      | 1, hv => cases hv; exact ⟨_, up 1 _ (by omega) q2, .same _⟩
      | 2, hv => cases hv; exact ⟨y, up 2 _ (by omega) q3, q4.frz hG (zuq _)⟩
      | j + 3, hv => simp [Cod.avs] at hv
theorem FrzP.keep {H H' : Heap} {G : Nat → Prop} {v u : AV} (h : FrzP H G v u) (hk : ∀ g, G g → H' g = H g) : FrzP H' G v u := by
  induction h with
  | same v => exact .same v
  | nils => exact .nils
  | zs => exact .zs
  | slc g off len sz cells xs hg hH hle hl hsz U hU _ ih => exact .slc g off len sz cells xs hg (by rw [hk g hg]; exact hH) hle hl hsz U hU ih
  | agg xs ys hl _ ih => exact .agg xs ys hl ih
end Go.Proofs.YtobioljjoipimaaDoor
set_option maxRecDepth 8000
namespace Go.Proofs.YtobioljjoipimaaDoor
open Go Go.RowKit
structure zqi (H : Heap) (lo n : Nat) (fs : List Frm) (ss : List (AV × AV)) (fa : AV) (h : List Cl) (ha : AV) : Prop where
  frs : zq H fs ss
  row : Slot H 4 fs.length (frow fs ss) fa
  hp : Slot H 6 h.length (rowC h) ha
  nd : (own fa ++ (own ha ++ owns ss)).Nodup
  bd : ∀ g ∈ own fa ++ (own ha ++ owns ss), lo ≤ g ∧ g < n
structure zrv (H : Heap) (lo n : Nat) (fs : List Frm) (ss : List (AV × AV)) (fa : AV) : Prop where
  frs : zq H fs ss
  row : Slot H 4 fs.length (frow fs ss) fa
  nd : (own fa ++ owns ss).Nodup
  bd : ∀ g ∈ own fa ++ owns ss, lo ≤ g ∧ g < n
theorem zrv.snoc {H X : Heap} {lo n N m : Nat} {fs : List Frm} {ss : List (AV × AV)} {fa : AV} {f : Frm} {va sa : AV} (h : zrv H lo n fs ss fa) (hn : n ≤ N) (hN : N ≤ m) (hlo : lo ≤ N) (hlen : (fs.length + 1) * 64 ≤ 140737488355328)
    (old : ∀ g, g < n → X g = H g) (hv : Slot X 3 f.vars.length (rowV f.vars) va) (hs : Slot X 3 f.stack.length (rowV f.stack) sa) (nd : (own va ++ own sa).Nodup) (bd : ∀ g ∈ own va ++ own sa, N ≤ g ∧ g < m)
    {t : Nat} (ht : X t = some (.row 4 [.int .i64 f.fn, .int .i64 f.at_, va, sa])) {kk : AV → Heap → Nat → Prop}
    (hk : ∀ H' a', (∀ g, g < lo → H' g = X g) → zrv H' lo (m + 1) (fs ++ [f]) (ss ++ [(va, sa)]) a' → kk a' H' (m + 1)) : APP 4 64 fa (.slc t 0 1) X m kk := by
  have hbf : ∀ g ∈ own fa, lo ≤ g ∧ g < n := fun g hg => h.bd g (List.mem_append_left _ hg)
  have hbs : ∀ g ∈ owns ss, lo ≤ g ∧ g < n := fun g hg => h.bd g (List.mem_append_right _ hg)
  obtain ⟨nd1, nd2, nd3⟩ := List.nodup_append.1 h.nd
  have hx := (h.row.keep (H' := X) fun g hg => old g (hbf g hg).2)
  refine Slot.app (bytes := 64) (nx := m) (new := [.int .i64 f.fn, .int .i64 f.at_, va, sa]) hx (zex h.frs.1) ht rfl (by simp [hv.one, hs.one]) hlen fun H' h1 h2 => ?_
  have keep : ∀ g, g ∈ owns ss → H' g = H g := fun g hg => by
    have := hbs g hg
    rw [h2 g (fun hx => nd3 g hx g hg rfl) (by omega)]; exact old g this.2
  have keep2 : ∀ g, g ∈ own va ++ own sa → H' g = X g := fun g hg => by
    have := bd g hg
    exact h2 g (fun hx => by have := hbf g hx; omega) (by omega)
  refine hk H' _ (fun g hg => h2 g (fun hx => by have := hbf g hx; omega) (by omega)) ⟨(h.frs.keep keep).snoc (hv.keep fun g hg => keep2 g (List.mem_append_left _ hg)) (hs.keep fun g hg => keep2 g (List.mem_append_right _ hg)), ?_, ?_, ?_⟩
  · refine .inr ⟨m, _, by simp, h1, ?_, ?_⟩
    · rw [zfh h.frs.1]; exact List.take_of_length_le (by simp [zex h.frs.1]; omega)
    · simp [zex h.frs.1]; omega
  · rw [zcb]
    have e0 : own (AV.slc m 0 (fs.length + 1)) = [m] := rfl
    simp only [List.length_append, List.length_singleton, e0]
    refine List.nodup_append.2 ⟨by simp, List.nodup_append.2 ⟨nd2, nd, fun a ha b hb e => ?_⟩, fun a ha b hb e => ?_⟩
    · have := hbs a ha; have := bd b hb; omega
    · simp at ha; subst ha; subst e
      rcases List.mem_append.1 hb with hb | hb
      · have := hbs _ hb; omega
      · have := bd _ hb; omega
  · intro g hg
    rw [zcb] at hg
    have e0 : own (AV.slc m 0 (fs.length + 1)) = [m] := rfl
    rcases List.mem_append.1 hg with hg | hg
    · simp [own] at hg; omega
    · rcases List.mem_append.1 hg with hg | hg
      · have := hbs g hg; omega
      · have := bd g hg; omega
end Go.Proofs.YtobioljjoipimaaDoor
set_option maxRecDepth 8000
namespace Go.Proofs.YtobioljjoipimaaDoor
open Go Go.RowKit
def zl (id trip : Int) (p : Prg) (fa ha : AV) (m : Pmt) : List AV := [.int .i64 id, .int .i64 trip, .ro (p.codes.map Cod.avs), .ro (p.words.map fun w => [.str w]), fa, ha, .int .i64 m.fuel, .int .i64 m.room, .int .i64 m.hops]
end Go.Proofs.YtobioljjoipimaaDoor
set_option maxRecDepth 8000
namespace Go.Proofs.YtobioljjoipimaaDoor
open Go Go.RowKit
theorem Slot.frzN {H : Heap} {nx sz : Nat} {xs : List (List AV)} {a : AV} (hs : Slot H sz xs.length xs.flatten a) (ho : ∀ g ∈ own a, nx ≤ g) (hsz : ∀ x ∈ xs, x.length = sz) (hb : ∀ x ∈ xs, ∀ c ∈ x, scal c = true) : Frz H nx a (.ro xs) := by
  rcases hs with ⟨h0, rfl | rfl⟩ | ⟨g, cs, rfl, h1, h2, h3⟩
  · rw [List.eq_nil_of_length_eq_zero h0]; exact .nils
  · rw [List.eq_nil_of_length_eq_zero h0]; exact .zs
  · have e : ∀ (i : Nat) (x : List AV) (j : Nat) (v : AV), xs[i]? = some x → x[j]? = some v → cs[0 + i * sz + j]? = some v := fun i x j v hx hv => by
      have hxl : x.length = sz := hsz x (List.mem_of_getElem? hx)
      have hj : j < sz := by have := (List.getElem?_eq_some_iff.1 hv).1; omega
      have hi := (List.getElem?_eq_some_iff.1 hx).1
      have e1 := zgv hsz hx
      have e2 := congrArg (·[j]?) e1
      simp only [List.getElem?_take, List.getElem?_drop, hj, if_true] at e2
      rw [← h2, List.getElem?_take, hv] at e2
      have : i * sz + sz ≤ xs.length * sz := by rw [← Nat.succ_mul]; exact Nat.mul_le_mul_right _ hi
      rw [if_pos (by omega)] at e2
      rw [Nat.zero_add]; exact e2
    refine .slc g 0 _ sz cs xs (ho g (by simp [own])) h1 (by omega) rfl hsz (fun i j => (cs[0 + i * sz + j]?).getD .junk) (fun i x j v hx hv => ?_) (fun i x j v hx hv => ?_)
    · rw [e i x j v hx hv]; rfl
    · rw [e i x j v hx hv]; exact .same _ (zdx (hb x (List.mem_of_getElem? hx) v (List.mem_of_getElem? hv)))
theorem Slot.frzV {H : Heap} {nx : Nat} {l : List Val} {a : AV} (hs : Slot H 3 l.length (rowV l) a) (ho : ∀ g ∈ own a, nx ≤ g) : Frz H nx a (.ro (l.map Val.avs)) :=
  Slot.frzN (sz := 3) (by simpa [rowV] using hs) ho (zni l) (zdz l)
theorem Slot.frzH {H : Heap} {nx : Nat} {l : List Cl} {a : AV} (hs : Slot H 6 l.length (rowC l) a) (ho : ∀ g ∈ own a, nx ≤ g) : Frz H nx a (.ro (l.map Cl.avs)) :=
  Slot.frzN (sz := 6) (by simpa [rowC] using hs) ho (zez l) (zca l)
theorem zsw : ∀ {fs : List Frm} {ss : List (AV × AV)} {i : Nat} {f : Frm} {s : AV × AV}, fs[i]? = some f → ss[i]? = some s → (frow fs ss)[i * 4]? = some (.int .i64 f.fn) ∧ (frow fs ss)[i * 4 + 1]? = some (.int .i64 f.at_) ∧ (frow fs ss)[i * 4 + 2]? = some s.1 ∧ (frow fs ss)[i * 4 + 3]? = some s.2
  | [], _, i, f, s, h, _ => by simp at h
  | _ :: _, [], i, f, s, _, h => by simp at h
  | g :: fs, t :: ss, 0, f, s, h1, h2 => by simp at h1 h2; subst h1; subst h2; exact ⟨rfl, rfl, rfl, rfl⟩
  | g :: fs, t :: ss, i + 1, f, s, h1, h2 => by
    have := zsw (fs := fs) (ss := ss) (i := i) (f := f) (s := s) (by simpa using h1) (by simpa using h2)
    have e : ∀ k, (frow (g :: fs) (t :: ss))[(i + 1) * 4 + k]? = (frow fs ss)[i * 4 + k]? := fun k => by
      rw [show (i + 1) * 4 + k = i * 4 + k + 1 + 1 + 1 + 1 by omega]
      simp [frow]
    exact ⟨(e 0).trans this.1, (e 1).trans this.2.1, (e 2).trans this.2.2.1, (e 3).trans this.2.2.2⟩
theorem zq.frz {H : Heap} {nx : Nat} {fs : List Frm} {ss : List (AV × AV)} {g k : Nat} {cs : List AV} (h : zq H fs ss) (h1 : H g = some (.row 4 cs)) (h2 : cs.take (fs.length * 4) = frow fs ss) (h3 : fs.length * 4 ≤ cs.length) (hg : nx ≤ g) (ho : ∀ x ∈ owns ss, nx ≤ x) (hk : k = fs.length) : Frz H nx (.slc g 0 k) (.ro (fs.map Frm.avs)) := by
  subst hk
  have key : ∀ (i : Nat) (x : List AV) (j : Nat) (v : AV), (fs.map Frm.avs)[i]? = some x → x[j]? = some v → ∃ u, cs[0 + i * 4 + j]? = some u ∧ Frz H nx u v := fun i x j v hx hv => by
    rw [List.getElem?_map] at hx
    obtain ⟨f, hf, rfl⟩ := Option.map_eq_some_iff.1 hx
    have hi := (List.getElem?_eq_some_iff.1 hf).1
    have hs : ss[i]? = some (ss[i]'(by rw [h.1]; exact hi)) := List.getElem?_eq_getElem _
    obtain ⟨a, b⟩ := h.2 i f _ hf hs
    obtain ⟨q0, q1, q2, q3⟩ := zsw hf hs
    have hm := List.mem_of_getElem? hs
    have up : ∀ (j : Nat) (u : AV), j < 4 → (frow fs ss)[i * 4 + j]? = some u → cs[0 + i * 4 + j]? = some u := fun j u hj hu => by
      rw [← h2, List.getElem?_take, if_pos (by omega)] at hu; rw [Nat.zero_add]; exact hu
    match j, hv with
    | 0, hv => cases hv; exact ⟨_, up 0 _ (by omega) q0, .same _ (.int _ _)⟩
    | 1, hv => cases hv; exact ⟨_, up 1 _ (by omega) q1, .same _ (.int _ _)⟩
    | 2, hv => cases hv; exact ⟨_, up 2 _ (by omega) q2, a.frzV fun x hx => ho x (List.mem_flatMap.2 ⟨_, hm, List.mem_append_left _ hx⟩)⟩
    | 3, hv => cases hv; exact ⟨_, up 3 _ (by omega) q3, b.frzV fun x hx => ho x (List.mem_flatMap.2 ⟨_, hm, List.mem_append_right _ hx⟩)⟩
    | j + 4, hv => simp [Frm.avs] at hv
  refine .slc g 0 _ 4 cs _ hg h1 (by omega) (by simp) (fun x hx => ?_) (fun i j => (cs[0 + i * 4 + j]?).getD .junk) (fun i x j v hx hv => ?_) (fun i x j v hx hv => ?_)
  · obtain ⟨f, _, rfl⟩ := List.mem_map.1 hx; rfl
  · obtain ⟨u, q1, q2⟩ := key i x j v hx hv; rw [q1]; rfl
  · obtain ⟨u, q1, q2⟩ := key i x j v hx hv; rw [q1]; exact q2
theorem zwy (l : List Cod) {A : Nat → Prop} : Bel A (.ro (l.map Cod.avs)) := .ro _ fun i x j v hx hv => by
  rw [List.getElem?_map] at hx
  obtain ⟨c, _, rfl⟩ := Option.map_eq_some_iff.1 hx
  match j, hv with
  | 0, hv => cases hv; exact .int _ _
  | 1, hv => cases hv; exact .int _ _
  | 2, hv => cases hv; exact zfm (zvx _)
  | j + 3, hv => simp [Cod.avs] at hv
theorem zwx (l : List Str) {A : Nat → Prop} : Bel A (.ro (l.map fun w => [.str w])) := zfm (zvw l)
theorem zfg {H : Heap} {nx : Nat} {id trip : Int} {p : Prg} {fs : List Frm} {h : List Cl} {m : Pmt} {fa ha : AV} (h1 : Frz H nx fa (.ro (fs.map Frm.avs))) (h2 : Frz H nx ha (.ro (h.map Cl.avs))) : Frz H nx (.agg (zl id trip p fa ha m)) (.agg (Agt.avs ⟨id, trip, p, fs, h, m⟩)) := by
  refine .agg _ _ rfl fun j v u hv hu => ?_
  match j with
  | 0 => cases hv; cases hu; exact .same _ (.int _ _)
  | 1 => cases hv; cases hu; exact .same _ (.int _ _)
  | 2 => cases hv; cases hu; exact .same _ (zwy _)
  | 3 => cases hv; cases hu; exact .same _ (zwx _)
  | 4 => cases hv; cases hu; exact h1
  | 5 => cases hv; cases hu; exact h2
  | 6 => cases hv; cases hu; exact .same _ (.int _ _)
  | 7 => cases hv; cases hu; exact .same _ (.int _ _)
  | 8 => cases hv; cases hu; exact .same _ (.int _ _)
  | j + 9 => simp [zl] at hv
theorem Live.codes {a : Agt} {fs : List Frm} {f : Frm} (l : VM.Live a fs f) : a.prog.codes.length ≤ 5 ∧ a.prog.words.length ≤ 16 ∧ ∀ c ∈ a.prog.codes, c.ins.length ≤ 200 ∧ 0 ≤ c.vars ∧ c.vars ≤ 8 ∧ (∀ x ∈ (VM.heights c.ins).1, -1 ≤ x ∧ x ≤ 16) := by
  obtain ⟨h1, h2, h3⟩ := zcd l.prog
  refine ⟨h2, h3, fun c hc => ?_⟩
  obtain ⟨q1, q2, q3⟩ := h1 c hc
  unfold VM.codeRange at q1
  rw [decide_eq_false_iff_not] at q1
  exact ⟨by omega, by omega, by omega, (zik q2 q3).2⟩
def zacr (H0 H : Heap) (lo n gr : Nat) (r : Agt × Evt) : Prop := r.2.kind ≠ 0 ∧ gr < n ∧ Fin H0 H lo gr r.1.id r.1.trip r.1.prog r.1.frames r.1.heap r.1.permit r.2
end Go.Proofs.YtobioljjoipimaaDoor
namespace Go.Proofs.YtobioljjoipimaaDoor
open Go Go.RowKit
theorem Fin.frz {H0 H : Heap} {lo nx gr : Nat} {id trip : Int} {p : Prg} {frames : List Frm} {h : List Cl} {m : Pmt} {e : Evt} (fi : Fin H0 H lo gr id trip p frames h m e) (hnx : nx ≤ lo) :
    ∃ gs fa ha, H gr = some (.row 13 (zdy id trip p fa ha m gs e)) ∧ Keep lo H H0 ∧ fa.one = true ∧ fa.sure = true ∧ ha.one = true ∧ ha.sure = true ∧ fa.cells = [fa] ∧ ha.cells = [ha] ∧ ∀ H2 : Heap, (∀ g, lo ≤ g → H2 g = H g) → Frz H2 nx (.agg (zl id trip p fa ha m)) (.agg (Agt.avs ⟨id, trip, p, frames, h, m⟩)) := by
  obtain ⟨gs, gf, ss, ha, cs, h1, h2, h3, h4, h5, h6, h7, h8, h9, h10⟩ := fi
  refine ⟨gs, _, ha, h1, h10, rfl, rfl, h6.one.2.1, h6.one.2.2, rfl, h6.one.1, fun H2 hk => ?_⟩
  refine zfg (zq.frz (h5.keep fun g hg => hk g (h9 g hg)) (by rw [hk gf h7]; exact h2) h3 h4 (by omega) (fun x hx => by have := h9 x hx; omega) rfl) ((h6.keep fun g hg => hk g (h8 g hg)).frzH fun x hx => by have := h8 x hx; omega)
structure ztd (H0 H : Heap) (lo nx n : Nat) (gr gs : Nat) (most x : Int) (s : Spt) (r : Agt × Evt) (k : Nat) : Prop where
  r1 : ∃ z, H (nx + 2) = some (.row 9 z) ∧ z.length = 9
  r2 : ∃ z, H (nx + 3) = some (.row 3 z) ∧ z.length = 3
  grn : lo ≤ gr ∧ gr < n
  keep : Keep lo H H0
  st : (∃ i : Nat, x = i ∧ i ≤ most.toNat ∧ k = most.toNat - i + 1 ∧ ∃ b fs f gf ss va sa ha, VM.Live b fs f ∧ RL H0 H lo n gr gs gf b.id b.trip b.prog s fs ss f va sa b.heap ha b.permit VM.ev0 ∧ VM.run s (most.toNat - i) b = r) ∨ (k = 0 ∧ zacr H0 H lo n gr r)
theorem zrq (e : Evt) {A : Nat → Prop} : Bel A (.agg e.avs) := by
  refine .agg _ fun i x hv => ?_
  match i with
  | 0 => cases hv; exact .int _ _
  | 1 => cases hv; exact .str _
  | 2 => cases hv; exact .int _ _
  | i + 3 => simp [Evt.avs] at hv
end Go.Proofs.YtobioljjoipimaaDoor
namespace Go.Proofs.YtobioljjoipimaaDoor
open Go Go.RowKit
end Go.Proofs.YtobioljjoipimaaDoor
namespace Go.Proofs.YtobioljjoipimaaDoor
open Go Go.RowKit
structure zabk (H : Heap) (lo n gf : Nat) (cs : List AV) (fs : List Frm) (ss : List (AV × AV)) (f : Frm) (va sa : AV) : Prop where
  row : H gf = some (.row 4 cs)
  cs' : cs.take ((fs.length + 1) * 4) = frow fs ss ++ [.int .i64 f.fn, .int .i64 f.at_, va, sa]
  len : (fs.length + 1) * 4 ≤ cs.length
  frs : zq H fs ss
  sv : Slot H 3 f.vars.length (rowV f.vars) va
  st : Slot H 3 f.stack.length (rowV f.stack) sa
  bd : ∀ g, (g = gf ∨ g ∈ owns ss ∨ g ∈ own va ∨ g ∈ own sa) → lo ≤ g ∧ g < n
  ns : gf ∉ own sa ∧ gf ∉ own va ∧ gf ∉ owns ss ∧ (∀ g ∈ own sa, g ∉ own va ∧ g ∉ owns ss) ∧ ∀ g ∈ own va, g ∉ owns ss
theorem zqi.last {H : Heap} {lo n : Nat} {fs : List Frm} {f : Frm} {ss : List (AV × AV)} {fa ha : AV} {h : List Cl} (ow : zqi H lo n (fs ++ [f]) ss fa h ha) :
    ∃ gf cs ss' va sa, fa = .slc gf 0 (fs.length + 1) ∧ ss = ss' ++ [(va, sa)] ∧ zabk H lo n gf cs fs ss' f va sa ∧ ∀ g ∈ own ha, g ≠ gf ∧ g ∉ own va ∧ g ∉ own sa ∧ g ∉ owns ss' := by
  obtain ⟨f1, f2, f3, f4, f5⟩ := ow
  have hl : ss.length = fs.length + 1 := by rw [f1.1]; simp
  obtain ⟨ss', t, rfl⟩ : ∃ ss' t, ss = ss' ++ [t] := by
    rcases List.eq_nil_or_concat ss with rfl | ⟨ss', t, h⟩
    · simp at hl
    · exact ⟨ss', t, by simpa using h⟩
  rcases f2 with ⟨h0, _⟩ | ⟨gf, cs, rfl, c1, c2, c3⟩
  · simp at h0
  obtain ⟨l1, l2, l3⟩ := f1.last
  have ef : (fs ++ [f]).length = fs.length + 1 := by simp
  rw [ef] at c2 c3 f4 f5
  rw [zfh l1.1] at c2
  have es := zcb ss' t
  have e0 : own (AV.slc gf 0 (fs.length + 1)) = [gf] := rfl
  rw [es, e0, List.singleton_append, List.nodup_cons] at f4
  simp only [List.mem_append, not_or, List.nodup_append] at f4
  obtain ⟨⟨a1, a2, a3, a4⟩, n1, ⟨n2, ⟨n3, n4, n5⟩, n6⟩, n7⟩ := f4
  rw [es, e0] at f5
  refine ⟨gf, cs, ss', t.1, t.2, by rw [ef], rfl, ⟨c1, c2, c3, l1, l2, l3, fun g hg => f5 g ?_, ⟨a4, a3, a2, fun g hg => ⟨fun h => n5 g h g hg rfl, fun h => n6 g h g (.inr hg) rfl⟩, fun g hg h => n6 g h g (.inl hg) rfl⟩⟩, fun g hg => ⟨fun e => a1 (e ▸ hg), fun h => n7 g hg g (.inr (.inl h)) rfl, fun h => n7 g hg g (.inr (.inr h)) rfl, fun h => n7 g hg g (.inl h) rfl⟩⟩
  simp only [List.mem_append, List.mem_singleton]
  rcases hg with h | h | h | h
  · exact .inl h
  · exact .inr (.inr (.inl h))
  · exact .inr (.inr (.inr (.inl h)))
  · exact .inr (.inr (.inr (.inr h)))
end Go.Proofs.YtobioljjoipimaaDoor
set_option maxRecDepth 8000
namespace Go.Proofs.YtobioljjoipimaaDoor
open Go Go.RowKit
def zok (H : Heap) (G : Nat → Prop) (xs ys : List AV) : Prop := ys.length = xs.length ∧ ∀ (j : Nat) (v u : AV), xs[j]? = some v → ys[j]? = some u → FrzP H G v u
theorem zok.nil {H : Heap} {G : Nat → Prop} : zok H G [] [] := ⟨rfl, fun j v u h => by simp at h⟩
theorem zok.cons {H : Heap} {G : Nat → Prop} {v u : AV} {xs ys : List AV} (h : FrzP H G v u) (k : zok H G xs ys) : zok H G (v :: xs) (u :: ys) := by
  refine ⟨by simp [k.1], fun j a b ha hb => ?_⟩
  cases j with
  | zero => simp at ha hb; subst ha; subst hb; exact h
  | succ j => exact k.2 j a b (by simpa using ha) (by simpa using hb)
end Go.Proofs.YtobioljjoipimaaDoor
namespace Go.Proofs.YtobioljjoipimaaDoor
open Go Go.RowKit
theorem zqi.frz {H : Heap} {lo n nx : Nat} {fs : List Frm} {ss : List (AV × AV)} {fa ha : AV} {h : List Cl} {id trip : Int} {p : Prg} {m : Pmt} (ow : zqi H lo n fs ss fa h ha) (hl : nx ≤ lo) {H' : Heap} (hk : ∀ g, lo ≤ g → g < n → H' g = H g) : Frz H' nx (.agg (zl id trip p fa ha m)) (.agg (Agt.avs ⟨id, trip, p, fs, h, m⟩)) := by
  have b : ∀ g ∈ own fa ++ (own ha ++ owns ss), nx ≤ g ∧ H' g = H g := fun g hg => by have := ow.bd g hg; exact ⟨by omega, hk g this.1 this.2⟩
  refine zfg ?_ ((ow.hp.keep fun g hg => (b g (by simp [hg])).2).frzH fun g hg => (b g (by simp [hg])).1)
  have fr := ow.frs.keep (H' := H') fun g hg => (b g (by simp [hg])).2
  rcases ow.row with ⟨h0, rfl | rfl⟩ | ⟨gf, cs, rfl, c1, c2, c3⟩
  · rw [List.eq_nil_of_length_eq_zero h0]; exact .nils
  · rw [List.eq_nil_of_length_eq_zero h0]; exact .zs
  · have := b gf (by simp [own])
    exact zq.frz fr (by rw [this.2]; exact c1) c2 c3 this.1 (fun x hx => (b x (by simp [hx])).1) rfl
theorem zwh {xs : List (List AV)} {sz : Nat} (hsz : ∀ x ∈ xs, x.length = sz) {i j : Nat} {x : List AV} {v : AV} (hx : xs[i]? = some x) (hv : x[j]? = some v) : xs.flatten[i * sz + j]? = some v := by
  have hxl : x.length = sz := hsz x (List.mem_of_getElem? hx)
  have hj : j < sz := by have := (List.getElem?_eq_some_iff.1 hv).1; omega
  have e2 := congrArg (·[j]?) (zgv hsz hx)
  simp only [List.getElem?_take, List.getElem?_drop, hj, if_true] at e2
  rw [e2, hv]
def Pmt.avs (m : Pmt) : List AV := [.int .i64 m.fuel, .int .i64 m.room, .int .i64 m.hops]
end Go.Proofs.YtobioljjoipimaaDoor
set_option maxRecDepth 8000
namespace Go.Proofs.YtobioljjoipimaaDoor
open Go Go.RowKit
end Go.Proofs.YtobioljjoipimaaDoor
set_option maxRecDepth 8000
namespace Go.Proofs.YtobioljjoipimaaDoor
open Go Go.RowKit
end Go.Proofs.YtobioljjoipimaaDoor
set_option maxRecDepth 8000
namespace Go.Proofs.YtobioljjoipimaaDoor
open Go Go.RowKit
section
variable {ki : IntKind}
end
theorem Slot.cp {H : Heap} {sz k : Nat} {cells : List AV} {a : AV} {kh : AV → Heap → Prop} (hg : Slot H sz k cells a) {ys rest : List (List AV)} (hs : ∀ x ∈ ys ++ rest, x.length = sz) (hy : ys.length = k) (hone : ∀ x ∈ ys ++ rest, ∀ c ∈ x, c.one = true)
    (hk : ∀ H', Slot H' sz k ys.flatten a → (∀ g, g ∉ own a → H' g = H g) → kh (.int .i64 k) H') : CP sz a (.ro (ys ++ rest)) H kh := by
  have hsrc := zqu (H := H) hs
  rcases hg with ⟨rfl, rfl | rfl⟩ | ⟨g, cs, rfl, h1, h2, h3⟩
  · unfold CP COPY
    rw [hsrc]
    exact hk _ (.inl ⟨rfl, .inl rfl⟩) fun g _ => rfl
  · unfold CP COPY
    rw [hsrc]
    exact hk _ (.inl ⟨rfl, .inr rfl⟩) fun g _ => rfl
  · have hl : ys.flatten.length = k * sz := by rw [zbu fun x hx => hs x (List.mem_append_left _ hx), hy]
    refine zaar hsrc h1 (by omega) ?_ ?_
    · refine List.all_eq_true.2 fun c hc => ?_
      obtain ⟨x, hx, hcx⟩ := List.mem_flatten.1 hc
      exact hone x hx c hcx
    · have e : min (ys ++ rest).length k = k := by simp [hy]
      rw [e]
      have et : ((ys ++ rest).flatten.take (k * sz)) = ys.flatten := by rw [List.flatten_append, List.take_append_of_le_length (by omega), List.take_of_length_le (by omega)]
      rw [et]
      refine hk _ (.inr ⟨g, _, rfl, Heap.put_at _ _ _, ?_, ?_⟩) fun x hx => Heap.put_ne _ _ (by simpa [own] using hx)
      · unfold zu
        simp [hl]
      · unfold zu
        simp [hl]
theorem zjq : ∀ {ss : List (AV × AV)} {k i : Nat} {s t : AV × AV} {g : Nat}, (owns ss).Nodup → ss[k]? = some s → ss[i]? = some t → k ≠ i → g ∈ own s.1 ++ own s.2 → g ∈ own t.1 ++ own t.2 → False
  | [], k, i, s, t, g, _, h, _, _, _, _ => by simp at h
  | u :: ss, k, i, s, t, g, nd, h1, h2, hne, m1, m2 => by
    have e : owns (u :: ss) = (own u.1 ++ own u.2) ++ owns ss := by simp [owns]
    rw [e, List.nodup_append] at nd
    obtain ⟨_, n2, n3⟩ := nd
    have mem : ∀ {j : Nat} {v : AV × AV}, ss[j]? = some v → g ∈ own v.1 ++ own v.2 → g ∈ owns ss := fun hv hg => List.mem_flatMap.2 ⟨_, List.mem_of_getElem? hv, hg⟩
    match k, i with
    | 0, 0 => exact hne rfl
    | 0, i + 1 =>
      simp at h1 h2; subst h1
      exact n3 g m1 g (mem h2 m2) rfl
    | k + 1, 0 =>
      simp at h1 h2; subst h2
      exact n3 g m2 g (mem h1 m1) rfl
    | k + 1, i + 1 => exact zjq n2 (by simpa using h1) (by simpa using h2) (by omega) m1 m2
theorem zq.set {H H' : Heap} {fs : List Frm} {ss : List (AV × AV)} {i : Nat} {f : Frm} {s : AV × AV} (h : zq H fs ss) (nd : (owns ss).Nodup) (hs : ss[i]? = some s) (hk : ∀ g, g ∉ own s.1 → g ∉ own s.2 → H' g = H g) (h1 : Slot H' 3 f.vars.length (rowV f.vars) s.1) (h2 : Slot H' 3 f.stack.length (rowV f.stack) s.2) : zq H' (fs.set i f) ss := by
  refine ⟨by simp [h.1], fun k f' s' hf hs' => ?_⟩
  by_cases e : k = i
  · subst e
    rw [hs] at hs'; cases hs'
    have hl : k < fs.length := by rw [← h.1]; exact (List.getElem?_eq_some_iff.1 hs).1
    rw [List.getElem?_set_self hl] at hf
    cases hf
    exact ⟨h1, h2⟩
  · rw [List.getElem?_set_ne (Ne.symm e)] at hf
    obtain ⟨q1, q2⟩ := h.2 k f' s' hf hs'
    have hd : ∀ g, (g ∈ own s'.1 ∨ g ∈ own s'.2) → g ∉ own s.1 ∧ g ∉ own s.2 := fun g hg => by
      exact ⟨fun hx => zjq nd hs' hs e (List.mem_append.2 hg) (List.mem_append_left _ hx), fun hx => zjq nd hs' hs e (List.mem_append.2 hg) (List.mem_append_right _ hx)⟩
    exact ⟨q1.keep fun g hg => hk g (hd g (.inl hg)).1 (hd g (.inl hg)).2, q2.keep fun g hg => hk g (hd g (.inr hg)).1 (hd g (.inr hg)).2⟩
end Go.Proofs.YtobioljjoipimaaDoor
namespace Go.Proofs.YtobioljjoipimaaDoor
open Go Go.RowKit
end Go.Proofs.YtobioljjoipimaaDoor
set_option maxRecDepth 8000
namespace Go.Proofs.YtobioljjoipimaaDoor
open Go Go.RowKit
theorem zaaa (s : Str) (i : Nat) : (s.drop i).all VM.wordByte = if h : i < s.length then VM.wordByte s[i] && (s.drop (i + 1)).all VM.wordByte else true := by
  split
  · rename_i h
    rw [List.drop_eq_getElem_cons h, List.all_cons]
  · rename_i h
    rw [List.drop_of_length_le (by omega)]; rfl
end Go.Proofs.YtobioljjoipimaaDoor
set_option maxRecDepth 8000
namespace Go.Proofs.YtobioljjoipimaaDoor
open Go Go.RowKit
def zo (l : List Int) : List AV := l.map (AV.int .i64)
def prs : List (Int × Int) → List AV
  | [] => []
  | (a, b) :: r => .int .i64 a :: .int .i64 b :: prs r
theorem zit (l : List (Int × Int)) : (prs l).length = l.length * 2 := by
  induction l with
  | nil => rfl
  | cons x r ih => obtain ⟨a, b⟩ := x; simp [prs, ih, Nat.succ_mul]
theorem zjp (l m : List (Int × Int)) : prs (l ++ m) = prs l ++ prs m := by
  induction l with
  | nil => rfl
  | cons x r ih => obtain ⟨a, b⟩ := x; simp [prs, ih]
section
variable {k : AV → Prop} {ki : IntKind}
@[simp ↓] theorem zagc {s g off len : Nat} {a : Int} {H : Heap} : SL s (.slc g off len) (some (.int ki a)) none H k = ROWK (H g) fun sz _ => sz = s ∧ 0 ≤ a ∧ a ≤ len ∧ k (.slc g (off + a.toNat * s) ((len : Int) - a).toNat) := by
  simp only [SL, zbc, lohi, qk]
  refine zcv (fun sz cs h => ?_) fun h => ?_
  · simp [h]
  · intro ha
    split at ha
    · rename_i sz cs he; exact h _ _ he
    · exact ha
end
theorem zwi (n i : Nat) (h : i < n) : List.take i (zo (List.replicate i (-1) ++ List.replicate (n - i) 0)) ++ AV.int .i64 (-1) :: List.drop (i + 1) (zo (List.replicate i (-1) ++ List.replicate (n - i) 0)) = zo (List.replicate (i + 1) (-1) ++ List.replicate (n - (i + 1)) 0) := by
  have e : n - i = (n - (i + 1)) + 1 := by omega
  rw [e, List.replicate_succ, List.replicate_succ']
  simp [zo, List.take_append, List.drop_append]
theorem zka (l : List Int) (i : Nat) : (zo l)[i]? = (l[i]?).map (AV.int .i64) := by simp [zo]
theorem zvf (l : List Int) (i : Nat) (x : Int) (h : i < l.length) : List.take i (zo l) ++ AV.int .i64 x :: List.drop (i + 1) (zo l) = zo (l.set i x) := by
  rw [zo, zo, List.map_set, List.set_eq_take_append_cons_drop]; simp [h]
@[simp] theorem zacq (l : List Int) : (zo l).length = l.length := by simp [zo]
theorem zsj (l : List Int) : (l.map fun n => [AV.int .i64 n]).flatten = zo l := by
  induction l with
  | nil => rfl
  | cons x r ih => simp [zo] at ih ⊢; exact ih
end Go.Proofs.YtobioljjoipimaaDoor
set_option maxRecDepth 8000
namespace Go.Proofs.YtobioljjoipimaaDoor
open Go Go.RowKit
end Go.Proofs.YtobioljjoipimaaDoor
set_option maxRecDepth 8000
namespace Go.Proofs.YtobioljjoipimaaDoor
open Go Go.RowKit
def lm (p : Prg) (c : Cod) (i : Ins) : Int × Int :=
  if i.op = 1 then (-1073741824, 1073741824) else if i.op = 2 then (0, p.words.length - 1) else if i.op = 3 then (0, c.vars - 1) else if i.op = 4 then (0, c.vars - 1) else if i.op = 5 then (1, 5)
  else if i.op = 15 then (0, c.ins.length - 1) else if i.op = 16 then (0, c.ins.length - 1) else if i.op = 17 then (0, p.codes.length - 1) else (0, 0)
end Go.Proofs.YtobioljjoipimaaDoor
set_option maxRecDepth 8000
namespace Go.Proofs.YtobioljjoipimaaDoor
open Go Go.RowKit
def fl (l : List Val) : List AV := (l.map Val.avs).flatten
end Go.Proofs.YtobioljjoipimaaDoor
set_option maxRecDepth 8000
namespace Go.Proofs.YtobioljjoipimaaDoor
open Go Go.RowKit
end Go.Proofs.YtobioljjoipimaaDoor
set_option maxRecDepth 8000
namespace Go.Proofs.YtobioljjoipimaaDoor
open Go Go.RowKit
end Go.Proofs.YtobioljjoipimaaDoor
set_option maxRecDepth 8000
namespace Go.Proofs.YtobioljjoipimaaDoor
open Go Go.RowKit
theorem ztc {A : Nat → Prop} (f : Frm) : ∀ (j : Nat) (v : AV), f.avs[j]? = some v → Bel A v := fun j v hv => by
  match j, hv with
  | 0, hv => cases hv; exact .int _ _
  | 1, hv => cases hv; exact .int _ _
  | 2, hv => cases hv; exact zfm (zdz _)
  | 3, hv => cases hv; exact zfm (zdz _)
  | j + 4, hv => simp [Frm.avs] at hv
theorem zaat {A : Nat → Prop} (fs : List Frm) : Bel A (.ro (fs.map Frm.avs)) := by
  refine .ro _ fun i x j v hx hv => ?_
  rw [List.getElem?_map] at hx
  obtain ⟨f, _, rfl⟩ := Option.map_eq_some_iff.1 hx
  exact ztc f j v hv
theorem zxe (a : Agt) : a.avs.drop 9 = [] ∧ a.avs.take 9 = a.avs ∧ a.avs.length = 9 := ⟨rfl, rfl, rfl⟩
theorem zaak (a : Agt) : ∀ x ∈ a.avs, x.one = true := fun x hx => by
  simp [Agt.avs] at hx
  rcases hx with rfl | rfl | rfl | rfl | rfl | rfl | rfl | rfl | rfl <;> rfl
end Go.Proofs.YtobioljjoipimaaDoor
set_option maxRecDepth 8000
namespace Go.Proofs.YtobioljjoipimaaDoor
open Go Go.RowKit
end Go.Proofs.YtobioljjoipimaaDoor
set_option maxRecDepth 8000
namespace Go.Proofs.YtobioljjoipimaaDoor
open Go Go.RowKit
end Go.Proofs.YtobioljjoipimaaDoor
