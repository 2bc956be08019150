/- The machine in memory: who owns what. The machine in memory: what changes, and what stays. A call that changes what it is handed by address, where the order is drawn: what it leaves names no more than what was there named. Cutting and copying rows. Agents as bytes, and back: the plain functions. Numbers and texts as bytes, behind an owned row. A copy of an agent: the program's part. The writer: numbers, values, programs. A copy of an agent: the frames' part. A copy of an agent. -/
import Derived.Test.YtpbnaaoilgohkaaGreatDoorG8
import Derived.Test.YtpbnaaoilgohkaaGreatDoorG9
set_option linter.unusedSimpArgs false
set_option linter.unusedVariables false
set_option maxRecDepth 8000
namespace Go.Proofs.YtpbnaaoilgohkaaGreatDoor
open Go Go.RowKit
@[simp] theorem zawi : AV.zs.cells = [AV.zs] := rfl
@[simp] theorem zawm : AV.zs.sure = true := rfl
@[simp] theorem zayc : AV.zs.one = true := rfl
@[simp ↓] theorem zaca {esz bytes nx : Nat} {x : AV} {H : Heap} {kt : Kt} : zx esz bytes .zs x H nx kt = OPTK (zg esz H x) fun p => p.2.1.all AV.one = true ∧
    (p.1 = 0 → kt .zs p.2.2 [] []) ∧ (p.1 ≠ 0 → p.1 * bytes ≤ 140737488355328 ∧ kt (.slc nx 0 p.1) p.2.2 [nx] [(nx, some (.row esz p.2.1))]) := by
  simp only [zx, OPTK]
  cases hs : zg esz H x with
  | none => simp
  | some p => obtain ⟨m, news, rd⟩ := p; simp
def Slot (H : Heap) (sz k : Nat) (cells : List AV) (a : AV) : Prop := (k = 0 ∧ (a = .nils ∨ a = .zs)) ∨ ∃ g cs, a = .slc g 0 k ∧ H g = some (.row sz cs) ∧ cs.take (k * sz) = cells ∧ k * sz ≤ cs.length
def own : AV → List Nat
  | .slc g _ _ => [g]
  | _ => []
theorem Slot.keep {H H' : Heap} {sz k : Nat} {cells : List AV} {a : AV} (h : Slot H sz k cells a) (hk : ∀ g ∈ own a, H' g = H g) : Slot H' sz k cells a := by
  rcases h with h | ⟨g, cs, rfl, h1, h2, h3⟩
  · exact .inl h
  · exact .inr ⟨g, cs, rfl, by rw [hk g (by simp [own])]; exact h1, h2, h3⟩
theorem Slot.len {H : Heap} {sz k : Nat} {cells : List AV} {a : AV} (h : Slot H sz k cells a) {q : AV → Prop} : LNL a q = q (.int .i64 k) := by
  rcases h with ⟨rfl, rfl | rfl⟩ | ⟨g, cs, rfl, _⟩ <;> simp
theorem Slot.cut {H : Heap} {sz k j : Nat} {cells : List AV} {g off : Nat} (h : Slot H sz k cells (.slc g off k)) (hj : j ≤ k) : Slot H sz j (cells.take (j * sz)) (.slc g off j) := by
  rcases h with ⟨_, h | h⟩ | ⟨g', cs, h0, h1, h2, h3⟩
  · cases h
  · cases h
  · cases h0
    have : j * sz ≤ k * sz := Nat.mul_le_mul_right _ hj
    exact .inr ⟨g, cs, rfl, h1, by rw [← h2, List.take_take, Nat.min_eq_left this], by omega⟩
theorem Slot.src {H : Heap} {sz k : Nat} {cells : List AV} {a : AV} (h : Slot H sz k cells a) (h0 : k = 0 → cells = []) : ∃ rd, zg sz H a = some (k, cells, rd) := by
  rcases h with ⟨rfl, rfl | rfl⟩ | ⟨g, cs, rfl, h1, h2, h3⟩
  · exact ⟨[], by rw [h0 rfl]; rfl⟩
  · exact ⟨[], by rw [h0 rfl]; rfl⟩
  · refine ⟨[g], ?_⟩
    simp only [zg, h1, Nat.zero_add, List.drop_zero]
    rw [if_pos h3, h2]
theorem Slot.append {H : Heap} {sz k bytes t nx : Nat} {cells new : List AV} {a : AV} {kt : Kt} (hg : Slot H sz k cells a) (hlen : cells.length = k * sz) (ht : H t = some (.row sz new)) (hnl : new.length = sz) (hone : new.all AV.one = true)
    (hb : (k + 1) * bytes ≤ 140737488355328) (hk : ∀ rd D, (∀ g ∈ domD D, g ∈ own a ∨ g = nx) → (H.apply D) nx = some (.row sz (cells ++ new)) → (∀ g, g ∉ own a → g ≠ nx → (H.apply D) g = H g) → kt (.slc nx 0 (k + 1)) rd [nx] D) : zx sz bytes a (.slc t 0 1) H nx kt := by
  have hs : zg sz H (.slc t 0 1) = some (1, new, [t]) := by
    simp only [zg, ht]
    rw [if_pos (by omega)]
    simp [← hnl]
  rcases hg with ⟨rfl, rfl | rfl⟩ | ⟨g, cs, rfl, h1, h2, h3⟩
  · rw [zqy, hs, optk]
    have hc : cells = [] := List.eq_nil_of_length_eq_zero (by omega)
    subst hc
    refine ⟨hone, fun h => absurd h Nat.one_ne_zero, fun _ => ?_⟩
    exact ⟨by simpa using hb, hk _ _ (by simp) (by simp only [zar, zbf, Heap.put_at]; rfl) (fun x _ hx => by simp only [zar, zbf]; exact Heap.put_ne _ _ hx)⟩
  · rw [zaca, hs, optk]
    have hc : cells = [] := List.eq_nil_of_length_eq_zero (by omega)
    subst hc
    refine ⟨hone, fun h => absurd h Nat.one_ne_zero, fun _ => ?_⟩
    exact ⟨by simpa using hb, hk _ _ (by simp) (by simp only [zar, zbf, Heap.put_at]; rfl) (fun x _ hx => by simp only [zar, zbf]; exact Heap.put_ne _ _ hx)⟩
  · rw [zne, hs, optk, h1, rowk]
    refine ⟨rfl, hone, by omega, hb, hk _ _ (by simp [own]) ?_ (fun x hx1 hx => ?_)⟩
    · simp only [zar, zbf]; rw [Heap.put_at, List.drop_zero, h2]
    · simp only [zar, zbf]; rw [Heap.put_ne _ _ hx, Heap.put_ne _ _ (by simpa [own] using hx1)]
theorem Slot.app {H : Heap} {sz k bytes t nx : Nat} {cells new : List AV} {a : AV} {kk : AV → Heap → Nat → Prop} (hg : Slot H sz k cells a) (hlen : cells.length = k * sz) (ht : H t = some (.row sz new)) (hnl : new.length = sz) (hone : new.all AV.one = true)
    (hb : (k + 1) * bytes ≤ 140737488355328) (hk : ∀ H', H' nx = some (.row sz (cells ++ new)) → (∀ g, g ∉ own a → g ≠ nx → H' g = H g) → kk (.slc nx 0 (k + 1)) H' (nx + 1)) : APP sz bytes a (.slc t 0 1) H nx kk := by
  have := hg.append (bytes := bytes) (t := t) (nx := nx) (new := new) (kt := fun v _ fr D => kk v (H.apply D) (nx + fr.length)) hlen ht hnl hone hb fun rd D _ h1 h2 => hk _ h1 h2
  exact this
def frow : List Frm → List (AV × AV) → List AV
  | f :: fs, s :: ss => .int .i64 f.fn :: .int .i64 f.at_ :: s.1 :: s.2 :: frow fs ss
  | _, _ => []
theorem zog : ∀ {fs : List Frm} {ss : List (AV × AV)}, ss.length = fs.length → (frow fs ss).length = fs.length * 4
  | [], [], _ => rfl
  | f :: fs, s :: ss, h => by simp [frow, zog (fs := fs) (ss := ss) (by simpa using h)]; omega
  | [], s :: ss, h => by simp at h
  | f :: fs, [], h => by simp at h
theorem zabf : ∀ {fs : List Frm} {ss : List (AV × AV)} {f : Frm} {s : AV × AV}, ss.length = fs.length → frow (fs ++ [f]) (ss ++ [s]) = frow fs ss ++ [.int .i64 f.fn, .int .i64 f.at_, s.1, s.2]
  | [], [], f, s, _ => rfl
  | g :: fs, t :: ss, f, s, h => by simp [frow, zabf (fs := fs) (ss := ss) (f := f) (s := s) (by simpa using h)]
  | [], s :: ss, _, _, h => by simp at h
  | f :: fs, [], _, _, h => by simp at h
def owns (ss : List (AV × AV)) : List Nat := ss.flatMap fun s => own s.1 ++ own s.2
def Spt.avs (s : Spt) : List AV := [.str s.name, .ro (s.facts.map fun x => .str x.key :: x.val.avs), .int .i64 s.fuel, .int .i64 s.cells]
def Evt.avs (e : Evt) : List AV := [.int .i64 e.kind, .str e.text, .int .i64 e.err]
def zadm (id trip : Int) (p : Prg) (fa ha : AV) (m : Pmt) (gs : Nat) (e : Evt) : List AV :=
  [.int .i64 id, .int .i64 trip, .ro (p.codes.map Cod.avs), .ro (p.words.map fun w => [.str w]), fa, ha, .int .i64 m.fuel, .int .i64 m.room, .int .i64 m.hops, .ptr gs 0, .int .i64 e.kind, .str e.text, .int .i64 e.err]
def zaa (H : Heap) (fs : List Frm) (ss : List (AV × AV)) : Prop := ss.length = fs.length ∧ ∀ (k : Nat) (f : Frm) (s : AV × AV), fs[k]? = some f → ss[k]? = some s → Slot H 3 f.vars.length (rowV f.vars) s.1 ∧ Slot H 3 f.stack.length (rowV f.stack) s.2
theorem zaa.keep {H H' : Heap} {fs : List Frm} {ss : List (AV × AV)} (h : zaa H fs ss) (hk : ∀ g ∈ owns ss, H' g = H g) : zaa H' fs ss := by
  refine ⟨h.1, fun k f s hf hs => ?_⟩
  obtain ⟨a, b⟩ := h.2 k f s hf hs
  have hm := List.mem_of_getElem? hs
  exact ⟨a.keep fun g hg => hk g (List.mem_flatMap.2 ⟨s, hm, List.mem_append_left _ hg⟩), b.keep fun g hg => hk g (List.mem_flatMap.2 ⟨s, hm, List.mem_append_right _ hg⟩)⟩
theorem zaa.snoc {H : Heap} {fs : List Frm} {ss : List (AV × AV)} {f : Frm} {s : AV × AV} (h : zaa H fs ss) (h1 : Slot H 3 f.vars.length (rowV f.vars) s.1) (h2 : Slot H 3 f.stack.length (rowV f.stack) s.2) : zaa H (fs ++ [f]) (ss ++ [s]) := by
  refine ⟨by simp [h.1], fun k f' s' hf hs => ?_⟩
  by_cases hk : k < fs.length
  · rw [List.getElem?_append_left hk] at hf
    rw [List.getElem?_append_left (by rw [h.1]; exact hk)] at hs
    exact h.2 k f' s' hf hs
  · have hk' : k = fs.length := by have := (List.getElem?_eq_some_iff.1 hf).1; simp at this; omega
    subst hk'
    rw [List.getElem?_append_right (Nat.le_refl _)] at hf
    rw [List.getElem?_append_right (by rw [h.1]; exact Nat.le_refl _), h.1] at hs
    simp at hf hs
    subst hf; subst hs
    exact ⟨h1, h2⟩
theorem zaa.last {H : Heap} {fs : List Frm} {ss : List (AV × AV)} {f : Frm} {s : AV × AV} (h : zaa H (fs ++ [f]) (ss ++ [s])) : zaa H fs ss ∧ Slot H 3 f.vars.length (rowV f.vars) s.1 ∧ Slot H 3 f.stack.length (rowV f.stack) s.2 := by
  have hl : ss.length = fs.length := by simpa using h.1
  refine ⟨⟨hl, fun k f' s' hf hs => ?_⟩, h.2 fs.length f s (by simp) (by rw [← hl]; simp)⟩
  have h1 := (List.getElem?_eq_some_iff.1 hf).1
  exact h.2 k f' s' (by rw [List.getElem?_append_left h1]; exact hf) (by rw [List.getElem?_append_left (by omega)]; exact hs)
structure RL (H0 H : Heap) (lo n gr gs gf : Nat) (id trip : Int) (p : Prg) (s : Spt) (fs : List Frm) (ss : List (AV × AV)) (f : Frm) (va sa : AV) (h : List Cl) (ha : AV) (m : Pmt) (e : Evt) : Prop where
  run : H gr = some (.row 13 (zadm id trip p (.slc gf 0 (fs.length + 1)) ha m gs e))
  fr : ∃ cs, H gf = some (.row 4 cs) ∧ cs.take ((fs.length + 1) * 4) = frow fs ss ++ [.int .i64 f.fn, .int .i64 f.at_, va, sa] ∧ (fs.length + 1) * 4 ≤ cs.length
  frs : zaa H fs ss
  sv : Slot H 3 f.vars.length (rowV f.vars) va
  st : Slot H 3 f.stack.length (rowV f.stack) sa
  hp : Slot H 6 h.length (rowC h) ha
  spot : H gs = some (.row 4 s.avs)
  nd : (gr :: gs :: gf :: (own ha ++ (owns ss ++ (own va ++ own sa)))).Nodup
  gsn : gs < n
  bd : ∀ g ∈ gr :: gf :: (own ha ++ (owns ss ++ (own va ++ own sa))), lo ≤ g ∧ g < n
  keep : Keep lo H H0
  le : lo ≤ n
end Go.Proofs.YtpbnaaoilgohkaaGreatDoor
set_option maxRecDepth 8000
namespace Go.Proofs.YtpbnaaoilgohkaaGreatDoor
open Go Go.RowKit
structure zaql (n gr gs gf : Nat) (ha : AV) (ss : List (AV × AV)) (va sa : AV) : Prop where
  rs : gr ≠ gs
  rf : gr ≠ gf
  sf : gs ≠ gf
  r : gr < n
  s : gs < n
  f : gf < n
  h : ∀ g ∈ own ha, g < n ∧ g ≠ gr ∧ g ≠ gs ∧ g ≠ gf ∧ g ∉ owns ss ∧ g ∉ own va ∧ g ∉ own sa
  w : ∀ g ∈ owns ss, g < n ∧ g ≠ gr ∧ g ≠ gs ∧ g ≠ gf ∧ g ∉ own ha ∧ g ∉ own va ∧ g ∉ own sa
  v : ∀ g ∈ own va, g < n ∧ g ≠ gr ∧ g ≠ gs ∧ g ≠ gf ∧ g ∉ own ha ∧ g ∉ owns ss ∧ g ∉ own sa
  t : ∀ g ∈ own sa, g < n ∧ g ≠ gr ∧ g ≠ gs ∧ g ≠ gf ∧ g ∉ own ha ∧ g ∉ owns ss ∧ g ∉ own va
theorem zamn {lo n gr gs gf : Nat} {ha va sa : AV} {ss : List (AV × AV)} (nd : (gr :: gs :: gf :: (own ha ++ (owns ss ++ (own va ++ own sa)))).Nodup) (gsn : gs < n) (bd : ∀ g ∈ gr :: gf :: (own ha ++ (owns ss ++ (own va ++ own sa))), lo ≤ g ∧ g < n) : zaql n gr gs gf ha ss va sa := by
  simp only [List.nodup_cons, List.nodup_append, List.mem_cons, List.mem_append, not_or] at nd
  simp only [List.mem_cons, List.mem_append] at bd
  obtain ⟨⟨a1, a2, a3, a4, a5, a6⟩, ⟨b1, b2, b3, b4, b5⟩, ⟨c1, c2, c3, c4⟩, n1, ⟨n2, ⟨n3, n4, n5⟩, n6⟩, n7⟩ := nd
  refine ⟨a1, a2, b1, (bd gr (by simp)).2, gsn, (bd gf (by simp)).2, fun g hg => ⟨(bd g (by simp [hg])).2, fun e => a3 (e ▸ hg), fun e => b2 (e ▸ hg), fun e => c1 (e ▸ hg), fun h => n7 g hg g (.inl h) rfl, fun h => n7 g hg g (.inr (.inl h)) rfl, fun h => n7 g hg g (.inr (.inr h)) rfl⟩,
    fun g hg => ⟨(bd g (by simp [hg])).2, fun e => a4 (e ▸ hg), fun e => b3 (e ▸ hg), fun e => c2 (e ▸ hg), fun h => n7 g h g (.inl hg) rfl, fun h => n6 g hg g (.inl h) rfl, fun h => n6 g hg g (.inr h) rfl⟩,
    fun g hg => ⟨(bd g (by simp [hg])).2, fun e => a5 (e ▸ hg), fun e => b4 (e ▸ hg), fun e => c3 (e ▸ hg), fun h => n7 g h g (.inr (.inl hg)) rfl, fun h => n6 g h g (.inl hg) rfl, fun h => n5 g hg g h rfl⟩,
    fun g hg => ⟨(bd g (by simp [hg])).2, fun e => a6 (e ▸ hg), fun e => b5 (e ▸ hg), fun e => c4 (e ▸ hg), fun h => n7 g h g (.inr (.inr hg)) rfl, fun h => n6 g h g (.inr hg) rfl, fun h => n5 g h g hg rfl⟩⟩
theorem zalb (a : AV) : (own a).Nodup := by cases a <;> simp [own]
section
variable {H0 H : Heap} {lo n gr gs gf : Nat} {id trip : Int} {p : Prg} {s : Spt} {fs : List Frm} {ss : List (AV × AV)} {f : Frm} {va sa : AV} {h : List Cl} {ha : AV} {m : Pmt} {e : Evt}
theorem RL.apart (st : RL H0 H lo n gr gs gf id trip p s fs ss f va sa h ha m e) : zaql n gr gs gf ha ss va sa := zamn st.nd st.gsn st.bd
theorem RL.upd (st : RL H0 H lo n gr gs gf id trip p s fs ss f va sa h ha m e) {H' : Heap} {n' : Nat} {f' : Frm} {va' sa' : AV} {h' : List Cl} {ha' : AV} {m' : Pmt} {e' : Evt} (hn : n ≤ n')
    (run' : H' gr = some (.row 13 (zadm id trip p (.slc gf 0 (fs.length + 1)) ha' m' gs e'))) (fr' : ∃ cs, H' gf = some (.row 4 cs) ∧ cs.take ((fs.length + 1) * 4) = frow fs ss ++ [.int .i64 f'.fn, .int .i64 f'.at_, va', sa'] ∧ (fs.length + 1) * 4 ≤ cs.length)
    (sv' : Slot H' 3 f'.vars.length (rowV f'.vars) va') (st' : Slot H' 3 f'.stack.length (rowV f'.stack) sa') (hp' : Slot H' 6 h'.length (rowC h') ha')
    (hk : ∀ g, g < n → g ≠ gr → g ≠ gf → g ∉ own ha → g ∉ own va → g ∉ own sa → H' g = H g)
    (oh : ∀ g ∈ own ha', g ∈ own ha ∨ (n ≤ g ∧ g < n')) (ov : ∀ g ∈ own va', g ∈ own va ∨ (n ≤ g ∧ g < n')) (ot : ∀ g ∈ own sa', g ∈ own sa ∨ (n ≤ g ∧ g < n'))
    (nd3 : (own ha' ++ (own va' ++ own sa')).Nodup) : RL H0 H' lo n' gr gs gf id trip p s fs ss f' va' sa' h' ha' m' e' := by
  have ap := st.apart
  have b := st.bd
  simp only [List.mem_cons, List.mem_append] at b
  refine ⟨run', fr', st.frs.keep fun g hg => ?_, sv', st', hp', by rw [hk gs ap.s ap.rs.symm ap.sf (fun h => (ap.h _ h).2.2.1 rfl) (fun h => (ap.v _ h).2.2.1 rfl) (fun h => (ap.t _ h).2.2.1 rfl)]; exact st.spot, ?_, by have := st.gsn; omega, ?_, ?_, by have := st.le; omega⟩
  · obtain ⟨w1, w2, w3, w4, w5, w6, w7⟩ := ap.w g hg
    exact hk g w1 w2 w4 w5 w6 w7
  · have mh : ∀ g ∈ own ha', g ≠ gr ∧ g ≠ gs ∧ g ≠ gf ∧ g ∉ owns ss := fun g hg => by
      rcases oh g hg with h | h
      · obtain ⟨w1, w2, w3, w4, w5, w6, w7⟩ := ap.h g h; exact ⟨w2, w3, w4, w5⟩
      · have := ap.r; have := ap.s; have := ap.f
        exact ⟨by omega, by omega, by omega, fun hx => by have := (ap.w g hx).1; omega⟩
    have mv : ∀ g ∈ own va', g ≠ gr ∧ g ≠ gs ∧ g ≠ gf ∧ g ∉ owns ss := fun g hg => by
      rcases ov g hg with h | h
      · obtain ⟨w1, w2, w3, w4, w5, w6, w7⟩ := ap.v g h; exact ⟨w2, w3, w4, w6⟩
      · have := ap.r; have := ap.s; have := ap.f
        exact ⟨by omega, by omega, by omega, fun hx => by have := (ap.w g hx).1; omega⟩
    have mt : ∀ g ∈ own sa', g ≠ gr ∧ g ≠ gs ∧ g ≠ gf ∧ g ∉ owns ss := fun g hg => by
      rcases ot g hg with h | h
      · obtain ⟨w1, w2, w3, w4, w5, w6, w7⟩ := ap.t g h; exact ⟨w2, w3, w4, w6⟩
      · have := ap.r; have := ap.s; have := ap.f
        exact ⟨by omega, by omega, by omega, fun hx => by have := (ap.w g hx).1; omega⟩
    have ndw : (owns ss).Nodup := by
      have := st.nd
      simp only [List.nodup_cons, List.nodup_append] at this
      exact this.2.2.2.2.1.1
    simp only [List.nodup_append] at nd3
    obtain ⟨z1, ⟨z2, z3, z4⟩, z5⟩ := nd3
    simp only [List.nodup_cons, List.nodup_append, List.mem_cons, List.mem_append, not_or]
    refine ⟨⟨ap.rs, ap.rf, fun h => (mh _ h).1 rfl, fun h => (ap.w _ h).2.1 rfl, fun h => (mv _ h).1 rfl, fun h => (mt _ h).1 rfl⟩, ⟨ap.sf, fun h => (mh _ h).2.1 rfl, fun h => (ap.w _ h).2.2.1 rfl, fun h => (mv _ h).2.1 rfl, fun h => (mt _ h).2.1 rfl⟩, ⟨fun h => (mh _ h).2.2.1 rfl, fun h => (ap.w _ h).2.2.2.1 rfl, fun h => (mv _ h).2.2.1 rfl, fun h => (mt _ h).2.2.1 rfl⟩, z1, ⟨ndw, ⟨z2, z3, z4⟩, ?_⟩, ?_⟩
    · rintro x hx y (hy | hy) rfl
      · exact (mv _ hy).2.2.2 hx
      · exact (mt _ hy).2.2.2 hx
    · rintro x hx y (hy | hy | hy) rfl
      · exact (mh _ hx).2.2.2 hy
      · exact z5 _ hx _ (List.mem_append_left _ hy) rfl
      · exact z5 _ hx _ (List.mem_append_right _ hy) rfl
  · intro g hg
    have hl := st.le
    simp only [List.mem_cons, List.mem_append] at hg
    have old : (lo ≤ g ∧ g < n) → lo ≤ g ∧ g < n' := fun h => by omega
    have new : (n ≤ g ∧ g < n') → lo ≤ g ∧ g < n' := fun h => by omega
    rcases hg with hg | hg | hg | hg | hg | hg
    · exact old (b g (.inl hg))
    · exact old (b g (.inr (.inl hg)))
    · rcases oh g hg with h | h
      · exact old (b g (.inr (.inr (.inl h))))
      · exact new h
    · exact old (b g (.inr (.inr (.inr (.inl hg)))))
    · rcases ov g hg with h | h
      · exact old (b g (.inr (.inr (.inr (.inr (.inl h))))))
      · exact new h
    · rcases ot g hg with h | h
      · exact old (b g (.inr (.inr (.inr (.inr (.inr h))))))
      · exact new h
  · intro g hg
    have lb : ∀ x, (x = gr ∨ x = gf ∨ x ∈ own ha ∨ x ∈ owns ss ∨ x ∈ own va ∨ x ∈ own sa) → lo ≤ x := fun x hx => (b x hx).1
    have hl := st.le
    rw [hk g (by omega) (fun e => by have := lb gr (.inl rfl); omega) (fun e => by have := lb gf (.inr (.inl rfl)); omega) (fun h => by have := lb g (.inr (.inr (.inl h))); omega) (fun h => by have := lb g (.inr (.inr (.inr (.inr (.inl h))))); omega) (fun h => by have := lb g (.inr (.inr (.inr (.inr (.inr h))))); omega)]
    exact st.keep g hg
theorem RL.nd3 (st : RL H0 H lo n gr gs gf id trip p s fs ss f va sa h ha m e) : (own ha ++ (own va ++ own sa)).Nodup := by
  have := st.nd
  simp only [List.nodup_cons, List.nodup_append, List.mem_append] at this
  obtain ⟨_, _, _, n1, ⟨n2, ⟨n3, n4, n5⟩, n6⟩, n7⟩ := this
  simp only [List.nodup_append, List.mem_append]
  exact ⟨n1, ⟨n3, n4, n5⟩, fun a ha b hb => n7 a ha b (.inr hb)⟩
theorem RL.more (st : RL H0 H lo n gr gs gf id trip p s fs ss f va sa h ha m e) {H' : Heap} {n' : Nat} (hn : n ≤ n') (hk : ∀ g, g < n → H' g = H g) : RL H0 H' lo n' gr gs gf id trip p s fs ss f va sa h ha m e := by
  have ap := st.apart
  obtain ⟨cs, c1, c2⟩ := st.fr
  exact st.upd hn (by rw [hk _ ap.r]; exact st.run) ⟨cs, by rw [hk _ ap.f]; exact c1, c2⟩ (st.sv.keep fun g hg => hk g (ap.v g hg).1) (st.st.keep fun g hg => hk g (ap.t g hg).1) (st.hp.keep fun g hg => hk g (ap.h g hg).1) (fun g hg _ _ _ _ _ => hk g hg) (fun g hg => .inl hg) (fun g hg => .inl hg) (fun g hg => .inl hg) st.nd3
end
end Go.Proofs.YtpbnaaoilgohkaaGreatDoor
set_option maxRecDepth 8000
namespace Go.Proofs.YtpbnaaoilgohkaaGreatDoor
open Go Go.RowKit
theorem zamm {D : zi} : ∀ {H H' : Heap} {g : Nat}, g ∈ domD D → (H.apply D) g = (H'.apply D) g := by
  induction D with
  | nil => intro H H' g hg; simp at hg
  | cons d r ih =>
    obtain ⟨g', o⟩ := d
    intro H H' g hg
    show ((H.put g' o).apply r) g = ((H'.put g' o).apply r) g
    by_cases hr : g ∈ domD r
    · exact ih hr
    · rw [zlu hr, zlu hr]
      have : g = g' := by simpa [hr] using hg
      subst this
      rw [Heap.put_at, Heap.put_at]
theorem LC.of_calls {P : Program} {f : FuncId} {args : List AV} {r : AV} {H0 : Heap} {rd : List Nat} {D : zi} (hrd : ∀ g ∈ rd, (H0 g).isSome = true) (hdom : ∀ g ∈ domD D, g ∈ rd) (hr : ∀ A : Nat → Prop, (∀ g ∈ rd, A g) → (∀ g ∈ rd, ∀ o, H0 g = some o → BelO A o) → Bel A r)
    (hb : ∀ A : Nat → Prop, (∀ g ∈ rd, A g) → (∀ g ∈ rd, ∀ o, H0 g = some o → BelO A o) → ∀ g o, g ∈ domD D → (H0.apply D) g = some o → BelO A o)
    (h : ∀ H nx, (∀ g ∈ rd, H g = H0 g ∧ g < nx) → za P f args H nx fun v H' nx' => v = r ∧ nx ≤ nx' ∧ (∀ g, g < nx → g ∉ domD D → H' g = H g) ∧ (∀ g o, g ∈ domD D → (H0.apply D) g = some o → H' g = some o)) : LC P f args H0 rd [] D r := by
  intro A ρ H w cargs ⟨N, hN⟩ s ha hag _
  have sN : Sim (· < N) ρ H w := ⟨fun g o ho => hN g (s.live g o ho), fun g o ho => (s.obj g o ho).mono rfl (fun _ _ h => h) (fun g hg => ⟨rfl, hN g hg⟩), s.inj, s.lay⟩
  have aN : LRel (Kof ρ H w) ρ (· < N) args cargs.toList := ⟨ha.1, fun j v c hv hc => (ha.2 j v c hv hc).mono (fun _ _ h => h) (fun g hg => ⟨rfl, hN g hg⟩)⟩
  have hrdA : ∀ g ∈ rd, A g := fun g hg => by
    obtain ⟨o, ho⟩ := Option.isSome_iff_exists.1 (hrd g hg)
    exact s.live g o ((hag g hg).trans ho)
  have hrdB : ∀ g ∈ rd, ∀ o, H0 g = some o → BelO A o := fun g hg o ho => (s.obj g o ((hag g hg).trans ho)).bel
  refine zn (h H N (fun g hg => ⟨hag g hg, hN g (hrdA g hg)⟩) ρ w cargs sN aN) fun cv w' ⟨v, H', nx', ρ', ⟨hv, hnx, hsame, hchg⟩, q3, q4, q5⟩ => ?_
  subst hv
  have hρ : ∀ g, g < N → ρ' g = ρ g := fun g hg => (q5.agree g hg).1
  have hAe : (fun x => A x ∨ x ∈ ([] : List Nat)) = A := by funext x; simp
  have lv : ∀ g o, (H.apply D) g = some o → A g ∧ H' g = some o ∧ BelO A o := fun g o ho => by
    by_cases hg : g ∈ domD D
    · rw [zamm (H' := H0) hg] at ho
      exact ⟨hrdA g (hdom g hg), hchg g o hg ho, hb A hrdA hrdB g o hg ho⟩
    · rw [zlu hg] at ho
      have hA := s.live g o ho
      exact ⟨hA, by rw [hsame g (hN g hA) hg]; exact ho, (s.obj g o ho).bel⟩
  have hK : ∀ b o, Kof ρ' H' w' b = some o → Kof ρ' (H.apply D) w' b = some o := fun b o hb => by
    obtain ⟨h1, h2⟩ := zp.1 hb
    refine zp.2 ⟨fun g hg => ?_, h2⟩
    obtain ⟨o1, ho1⟩ := Option.isSome_iff_exists.1 hg
    exact h1 g (by rw [(lv g o1 ho1).2.1]; rfl)
  refine ⟨ρ', ?_, ?_, ?_⟩
  · rw [hAe]
    refine ⟨fun g o ho => (lv g o ho).1, fun g o ho => ?_, fun x y hx hy hxy => ?_, q3.lay.mono hK⟩
    · obtain ⟨_, h1, h2⟩ := lv g o ho
      exact ((q3.obj g o h1).restrict h2).mono rfl hK (fun _ h => ⟨rfl, h⟩)
    · obtain ⟨o1, ho1⟩ := Option.isSome_iff_exists.1 hx
      obtain ⟨o2, ho2⟩ := Option.isSome_iff_exists.1 hy
      exact q3.inj x y (by rw [(lv x o1 ho1).2.1]; rfl) (by rw [(lv y o2 ho2).2.1]; rfl) hxy
  · rw [hAe]
    exact (q4.restrict (hr A hrdA hrdB)).mono hK (fun g hg => ⟨rfl, hg⟩)
  · rw [hAe]
    exact ⟨fun g hg => ⟨hρ g (hN g hg), hg⟩, fun b o hb => hK b o (q5.k b o hb), q5.os, q5.tape, q5.output, q5.size⟩
theorem LC.of_callsN {P : Program} {f : FuncId} {args : List AV} {r : AV} {H0 : Heap} {rd : List Nat} {D : zi} {g0 : Nat} (hrd : ∀ g ∈ rd, (H0 g).isSome = true) (hdom : ∀ g ∈ domD D, g ∈ rd ∨ g = g0)
    (h : ∀ A : Nat → Prop, (∀ g ∈ rd, A g) → (∀ g ∈ rd, ∀ o, H0 g = some o → BelO A o) → ∀ H nx, (∀ g ∈ rd, H g = H0 g ∧ g < nx) → za P f args H nx fun v H' nx' => ∃ gn, nx ≤ gn ∧ gn < nx' ∧ Rn A gn g0 v r ∧ (∀ g, g < nx → g ∉ domD D → H' g = H g) ∧
      (∀ g o, g ∈ domD D → g ≠ g0 → (H.apply D) g = some o → ∃ o', H' g = some o' ∧ RnO A gn g0 o' o) ∧ (∃ o o', (H.apply D) g0 = some o ∧ H' gn = some o' ∧ RnO A gn g0 o' o)) : LC P f args H0 rd [g0] D r := by
  intro A ρ H w cargs ⟨N0, hN0⟩ s ha hag hfresh
  obtain ⟨N, hN, hg0N⟩ : ∃ N, (∀ g, A g → g < N) ∧ g0 < N := ⟨max N0 (g0 + 1), fun g hg => by have := hN0 g hg; omega, by omega⟩
  have hg0 : ¬ A g0 := hfresh g0 (by simp)
  have sN : Sim (· < N) ρ H w := ⟨fun g o ho => hN g (s.live g o ho), fun g o ho => (s.obj g o ho).mono rfl (fun _ _ h => h) (fun g hg => ⟨rfl, hN g hg⟩), s.inj, s.lay⟩
  have aN : LRel (Kof ρ H w) ρ (· < N) args cargs.toList := ⟨ha.1, fun j v c hv hc => (ha.2 j v c hv hc).mono (fun _ _ h => h) (fun g hg => ⟨rfl, hN g hg⟩)⟩
  have hrdA : ∀ g ∈ rd, A g := fun g hg => by
    obtain ⟨o, ho⟩ := Option.isSome_iff_exists.1 (hrd g hg)
    exact s.live g o ((hag g hg).trans ho)
  have hrdB : ∀ g ∈ rd, ∀ o, H0 g = some o → BelO A o := fun g hg o ho => (s.obj g o ((hag g hg).trans ho)).bel
  refine zn (h A hrdA hrdB H N (fun g hg => ⟨hag g hg, hN g (hrdA g hg)⟩) ρ w cargs sN aN) fun cv w' ⟨v, H', nx', ρ', ⟨gn, hgN, hgn, hv, hsame, hchg, onew, onew', hn1, hn2, hn3⟩, q3, q4, q5⟩ => ?_
  have hρ : ∀ g, g < N → ρ' g = ρ g := fun g hg => (q5.agree g hg).1
  let ρ2 : Nat → Loc := fun g => if g = g0 then ρ' gn else ρ' g
  have h20 : ρ2 g0 = ρ' gn := if_pos rfl
  have h2 : ∀ g, g ≠ g0 → ρ2 g = ρ' g := fun g hg => if_neg hg
  have hAne : ∀ g, A g → g ≠ g0 := fun g hg e => hg0 (e ▸ hg)
  have hR : ∀ g, A g → g < nx' → ρ2 g = ρ' g ∧ (A g ∨ g ∈ [g0]) := fun g hg _ => ⟨h2 g (hAne g hg), .inl hg⟩
  have hRA : ∀ g, A g → g < nx' := fun g hg => by have := hN g hg; omega
  have hG : ρ2 g0 = ρ' gn ∧ (A g0 ∨ g0 ∈ [g0]) := ⟨h20, .inr (by simp)⟩
  -- who stands for whom
  have lv : ∀ g o, (H.apply D) g = some o → (A g ∨ g ∈ [g0]) ∧ ∃ g' o', H' g' = some o' ∧ ρ2 g = ρ' g' ∧ (g = g0 → g' = gn) ∧ (g ≠ g0 → g' = g ∧ A g) ∧
      (∀ K, zah K ρ' (· < nx') w' (ρ' g') o' → zah K ρ2 (fun x => A x ∨ x ∈ [g0]) w' (ρ2 g) o) := fun g o ho => by
    by_cases hgg : g = g0
    · subst hgg
      rw [hn1] at ho
      obtain rfl := Option.some.inj ho
      exact ⟨.inr (by simp), gn, onew', hn2, h20, fun _ => rfl, fun h => absurd rfl h, fun K hk => by rw [h20]; exact hk.rn hn3 hR hRA hG⟩
    · by_cases hg : g ∈ domD D
      · obtain ⟨o', h1, h3⟩ := hchg g o hg hgg ho
        have hA : A g := by
          rcases hdom g hg with h | h
          · exact hrdA g h
          · exact absurd h hgg
        exact ⟨.inl hA, g, o', h1, h2 g hgg, fun h => absurd h hgg, fun _ => ⟨rfl, hA⟩, fun K hk => by rw [h2 g hgg]; exact hk.rn h3 hR hRA hG⟩
      · rw [zlu hg] at ho
        have hA := s.live g o ho
        refine ⟨.inl hA, g, o, by rw [hsame g (hN g hA) hg]; exact ho, h2 g hgg, fun h => absurd h hgg, fun _ => ⟨rfl, hA⟩, fun K hk => ?_⟩
        rw [h2 g hgg]
        exact (hk.restrict (s.obj g o ho).bel).mono rfl (fun _ _ h => h) (fun x hx => ⟨h2 x (hAne x hx), .inl hx⟩)
  have hK : ∀ b o, Kof ρ' H' w' b = some o → Kof ρ2 (H.apply D) w' b = some o := fun b o hb => by
    obtain ⟨k1, k2⟩ := zp.1 hb
    refine zp.2 ⟨fun g hg => ?_, k2⟩
    obtain ⟨o1, ho1⟩ := Option.isSome_iff_exists.1 hg
    obtain ⟨_, g', o', e1, e2, _⟩ := lv g o1 ho1
    rw [e2]
    exact k1 g' (by rw [e1]; rfl)
  refine ⟨ρ2, ⟨fun g o ho => (lv g o ho).1, fun g o ho => ?_, fun x y hx hy hxy => ?_, q3.lay.mono hK⟩, ?_, ⟨fun g hg => ⟨(h2 g (hAne g hg)).trans (hρ g (hN g hg)), .inl hg⟩, fun b o hb => hK b o (q5.k b o hb), q5.os, q5.tape, q5.output, q5.size⟩⟩
  · obtain ⟨_, g', o', e1, _, _, _, e4⟩ := lv g o ho
    exact (e4 _ (q3.obj g' o' e1)).mono rfl hK (fun _ h => ⟨rfl, h⟩)
  · obtain ⟨o1, ho1⟩ := Option.isSome_iff_exists.1 hx
    obtain ⟨o2, ho2⟩ := Option.isSome_iff_exists.1 hy
    obtain ⟨_, x', p1, e1, e2, e3, e4, _⟩ := lv x o1 ho1
    obtain ⟨_, y', p2, f1, f2, f3, f4, _⟩ := lv y o2 ho2
    rw [e2, f2] at hxy
    have hxy' := q3.inj x' y' (by rw [e1]; rfl) (by rw [f1]; rfl) hxy
    by_cases hx0 : x = g0
    · by_cases hy0 : y = g0
      · rw [hx0, hy0]
      · have := (f4 hy0).1
        have hAy := hN y (f4 hy0).2
        have := e3 hx0
        omega
    · by_cases hy0 : y = g0
      · have := (e4 hx0).1
        have hAx := hN x (e4 hx0).2
        have := f3 hy0
        omega
      · rw [← (e4 hx0).1, ← (f4 hy0).1]; exact hxy'
  · exact (q4.rn hv hR hRA hG).mono hK (fun g hg => ⟨rfl, hg⟩)
end Go.Proofs.YtpbnaaoilgohkaaGreatDoor
set_option maxRecDepth 8000
namespace Go.Proofs.YtpbnaaoilgohkaaGreatDoor
open Go Go.RowKit
section
variable {ki : IntKind}
@[simp ↓] theorem zanm {s g off len : Nat} {a : Int} {H : Heap} {kt : Kt} : zap s (.slc g off len) none (some (.int ki a)) H kt = ROWK (H g) fun sz _ => sz = s ∧ 0 ≤ a ∧ a ≤ len ∧ kt (.slc g off a.toNat) [g] [] [] := by
  simp only [zap, lohi]
  refine zgb (fun sz cs h => ?_) fun h => ?_
  · simp [h]
  · intro ha
    split at ha
    · rename_i sz cs he; exact h _ _ he
    · exact ha
@[simp ↓] theorem zaik {s g off len : Nat} {a : Int} {H : Heap} {kt : Kt} : zap s (.slc g off len) (some (.int ki a)) none H kt = ROWK (H g) fun sz _ => sz = s ∧ 0 ≤ a ∧ a ≤ len ∧ kt (.slc g (off + a.toNat * s) ((len : Int) - a).toNat) [g] [] [] := by
  simp only [zap, lohi]
  refine zgb (fun sz cs h => ?_) fun h => ?_
  · simp [h]
  · intro ha
    split at ha
    · rename_i sz cs he; exact h _ _ he
    · exact ha
end
section
variable {ki : IntKind}
theorem zark {e g off len mm : Nat} {x : AV} {H : Heap} {cells news : List AV} {rd : List Nat} {kh : AV → Heap → Prop} (hs : zg e H x = some (mm, news, rd)) (hg : H g = some (.row e cells)) (hle : off + len * e ≤ cells.length) (hone : news.all AV.one = true)
    (hk : kh (.int .i64 (min mm len : Nat)) (H.put g (some (.row e (zal cells off (news.take (min mm len * e))))))) : CP e (.slc g off len) x H kh := by
  unfold CP COPY
  rw [hs]
  simp only [hg]
  exact ⟨trivial, hle, hone, hk⟩
@[simp ↓] theorem zbat {s g off len : Nat} {a : Int} {H : Heap} {k : AV → Prop} : SL s (.slc g off len) (some (.int ki a)) none H k = ROWK (H g) fun sz _ => sz = s ∧ 0 ≤ a ∧ a ≤ len ∧ k (.slc g (off + a.toNat * s) ((len : Int) - a).toNat) := by
  unfold SL
  rw [zaik]; rfl
@[simp ↓] theorem zbau {s g off len : Nat} {a : Int} {H : Heap} {k : AV → Prop} : SL s (.slc g off len) none (some (.int ki a)) H k = ROWK (H g) fun sz _ => sz = s ∧ 0 ≤ a ∧ a ≤ len ∧ k (.slc g off a.toNat) := by
  unfold SL
  rw [zanm]; rfl
@[simp ↓] theorem zaxy {s : Nat} {a : Int} {H : Heap} {k : AV → Prop} : SL s .nils (some (.int ki a)) none H k = (a = 0 ∧ k .nils) := by
  simp [SL, zap, lohi, PURE, qk]
@[simp ↓] theorem zaxw {s : Nat} {a : Int} {H : Heap} {k : AV → Prop} : SL s .zs (some (.int ki a)) none H k = (a = 0 ∧ k .zs) := by
  simp [SL, zap, lohi, PURE, qk]
@[simp ↓] theorem zaxx {s : Nat} {a : Int} {H : Heap} {k : AV → Prop} : SL s .zs none (some (.int ki a)) H k = (a = 0 ∧ k .zs) := by
  simp [SL, zap, lohi, PURE, qk]
@[simp ↓] theorem zaxz {s : Nat} {a : Int} {H : Heap} {k : AV → Prop} : SL s .nils none (some (.int ki a)) H k = (a = 0 ∧ k .nils) := by
  simp [SL, zap, lohi, PURE, qk]
end
theorem zabb (ss : List (AV × AV)) (t : AV × AV) : owns (ss ++ [t]) = owns ss ++ (own t.1 ++ own t.2) := by simp [owns]
theorem zny (a b : List Val) : rowV (a ++ b) = rowV a ++ rowV b := by simp [rowV]
end Go.Proofs.YtpbnaaoilgohkaaGreatDoor
set_option maxRecDepth 8000
namespace Go.Proofs.YtpbnaaoilgohkaaGreatDoor
namespace VM
def textB (s : Str) : Str := WM.num s.length ++ s
def valB (v : Val) : Str := WM.num v.kind ++ (if v.kind = 1 then textB v.text else WM.num v.n)
def insB (i : Ins) : Str := WM.num i.op ++ WM.num i.a ++ WM.num i.b
def codB (c : Cod) : Str := WM.num c.params ++ WM.num c.vars ++ WM.num c.ins.length ++ c.ins.flatMap insB
def prgB (p : Prg) : Str := WM.num p.words.length ++ p.words.flatMap textB ++ WM.num p.codes.length ++ p.codes.flatMap codB
def valsB (l : List Val) : Str := WM.num l.length ++ l.flatMap valB
def frmB (f : Frm) : Str := WM.num f.fn ++ WM.num f.at_ ++ valsB f.vars ++ valsB f.stack
def clB (c : Cl) : Str := valB c.left ++ valB c.right
def agtB (a : Agt) : Str := WM.num a.id ++ WM.num a.trip ++ WM.num a.permit.fuel ++ WM.num a.permit.room ++ WM.num a.permit.hops ++ prgB a.prog ++ WM.num a.frames.length ++ a.frames.flatMap frmB ++ WM.num a.heap.length ++ a.heap.flatMap clB
def withSum (b : Str) : Str := b ++ WM.num (WM.sum b)
def image (a : Agt) : Str := withSum (agtB (pack a))
inductive R (α : Type) where
  | ok (a : α) (r : Str)
  | no (e : Int)
def Rd (α : Type) : Type := Str → R α
def Rd.pure {α : Type} (a : α) : Rd α := fun b => .ok a b
def Rd.bind {α β : Type} (m : Rd α) (f : α → Rd β) : Rd β := fun b => match m b with
  | .ok a r => f a r
  | .no e => .no e
def rNum : Rd Int := fun b => if (WM.getNum b).2.2 ≠ 0 then .no (WM.getNum b).2.2 else .ok (WM.getNum b).1 (b.drop (WM.getNum b).2.1.toNat)
def rCount (most : Int) : Rd Int := fun b => match rNum b with
  | .ok n r => if n < 0 ∨ most < n then .no 4 else .ok n r
  | .no e => .no e
def rText (most : Int) : Rd Str := fun b => if (WM.getText b most).2.2 ≠ 0 then .no (WM.getText b most).2.2 else .ok (WM.getText b most).1 (b.drop (WM.getText b most).2.1.toNat)
def rMany {α : Type} (m : Rd α) : Nat → Rd (List α)
  | 0 => .pure []
  | n + 1 => m.bind fun a => (rMany m n).bind fun l => .pure (a :: l)
def rVal : Rd Val := rNum.bind fun k => if k = 1 then (rText 60).bind fun s => .pure ⟨k, 0, s⟩ else rNum.bind fun n => .pure ⟨k, n, []⟩
def rVals (most : Int) : Rd (List Val) := (rCount most).bind fun n => rMany rVal n.toNat
def rIns : Rd Ins := rNum.bind fun o => rNum.bind fun a => rNum.bind fun b => .pure ⟨o, a, b⟩
def rCod : Rd Cod := rNum.bind fun p => rNum.bind fun v => (rCount 200).bind fun n => (rMany rIns n.toNat).bind fun l => .pure ⟨p, v, l⟩
def rPrg : Rd Prg := (rCount 16).bind fun n => (rMany (rText 12) n.toNat).bind fun ws => (rCount 5).bind fun k => (rMany rCod k.toNat).bind fun cs => .pure ⟨cs, ws⟩
def rFrm : Rd Frm := rNum.bind fun f => rNum.bind fun a => (rVals 8).bind fun vs => (rVals 16).bind fun st => .pure ⟨f, a, vs, st⟩
def rCl : Rd Cl := rVal.bind fun l => rVal.bind fun r => .pure ⟨l, r⟩
def rAgt : Rd Agt := rNum.bind fun id => rNum.bind fun trip => rNum.bind fun fuel => rNum.bind fun room => rNum.bind fun hops => rPrg.bind fun p => (rCount 12).bind fun n => (rMany rFrm n.toNat).bind fun fs => (rCount 60).bind fun k => (rMany rCl k.toNat).bind fun h => rNum.bind fun _ => .pure ⟨id, trip, p, fs, h, ⟨fuel, room, hops⟩⟩
def agt0 : Agt := ⟨0, 0, ⟨[], []⟩, [], [], ⟨0, 0, 0⟩⟩
def parse (b : Str) : Agt × Int := match rAgt b with
  | .no e => (agt0, e)
  | .ok a r => if r ≠ [] then (agt0, 2) else if agent a true ≠ 0 then (agt0, agent a true) else if image a ≠ b then (agt0, 2) else (a, 0)
abbrev St := Str × Int
structure Goes {α : Type} (m : Rd α) (st : St) (a : α) (st' : St) : Prop where
  stuck : st.2 ≠ 0 → st'.2 = st.2
  good : st.2 = 0 → ∀ x r, m st.1 = .ok x r → a = x ∧ st' = (r, 0)
  bad : st.2 = 0 → ∀ e, m st.1 = .no e → e ≠ 0 ∧ st'.2 = e
theorem Goes.pure {α : Type} (a : α) (st : St) : Goes (Rd.pure a) st a st :=
  ⟨fun _ => rfl, fun h x r hr => by cases hr; exact ⟨rfl, Prod.ext rfl h⟩, fun _ e h => by cases h⟩
theorem Goes.bind {α β : Type} {m : Rd α} {k : α → Rd β} {st st1 st2 : St} {a : α} {b : β} (h : Goes m st a st1) (h2 : Goes (k a) st1 b st2) : Goes (m.bind k) st b st2 := by
  refine ⟨fun he => ?_, fun he x r hr => ?_, fun he e hr => ?_⟩
  · have h1 := h.stuck he
    rw [← h1]
    exact h2.stuck (by rw [h1]; exact he)
  · unfold Rd.bind at hr
    split at hr
    · rename_i a' r' hm
      obtain ⟨rfl, rfl⟩ := h.good he _ _ hm
      exact h2.good rfl x r hr
    · cases hr
  · unfold Rd.bind at hr
    split at hr
    · rename_i a' r' hm
      obtain ⟨rfl, rfl⟩ := h.good he _ _ hm
      exact h2.bad rfl e hr
    · rename_i e' hm
      cases hr
      obtain ⟨h1, h3⟩ := h.bad he _ hm
      refine ⟨h1, ?_⟩
      rw [← h3]
      exact h2.stuck (by rw [h3]; exact h1)
theorem Goes.more {α : Type} {m : Rd α} {st st1 st2 : St} {a : α} {l : List α} {n : Nat} (h : Goes m st a st1) (h2 : Goes (rMany m n) st1 l st2) : Goes (rMany m (n + 1)) st (a :: l) st2 :=
  h.bind (h2.bind (Goes.pure _ _))
end VM
end Go.Proofs.YtpbnaaoilgohkaaGreatDoor
set_option maxRecDepth 8000
namespace Go.Proofs.YtpbnaaoilgohkaaGreatDoor
open Go Go.RowKit
@[simp ↓] theorem zaxs {ki : IntKind} {n : Int} {k : AV → Prop} : UO .xor (.int ki n) k = k (.int ki (bits .xor ki (if ki.signed then -1 else ki.max) n)) := by
  cases h : ki.signed <;> simp [UO, UN, h, IBIN, zgi, PURE, qk] <;> rfl
@[simp ↓ 2000] theorem zbaa {ki : IntKind} {a b : Int} {k : AV → Prop} : BI .or (.int ki a) (.int ki b) k = k (.int ki (bits .or ki a b)) := zatu
@[simp ↓ 2000] theorem zaxp {ki : IntKind} {a b : Int} {k : AV → Prop} : BI .and (.int ki a) (.int ki b) k = k (.int ki (bits .and ki a b)) := zask
@[simp ↓ 2000] theorem zaxo {ki : IntKind} {a b : Int} {k : AV → Prop} : BI .xor (.int ki a) (.int ki b) k = k (.int ki (bits .xor ki a b)) := zasi
theorem zaqn (n : Int) (h0 : -9223372036854775808 ≤ n) (h : n < 0) :
    bits .xor .u64 IntKind.u64.max (IntKind.u64.wrap (IntKind.u64.wrap n * 2)) = ((WM.zig n : Nat) : Int) := by
  have e0 : IntKind.u64.wrap (IntKind.u64.wrap n * 2) = ((2 * n + 18446744073709551616).toNat : Int) := by
    rw [IntKind.wrap_u64, IntKind.wrap_u64]; omega
  rw [e0]
  have hlt : (2 * n + 18446744073709551616).toNat < 18446744073709551616 := by omega
  have hz : WM.zig n = 18446744073709551616 - 1 - (2 * n + 18446744073709551616).toNat := by unfold WM.zig; rw [if_pos h]; omega
  rw [hz]
  generalize (2 * n + 18446744073709551616).toNat = m at *
  have e1 : bits .xor .u64 IntKind.u64.max (m : Int) = IntKind.u64.wrap ((BitVec.ofInt 64 IntKind.u64.max ^^^ BitVec.ofInt 64 (m : Int)).toNat : Int) := rfl
  have e2 : (BitVec.ofInt 64 IntKind.u64.max) = BitVec.allOnes 64 := by decide
  rw [e1, e2, BitVec.ofInt_natCast, BitVec.allOnes_xor, BitVec.toNat_not, BitVec.toNat_ofNat, IntKind.wrap_u64]
  omega
theorem zaqm (n : Int) (h0 : n ≤ 9223372036854775807) (h : ¬ n < 0) : IntKind.u64.wrap (IntKind.u64.wrap n * 2) = ((WM.zig n : Nat) : Int) := by
  rw [IntKind.wrap_u64, IntKind.wrap_u64]
  unfold WM.zig; rw [if_neg h]; omega
def bsV (b : Str) : List AV := b.map fun c => .int .u8 (c.toNat : Int)
theorem zahj (a b : Str) : bsV (a ++ b) = bsV a ++ bsV b := by simp [bsV]
theorem zno (a : Str) : (bsV a).length = a.length := by simp [bsV]
theorem zahi (a : Str) : (bsV a).all AV.one = true := by simp [bsV]
theorem zamh {m : Nat} (h : m < 256) : bsV [UInt8.ofNat m] = [.int .u8 (m : Int)] := by
  simp [bsV, UInt8.toNat_ofNat']; omega
theorem Slot.full {H : Heap} {g sz k : Nat} {cs : List AV} (h : H g = some (.row sz cs)) (hl : cs.length = k * sz) : Slot H sz k cs (.slc g 0 k) :=
  .inr ⟨g, cs, rfl, h, by rw [← hl, List.take_length], by omega⟩
structure BExt (H : Heap) (n : Nat) (l : AV) (H' : Heap) (n' : Nat) (l' : AV) (bs : Str) : Prop where
  le : n ≤ n'
  slot : Slot H' 1 bs.length (bsV bs) l'
  ow : ∀ y ∈ own l', y ∈ own l ∨ (n ≤ y ∧ y < n')
  keep : ∀ y, y < n → y ∉ own l → H' y = H y
theorem BExt.refl {H : Heap} {n : Nat} {l : AV} {bs : Str} (h : Slot H 1 bs.length (bsV bs) l) : BExt H n l H n l bs := ⟨Nat.le_refl _, h, fun _ hy => .inl hy, fun _ _ _ => rfl⟩
theorem BExt.trans {H H' H2 : Heap} {n n' n2 : Nat} {l l' l2 : AV} {bs bs2 : Str} (h : BExt H n l H' n' l' bs) (k : BExt H' n' l' H2 n2 l2 bs2) : BExt H n l H2 n2 l2 bs2 :=
  ⟨Nat.le_trans h.le k.le, k.slot, fun y hy => by
    rcases k.ow y hy with h1 | h1
    · rcases h.ow y h1 with h2 | h2
      · exact .inl h2
      · exact .inr ⟨h2.1, by have := k.le; omega⟩
    · exact .inr ⟨by have := h.le; omega, h1.2⟩, fun y hy hn => by
    rw [k.keep y (by have := h.le; omega) fun h1 => ?_, h.keep y hy hn]
    rcases h.ow y h1 with h2 | h2
    · exact hn h2
    · omega⟩
theorem BExt.byte {H H1 : Heap} {n n1 : Nat} {l l1 : AV} {bs : Str} {m : Nat} (h : BExt H n l H1 n1 l1 bs) (hm : m < 256) (hl : ∀ y ∈ own l, y < n) (hb : bs.length + 1 ≤ 140737488355328) {kk : AV → Heap → Nat → Prop}
    (hk : ∀ H', BExt H n l H' (n1 + 2) (.slc (n1 + 1) 0 (bs.length + 1)) (bs ++ [UInt8.ofNat m]) → H' (n1 + 1) = some (.row 1 (bsV (bs ++ [UInt8.ofNat m]))) → kk (.slc (n1 + 1) 0 (bs.length + 1)) H' (n1 + 2)) : APP 1 1 l1 (.slc n1 0 1) (H1.put n1 (some (.row 1 [.int .u8 (m : Int)]))) (n1 + 1) kk := by
  have hlt : ∀ y ∈ own l1, y < n1 := fun y hy => by
    have := h.le
    rcases h.ow y hy with h1 | h1
    · have := hl y h1; omega
    · omega
  have s1 : Slot (H1.put n1 (some (.row 1 [.int .u8 (m : Int)]))) 1 bs.length (bsV bs) l1 := h.slot.keep fun g hg => Heap.put_ne _ _ (by have := hlt g hg; omega)
  refine s1.app (new := bsV [UInt8.ofNat m]) (by simp [zno]) (by rw [Heap.put_at, zamh hm]) (by simp [bsV]) (zahi _) (by omega) fun H' h1 h2 => ?_
  rw [← zahj] at h1
  refine hk H' ⟨by have := h.le; omega, ?_, fun y hy => ?_, fun y hy hn => ?_⟩ h1
  · have := Slot.full (k := (bs ++ [UInt8.ofNat m]).length) h1 (by rw [zno]; omega)
    simpa using this
  · have e : y = n1 + 1 := by simpa [own] using hy
    have := h.le
    exact .inr ⟨by omega, by omega⟩
  · have h3 := h.le
    rw [h2 y (fun h4 => ?_) (by omega), Heap.put_ne _ _ (by omega), h.keep y hy hn]
    rcases h.ow y h4 with h5 | h5
    · exact hn h5
    · omega
structure BNew (H : Heap) (n : Nat) (l : AV) (H' : Heap) (n' g : Nat) (bs : Str) : Prop where
  lo : n ≤ g
  hi : g < n'
  row : H' g = some (.row 1 (bsV bs))
  keep : ∀ y, y < n → y ∉ own l → H' y = H y
theorem zatj (q : Nat) : ((q : Int)).fdiv (2 ^ (min (7 : Int).toNat IntKind.u64.bits)) = ((q / 128 : Nat) : Int) := by
  have : (2 : Int) ^ (min (7 : Int).toNat IntKind.u64.bits) = 128 := rfl
  rw [this, Int.fdiv_eq_ediv_of_nonneg _ (by omega)]
  rfl
set_option maxRecDepth 20000 in
set_option maxHeartbeats 1000000 in
theorem zagq {l : AV} {bs : Str} {n : Int} {H : Heap} {nx : Nat} {Q : AV → Heap → Nat → Prop} (hs : Slot H 1 bs.length (bsV bs) l) (hb : bs.length ≤ 100000000000000) (hn : -9223372036854775808 ≤ n ∧ n ≤ 9223372036854775807) (hl : ∀ y ∈ own l, y < nx)
    (hq : ∀ H' n' g, BNew H nx l H' n' g (bs ++ WM.num n) → Q (.slc g 0 (bs ++ WM.num n).length) H' n') : za Tryz.prog 55 [l, .int .i64 n] H nx Q := by
  refine zzz _ _ H nx _ ?_
  have main : ∀ u : Nat, u = WM.zig n → LP (zhl Q) [l, .int .u64 (u : Int)] H nx := by
    intro u hu
    refine LP.mk (fun k xs H' n' => ∃ (q : Nat) (ys : Str) (l' : AV), xs = [l', .int .u64 (q : Int)] ∧ q < 2 ^ (1 + 7 * k) ∧ ys ++ WM.enc k q = WM.num n ∧ ys.length + k = 9 ∧ BExt H nx l H' n' l' (bs ++ ys)) 9 ⟨u, [], l, rfl, ?_, by rw [hu]; rfl, rfl, by simpa using BExt.refl hs⟩ ?_
    · have := WM.zig_lt n hn.1 hn.2
      rw [hu]; exact this
    rintro k xs H' n' ⟨q, ys, l', rfl, hq1, hq2, hq3, ext⟩
    have hw : IntKind.u8.wrap (q : Int) = (q : Int) % 256 := by rw [IntKind.wrap_u8]
    by_cases h : 128 ≤ q
    · have h' : (128 : Int) ≤ q := by omega
      have h8 : bits .or .u8 ((q : Int) % 256) 128 = ((q % 128 + 128 : Nat) : Int) := by
        have h8 := zani (q % 256) (by omega)
        have e8 : q % 256 % 128 + 128 = q % 128 + 128 := by omega
        rw [e8] at h8
        exact h8
      cases k with
      | zero => simp at hq1; omega
      | succ k =>
        simp only [WM.enc, if_pos h] at hq2
        simp [zhl, h', hw]
        rw [h8]
        refine ext.byte (m := q % 128 + 128) (by omega) hl (by rw [List.length_append]; omega) fun H2 e2 _ => ?_
        refine ⟨k, by omega, q / 128, ys ++ [UInt8.ofNat (q % 128 + 128)], _, ⟨rfl, zatj q⟩, ?_, ?_, ?_, ?_⟩
        · have e : (2 : Nat) ^ (1 + 7 * (k + 1)) = 2 ^ (1 + 7 * k) * 128 := by rw [show 1 + 7 * (k + 1) = (1 + 7 * k) + 7 by omega, Nat.pow_add]
          rw [e] at hq1
          omega
        · rw [List.append_assoc]; exact hq2
        · simp; omega
        · rw [← List.append_assoc]; exact e2
    · have h' : ¬ (128 : Int) ≤ q := by omega
      have e0 : WM.enc k q = [UInt8.ofNat q] := by cases k <;> simp [WM.enc, h]
      have hw' : IntKind.u8.wrap (q : Int) = (q : Int) := by rw [IntKind.wrap_u8]; omega
      rw [e0] at hq2
      simp [zhl, h', hw']
      refine ext.byte (m := q) (by omega) hl (by rw [List.length_append]; omega) fun H2 e2 r2 => ?_
      rw [List.append_assoc, hq2] at e2 r2
      have el : (bs ++ ys).length + 1 = (bs ++ WM.num n).length := by rw [← hq2]; simp; omega
      have := ext.le
      have := hq H2 (n' + 2) (n' + 1) ⟨by omega, by omega, r2, e2.keep⟩
      rw [← el] at this
      exact this
  have h2 : (2 : Int) ^ (min 1 IntKind.u64.bits) = 2 := rfl
  by_cases h0 : n < 0
  · have z := zaqn n hn.1 h0
    simp [zqp, h0]
    rw [h2, show IntKind.u64.signed = false from rfl, if_neg (by decide), z]
    exact main _ rfl
  · have z := zaqm n hn.2 h0
    simp [zqp, h0]
    rw [h2, z]
    exact main _ rfl
theorem zao (n : Int) : (WM.num n).length ≤ 10 := WM.enc_length 9 _
theorem zva (s : Str) : (VM.textB s).length ≤ 10 + s.length := by unfold VM.textB; rw [List.length_append]; have := zao s.length; omega
theorem BNew.lt {H H' : Heap} {n n' g : Nat} {l : AV} {bs : Str} (h : BNew H n l H' n' g bs) : n ≤ n' := by have := h.lo; have := h.hi; omega
theorem zakn (s : Str) (H : Heap) : zg 1 H (.str s) = some (s.length, bsV s, []) := rfl
set_option maxHeartbeats 1000000 in
theorem zade {l : AV} {bs s : Str} {H : Heap} {nx : Nat} {Q : AV → Heap → Nat → Prop} (hs : Slot H 1 bs.length (bsV bs) l) (hb : bs.length + s.length ≤ 100000000000000) (hl : ∀ y ∈ own l, y < nx)
    (hq : ∀ H' n' g, BNew H nx l H' n' g (bs ++ VM.textB s) → Q (.slc g 0 (bs ++ VM.textB s).length) H' n') : za Tryz.prog 56 [l, .str s] H nx Q := by
  refine zym _ _ H nx _ ?_
  simp [zur]
  refine zagq hs (by omega) (by omega) hl fun H1 n1 g b1 => ?_
  have nl := zao s.length
  have h1 := b1.lo
  have h2 := b1.hi
  have s1 : Slot H1 1 (bs ++ WM.num s.length).length (bsV (bs ++ WM.num s.length)) (.slc g 0 (bs ++ WM.num s.length).length) := Slot.full b1.row (by rw [zno]; omega)
  simp only [zus]
  unfold APP
  rw [zne, zakn, optk, b1.row, rowk]
  refine ⟨rfl, zahi s, by rw [zno]; omega, by rw [List.length_append]; omega, ?_⟩
  have e : bs ++ VM.textB s = bs ++ WM.num s.length ++ s := by rw [List.append_assoc]; rfl
  have el : (bs ++ WM.num s.length).length + s.length = (bs ++ VM.textB s).length := by rw [e, List.length_append (bs := s)]
  have := hq ((H1.put g none).put n1 (some (.row 1 (bsV (bs ++ VM.textB s))))) (n1 + 1) n1 ⟨by omega, by omega, Heap.put_at _ _ _, fun y hy hn => ?_⟩
  · rw [← el] at this
    rw [e, zahj] at this
    simp only [zar, zbf, List.drop_zero, Nat.mul_one, List.length_singleton]
    rw [List.take_of_length_le (by rw [zno]; omega)]
    exact this
  · rw [Heap.put_ne _ _ (by omega), Heap.put_ne _ _ (by omega), b1.keep y hy hn]
end Go.Proofs.YtpbnaaoilgohkaaGreatDoor
set_option maxRecDepth 8000
namespace Go.Proofs.YtpbnaaoilgohkaaGreatDoor
open Go Go.RowKit
theorem zzb (l : List Ins) : ∀ x ∈ l.map Ins.avs, x.length = 3 := by intro x hx; obtain ⟨v, _, rfl⟩ := List.mem_map.1 hx; rfl
theorem zyr (l : List Str) : ∀ x ∈ l.map (fun w => [AV.str w]), x.length = 1 := by intro x hx; obtain ⟨v, _, rfl⟩ := List.mem_map.1 hx; rfl
theorem zaaw (l : List Ins) : ∀ x ∈ l.map Ins.avs, ∀ c ∈ x, scal c = true := by
  intro x hx c hc
  obtain ⟨v, _, rfl⟩ := List.mem_map.1 hx
  simp [Ins.avs] at hc
  rcases hc with rfl | rfl | rfl <;> rfl
theorem zve (l : List Str) : ∀ x ∈ l.map (fun w => [AV.str w]), ∀ c ∈ x, scal c = true := by
  intro x hx c hc
  obtain ⟨v, _, rfl⟩ := List.mem_map.1 hx
  simp at hc
  subst hc; rfl
theorem zadu {xs : List (List AV)} (h : ∀ x ∈ xs, ∀ c ∈ x, scal c = true) : xs.flatten.all AV.one = true := List.all_eq_true.2 fun c hc => by
  obtain ⟨x, hx, hcx⟩ := List.mem_flatten.1 hc
  exact zcc (h x hx c hcx)
def zcl (H : Heap) (R : Nat → Prop) (sz : Nat) (xs : List (List AV)) (a : AV) : Prop := (xs = [] ∧ a = .nils) ∨ ∃ g, R g ∧ a = .slc g 0 xs.length ∧ H g = some (.row sz xs.flatten)
theorem zcl.more {H H' : Heap} {R R' : Nat → Prop} {sz : Nat} {xs : List (List AV)} {a : AV} (h : zcl H R sz xs a) (hR : ∀ g, R g → R' g ∧ H' g = H g) : zcl H' R' sz xs a := by
  rcases h with h | ⟨g, h1, h3, h4⟩
  · exact .inl h
  · exact .inr ⟨g, (hR g h1).1, h3, by rw [(hR g h1).2]; exact h4⟩
theorem zcl.one {H : Heap} {R : Nat → Prop} {sz : Nat} {xs : List (List AV)} {a : AV} (h : zcl H R sz xs a) : a.cells = [a] ∧ a.one = true ∧ a.sure = true := by
  rcases h with ⟨_, rfl⟩ | ⟨g, _, rfl, _⟩ <;> exact ⟨rfl, rfl, rfl⟩
theorem Slot.one {H : Heap} {sz k : Nat} {cells : List AV} {a : AV} (h : Slot H sz k cells a) : a.cells = [a] ∧ a.one = true ∧ a.sure = true := by
  rcases h with ⟨_, rfl | rfl⟩ | ⟨g, cs, rfl, _⟩ <;> exact ⟨rfl, rfl, rfl⟩
theorem zcl.frz {H : Heap} {R : Nat → Prop} {sz : Nat} {xs : List (List AV)} {a : AV} {G : Nat → Prop} (h : zcl H R sz xs a) (hG : ∀ g, R g → G g) (hs : ∀ x ∈ xs, x.length = sz) : FrzP H G a (.ro xs) := by
  rcases h with ⟨rfl, rfl⟩ | ⟨g, h1, rfl, h4⟩
  · exact .nils
  · refine FrzP.row (hG g h1) h4 rfl hs (fun i x j v hx hv => ?_) (by rw [zdt hs]; exact Nat.le_refl _)
    have hj : j < sz := by
      have := (List.getElem?_eq_some_iff.1 hv).1
      rw [hs x (List.mem_of_getElem? hx)] at this; exact this
    have e1 := zlg hs hx
    have := congrArg (·[j]?) e1
    simp only [List.getElem?_take, List.getElem?_drop, hj, if_true] at this
    exact ⟨v, by rw [this]; exact hv, .same v⟩
theorem zcl.slot {H : Heap} {R : Nat → Prop} {sz : Nat} {xs : List (List AV)} {a : AV} (h : zcl H R sz xs a) (hs : ∀ x ∈ xs, x.length = sz) : Slot H sz xs.length xs.flatten a ∧ ∀ g ∈ own a, R g := by
  rcases h with ⟨rfl, rfl⟩ | ⟨g, h1, rfl, h4⟩
  · exact ⟨.inl ⟨rfl, .inl rfl⟩, fun g hg => by simp [own] at hg⟩
  · exact ⟨.inr ⟨g, _, rfl, h4, List.take_of_length_le (by rw [zdt hs]; exact Nat.le_refl _), by rw [zdt hs]; exact Nat.le_refl _⟩, fun x hx => by simp [own] at hx; subst hx; exact h1⟩
theorem zamd {l : List Ins} (hl : l.length * 24 ≤ 140737488355328) {a : AV} {H : Heap} {nx : Nat} (ha : zaf H nx 3 (l.map Ins.avs) a) : za Tryz.prog 79 [a] H nx fun v H' nx' => nx ≤ nx' ∧ Keep nx H' H ∧ zcl H' (fun g => nx ≤ g ∧ g < nx') 3 (l.map Ins.avs) v := by
  refine znw _ H nx _ ?_
  unfold zim
  refine znd (Q := fun v H' nx' => nx ≤ nx' ∧ Keep nx H' H ∧ zcl H' (fun g => nx ≤ g ∧ g < nx') 3 (l.map Ins.avs) v) ha (zzb l) (zadu (zaaw l)) (by simpa using hl) (fun h => ⟨Nat.le_refl _, by simp, .inl ⟨h, rfl⟩⟩) fun H' h1 h2 => ⟨by omega, h2, .inr ⟨nx + 1, ⟨by omega, by omega⟩, rfl, h1⟩⟩
theorem zamc {l : List Str} (hl : l.length * 16 ≤ 140737488355328) {a : AV} {H : Heap} {nx : Nat} (ha : zaf H nx 1 (l.map fun w => [AV.str w]) a) : za Tryz.prog 80 [a] H nx fun v H' nx' => nx ≤ nx' ∧ Keep nx H' H ∧ zcl H' (fun g => nx ≤ g ∧ g < nx') 1 (l.map fun w => [AV.str w]) v := by
  refine ziz _ H nx _ ?_
  unfold zea
  refine znd (Q := fun v H' nx' => nx ≤ nx' ∧ Keep nx H' H ∧ zcl H' (fun g => nx ≤ g ∧ g < nx') 1 (l.map fun w => [AV.str w]) v) ha (zyr l) (zadu (zve l)) (by simpa using hl) (fun h => ⟨Nat.le_refl _, by simp, .inl ⟨h, rfl⟩⟩) fun H' h1 h2 => ⟨by omega, h2, .inr ⟨nx + 1, ⟨by omega, by omega⟩, rfl, h1⟩⟩
theorem zame {l : List Cl} (hl : l.length * 64 ≤ 140737488355328) {a : AV} {H : Heap} {nx : Nat} (ha : zaf H nx 6 (l.map Cl.avs) a) : za Tryz.prog 82 [a] H nx fun v H' nx' => nx ≤ nx' ∧ Keep nx H' H ∧ zcl H' (fun g => nx ≤ g ∧ g < nx') 6 (l.map Cl.avs) v := by
  refine zon _ H nx _ ?_
  unfold zjz
  refine znd (Q := fun v H' nx' => nx ≤ nx' ∧ Keep nx H' H ∧ zcl H' (fun g => nx ≤ g ∧ g < nx') 6 (l.map Cl.avs) v) ha (zfy l) (zaob l) (by simpa using hl) (fun h => ⟨Nat.le_refl _, by simp, .inl ⟨h, rfl⟩⟩) fun H' h1 h2 => ⟨by omega, h2, .inr ⟨nx + 1, ⟨by omega, by omega⟩, rfl, h1⟩⟩
def zez (H : Heap) (R : Nat → Prop) (cs : List Cod) (cells : List AV) : Prop := cells.length = cs.length * 3 ∧ ∀ (k : Nat) (c : Cod), cs[k]? = some c → cells[k * 3]? = some (.int .i64 c.params) ∧ cells[k * 3 + 1]? = some (.int .i64 c.vars) ∧ ∃ a, cells[k * 3 + 2]? = some a ∧ zcl H R 3 (c.ins.map Ins.avs) a
theorem zez.more {H H' : Heap} {R R' : Nat → Prop} {cs : List Cod} {cells : List AV} (h : zez H R cs cells) (hR : ∀ g, R g → R' g ∧ H' g = H g) : zez H' R' cs cells :=
  ⟨h.1, fun k c hc => let ⟨a, b, x, h1, h2⟩ := h.2 k c hc; ⟨a, b, x, h1, h2.more hR⟩⟩
theorem zez.snoc {H : Heap} {R : Nat → Prop} {cs : List Cod} {cells : List AV} {c : Cod} {a : AV} (h : zez H R cs cells) (ha : zcl H R 3 (c.ins.map Ins.avs) a) : zez H R (cs ++ [c]) (cells ++ [.int .i64 c.params, .int .i64 c.vars, a]) := by
  refine ⟨by simp [h.1]; omega, fun k c' hc => ?_⟩
  by_cases hk : k < cs.length
  · rw [List.getElem?_append_left hk] at hc
    obtain ⟨q1, q2, x, q3, q4⟩ := h.2 k c' hc
    have hl := h.1
    refine ⟨by rw [List.getElem?_append_left (by omega)]; exact q1, by rw [List.getElem?_append_left (by omega)]; exact q2, x, by rw [List.getElem?_append_left (by omega)]; exact q3, q4⟩
  · have hk' : k = cs.length := by have := (List.getElem?_eq_some_iff.1 hc).1; simp at this; omega
    subst hk'
    rw [List.getElem?_append_right (Nat.le_refl _)] at hc
    simp at hc
    subst hc
    have hl := h.1
    refine ⟨?_, ?_, a, ?_, ha⟩
    · rw [List.getElem?_append_right (by omega), hl]; simp
    · rw [List.getElem?_append_right (by omega), hl, show cs.length * 3 + 1 - cs.length * 3 = 1 by omega]; rfl
    · rw [List.getElem?_append_right (by omega), hl, show cs.length * 3 + 2 - cs.length * 3 = 2 by omega]; rfl
theorem zez.frz {H : Heap} {R : Nat → Prop} {cs : List Cod} {cells : List AV} {a : AV} {G : Nat → Prop} (h : zez H R cs cells) (hG : ∀ g, R g → G g) (ha : Slot H 3 cs.length cells a) (hA : ∀ g ∈ own a, G g) : FrzP H G a (.ro (cs.map Cod.avs)) := by
  rcases ha with ⟨h0, rfl | rfl⟩ | ⟨g, cs', rfl, h1, h2, h3⟩
  · rw [List.eq_nil_of_length_eq_zero h0]; exact .nils
  · rw [List.eq_nil_of_length_eq_zero h0]; exact .zs
  · refine FrzP.row (hA g (by simp [own])) h1 (by simp) (fun x hx => ?_) (fun i x j v hx hv => ?_) h3
    · obtain ⟨c, _, rfl⟩ := List.mem_map.1 hx; rfl
    · rw [List.getElem?_map] at hx
      obtain ⟨c, hc, rfl⟩ := Option.map_eq_some_iff.1 hx
      obtain ⟨q1, q2, y, q3, q4⟩ := h.2 i c hc
      have hi := (List.getElem?_eq_some_iff.1 hc).1
      have up : ∀ (j : Nat) (u : AV), j < 3 → cells[i * 3 + j]? = some u → cs'[i * 3 + j]? = some u := fun j u hj hu => by
        rw [← h2, List.getElem?_take, if_pos (by omega)] at hu; exact hu
      match j, hv with
      | 0, hv => cases hv; exact ⟨_, up 0 _ (by omega) q1, .same _⟩
      | 1, hv => cases hv; exact ⟨_, up 1 _ (by omega) q2, .same _⟩
      | 2, hv => cases hv; exact ⟨y, up 2 _ (by omega) q3, q4.frz hG (zzb _)⟩
      | j + 3, hv => simp [Cod.avs] at hv
theorem FrzP.keep {H H' : Heap} {G : Nat → Prop} {v u : AV} (h : FrzP H G v u) (hk : ∀ g, G g → H' g = H g) : FrzP H' G v u := by
  induction h with
  | same v => exact .same v
  | nils => exact .nils
  | zs => exact .zs
  | slc g off len sz cells xs hg hH hle hl hsz U hU _ ih => exact .slc g off len sz cells xs hg (by rw [hk g hg]; exact hH) hle hl hsz U hU ih
  | agg xs ys hl _ ih => exact .agg xs ys hl ih
theorem FrzP.wide {H : Heap} {G G' : Nat → Prop} {v u : AV} (h : FrzP H G v u) (hG : ∀ g, G g → G' g) : FrzP H G' v u := by
  induction h with
  | same v => exact .same v
  | nils => exact .nils
  | zs => exact .zs
  | slc g off len sz cells xs hg hH hle hl hsz U hU _ ih => exact .slc g off len sz cells xs (hG g hg) hH hle hl hsz U hU ih
  | agg xs ys hl _ ih => exact .agg xs ys hl ih
theorem za.nil_zs {P : Program} {f : FuncId} {args : List AV} {H : Heap} {nx : Nat} {Q : Heap → Nat → Prop} (h : za P f args H nx fun v H' nx' => (v = .nils ∨ v = .zs) ∧ Q H' nx') : za P f args H nx fun v H' nx' => v = .zs ∧ Q H' nx' := by
  intro ρ w cargs s ha
  refine zn (h ρ w cargs s ha) fun cv w' ⟨v, H', nx', ρ', ⟨hv, hq⟩, q2, q3, q4⟩ => ⟨.zs, H', nx', ρ', ⟨rfl, hq⟩, q2, ?_, q4⟩
  rcases hv with rfl | rfl
  · cases q3; exact .zs _
  · exact q3
theorem zasl {esz bytes nx : Nat} {x : AV} {H : Heap} {kk : AV → Heap → Nat → Prop} : APP esz bytes .zs x H nx kk = OPTK (zg esz H x) fun p => p.2.1.all AV.one = true ∧
    (p.1 = 0 → kk .zs H nx) ∧ (p.1 ≠ 0 → p.1 * bytes ≤ 140737488355328 ∧ kk (.slc nx 0 p.1) (H.put nx (some (.row esz p.2.1))) (nx + 1)) := by
  simp only [APP, zx, OPTK]
  cases hs : zg esz H x with
  | none => simp
  | some p => obtain ⟨m, news, rd⟩ := p; simp [Heap.apply]
theorem zo.cloneV {l : List Val} (hl : l.length * 32 ≤ 140737488355328) {H : Heap} {nx : Nat} {k : Kt}
    (h0 : l = [] → k .zs [] [] []) (h1 : l ≠ [] → k (.slc nx 0 l.length) [] [nx] [(nx, some (.row 3 (rowV l)))]) : zo Tryz.prog (.clo 81 []) [.ro (l.map Val.avs)] H nx k := by
  by_cases he : l = []
  · subst he
    refine ⟨_, [], [], [], .inl rfl, LC.of_qcr (r := .zs) (by simp) (fun H' n _ => ?_) .zs, h0 rfl⟩
    refine za.tidy fun hlive => ?_
    have h0 : za Tryz.prog 81 [.ro []] H' n fun v H'' nx' => (v = .nils ∨ v = .zs) ∧ Keep n H'' H' := by
      refine zmw _ H' n _ ?_
      simp [zhn, zasl]
    refine (za.gc (R := fun v H'' => v = AV.zs ∧ H'' = H') h0.nil_zs fun v H'' nx' ⟨hv, hk⟩ => ⟨.zs, H', ⟨rfl, rfl⟩, by rw [hv]; exact .same _ .zs, fun g o ho => ⟨hlive g o ho, by rw [hk g (hlive g o ho)]; exact ho, .inl ho⟩⟩).mono fun v H'' nx' ⟨⟨a, b⟩, c⟩ => ⟨a, b, c⟩
  · refine ⟨_, [], [nx], _, .inr (.inl rfl), LC.of_callsN (by simp) (by simp) (fun A hA hB H' n' hag => ?_), h1 he⟩
    refine (zabr l hl .ro).mono fun v H'' n'' ⟨q1, q2, q3⟩ => ?_
    rcases q3 with ⟨h, _⟩ | ⟨g, g1, g2, rfl, g3⟩
    · exact absurd h he
    · refine ⟨g, g1, g2, .slc _ _, fun x hx _ => q2 x hx, fun x o hx hxn => ?_, ⟨.row 3 (rowV l), _, by simp only [zar, zbf]; rw [Heap.put_at], g3, rfl, rfl, fun j v u hv hu => ?_⟩⟩
      · exact absurd (by simpa using hx) hxn
      · rw [hv] at hu; cases hu; exact .same _ (zcd (zfp l _ (List.mem_of_getElem? hv)))
end Go.Proofs.YtpbnaaoilgohkaaGreatDoor
set_option maxRecDepth 8000
namespace Go.Proofs.YtpbnaaoilgohkaaGreatDoor
open Go Go.RowKit
structure WrM (p : Nat) (l : AV) (bs : Str) (H : Heap) (n : Nat) : Prop where
  row : H p = some (.row 1 [l])
  slot : Slot H 1 bs.length (bsV bs) l
  ow : ∀ y ∈ own l, p < y ∧ y < n
  lt : p < n
structure WExt (p : Nat) (l : AV) (H : Heap) (n : Nat) (l' : AV) (bs : Str) (H' : Heap) (n' : Nat) : Prop where
  le : n ≤ n'
  wr : WrM p l' bs H' n'
  new : ∀ y ∈ own l', y ∈ own l ∨ n ≤ y
  keep : ∀ y, y < n → y ≠ p → y ∉ own l → H' y = H y
theorem WrM.ext {p n : Nat} {l : AV} {bs : Str} {H : Heap} (h : WrM p l bs H n) : WExt p l H n l bs H n := ⟨Nat.le_refl _, h, fun _ hy => .inl hy, fun _ _ _ _ => rfl⟩
theorem WExt.trans {p n n' n2 : Nat} {l l' l2 : AV} {bs bs2 : Str} {H H' H2 : Heap} (h : WExt p l H n l' bs H' n') (k : WExt p l' H' n' l2 bs2 H2 n2) : WExt p l H n l2 bs2 H2 n2 :=
  ⟨Nat.le_trans h.le k.le, k.wr, fun y hy => by
    rcases k.new y hy with h1 | h1
    · exact h.new y h1
    · exact .inr (by have := h.le; omega), fun y hy h1 h2 => by
    rw [k.keep y (by have := h.le; omega) h1 fun h3 => ?_, h.keep y hy h1 h2]
    rcases h.new y h3 with h4 | h4
    · exact h2 h4
    · omega⟩
theorem WExt.put {p n n' : Nat} {l l' : AV} {bs : Str} {H H' : Heap} (h : WExt p l H n l' bs H' n') (o : AObj) : WExt p l H n l' bs (H'.put n' (some o)) (n' + 1) := by
  have w := h.wr
  refine ⟨by have := h.le; omega, ⟨by rw [Heap.put_ne _ _ (by have := w.lt; omega)]; exact w.row, w.slot.keep fun g hg => Heap.put_ne _ _ (by have := w.ow g hg; omega), fun y hy => by have := w.ow y hy; omega, by have := w.lt; omega⟩, h.new, fun y hy h1 h2 => ?_⟩
  rw [Heap.put_ne _ _ (by have := h.le; omega)]; exact h.keep y hy h1 h2
theorem WExt.row {p n n' n2 g : Nat} {l l' : AV} {bs bs2 : Str} {H H' H2 : Heap} (h : WExt p l H n l' bs H' n') (b : BNew H' n' l' H2 n2 g bs2) : WExt p l H n (.slc g 0 bs2.length) bs2 (H2.put p (some (.row 1 [.slc g 0 bs2.length]))) n2 := by
  have w := h.wr
  have h1 := b.lo
  have h2 := b.hi
  have h3 := h.le
  have h4 := w.lt
  refine ⟨by omega, ⟨Heap.put_at _ _ _, ?_, fun y hy => ?_, by omega⟩, fun y hy => ?_, fun y hy e1 e2 => ?_⟩
  · exact Slot.full (by rw [Heap.put_ne _ _ (by omega)]; exact b.row) (by rw [zno]; omega)
  · have e : y = g := by simpa [own] using hy
    omega
  · have e : y = g := by simpa [own] using hy
    exact .inr (by omega)
  · rw [Heap.put_ne _ _ e1, b.keep y (by omega) fun h5 => ?_, h.keep y hy e1 e2]
    rcases h.new y h5 with h6 | h6
    · exact e2 h6
    · omega
theorem WrM.keep {p n n' : Nat} {l : AV} {bs : Str} {H H' : Heap} (w : WrM p l bs H n) (hn : n ≤ n') (hk : ∀ y, (y = p ∨ y ∈ own l) → H' y = H y) : WrM p l bs H' n' :=
  ⟨by rw [hk p (.inl rfl)]; exact w.row, w.slot.keep fun g hg => hk g (.inr hg), fun y hy => by have := w.ow y hy; omega, by have := w.lt; omega⟩
theorem WrM.one {p n : Nat} {l : AV} {bs : Str} {H : Heap} (w : WrM p l bs H n) : l.cells = [l] ∧ l.one = true ∧ l.sure = true := w.slot.one
def zz (ns : List Int) : Str := ns.flatMap WM.num
theorem zdl (ns : List Int) : (zz ns).length ≤ 10 * ns.length := by
  induction ns with
  | nil => simp [zz]
  | cons n r ih => have := zao n; simp [zz] at ih ⊢; omega
theorem zaiy {ns : List Int} {i : Nat} {n : Int} (h : ns[i]? = some n) : zz (ns.take (i + 1)) = zz (ns.take i) ++ WM.num n := by
  unfold zz; rw [List.take_add_one, h]; simp
set_option maxRecDepth 20000 in
set_option maxHeartbeats 1000000 in
theorem zagv {p g n : Nat} {l : AV} {bs : Str} {ns : List Int} {H : Heap} {Q : AV → Heap → Nat → Prop} (w : WrM p l bs H n) (hg : H g = some (.row 1 (ns.map (AV.int .i64)))) (hgp : g ≠ p) (hgl : g ∉ own l) (hgn : g < n) (hb : bs.length + 10 * ns.length ≤ 100000000000000) (hi : ∀ m ∈ ns, -9223372036854775808 ≤ m ∧ m ≤ 9223372036854775807)
    (hq : ∀ H' n' l', WExt p l H n l' (bs ++ zz ns) H' n' → Q (.tup []) H' n') : za Tryz.prog 28 [.ptr p 0, .slc g 0 ns.length] H n Q := by
  refine zoo _ _ H n _ ?_
  simp [zkd]
  refine LP.mk (fun k xs H' n' => ∃ (i : Nat) (l' : AV), k = ns.length - i ∧ i ≤ ns.length ∧ xs = [.ptr p 0, .slc g 0 ns.length, .int .i64 ns.length, .int .i64 i] ∧ WExt p l H n l' (bs ++ zz (ns.take i)) H' n') ns.length ⟨0, l, rfl, by omega, rfl, by simpa [zz] using w.ext⟩ ?_
  rintro k xs H' n' ⟨i, l', rfl, hil, rfl, ext⟩
  have e1 : H' g = some (.row 1 (ns.map (AV.int .i64))) := (ext.keep g hgn hgp hgl).trans hg
  have e2 := ext.wr.row
  have o1 := ext.wr.one
  by_cases hlt : i < ns.length
  · have hadd : IntKind.i64.wrap ((i : Int) + 1) = ((i + 1 : Nat) : Int) := by rw [i64w (by omega)]; rfl
    have hm : ns[i]? = some ns[i] := List.getElem?_eq_getElem hlt
    have hmi := hi _ (List.getElem_mem hlt)
    generalize hmm : ns[i] = m at hm hmi
    have hsn := zaiy hm
    simp [zel, hlt, e1, e2, hmm]
    have hl := zdl (ns.take i)
    rw [List.length_take, Nat.min_eq_left hil] at hl
    refine zagq ext.wr.slot (by rw [List.length_append]; omega) hmi (fun y hy => (ext.wr.ow y hy).2) fun H2 n2 g2 b2 => ?_
    have er := ext.row b2
    rw [List.append_assoc, ← hsn] at er
    rw [List.append_assoc, ← hsn]
    have hp : H2 p = some (.row 1 [l']) := by rw [b2.keep p ext.wr.lt fun h => by have := ext.wr.ow p h; omega]; exact e2
    simp [zke, hp, hadd]
    simp only [List.length_append] at er
    exact ⟨ns.length - (i + 1), by omega, i + 1, rfl, by omega, rfl, _, er⟩
  · obtain rfl : i = ns.length := by omega
    rw [List.take_length] at ext
    simp [zel]
    exact hq _ _ _ ext
theorem WExt.nums {p n n' : Nat} {l l' : AV} {bs : Str} {H H' : Heap} {Q : AV → Heap → Nat → Prop} (e : WExt p l H n l' bs H' n') (ns : List Int) (hb : bs.length + 10 * ns.length ≤ 100000000000000) (hi : ∀ m ∈ ns, -9223372036854775808 ≤ m ∧ m ≤ 9223372036854775807)
    (hq : ∀ H2 n2 l2, WExt p l H n l2 (bs ++ zz ns) H2 n2 → (∀ y, y < n' → y ≠ p → y ∉ own l' → H2 y = H' y) → Q (.tup []) H2 n2) : za Tryz.prog 28 [.ptr p 0, .slc n' 0 ns.length] (H'.put n' (some (.row 1 (ns.map (AV.int .i64))))) (n' + 1) Q := by
  have w := e.wr
  have e1 := e.put (.row 1 (ns.map (AV.int .i64)))
  refine zagv e1.wr (Heap.put_at _ _ _) (by have := w.lt; omega) (fun h => by have := w.ow _ h; omega) (by omega) hb hi fun H2 n2 l2 e2 => hq _ _ _ (e1.trans e2) fun y h1 h2 h3 => ?_
  rw [e2.keep y (by omega) h2 h3, Heap.put_ne _ _ (by omega)]
theorem zo.wtext {l : AV} {bs s : Str} {H : Heap} {m : Nat} {kt : Kt} (hs : Slot H 1 bs.length (bsV bs) l) (hb : bs.length + s.length ≤ 100000000000000) (hl : ∀ y ∈ own l, y < m)
    (hq : ∀ rd D, (∀ y, y < m → y ∉ own l → (H.apply D) y = H y) → (H.apply D) m = some (.row 1 (bsV (bs ++ VM.textB s))) → (∀ y ∈ domD D, y ∈ own l ∨ y = m) → kt (.slc m 0 (bs ++ VM.textB s).length) rd [m] D) :
    zo Tryz.prog (.clo 56 []) [l, .str s] H m kt := by
  let D : zi := ((own l).map fun g => (g, none)) ++ [(m, some (.row 1 (bsV (bs ++ VM.textB s))))]
  have app : ∀ Hx : Heap, (Hx.apply D) m = some (.row 1 (bsV (bs ++ VM.textB s))) ∧ (∀ y, y ≠ m → y ∉ own l → (Hx.apply D) y = Hx y) ∧ (∀ y ∈ own l, (Hx.apply D) y = none) := fun Hx => by
    cases l <;> simp [D, own, Heap.apply] at hl ⊢
    case slc g off len => exact ⟨fun y h1 h2 => by rw [if_neg h1, if_neg h2], by omega⟩
    all_goals exact fun y h1 h2 => absurd h2 h1
  have dD : ∀ x, x ∈ domD D ↔ x ∈ own l ∨ x = m := fun x => by simp [D, domD]
  obtain ⟨a1, a2, _⟩ := app H
  refine ⟨_, own l, [m], D, .inr (.inl rfl), LC.of_callsN (fun x hx => ?_) (fun x hx => (dD x).1 hx) (fun A _ _ H' n' hag => ?_), hq _ D (fun y h1 h2 => a2 y (by omega) h2) a1 fun y hy => (dD y).1 hy⟩
  · rcases hs with ⟨_, rfl | rfl⟩ | ⟨g, cs, rfl, h1, _⟩
    · simp [own] at hx
    · simp [own] at hx
    · simp [own] at hx; subst hx; rw [h1]; rfl
  · have hs' : Slot H' 1 bs.length (bsV bs) l := hs.keep fun g hg => (hag g hg).1
    refine zade hs' hb (fun y hy => (hag y hy).2) fun H2 n2 g b => ?_
    obtain ⟨c1, c2, c3⟩ := app H'
    refine ⟨g, b.lo, b.hi, .slc _ _, fun y hy hd => ?_, fun x o hx hxm ho => ?_, ⟨_, _, c1, b.row, rfl, rfl, fun j v u hv hu => ?_⟩⟩
    · have := (not_congr (dD y)).1 hd
      simp only [not_or] at this
      exact b.keep y hy this.1
    · rcases (dD x).1 hx with h | h
      · rw [c3 x h] at ho; cases ho
      · exact absurd h hxm
    · rw [hv] at hu; cases hu
      refine .same _ ?_
      unfold bsV at hv
      rw [List.getElem?_map] at hv
      obtain ⟨c, _, rfl⟩ := Option.map_eq_some_iff.1 hv
      exact .int _ _
theorem znr (v : Val) : (VM.valB v).length ≤ 20 + v.text.length := by
  unfold VM.valB
  have h1 := zao v.kind
  have h2 := zao v.n
  have h3 := zva v.text
  rw [List.length_append]
  split <;> omega
def I64v (v : Val) : Prop := (-9223372036854775808 ≤ v.kind ∧ v.kind ≤ 9223372036854775807) ∧ (-9223372036854775808 ≤ v.n ∧ v.n ≤ 9223372036854775807)
set_option maxRecDepth 20000 in
set_option maxHeartbeats 1000000 in
theorem zxr {p n : Nat} {l : AV} {bs : Str} {v : Val} {H : Heap} {Q : AV → Heap → Nat → Prop} (w : WrM p l bs H n) (hv : I64v v) (hb : bs.length + 20 + v.text.length ≤ 100000000000000)
    (hq : ∀ H' n' l', WExt p l H n l' (bs ++ VM.valB v) H' n' → Q (.tup []) H' n') : za Tryz.prog 31 [.ptr p 0, .agg v.avs] H n Q := by
  refine zob _ _ H n _ ?_
  have e1 := w.ext.put (.row 3 v.avs)
  have lt := w.lt
  have ne_0 : n ≠ n + 1 ∧ n + 1 ≠ n ∧ n ≠ p ∧ p ≠ n := ⟨by omega, by omega, by omega, by omega⟩
  simp [zip, Val.avs]
  refine e1.nums [v.kind] (by simp; omega) (by simpa using hv.1) fun H2 n2 l2 e2 k2 => ?_
  have hn : H2 n = some (.row 3 v.avs) := by rw [k2 n (by omega) (by omega) fun h => (by have := w.ow _ h; omega), Heap.put_at]
  have hp := e2.wr.row
  have o2 := e2.wr.one
  have en : zz [v.kind] = WM.num v.kind := by simp [zz]
  rw [en] at e2
  have nl := zao v.kind
  by_cases h1 : v.kind = 1
  · have eb : bs ++ VM.valB v = bs ++ WM.num v.kind ++ VM.textB v.text := by unfold VM.valB; rw [if_pos h1, List.append_assoc]
    simp [zec, hn, Val.avs, h1, hp]
    refine zo.wtext e2.wr.slot (by rw [List.length_append]; omega) (fun y hy => (e2.wr.ow y hy).2) fun rd D d1 d2 d3 => ?_
    have hp2 : (H2.apply D) p = some (.row 1 [l2]) := by rw [d1 p e2.wr.lt fun h => (by have := e2.wr.ow _ h; omega)]; exact hp
    rw [← eb] at d2 ⊢
    simp [zir, hp2]
    have er := e2.row (bs2 := bs ++ VM.valB v) ⟨Nat.le_refl n2, Nat.lt_succ_self n2, d2, d1⟩
    rw [List.length_append] at er
    exact zbl (fun g _ => by simp) (hq _ _ _ er)
  · have eb : bs ++ VM.valB v = bs ++ WM.num v.kind ++ zz [v.n] := by unfold VM.valB zz; rw [if_neg h1, List.append_assoc]; simp
    simp [zec, hn, Val.avs, h1]
    refine e2.nums [v.n] (by rw [List.length_append]; simp; omega) (by simpa using hv.2) fun H3 n3 l3 e3 _ => ?_
    rw [← eb] at e3
    simp [ziq]
    exact hq _ _ _ e3
def I64l (l : List Val) : Prop := ∀ v ∈ l, I64v v ∧ v.text.length ≤ 4096
theorem zfx {α : Type} {f : α → Str} {k : Nat} {l : List α} (h : ∀ x ∈ l, (f x).length ≤ k) : (l.flatMap f).length ≤ k * l.length := by
  induction l with
  | nil => simp
  | cons x r ih =>
    have h1 := h x (by simp)
    have h2 := ih fun y hy => h y (by simp [hy])
    simp only [List.flatMap_cons, List.length_append, List.length_cons, Nat.mul_add]
    omega
theorem zgl {α : Type} {f : α → Str} {l : List α} {i : Nat} {x : α} (h : l[i]? = some x) : (l.take (i + 1)).flatMap f = (l.take i).flatMap f ++ f x := by
  rw [List.take_add_one, h]; simp
theorem zgk {α : Type} {f : α → Str} {k i : Nat} {l : List α} (h : ∀ x ∈ l, (f x).length ≤ k) (hi : i ≤ l.length) : ((l.take i).flatMap f).length ≤ k * i := by
  have := zfx (l := l.take i) (k := k) (f := f) fun x hx => h x (List.mem_of_mem_take hx)
  rw [List.length_take, Nat.min_eq_left hi] at this
  exact this
set_option maxRecDepth 20000 in
set_option maxHeartbeats 1000000 in
theorem zaau {p n : Nat} {l : AV} {bs : Str} {vs : List Val} {H : Heap} {Q : AV → Heap → Nat → Prop} (w : WrM p l bs H n) (hv : I64l vs) (hl : vs.length ≤ 1000000) (hb : bs.length ≤ 50000000000000)
    (hq : ∀ H' n' l', WExt p l H n l' (bs ++ VM.valsB vs) H' n' → Q (.tup []) H' n') : za Tryz.prog 30 [.ptr p 0, .ro (vs.map Val.avs)] H n Q := by
  refine zmz _ _ H n _ ?_
  simp [zhr]
  refine w.ext.nums [(vs.length : Int)] (by simp; omega) (by simp; omega) fun H2 n2 l2 e2 _ => ?_
  have en : zz [(vs.length : Int)] = WM.num vs.length := by simp [zz]
  rw [en] at e2
  have nl := zao vs.length
  have hk : ∀ v ∈ vs, (VM.valB v).length ≤ 4116 := fun v h => by have := znr v; have := (hv v h).2; omega
  simp [zhs]
  refine LP.mk (fun k xs H' n' => ∃ (i : Nat) (l' : AV), k = vs.length - i ∧ i ≤ vs.length ∧ xs = [.ptr p 0, .ro (vs.map Val.avs), .int .i64 vs.length, .int .i64 i] ∧ WExt p l H n l' (bs ++ WM.num vs.length ++ (vs.take i).flatMap VM.valB) H' n') vs.length ⟨0, l2, rfl, by omega, rfl, by simpa using e2⟩ ?_
  rintro k xs H' n' ⟨i, l', rfl, hil, rfl, ext⟩
  by_cases hlt : i < vs.length
  · have hadd : IntKind.i64.wrap ((i : Int) + 1) = ((i + 1 : Nat) : Int) := by rw [i64w (by omega)]; rfl
    have hm : vs[i]? = some vs[i] := List.getElem?_eq_getElem hlt
    have hmi := hv _ (List.getElem_mem hlt)
    have hft := zgk hk hil
    generalize hmm : vs[i] = m at hm hmi
    have hsn := zgl (f := VM.valB) hm
    simp [zdr, hlt, hmm, Val.avs]
    refine zxr (ext.put (.row 3 m.avs)).wr hmi.1 (by rw [List.length_append, List.length_append]; omega) fun H3 n3 l3 e3 => ?_
    have er := (ext.put (.row 3 m.avs)).trans e3
    rw [List.append_assoc _ _ (VM.valB m), ← hsn] at er
    simp [zht, hadd]
    exact ⟨vs.length - (i + 1), by omega, i + 1, rfl, by omega, rfl, _, by simpa using er⟩
  · obtain rfl : i = vs.length := by omega
    rw [List.take_length, List.append_assoc] at ext
    simp [zdr]
    exact hq _ _ _ ext
end Go.Proofs.YtpbnaaoilgohkaaGreatDoor
set_option maxRecDepth 8000
namespace Go.Proofs.YtpbnaaoilgohkaaGreatDoor
open Go Go.RowKit
structure zact (H : Heap) (lo n : Nat) (fs : List Frm) (ss : List (AV × AV)) (fa : AV) (h : List Cl) (ha : AV) : Prop where
  frs : zaa H fs ss
  row : Slot H 4 fs.length (frow fs ss) fa
  hp : Slot H 6 h.length (rowC h) ha
  nd : (own fa ++ (own ha ++ owns ss)).Nodup
  bd : ∀ g ∈ own fa ++ (own ha ++ owns ss), lo ≤ g ∧ g < n
structure zia (H : Heap) (lo n : Nat) (fs : List Frm) (ss : List (AV × AV)) (fa : AV) : Prop where
  frs : zaa H fs ss
  row : Slot H 4 fs.length (frow fs ss) fa
  nd : (own fa ++ owns ss).Nodup
  bd : ∀ g ∈ own fa ++ owns ss, lo ≤ g ∧ g < n
theorem zia.snoc {H X : Heap} {lo n N m : Nat} {fs : List Frm} {ss : List (AV × AV)} {fa : AV} {f : Frm} {va sa : AV} (h : zia H lo n fs ss fa) (hn : n ≤ N) (hN : N ≤ m) (hlo : lo ≤ N) (hlen : (fs.length + 1) * 64 ≤ 140737488355328)
    (old : ∀ g, g < n → X g = H g) (hv : Slot X 3 f.vars.length (rowV f.vars) va) (hs : Slot X 3 f.stack.length (rowV f.stack) sa) (nd : (own va ++ own sa).Nodup) (bd : ∀ g ∈ own va ++ own sa, N ≤ g ∧ g < m)
    {t : Nat} (ht : X t = some (.row 4 [.int .i64 f.fn, .int .i64 f.at_, va, sa])) {kk : AV → Heap → Nat → Prop}
    (hk : ∀ H' a', (∀ g, g < lo → H' g = X g) → zia H' lo (m + 1) (fs ++ [f]) (ss ++ [(va, sa)]) a' → kk a' H' (m + 1)) : APP 4 64 fa (.slc t 0 1) X m kk := by
  have hbf : ∀ g ∈ own fa, lo ≤ g ∧ g < n := fun g hg => h.bd g (List.mem_append_left _ hg)
  have hbs : ∀ g ∈ owns ss, lo ≤ g ∧ g < n := fun g hg => h.bd g (List.mem_append_right _ hg)
  obtain ⟨nd1, nd2, nd3⟩ := List.nodup_append.1 h.nd
  have hx := (h.row.keep (H' := X) fun g hg => old g (hbf g hg).2)
  refine Slot.app (bytes := 64) (nx := m) (new := [.int .i64 f.fn, .int .i64 f.at_, va, sa]) hx (zog h.frs.1) ht rfl (by simp [hv.one, hs.one]) hlen fun H' h1 h2 => ?_
  have keep : ∀ g, g ∈ owns ss → H' g = H g := fun g hg => by
    have := hbs g hg
    rw [h2 g (fun hx => nd3 g hx g hg rfl) (by omega)]; exact old g this.2
  have keep2 : ∀ g, g ∈ own va ++ own sa → H' g = X g := fun g hg => by
    have := bd g hg
    exact h2 g (fun hx => by have := hbf g hx; omega) (by omega)
  refine hk H' _ (fun g hg => h2 g (fun hx => by have := hbf g hx; omega) (by omega)) ⟨(h.frs.keep keep).snoc (hv.keep fun g hg => keep2 g (List.mem_append_left _ hg)) (hs.keep fun g hg => keep2 g (List.mem_append_right _ hg)), ?_, ?_, ?_⟩
  · refine .inr ⟨m, _, by simp, h1, ?_, ?_⟩
    · rw [zabf h.frs.1]; exact List.take_of_length_le (by simp [zog h.frs.1]; omega)
    · simp [zog h.frs.1]; omega
  · rw [zabb]
    have e0 : own (AV.slc m 0 (fs.length + 1)) = [m] := rfl
    simp only [List.length_append, List.length_singleton, e0]
    refine List.nodup_append.2 ⟨by simp, List.nodup_append.2 ⟨nd2, nd, fun a ha b hb e => ?_⟩, fun a ha b hb e => ?_⟩
    · have := hbs a ha; have := bd b hb; omega
    · simp at ha; subst ha; subst e
      rcases List.mem_append.1 hb with hb | hb
      · have := hbs _ hb; omega
      · have := bd _ hb; omega
  · intro g hg
    rw [zabb] at hg
    have e0 : own (AV.slc m 0 (fs.length + 1)) = [m] := rfl
    rcases List.mem_append.1 hg with hg | hg
    · simp [own] at hg; omega
    · rcases List.mem_append.1 hg with hg | hg
      · have := hbs g hg; omega
      · have := bd g hg; omega
set_option maxHeartbeats 2000000 in
theorem zaix {fs : List Frm} {csv wv : AV} {id trip fuel room hops : Int} {h : List Cl} {H1 : Heap} {p mid : Nat} {Q : AV → Heap → Nat → Prop} (hl : fs.length * 64 ≤ 140737488355328) (hh : h.length * 64 ≤ 140737488355328) (hfl : ∀ f ∈ fs, f.vars.length * 32 ≤ 140737488355328 ∧ f.stack.length * 32 ≤ 140737488355328) (hp : p + 2 ≤ mid)
    (r1 : H1 p = some (.row 9 [.int .i64 id, .int .i64 trip, csv, wv, .ro (fs.map Frm.avs), .ro (h.map Cl.avs), .int .i64 fuel, .int .i64 room, .int .i64 hops])) (r2 : ∃ z, H1 (p + 1) = some (.row 9 z) ∧ z.length = 9)
    (c1 : csv.cells = [csv] ∧ csv.one = true ∧ csv.sure = true) (w1 : wv.cells = [wv] ∧ wv.one = true ∧ wv.sure = true)
    (hq : ∀ H' n' ss fa ha, mid ≤ n' → (∀ g, g < mid → g ≠ p → g ≠ p + 1 → H' g = H1 g) → zact H' mid n' fs ss fa h ha → Q (.agg [.int .i64 id, .int .i64 trip, csv, wv, fa, ha, .int .i64 fuel, .int .i64 room, .int .i64 hops]) H' n') :
    LP (zpj Q) [.ptr p 0, .ptr (p + 1) 0, .nils, .ro (fs.map Frm.avs), .int .i64 fs.length, .int .i64 0] H1 mid := by
  refine LP.mk (fun k xs H' n' => ∃ (i : Nat) (ss : List (AV × AV)) (fa : AV), k = fs.length - i ∧ i ≤ fs.length ∧ mid ≤ n' ∧ xs = [.ptr p 0, .ptr (p + 1) 0, fa, .ro (fs.map Frm.avs), .int .i64 fs.length, .int .i64 i] ∧ (∀ g, g < mid → H' g = H1 g) ∧
    zia H' mid n' (fs.take i) ss fa) fs.length ⟨0, [], .nils, rfl, by omega, Nat.le_refl _, rfl, fun _ _ => rfl, ⟨⟨rfl, fun k f s hf => by simp at hf⟩, .inl ⟨by simp, .inl rfl⟩, by simp [own, owns], by simp [own, owns]⟩⟩ ?_
  rintro k xs H' n' ⟨i, ss, fa, rfl, hi, hn', rfl, hkeep, st⟩
  have p0 : p ≠ n' := by omega
  have p1 : p + 1 ≠ n' := by omega
  by_cases hil : i < fs.length
  · have hmem : fs[i] ∈ fs := List.getElem_mem hil
    obtain ⟨hv, hs⟩ := hfl _ hmem
    have htk : fs.take (i + 1) = fs.take i ++ [fs[i]] := (List.take_append_getElem hil).symm
    have tl : (fs.take i).length = i := by simp; omega
    have lv : (Frm.avs fs[i]).length = 4 := rfl
    have fin : ∀ {X : Heap} {N : Nat} {va sa : AV} {kk : AV → Heap → Nat → Prop}, n' + 1 ≤ N → (∀ g, g < n' → X g = H' g) → Slot X 3 fs[i].vars.length (rowV fs[i].vars) va → Slot X 3 fs[i].stack.length (rowV fs[i].stack) sa → (own va ++ own sa).Nodup → (∀ g ∈ own va ++ own sa, n' + 1 ≤ g ∧ g < N) →
        (∀ a' H3 m', mid ≤ m' → (∀ g, g < mid → H3 g = H1 g) → zia H3 mid m' (fs.take (i + 1)) (ss ++ [(va, sa)]) a' → kk a' H3 m') →
        APP 4 64 fa (.slc N 0 1) (X.put N (some (.row 4 [.int .i64 fs[i].fn, .int .i64 fs[i].at_, va, sa]))) (N + 1) kk := by
      intro X N va sa kk hN hold h1 h2 h3 h4 hkk
      refine st.snoc (f := fs[i]) (va := va) (sa := sa) (N := n' + 1) (by omega) (by omega) (by omega) (by rw [tl]; omega) (fun g hg => ?_) (h1.keep fun g hg => ?_) (h2.keep fun g hg => ?_) h3 (fun g hg => by have := h4 g hg; omega) (Heap.put_at _ _ _) fun H3 a' q1 q2 => ?_
      · rw [Heap.put_ne _ _ (by omega)]; exact hold g hg
      · exact Heap.put_ne _ _ (by have := h4 g (List.mem_append_left _ hg); omega)
      · exact Heap.put_ne _ _ (by have := h4 g (List.mem_append_right _ hg); omega)
      · exact hkk _ _ _ (by omega) (fun g hg => by rw [q1 g hg, Heap.put_ne _ _ (by omega), hold g (by omega)]; exact hkeep g hg) (by rw [htk]; exact q2)
    have nn : n' ≠ n' + 1 + 1 := by omega
    have fin2 : ∀ {v64 : AV} {H65 : Heap} {nx66 : Nat} {ss' : List (AV × AV)}, mid ≤ nx66 → (∀ g, g < mid → H65 g = H1 g) → zia H65 mid nx66 (fs.take (i + 1)) ss' v64 →
        ∃ m, m < fs.length - i ∧ ∃ i_1, m = fs.length - i_1 ∧ i_1 ≤ fs.length ∧ mid ≤ nx66 ∧ ∃ x x_1, (v64 = x_1 ∧ IntKind.i64.wrap ((i : Int) + 1) = (i_1 : Int)) ∧ (∀ (g : Nat), g < mid → H65 g = H1 g) ∧ zia H65 mid nx66 (List.take i_1 fs) x x_1 :=
      fun h1 h2 h3 => ⟨fs.length - (i + 1), by omega, i + 1, rfl, by omega, h1, _, _, ⟨rfl, i64w (by omega)⟩, h2, h3⟩
    have nil : ∀ {l : List Val} {X : Heap}, l = [] → Slot X 3 l.length (rowV l) .zs := fun h => .inl ⟨by simp [h], .inr rfl⟩
    have row : ∀ {l : List Val} {X : Heap} {g : Nat}, X g = some (.row 3 (rowV l)) → Slot X 3 l.length (rowV l) (.slc g 0 l.length) := fun h => .inr ⟨_, _, rfl, h, List.take_of_length_le (by simp), by simp⟩
    simp [zpj, hil, Frm.avs]
    refine zo.cloneV hv (fun ve => ?_) (fun vne => ?_)
    · simp [zuu]
      refine zo.cloneV hs (fun se => ?_) (fun sne => ?_)
      · simp [zlk]
        exact fin (by omega) (fun g hg => Heap.put_ne _ _ (by omega)) (nil ve) (nil se) (by simp [own]) (by simp [own]) fun a' H3 m' h1 h2 h3 => fin2 h1 h2 h3
      · simp [zlk]
        exact fin (by omega) (fun g hg => by rw [Heap.put_ne _ _ (by omega), Heap.put_ne _ _ (by omega), Heap.put_ne _ _ (by omega)]) (nil ve) (row (by rw [Heap.put_ne _ _ (by omega), Heap.put_at])) (by simp [own]) (by simp [own]) fun a' H3 m' h1 h2 h3 => fin2 h1 h2 h3
    · simp [zuu]
      refine zo.cloneV hs (fun se => ?_) (fun sne => ?_)
      · simp [zlk]
        exact fin (by omega) (fun g hg => by rw [Heap.put_ne _ _ (by omega), Heap.put_ne _ _ (by omega), Heap.put_ne _ _ (by omega)]) (row (by rw [Heap.put_ne _ _ (by omega), Heap.put_at])) (nil se) (by simp [own]) (by simp [own]) fun a' H3 m' h1 h2 h3 => fin2 h1 h2 h3
      · simp [zlk, nn]
        exact fin (by omega) (fun g hg => by rw [Heap.put_ne _ _ (by omega), Heap.put_ne _ _ (by omega), Heap.put_ne _ _ (by omega), Heap.put_ne _ _ (by omega)]) (row (by rw [Heap.put_ne _ _ (by omega), Heap.put_ne _ _ (by omega), Heap.put_at])) (row (by rw [Heap.put_ne _ _ (by omega), Heap.put_at])) (by simp [own]) (by simp [own]) fun a' H3 m' h1 h2 h3 => fin2 h1 h2 h3
  · obtain rfl : i = fs.length := by omega
    obtain ⟨z, r2, z9⟩ := r2
    rw [← hkeep p (by omega)] at r1
    rw [← hkeep (p + 1) (by omega)] at r2
    simp [zpj, r1]
    refine (zame hh .ro).mono fun hv H5 n5 ⟨hn5, k5, hc⟩ => ?_
    have e1 : H5 p = _ := (k5 p (by omega)).trans r1
    have e2 : H5 (p + 1) = _ := (k5 (p + 1) (by omega)).trans r2
    obtain ⟨s1, s2⟩ := hc.slot (zfy h)
    simp [zaas, e1, e2, z9, st.row.one.1, st.row.one.2, hc.one.1, hc.one.2, c1.1, c1.2, w1.1, w1.2]
    rw [List.take_length] at st
    obtain ⟨f1, f2, f3, f4⟩ := st
    have same : ∀ {X : Heap}, (∀ g, g ≠ p → g ≠ p + 1 → X g = H5 g) → ∀ g, mid ≤ g → g < n' → X g = H' g := fun hX g h1 h2 => by rw [hX g (by omega) (by omega)]; exact k5 g h2
    have s1' : Slot H5 6 h.length (rowC h) hv := by simpa [rowC] using s1
    refine hq _ _ ss fa hv (by omega) (fun g h1 h2 h3 => ?_) ⟨f1.keep fun g hg => ?_, f2.keep fun g hg => ?_, s1'.keep fun g hg => ?_, ?_, fun g hg => ?_⟩
    · rw [Heap.put_ne _ _ h3, Heap.put_ne _ _ h2, k5 g (by omega)]; exact hkeep g h1
    · have := f4 g (List.mem_append_right _ hg)
      exact same (fun g h1 h2 => by rw [Heap.put_ne _ _ h2, Heap.put_ne _ _ h1]) g this.1 this.2
    · have := f4 g (List.mem_append_left _ hg)
      exact same (fun g h1 h2 => by rw [Heap.put_ne _ _ h2, Heap.put_ne _ _ h1]) g this.1 this.2
    · have := s2 g hg
      rw [Heap.put_ne _ _ (by omega), Heap.put_ne _ _ (by omega)]
    · obtain ⟨d1, d2, d3⟩ := List.nodup_append.1 f3
      refine List.nodup_append.2 ⟨d1, List.nodup_append.2 ⟨zalb _, d2, fun a ha b hb e => ?_⟩, fun a ha b hb e => ?_⟩
      · have := s2 a ha; have := f4 b (List.mem_append_right _ hb); omega
      · rcases List.mem_append.1 hb with hb | hb
        · have := s2 b hb; have := f4 a (List.mem_append_left _ ha); omega
        · exact d3 a ha b hb e
    · rcases List.mem_append.1 hg with hg | hg
      · have := f4 g (List.mem_append_left _ hg); omega
      · rcases List.mem_append.1 hg with hg | hg
        · have := s2 g hg; omega
        · have := f4 g (List.mem_append_right _ hg); omega
end Go.Proofs.YtpbnaaoilgohkaaGreatDoor
set_option maxRecDepth 8000
namespace Go.Proofs.YtpbnaaoilgohkaaGreatDoor
open Go Go.RowKit
set_option maxHeartbeats 2000000 in
theorem zalc {a : Agt} {H1 : Heap} {p : Nat} {Q : AV → Heap → Nat → Prop} (b1 : a.prog.codes.length * 40 ≤ 140737488355328) (b2 : ∀ c ∈ a.prog.codes, c.ins.length * 24 ≤ 140737488355328) (b3 : a.prog.words.length * 16 ≤ 140737488355328)
    (b4 : a.frames.length * 64 ≤ 140737488355328) (b5 : a.heap.length * 64 ≤ 140737488355328) (b6 : ∀ f ∈ a.frames, f.vars.length * 32 ≤ 140737488355328 ∧ f.stack.length * 32 ≤ 140737488355328)
    (r1 : H1 p = some (.row 9 a.avs)) (r2 : ∃ z, H1 (p + 1) = some (.row 9 z) ∧ z.length = 9)
    (hq : ∀ H' n' mid ss fa ha cv wv, p + 2 ≤ mid → mid ≤ n' → (∀ g, g < p → H' g = H1 g) → FrzP H' (fun g => p + 2 ≤ g ∧ g < mid) cv (.ro (a.prog.codes.map Cod.avs)) → FrzP H' (fun g => p + 2 ≤ g ∧ g < mid) wv (.ro (a.prog.words.map fun w => [.str w])) →
      zact H' mid n' a.frames ss fa a.heap ha → Q (.agg [.int .i64 a.id, .int .i64 a.trip, cv, wv, fa, ha, .int .i64 a.permit.fuel, .int .i64 a.permit.room, .int .i64 a.permit.hops]) H' n') :
    LP (zpi Q) [.ptr p 0, .ptr (p + 1) 0, .nils, .ro (a.prog.codes.map Cod.avs), .int .i64 a.prog.codes.length, .int .i64 0] H1 (p + 2) := by
  refine LP.mk (fun k xs H' n' => ∃ (i : Nat) (cv : AV) (cells : List AV), k = a.prog.codes.length - i ∧ i ≤ a.prog.codes.length ∧ p + 2 ≤ n' ∧ xs = [.ptr p 0, .ptr (p + 1) 0, cv, .ro (a.prog.codes.map Cod.avs), .int .i64 a.prog.codes.length, .int .i64 i] ∧ (∀ g, g < p + 2 → H' g = H1 g) ∧
    zez H' (fun g => p + 2 ≤ g ∧ g < n' ∧ g ∉ own cv) (a.prog.codes.take i) cells ∧ Slot H' 3 i cells cv ∧ ∀ g ∈ own cv, p + 2 ≤ g ∧ g < n') a.prog.codes.length ⟨0, .nils, [], rfl, by omega, Nat.le_refl _, rfl, fun _ _ => rfl, ⟨rfl, fun k c hc => by simp at hc⟩, .inl ⟨rfl, .inl rfl⟩, by simp [own]⟩ ?_
  rintro k xs H' n' ⟨i, cv, cells, rfl, hi, hn', rfl, hkeep, hc, hs, ho⟩
  have p0 : p ≠ n' := by omega
  have p1 : p + 1 ≠ n' := by omega
  by_cases hil : i < a.prog.codes.length
  · have hmem : a.prog.codes[i] ∈ a.prog.codes := List.getElem_mem hil
    have hb := b2 _ hmem
    have htk : a.prog.codes.take (i + 1) = a.prog.codes.take i ++ [a.prog.codes[i]] := (List.take_append_getElem hil).symm
    have tl : (a.prog.codes.take i).length = i := by simp; omega
    simp [zpi, hil, Cod.avs]
    refine (zamd hb .ro).mono fun v H5 n5 ⟨hn5, k5, hv⟩ => ?_
    have e1 : H5 n' = _ := (k5 n' (by omega)).trans (Heap.put_at _ _ _)
    have nn : n' ≠ n5 := by omega
    simp [zaat, e1, hv.one.1, hv.one.2]
    refine Slot.app (bytes := 40) (nx := n5 + 1) (new := [.int .i64 a.prog.codes[i].params, .int .i64 a.prog.codes[i].vars, v]) (hs.keep fun g hg => ?_) (by rw [hc.1, tl]) (Heap.put_at _ _ _) rfl (by simp [hv.one.2]) (by omega) fun H3 q1 q2 => ?_
    · have := ho g hg
      rw [Heap.put_ne _ _ (by omega), Heap.put_ne _ _ (by omega), k5 g (by omega), Heap.put_ne _ _ (by omega)]
    · have old : ∀ g, g < n' → g ∉ own cv → H3 g = H' g := fun g h1 h2 => by
        rw [q2 g h2 (by omega), Heap.put_ne _ _ (by omega), Heap.put_ne _ _ (by omega), k5 g (by omega), Heap.put_ne _ _ (by omega)]
      rw [i64w (by omega)]
      refine ⟨a.prog.codes.length - (i + 1), by omega, i + 1, rfl, by omega, by omega, _, ⟨rfl, by simp⟩, fun g hg => ?_, cells ++ [.int .i64 a.prog.codes[i].params, .int .i64 a.prog.codes[i].vars, v], ?_, ?_, ?_⟩
      · rw [old g (by omega) (fun h => by have := ho g h; omega)]; exact hkeep g hg
      · rw [htk]
        refine zez.snoc (hc.more fun g ⟨h1, h2, h3⟩ => ⟨⟨h1, by omega, by simp [own]; omega⟩, old g h2 h3⟩) (hv.more fun g ⟨h1, h2⟩ => ⟨⟨by omega, by omega, by simp [own]; omega⟩, ?_⟩)
        rw [q2 g (fun h => by have := ho g h; omega) (by omega), Heap.put_ne _ _ (by omega), Heap.put_ne _ _ (by omega)]
      · refine .inr ⟨n5 + 1, _, rfl, q1, List.take_of_length_le ?_, ?_⟩
        · simp [hc.1, tl]; omega
        · simp [hc.1, tl]; omega
      · intro g hg
        simp [own] at hg; omega
  · obtain rfl : i = a.prog.codes.length := by omega
    rw [List.take_length] at hc
    obtain ⟨z, r2, z9⟩ := r2
    rw [← hkeep p (by omega)] at r1
    rw [← hkeep (p + 1) (by omega)] at r2
    simp [zpi, r1, Agt.avs]
    refine (zamc b3 .ro).mono fun wv H5 n5 ⟨hn5, k5, hw⟩ => ?_
    have e1 : H5 p = _ := (k5 p (by omega)).trans r1
    have e2 : H5 (p + 1) = _ := (k5 (p + 1) (by omega)).trans r2
    simp [zaar, e1, Agt.avs, hs.one.1, hs.one.2, hw.one.1, hw.one.2]
    have pp : p + 1 ≠ p := by omega
    have fz1 : FrzP H5 (fun g => p + 2 ≤ g ∧ g < n5) cv (.ro (a.prog.codes.map Cod.avs)) := by
      refine (hc.frz (G := fun g => p + 2 ≤ g ∧ g < n') (fun g ⟨h1, h2, _⟩ => ⟨h1, h2⟩) hs ho).keep (fun g ⟨h1, h2⟩ => k5 g h2) |>.wide fun g ⟨h1, h2⟩ => ⟨h1, by omega⟩
    have fz2 : FrzP H5 (fun g => p + 2 ≤ g ∧ g < n5) wv (.ro (a.prog.words.map fun w => [.str w])) := hw.frz (fun g ⟨h1, h2⟩ => ⟨by omega, h2⟩) (zyr _)
    refine zaix b4 b5 b6 (by omega) (Heap.put_at _ _ _) ⟨z, by rw [Heap.put_ne _ _ pp]; exact e2, z9⟩ hs.one hw.one fun H6 n6 ss fa ha hn6 k6 ow => ?_
    have same : ∀ g, p + 2 ≤ g → g < n5 → H6 g = H5 g := fun g h1 h2 => by rw [k6 g h2 (by omega) (by omega), Heap.put_ne _ _ (by omega)]
    refine hq H6 n6 n5 ss fa ha cv wv (by omega) hn6 (fun g hg => ?_) (fz1.keep fun g ⟨h1, h2⟩ => same g h1 h2) (fz2.keep fun g ⟨h1, h2⟩ => same g h1 h2) ow
    rw [k6 g (by omega) (by omega) (by omega), Heap.put_ne _ _ (by omega), k5 g (by omega), hkeep g (by omega)]
structure zacr (a : Agt) : Prop where
  b1 : a.prog.codes.length * 40 ≤ 140737488355328
  b2 : ∀ c ∈ a.prog.codes, c.ins.length * 24 ≤ 140737488355328
  b3 : a.prog.words.length * 16 ≤ 140737488355328
  b4 : a.frames.length * 64 ≤ 140737488355328
  b5 : a.heap.length * 64 ≤ 140737488355328
  b6 : ∀ f ∈ a.frames, f.vars.length * 32 ≤ 140737488355328 ∧ f.stack.length * 32 ≤ 140737488355328
def zae (id trip : Int) (p : Prg) (fa ha : AV) (m : Pmt) : List AV := [.int .i64 id, .int .i64 trip, .ro (p.codes.map Cod.avs), .ro (p.words.map fun w => [.str w]), fa, ha, .int .i64 m.fuel, .int .i64 m.room, .int .i64 m.hops]
theorem zars {a : Agt} (sz : zacr a) {H : Heap} {n : Nat} {Q : AV → Heap → Nat → Prop}
    (hq : ∀ H' n' ss fa ha, n ≤ n' → Keep n H' H → zact H' n n' a.frames ss fa a.heap ha → Q (.agg (zae a.id a.trip a.prog fa ha a.permit)) H' n') : za Tryz.prog 53 [.agg a.avs] H n Q := by
  have raw : za Tryz.prog 53 [.agg a.avs] H n fun v H' n' => ∃ mid ss fa ha cv wv, v = .agg [.int .i64 a.id, .int .i64 a.trip, cv, wv, fa, ha, .int .i64 a.permit.fuel, .int .i64 a.permit.room, .int .i64 a.permit.hops] ∧ n + 2 ≤ mid ∧ mid ≤ n' ∧ Keep n H' H ∧
      FrzP H' (fun g => n + 2 ≤ g ∧ g < mid) cv (.ro (a.prog.codes.map Cod.avs)) ∧ FrzP H' (fun g => n + 2 ≤ g ∧ g < mid) wv (.ro (a.prog.words.map fun w => [.str w])) ∧ zact H' mid n' a.frames ss fa a.heap ha := by
    refine zadg _ H n _ ?_
    have av : (AV.agg a.avs).cells = a.avs := by simp
    have al : a.avs.length = 9 := rfl
    have nn : n ≠ n + 1 := by omega
    have h2 : a.avs[2]? = some (.ro (a.prog.codes.map Cod.avs)) := rfl
    have hsu : (AV.agg a.avs).sure = true := by simp [Agt.avs]
    unfold zaaq
    rw [av, al]
    refine ⟨hsu, ?_⟩
    simp [nn, h2]
    refine zalc sz.b1 sz.b2 sz.b3 sz.b4 sz.b5 sz.b6 (by rw [Heap.put_ne _ _ nn, Heap.put_at]) ⟨_, Heap.put_at _ _ _, rfl⟩ fun H' n' mid ss fa ha cv wv q1 q2 q3 q4 q5 q6 => ?_
    exact ⟨mid, ss, fa, ha, cv, wv, rfl, q1, q2, fun g hg => by rw [q3 g hg, Heap.put_ne _ _ (by omega), Heap.put_ne _ _ (by omega)], q4, q5, q6⟩
  refine za.tidy fun hlive => raw.freeze fun v H' n' ⟨mid, ss, fa, ha, cv, wv, hv, q1, q2, q3, q4, q5, q6⟩ => ?_
  subst hv
  let H2 : Heap := fun g => if n ≤ g ∧ g < mid then none else H' g
  have h2 : ∀ g, ¬ (n ≤ g ∧ g < mid) → H2 g = H' g := fun g hg => if_neg hg
  refine ⟨_, H2, fun g => n ≤ g ∧ g < mid, hq H2 n' ss fa ha (by omega) (fun g hg => by rw [h2 g (by omega)]; exact q3 g hg) ⟨q6.frs.keep fun g hg => h2 g ?_, q6.row.keep fun g hg => h2 g ?_, q6.hp.keep fun g hg => h2 g ?_, q6.nd, fun g hg => ?_⟩, ?_, fun g o hg => ?_⟩
  · have := q6.bd g (by simp [hg]); omega
  · have := q6.bd g (by simp [hg]); omega
  · have := q6.bd g (by simp [hg]); omega
  · have := q6.bd g hg; omega
  · refine .agg _ _ rfl fun j v u hv hu => ?_
    match j with
    | 0 => cases hv; cases hu; exact .same _
    | 1 => cases hv; cases hu; exact .same _
    | 2 => cases hv; cases hu; exact q4.wide fun g ⟨h1, h2⟩ => ⟨by omega, h2⟩
    | 3 => cases hv; cases hu; exact q5.wide fun g ⟨h1, h2⟩ => ⟨by omega, h2⟩
    | 4 => cases hv; cases hu; exact .same _
    | 5 => cases hv; cases hu; exact .same _
    | 6 => cases hv; cases hu; exact .same _
    | 7 => cases hv; cases hu; exact .same _
    | 8 => cases hv; cases hu; exact .same _
    | j + 9 => simp at hv
  · by_cases h : n ≤ g ∧ g < mid
    · simp only [H2, if_pos h] at hg; cases hg
    · exact ⟨h, by rw [h2 g h] at hg; exact hg⟩
end Go.Proofs.YtpbnaaoilgohkaaGreatDoor
