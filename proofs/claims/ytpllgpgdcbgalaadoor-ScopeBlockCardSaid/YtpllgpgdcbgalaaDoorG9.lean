/- scope: expressions. scope: names of one's own. scope: blocks. scope: statements. scope: blocks as a whole. scope: a statement's expressions, and blocks. scope: Check. scope: Check, as a whole. The document's Check: its memory. The document's Check: expressions. The document's Check: expressions, one behind the other. The document's Check: statements. The document's Check: a statement behind its expressions. The document's Check: a statement's expressions, and blocks. The document's Check, as a whole. The document's Check, as a whole. How much there is in what was parsed: no more than the text has bytes; the laws on chapter 4. Reading a text step by step: what each reader does at texts of a known form. ScopeBlock: what such texts are read as, and what is wrong with them. The library's laid variables, where a row lists five of them: three tables, two errors. The wrap of a law's row that lists variables, the world's shape kept. -/
import Derived.Test.YtpllgpgdcbgalaaDoorG8
import Derived.Test.YtpllgpgdcbgalaaDoorG1
import Derived.Stop.LaidErr
import Derived.Handed
import Derived.HandedShaped
import Derived.Shelf.Vars
set_option linter.unusedSimpArgs false
set_option linter.unusedVariables false
set_option maxRecDepth 8000
namespace Go.Proofs.YtpllgpgdcbgalaaDoor
open Go Go.RowKit
namespace VM
mutual
def exW : Ex → Nat
  | .mk _ _ _ ar => 1 + exWL ar
def exWL : List Ex → Nat
  | [] => 0
  | x :: r => exW x + exWL r
end
theorem exW_pos : ∀ x : Ex, 1 ≤ exW x
  | .mk _ _ _ _ => by unfold exW; omega
theorem len_exWL : ∀ l : List Ex, l.length ≤ exWL l
  | [] => by simp
  | x :: r => by have := exW_pos x; have := len_exWL r; unfold exWL; rw [List.length_cons]; omega
theorem addW_le (ws : List Str) (w : Str) : (addW ws w).length ≤ ws.length + 1 := by
  unfold addW
  split
  · omega
  · rw [List.length_append]; simp
theorem cond_le (ws : List Str) (w : Str) (k : Int) : (if k = 2 then addW ws w else ws).length ≤ ws.length + 1 := by
  split
  · exact addW_le ws w
  · omega
mutual
theorem exC_le (fns : List (Str × Nat)) (names : List Str) : ∀ (x : Ex) (ws : List Str), (exC fns names x ws).1.length ≤ ws.length + exW x
  | .mk k n t ar, ws => by
    have h1 := cond_le ws t k
    have h2 := exCL_le fns names ar (if k = 2 then addW ws t else ws)
    unfold exC exW
    split
    · simp only; omega
    · omega
theorem exCL_le (fns : List (Str × Nat)) (names : List Str) : ∀ (l : List Ex) (ws : List Str), (exCL fns names l ws).1.length ≤ ws.length + exWL l
  | [], ws => by unfold exCL exWL; simp
  | x :: r, ws => by
    have h1 := exC_le fns names x ws
    have h2 := exCL_le fns names r (exC fns names x ws).1
    unfold exCL exWL
    split
    · omega
    · omega
end
end VM
theorem znp (t : Str) : ∀ fns : List (Str × Nat), ∃ r, zy (.str t) (fns.map fun p => (AV.str p.1, AV.int .i64 p.2)) = some r ∧ (match r with | some (_, v) => fns.lookup t ≠ none ∧ v = .int .i64 ((fns.lookup t).getD 0 : Nat) | none => fns.lookup t = none)
  | [] => ⟨none, by simp, rfl⟩
  | (w, n) :: r => by
    obtain ⟨q, h1, h2⟩ := znp t r
    rw [List.map_cons, zsh, List.lookup_cons]
    by_cases h : t = w
    · subst h
      exact ⟨some (0, .int .i64 n), by simp, by simp⟩
    · have hb : (t == w) = false := by simpa using h
      rw [if_neg h, h1, hb]
      cases q with
      | none => exact ⟨none, rfl, h2⟩
      | some p => exact ⟨some (p.1 + 1, p.2), rfl, h2⟩
def LExC (gk gm : Nat) (fns : List (Str × Nat)) (names : List Str) (x : Ex) : Prop := ∀ (vars : Int) (ws : List Str) (A a : AV) (H : Heap) (m : Nat) (Q : QT), LkM gk gm fns vars ws A H m → NmA gk A names H m a → ws.length + VM.exW x ≤ 4294967296 →
  (∀ A' H' m', LkM gk gm fns vars (VM.exC fns names x ws).1 A' H' m' → Ext gk A H m A' H' m' → Q (.int .i64 (VM.exC fns names x ws).2) H' m') → za Tryd.prog 54 [.ptr gk 0, .rop x.avs 0, a] H m Q
set_option maxHeartbeats 1000000 in
theorem ztk {gk gm : Nat} {fns : List (Str × Nat)} {names : List Str} {k z : Int} {t : Str} {ar : List Ex} (hE : ∀ x ∈ ar, LExC gk gm fns names x) {vars : Int} {ws : List Str} {A a : AV} {H : Heap} {m : Nat} {Q : QT} (h : LkM gk gm fns vars ws A H m) (hn : NmA gk A names H m a) (hw : ws.length + VM.exWL ar ≤ 4294967296) (hl : ar.length ≤ 4294967296)
    (hq : ∀ A' H' m', LkM gk gm fns vars (VM.exCL fns names ar ws).1 A' H' m' → Ext gk A H m A' H' m' → Q (.int .i64 (VM.exCL fns names ar ws).2) H' m') :
    LP (zn Q) [.ptr gk 0, .rop (Ex.mk k z t ar).avs 0, a, .int .i64 ar.length, .int .i64 0] H m := by
  rw [zjd]
  refine LP.mk (fun j xs H' m' => ∃ (i : Nat) (ws' : List Str) (A' : AV), i + j = ar.length ∧ xs = [.ptr gk 0, .rop [.int .i64 k, .int .i64 z, .str t, .ro (ar.map Ex.avs)] 0, a, .int .i64 ar.length, .int .i64 i] ∧ LkM gk gm fns vars ws' A' H' m' ∧ Ext gk A H m A' H' m' ∧ ws'.length + VM.exWL (ar.drop i) ≤ 4294967296 ∧ VM.exCL fns names ar ws = VM.exCL fns names (ar.drop i) ws') ar.length ⟨0, ws, A, by omega, rfl, h, Ext.refl _ _ _ _, by simpa using hw, by simp⟩ ?_
  rintro j xs H' m' ⟨i, ws', A', hij, rfl, h', he, hw', hgo⟩
  generalize hJ : (fun (xs : List AV) (H' : Heap) (m' : Nat) => ∃ j', j' < j ∧ ∃ (i : Nat) (ws' : List Str) (A' : AV), i + j' = ar.length ∧ xs = [.ptr gk 0, .rop [.int .i64 k, .int .i64 z, .str t, .ro (ar.map Ex.avs)] 0, a, .int .i64 ar.length, .int .i64 i] ∧ LkM gk gm fns vars ws' A' H' m' ∧ Ext gk A H m A' H' m' ∧ ws'.length + VM.exWL (ar.drop i) ≤ 4294967296 ∧ VM.exCL fns names ar ws = VM.exCL fns names (ar.drop i) ws') = J
  cases j with
  | zero =>
    have e : i = ar.length := by omega
    subst e
    rw [List.drop_length] at hgo
    rw [hgo] at hq
    simp only [VM.exCL] at hq
    simp [zn]
    exact hq A' H' m' h' he
  | succ j =>
    have hlt : i < ar.length := by omega
    have hx : ar[i]? = some ar[i] := List.getElem?_eq_getElem hlt
    have hdr : ar.drop i = ar[i] :: ar.drop (i + 1) := List.drop_eq_getElem_cons hlt
    have hxl := zdp ar[i]
    have hwi : IntKind.i64.wrap ((i : Int) + 1) = (i : Int) + 1 := i64w (by omega)
    rw [hdr] at hgo hw'
    simp only [VM.exCL, VM.exWL] at hgo hw'
    simp [zn, hlt, hxl]
    refine hE ar[i] (List.getElem_mem hlt) vars ws' A' a H' m' _ h' (hn.ext he) (by omega) fun A2 H2 m2 h2 e2 => ?_
    have hle := VM.exC_le fns names ar[i] ws'
    by_cases hz : (VM.exC fns names ar[i] ws').2 = 0
    · rw [if_neg (by simpa using hz)] at hgo
      simp [zcm, hz, hwi]
      rw [← hJ]
      exact ⟨j, by omega, i + 1, _, _, by omega, rfl, h2, he.trans e2, by omega, hgo⟩
    · rw [if_pos hz] at hgo
      rw [hgo] at hq
      simp [zcm, hz]
      exact hq A2 H2 m2 h2 (he.trans e2)
set_option maxHeartbeats 1000000 in
theorem zse {gk gm : Nat} {fns : List (Str × Nat)} {names : List Str} (hnl : names.length ≤ 4294967296) {k z : Int} {t : Str} {ar : List Ex} (hE : ∀ y ∈ ar, LExC gk gm fns names y) : LExC gk gm fns names (.mk k z t ar) := by
  intro vars ws A a H m Q h hn hw hq
  have hcl := VM.cond_le ws t k
  simp only [VM.exW] at hw
  have hl : ar.length ≤ 4294967296 := by have := VM.len_exWL ar; omega
  unfold VM.exC at hq
  refine zhw _ _ _ _ _ _ ?_
  have row := h.row
  have hmap := h.map
  have rest : ∀ ws1 A1 H1 m1, LkM gk gm fns vars ws1 A1 H1 m1 → Ext gk A H m A1 H1 m1 → VM.headE fns names k t ar.length = 0 → ws1 = (if k = 2 then VM.addW ws t else ws) → LP (zn Q) [.ptr gk 0, .rop (Ex.mk k z t ar).avs 0, a, .int .i64 ar.length, .int .i64 0] H1 m1 := by
    intro ws1 A1 H1 m1 h1 e1 h0 hw1
    rw [if_neg (by rw [h0]; simp), ← hw1] at hq
    exact ztk hE h1 (hn.ext e1) (by rw [hw1]; omega) hl fun A' H' m' h' e' => hq A' H' m' h' (e1.trans e')
  rw [zjd] at rest ⊢
  by_cases h2 : k = 2
  · subst h2
    simp [zai]
    refine zve h (by omega) fun A1 H1 m1 h1 e1 => ?_
    simp [zfd]
    exact rest _ A1 H1 m1 h1 e1 (by unfold VM.headE; simp) (by simp)
  · by_cases h3 : k = 3
    · subst h3
      simp [zai]
      refine zft (by omega) hn.arg ?_
      by_cases hin : t ∈ names
      · simp [zcl, hin]
        exact rest ws A H m h (Ext.refl _ _ _ _) (by unfold VM.headE; simp [hin]) (by simp)
      · have e6 : VM.headE fns names 3 t ar.length = 6 := by unfold VM.headE; simp [hin]
        rw [if_pos (by rw [e6]; decide), e6] at hq
        simp [zcl, hin]
        exact hq A H m (by simpa using h) (Ext.refl _ _ _ _)
    · by_cases h11 : k = 11
      · subst h11
        obtain ⟨r, f1, f2⟩ := znp t fns
        simp [zai, row, hmap, f1]
        cases r with
        | none =>
          simp only at f2
          have e6 : VM.headE fns names 11 t ar.length = 6 := by unfold VM.headE; rw [f2]; rfl
          rw [if_pos (by rw [e6]; decide), e6] at hq
          simp
          exact hq A H m (by simpa using h) (Ext.refl _ _ _ _)
        | some p =>
          obtain ⟨i, v⟩ := p
          simp only at f2
          obtain ⟨f3, rfl⟩ := f2
          obtain ⟨q, hq2⟩ := Option.ne_none_iff_exists'.1 f3
          rw [hq2]
          by_cases hql : q = ar.length
          · have e0 : VM.headE fns names 11 t ar.length = 0 := by unfold VM.headE; rw [hq2]; simp [hql]
            simp [hql]
            exact rest ws A H m h (Ext.refl _ _ _ _) e0 (by simp)
          · have e5 : VM.headE fns names 11 t ar.length = 5 := by unfold VM.headE; rw [hq2]; simp [hql]
            rw [if_pos (by rw [e5]; decide), e5] at hq
            have hqi : ¬ (q : Int) = ar.length := by omega
            simp [hqi]
            exact hq A H m (by simpa using h) (Ext.refl _ _ _ _)
      · simp [zai, h2, h3, h11]
        exact rest ws A H m h (Ext.refl _ _ _ _) (by unfold VM.headE; simp [h3, h11]) (by simp [h2])
mutual
theorem zoz {gk gm : Nat} {fns : List (Str × Nat)} {names : List Str} (hnl : names.length ≤ 4294967296) : ∀ x : Ex, LExC gk gm fns names x
  | .mk _ _ _ ar => zse hnl (znv hnl ar)
theorem znv {gk gm : Nat} {fns : List (Str × Nat)} {names : List Str} (hnl : names.length ≤ 4294967296) : ∀ l : List Ex, ∀ x ∈ l, LExC gk gm fns names x
  | [], x, h => absurd h (by simp)
  | y :: r, x, h => (List.mem_cons.1 h).elim (fun e => e ▸ zoz hnl y) fun h => znv hnl r x h
end
end Go.Proofs.YtpllgpgdcbgalaaDoor
set_option maxRecDepth 8000
namespace Go.Proofs.YtpllgpgdcbgalaaDoor
open Go Go.RowKit
theorem RowS.arg {H : Heap} {lo m : Nat} {names : List Str} {a : AV} (h : RowS strC 1 H lo m names a) : zae H m 1 (names.map strC) a := by
  cases h with
  | nil => exact .nils rfl
  | row h1 h2 h3 => have := zae.slc (xs := names.map strC) (sz := 1) _ h2 h3; rw [List.length_map] at this; exact this
structure OwN (gk : Nat) (A : AV) (lo : Nat) (names : List Str) (H : Heap) (m : Nat) (a : AV) : Prop where
  row : RowS strC 1 H lo m names a
  far : ∀ y ∈ owns a, y ≠ gk ∧ y ∉ owns A
theorem OwN.nma {gk lo m : Nat} {A a : AV} {names : List Str} {H : Heap} (h : OwN gk A lo names H m a) : NmA gk A names H m a := ⟨h.row.arg, h.far⟩
theorem OwN.ext {gk lo m m' : Nat} {A A' a : AV} {H H' : Heap} {names : List Str} (h : OwN gk A lo names H m a) (e : Ext gk A H m A' H' m') : OwN gk A' lo names H' m' a := by
  have hle := e.le
  obtain ⟨h1, h2⟩ := h
  cases h1 with
  | nil => exact ⟨.nil, fun y hy => by simp [owns] at hy⟩
  | row q0 q1 q2 =>
    rename_i ga
    have hg := h2 ga (by simp [owns])
    refine ⟨.row q0 (by omega) (by rw [e.keep _ q1 hg.1 hg.2]; exact q2), fun y hy => ?_⟩
    simp [owns] at hy
    subst hy
    exact ⟨hg.1, fun hy2 => (e.own _ hy2).elim hg.2 (by omega)⟩
theorem LkM.old {gk gm m m' : Nat} {fns : List (Str × Nat)} {vars : Int} {ws : List Str} {A : AV} {H H' : Heap} (h : LkM gk gm fns vars ws A H m) (hm : m ≤ m') (hk : ∀ y, y < m → H' y = H y) : LkM gk gm fns vars ws A H' m' := by
  have h1 := h.gg
  have h2 := h.gn
  exact ⟨by rw [hk _ h2]; exact h.row, h.wr.keep hm fun y _ hy => hk y hy, by rw [hk _ (by omega)]; exact h.map, h1, by omega⟩
theorem LkM.ownA {gk gm m : Nat} {fns : List (Str × Nat)} {vars : Int} {ws : List Str} {A : AV} {H : Heap} (h : LkM gk gm fns vars ws A H m) : ∀ y ∈ owns A, gk < y ∧ y < m := by
  intro y hy
  have := h.wr
  cases this with
  | nil => simp [owns] at hy
  | row h1 h2 h3 => simp [owns] at hy; omega
set_option maxHeartbeats 1000000 in
theorem zus {gk m : Nat} {A a : AV} {names : List Str} {H : Heap} {Q : QT} (hA : ∀ y ∈ owns A, y < m) (hgk : gk < m) (h : NmA gk A names H m a) (hl : names.length ≤ 4294967296)
    (hq : ∀ a' H' m', OwN gk A m names H' m' a' → m ≤ m' → (∀ y, y < m → H' y = H y) → Q a' H' m') : za Tryd.prog 53 [a] H m Q := by
  refine zek _ _ _ _ ?_
  have nilq : names = [] → Q .nils H m := fun e => by
    subst e
    exact hq .nils H m ⟨.nil, fun y hy => by simp [owns] at hy⟩ (Nat.le_refl _) fun _ _ => rfl
  have hh : (names.length : Nat) * 16 ≤ 140737488355328 := by omega
  have rl := zed (f := strC) (sz := 1) (fun _ => rfl) names
  have ones : ∀ x ∈ (names.map strC).flatten, x.one = true := by
    intro x hx
    obtain ⟨y, hy, hx⟩ := List.mem_flatten.1 hx
    obtain ⟨z, _, rfl⟩ := List.mem_map.1 hy
    rw [List.mem_singleton.1 hx]; rfl
  have rowq : ∀ H2, H2 (m + 1) = some (.row 1 (names.map strC).flatten) → (∀ y, y < m → H2 y = H y) → Q (.slc (m + 1) 0 names.length) H2 (m + 2) := fun H2 h1 h2 =>
    hq _ H2 (m + 2) ⟨.row (by omega) (by omega) h1, fun y hy => by
      simp [owns] at hy
      refine ⟨by omega, fun hy2 => ?_⟩
      have := hA y hy2
      omega⟩ (by omega) h2
  have ha := h.arg
  cases ha with
  | nils e => simp [zab]; exact nilq (by simpa using e)
  | ro =>
    have hsrc := zwe (H := H.put m (some (.row 1 []))) (zmf (l := names))
    simp [zab, hsrc]
    have o2 : ∀ x ∈ names, ∀ v ∈ strC x, v.one = true := fun x _ v hv => by rw [List.mem_singleton.1 hv]; rfl
    have q := rowq ((H.put m none).put (m + 1) (some (.row 1 (names.map strC).flatten))) (Heap.put_at _ _ _) fun y hy => by rw [Heap.put_ne _ _ (by omega), Heap.put_ne _ _ (by omega)]
    exact ⟨fun e => ⟨nilq e, o2, hh, q⟩, fun _ => ⟨o2, hh, q⟩⟩
  | slc g h1 h2 =>
    have hgm : ¬ g = m := by omega
    generalize hrr : (names.map strC).flatten = rr at *
    have h3 : rr.take names.length = rr := List.take_of_length_le (by omega)
    have h4 : names.length ≤ rr.length := by omega
    simp [zab, h2, hgm, h3, h4]
    have q := rowq ((H.put m none).put (m + 1) (some (.row 1 rr))) (Heap.put_at _ _ _) fun y hy => by rw [Heap.put_ne _ _ (by omega), Heap.put_ne _ _ (by omega)]
    exact ⟨fun e => ⟨nilq e, ones, hh, q⟩, fun _ => ⟨ones, hh, q⟩⟩
end Go.Proofs.YtpllgpgdcbgalaaDoor
set_option maxRecDepth 8000
namespace Go.Proofs.YtpllgpgdcbgalaaDoor
open Go Go.RowKit
namespace VM
mutual
def smW : Sm → Nat
  | .mk _ _ ar t e => 1 + exWL ar + smWL t + smWL e
def smWL : List Sm → Nat
  | [] => 0
  | x :: r => smW x + smWL r
end
end VM
def LBlC (gk gm : Nat) (fns : List (Str × Nat)) (l : List Sm) : Prop := ∀ (names : List Str) (vars : Int) (ws : List Str) (A a : AV) (H : Heap) (m : Nat) (Q : QT), LkM gk gm fns vars ws A H m → NmA gk A names H m a → ws.length + VM.smWL l ≤ 4294967296 → names.length + VM.smWL l ≤ 4294967296 → 0 ≤ vars → vars ≤ 8 →
  (∀ A' H' m', LkM gk gm fns (VM.smCL fns names l (vars, ws)).1.1 (VM.smCL fns names l (vars, ws)).1.2 A' H' m' → Ext gk A H m A' H' m' → Q (.int .i64 (VM.smCL fns names l (vars, ws)).2) H' m') → za Tryd.prog 34 [.ptr gk 0, .ro (l.map Sm.avs), a] H m Q
def VM.pairC (fns : List (Str × Nat)) (names : List Str) (t e : List Sm) (s : VM.ScS) : VM.ScS × Int := if (VM.smCL fns names t s).2 ≠ 0 then VM.smCL fns names t s else VM.smCL fns names e (VM.smCL fns names t s).1
set_option maxHeartbeats 1000000 in
theorem zvm {gk gm gp lo : Nat} {fns : List (Str × Nat)} {names : List Str} {t e : List Sm} (hT : LBlC gk gm fns t) (hE : LBlC gk gm fns e) {vars : Int} {ws : List Str} {A a L : AV} {H : Heap} {m len i : Nat} {Q : QT} {K : J3} (h : LkM gk gm fns vars ws A H m) (hn : OwN gk A lo names H m a) (hg : gp < m) (hg2 : gp ≠ gk) (hg3 : gp ∉ owns A) (hp : H gp = some (.row 1 [.ro (t.map Sm.avs), .ro (e.map Sm.avs)])) (hi : i < 4294967296)
    (hw : ws.length + VM.smWL t + VM.smWL e ≤ 4294967296) (hnl : names.length + VM.smWL t + VM.smWL e ≤ 4294967296) (hv : 0 ≤ vars) (hv8 : vars ≤ 8)
    (hmid : (VM.smCL fns names t (vars, ws)).2 = 0 → 0 ≤ (VM.smCL fns names t (vars, ws)).1.1 ∧ (VM.smCL fns names t (vars, ws)).1.1 ≤ 8 ∧ (VM.smCL fns names t (vars, ws)).1.2.length ≤ ws.length + VM.smWL t)
    (hbad : (VM.pairC fns names t e (vars, ws)).2 ≠ 0 → ∀ A' H' m', LkM gk gm fns (VM.pairC fns names t e (vars, ws)).1.1 (VM.pairC fns names t e (vars, ws)).1.2 A' H' m' → Ext gk A H m A' H' m' → Q (.int .i64 (VM.pairC fns names t e (vars, ws)).2) H' m')
    (hok : (VM.pairC fns names t e (vars, ws)).2 = 0 → ∀ A' H' m', LkM gk gm fns (VM.pairC fns names t e (vars, ws)).1.1 (VM.pairC fns names t e (vars, ws)).1.2 A' H' m' → Ext gk A H m A' H' m' → K [.ptr gk 0, L, a, .int .i64 len, .int .i64 ((i : Int) + 1)] H' m') :
    LP (zk Q K) [.ptr gk 0, L, a, .int .i64 len, .int .i64 i, .slc gp 0 2, .int .i64 2, .int .i64 0] H m := by
  have hwi : IntKind.i64.wrap ((i : Int) + 1) = (i : Int) + 1 := i64w (by omega)
  refine LP.mk (fun j xs H' m' => (j = 2 ∧ xs = [.ptr gk 0, L, a, .int .i64 len, .int .i64 i, .slc gp 0 2, .int .i64 2, .int .i64 0] ∧ H' = H ∧ m' = m)
    ∨ (j = 1 ∧ (VM.smCL fns names t (vars, ws)).2 = 0 ∧ xs = [.ptr gk 0, L, a, .int .i64 len, .int .i64 i, .slc gp 0 2, .int .i64 2, .int .i64 1] ∧ ∃ A', LkM gk gm fns (VM.smCL fns names t (vars, ws)).1.1 (VM.smCL fns names t (vars, ws)).1.2 A' H' m' ∧ Ext gk A H m A' H' m')
    ∨ (j = 0 ∧ (VM.pairC fns names t e (vars, ws)).2 = 0 ∧ xs = [.ptr gk 0, L, a, .int .i64 len, .int .i64 i, .slc gp 0 2, .int .i64 2, .int .i64 2] ∧ ∃ A', LkM gk gm fns (VM.pairC fns names t e (vars, ws)).1.1 (VM.pairC fns names t e (vars, ws)).1.2 A' H' m' ∧ Ext gk A H m A' H' m')) 2 (.inl ⟨rfl, rfl, rfl, rfl⟩) ?_
  rintro j xs H' m' hI
  generalize hJ : (fun (xs : List AV) (H' : Heap) (m' : Nat) => ∃ j', j' < j ∧ ((j' = 2 ∧ xs = [.ptr gk 0, L, a, .int .i64 len, .int .i64 i, .slc gp 0 2, .int .i64 2, .int .i64 0] ∧ H' = H ∧ m' = m)
    ∨ (j' = 1 ∧ (VM.smCL fns names t (vars, ws)).2 = 0 ∧ xs = [.ptr gk 0, L, a, .int .i64 len, .int .i64 i, .slc gp 0 2, .int .i64 2, .int .i64 1] ∧ ∃ A', LkM gk gm fns (VM.smCL fns names t (vars, ws)).1.1 (VM.smCL fns names t (vars, ws)).1.2 A' H' m' ∧ Ext gk A H m A' H' m')
    ∨ (j' = 0 ∧ (VM.pairC fns names t e (vars, ws)).2 = 0 ∧ xs = [.ptr gk 0, L, a, .int .i64 len, .int .i64 i, .slc gp 0 2, .int .i64 2, .int .i64 2] ∧ ∃ A', LkM gk gm fns (VM.pairC fns names t e (vars, ws)).1.1 (VM.pairC fns names t e (vars, ws)).1.2 A' H' m' ∧ Ext gk A H m A' H' m'))) = J
  rcases hI with ⟨rfl, rfl, rfl, rfl⟩ | ⟨rfl, h0, rfl, A', h', ex⟩ | ⟨rfl, h0, rfl, A', h', ex⟩
  · simp [zk, hp]
    refine hT names vars ws A a H' m' _ h hn.nma (by omega) (by omega) hv hv8 fun A2 H2 m2 h2 e2 => ?_
    by_cases hz : (VM.smCL fns names t (vars, ws)).2 = 0
    · simp [zl, hz]
      rw [← hJ]
      exact ⟨1, by omega, .inr (.inl ⟨rfl, hz, rfl, A2, h2, e2⟩)⟩
    · have ep : VM.pairC fns names t e (vars, ws) = VM.smCL fns names t (vars, ws) := by unfold VM.pairC; rw [if_pos hz]
      rw [ep] at hbad
      simp [zl, hz]
      exact hbad hz A2 H2 m2 h2 e2
  · have ep : VM.pairC fns names t e (vars, ws) = VM.smCL fns names e (VM.smCL fns names t (vars, ws)).1 := by unfold VM.pairC; rw [if_neg (by simpa using h0)]
    have hp' : H' gp = some (.row 1 [.ro (t.map Sm.avs), .ro (e.map Sm.avs)]) := by rw [ex.keep gp hg hg2 hg3]; exact hp
    obtain ⟨hm1, hm2, hm3⟩ := hmid h0
    simp [zk, hp']
    refine hE names _ _ A' a H' m' _ h' (hn.ext ex).nma (by omega) (by omega) hm1 hm2 fun A2 H2 m2 h2 e2 => ?_
    rw [← ep] at h2 ⊢
    by_cases hz : (VM.pairC fns names t e (vars, ws)).2 = 0
    · simp [zl, hz]
      rw [← hJ]
      exact ⟨0, by omega, .inr (.inr ⟨rfl, hz, rfl, A2, h2, ex.trans e2⟩)⟩
    · simp [zl, hz]
      exact hbad hz A2 H2 m2 h2 (ex.trans e2)
  · simp [zk, hwi]
    exact hok h0 A' H' m' h' ex
end Go.Proofs.YtpllgpgdcbgalaaDoor
set_option maxRecDepth 8000
namespace Go.Proofs.YtpllgpgdcbgalaaDoor
open Go Go.RowKit
namespace VM
def restC (fns : List (Str × Nat)) (names : List Str) (k : Int) (nm : Str) (t e : List Sm) (s : ScS) : ScS × Int × List Str :=
  if k = 1 ∧ nm ∈ names then (s, 7, names)
  else if k = 1 ∧ 8 < s.1 + 1 then ((s.1 + 1, s.2), 4, names)
  else if k = 2 ∧ nm ∉ names then (s, 6, names)
  else ((pairC fns (if k = 1 then names ++ [nm] else names) t e (if k = 1 then s.1 + 1 else s.1, s.2)).1, (pairC fns (if k = 1 then names ++ [nm] else names) t e (if k = 1 then s.1 + 1 else s.1, s.2)).2, if k = 1 then names ++ [nm] else names)
theorem smC_rest (fns : List (Str × Nat)) (names : List Str) (k : Int) (nm : Str) (ar : List Ex) (t e : List Sm) (s : ScS) : smC fns names (.mk k nm ar t e) s = if (exCL fns names ar s.2).2 ≠ 0 then ((s.1, (exCL fns names ar s.2).1), (exCL fns names ar s.2).2, names) else restC fns names k nm t e (s.1, (exCL fns names ar s.2).1) := by
  simp only [smC, restC, pairC]
  split
  · rfl
  · split
    · rfl
    · split
      · rfl
      · split
        · rfl
        · split <;> (split <;> rfl)
end VM
theorem RowS.keepO {α : Type} {f : α → List AV} {sz : Nat} {H H' : Heap} {lo hi hi' : Nat} {l : List α} {A : AV} (h : RowS f sz H lo hi l A) (hh : hi ≤ hi') (hk : ∀ y ∈ owns A, H' y = H y) : RowS f sz H' lo hi' l A := by
  cases h with
  | nil => exact .nil
  | row h1 h2 h4 => exact .row h1 (by omega) (by rw [hk _ (by simp [owns])]; exact h4)
theorem Ext.old {gk m0 m m' : Nat} {A0 A : AV} {H0 H H' : Heap} (h : Ext gk A0 H0 m0 A H m) (hm : m ≤ m') (hk : ∀ y, y < m0 → y ≠ gk → H' y = H y) : Ext gk A0 H0 m0 A H' m' := by
  have h1 := h.le
  exact ⟨by omega, fun y hy hne hno => by rw [hk y hy hne]; exact h.keep y hy hne hno, h.own⟩
structure BkS (gk gm : Nat) (fns : List (Str × Nat)) (A0 : AV) (H0 : Heap) (m0 : Nat) (names : List Str) (vars : Int) (ws : List Str) (A a : AV) (H : Heap) (m : Nat) : Prop where
  lk : LkM gk gm fns vars ws A H m
  nm : OwN gk A m0 names H m a
  ext : Ext gk A0 H0 m0 A H m
  gk0 : gk < m0
  v0 : 0 ≤ vars
  v8 : vars ≤ 8
def zlf (t e : List Sm) : AObj := .row 1 [.ro (t.map Sm.avs), .ro (e.map Sm.avs)]
set_option maxHeartbeats 1000000 in
theorem zii {gk gm m0 : Nat} {fns : List (Str × Nat)} {names : List Str} {t e : List Sm} (hT : LBlC gk gm fns t) (hE : LBlC gk gm fns e) {A0 : AV} {H0 : Heap} {vars : Int} {ws : List Str} {A a L : AV} {H : Heap} {m len i : Nat} {Q : QT} {K : J3} (h : BkS gk gm fns A0 H0 m0 names vars ws A a H m) (hi : i < 4294967296)
    (hw : ws.length + VM.smWL t + VM.smWL e ≤ 4294967296) (hnl : names.length + VM.smWL t + VM.smWL e ≤ 4294967296)
    (hmid : (VM.smCL fns names t (vars, ws)).2 = 0 → 0 ≤ (VM.smCL fns names t (vars, ws)).1.1 ∧ (VM.smCL fns names t (vars, ws)).1.1 ≤ 8 ∧ (VM.smCL fns names t (vars, ws)).1.2.length ≤ ws.length + VM.smWL t)
    (hbad : (VM.pairC fns names t e (vars, ws)).2 ≠ 0 → ∀ A' H' m', LkM gk gm fns (VM.pairC fns names t e (vars, ws)).1.1 (VM.pairC fns names t e (vars, ws)).1.2 A' H' m' → Ext gk A0 H0 m0 A' H' m' → Q (.int .i64 (VM.pairC fns names t e (vars, ws)).2) H' m')
    (hok : (VM.pairC fns names t e (vars, ws)).2 = 0 → ∀ A' H' m', LkM gk gm fns (VM.pairC fns names t e (vars, ws)).1.1 (VM.pairC fns names t e (vars, ws)).1.2 A' H' m' → Ext gk A0 H0 m0 A' H' m' → OwN gk A' m0 names H' m' a → K [.ptr gk 0, L, a, .int .i64 len, .int .i64 ((i : Int) + 1)] H' m') :
    LP (zk Q K) [.ptr gk 0, L, a, .int .i64 len, .int .i64 i, .slc m 0 2, .int .i64 2, .int .i64 0] (H.put m (some (zlf t e))) (m + 1) := by
  have hgn := h.lk.gn
  have hle := h.ext.le
  have hA := h.lk.ownA
  have keep : ∀ y, y < m → (H.put m (some (zlf t e))) y = H y := fun y hy => Heap.put_ne _ _ (by omega)
  have e1 : Ext gk A H m A (H.put m (some (zlf t e))) (m + 1) := ⟨by omega, fun y hy _ _ => keep y hy, fun y hy => .inl hy⟩
  refine zvm hT hE (h.lk.old (by omega) keep) (h.nm.ext e1) (by omega) (by omega) (fun hm => by have := hA m hm; omega) (Heap.put_at _ _ _) hi hw hnl h.v0 h.v8 hmid (fun hz A' H' m' h' e' => hbad hz A' H' m' h' ((h.ext.trans e1).trans e')) fun hz A' H' m' h' e' => hok hz A' H' m' h' ((h.ext.trans e1).trans e') ((h.nm.ext e1).ext e')
set_option maxHeartbeats 2000000 in
theorem zrv {gk gm m0 : Nat} {fns : List (Str × Nat)} {names : List Str} {k : Int} {nm : Str} {ar : List Ex} {t e : List Sm} (hT : LBlC gk gm fns t) (hE : LBlC gk gm fns e) {A0 : AV} {H0 : Heap} {vars : Int} {ws : List Str} {A a L : AV} {H : Heap} {m len i : Nat} {Q : QT} {K K15 : J3} (h : BkS gk gm fns A0 H0 m0 names vars ws A a H m) (hi : i < 4294967296)
    (hw : ws.length + VM.smWL t + VM.smWL e ≤ 4294967296) (hnl : names.length + 1 + VM.smWL t + VM.smWL e ≤ 4294967296)
    (hmid : ∀ names1 vars1, 0 ≤ vars1 → vars1 ≤ 8 → (VM.smCL fns names1 t (vars1, ws)).2 = 0 → 0 ≤ (VM.smCL fns names1 t (vars1, ws)).1.1 ∧ (VM.smCL fns names1 t (vars1, ws)).1.1 ≤ 8 ∧ (VM.smCL fns names1 t (vars1, ws)).1.2.length ≤ ws.length + VM.smWL t)
    (hbad : (VM.restC fns names k nm t e (vars, ws)).2.1 ≠ 0 → ∀ A' H' m', LkM gk gm fns (VM.restC fns names k nm t e (vars, ws)).1.1 (VM.restC fns names k nm t e (vars, ws)).1.2 A' H' m' → Ext gk A0 H0 m0 A' H' m' → Q (.int .i64 (VM.restC fns names k nm t e (vars, ws)).2.1) H' m')
    (hok : (VM.restC fns names k nm t e (vars, ws)).2.1 = 0 → ∀ A' a' H' m', LkM gk gm fns (VM.restC fns names k nm t e (vars, ws)).1.1 (VM.restC fns names k nm t e (vars, ws)).1.2 A' H' m' → Ext gk A0 H0 m0 A' H' m' → OwN gk A' m0 (VM.restC fns names k nm t e (vars, ws)).2.2 H' m' a' → K [.ptr gk 0, L, a', .int .i64 len, .int .i64 ((i : Int) + 1)] H' m') :
    zp Q K K15 [.ptr gk 0, L, a, .rop (Sm.mk k nm ar t e).avs 0, .int .i64 len, .int .i64 i, .int .i64 ar.length, .int .i64 ar.length] H m := by
  have lk := h.lk
  have row := lk.row
  have hgn := lk.gn
  have hpr : AObj.row 1 [.ro (t.map Sm.avs), .ro (e.map Sm.avs)] = zlf t e := rfl
  have hin := h.nm.nma.arg
  unfold VM.restC at hbad hok
  rw [zfx]
  by_cases h1 : k = 1
  · subst h1
    simp [zp]
    refine zft (by omega) hin ?_
    by_cases hn : nm ∈ names
    · rw [if_pos ⟨rfl, hn⟩] at hbad
      simp [zag, hn]
      exact hbad (by simp) A H m lk h.ext
    · rw [if_neg (by simp [hn])] at hbad hok
      have hv0 := h.v0
      have hv8 := h.v8
      have hwr : IntKind.i64.wrap (vars + 1) = vars + 1 := i64w (by omega)
      have hmap := lk.map
      have hgg := lk.gg
      have hle := h.ext.le
      have hA := lk.ownA
      by_cases hm : 8 < vars + 1
      · rw [if_pos ⟨rfl, hm⟩] at hbad
        simp [zag, hn, row, hwr, hm]
        refine hbad (by simp) A _ m ⟨Heap.put_at _ _ _, lk.wr.keep (Nat.le_refl _) fun y hy _ => Heap.put_ne _ _ (by omega), by rw [Heap.put_ne _ _ (by omega)]; exact hmap, hgg, hgn⟩ (h.ext.old (Nat.le_refl _) fun y _ hne => Heap.put_ne _ _ hne)
      · rw [if_neg (fun h => hm h.2), if_neg (by simp)] at hbad hok
        simp at hbad hok
        have nr := h.nm.row
        have nf := h.nm.far
        cases nr with
        | nil =>
          have ne_0 : gk ≠ gm ∧ gm ≠ gk ∧ gk ≠ m ∧ m ≠ gk ∧ gk ≠ m + 1 ∧ m + 1 ≠ gk ∧ gm ≠ m ∧ m ≠ gm ∧ gm ≠ m + 1 ∧ m + 1 ≠ gm := ⟨by omega, by omega, by omega, by omega, by omega, by omega, by omega, by omega, by omega, by omega⟩
          simp [zag, hn, row, hwr, hm, ne_0]
          simp only [hpr]
          have hB : BkS gk gm fns A0 H0 m0 ([] ++ [nm]) (vars + 1) ws A (.slc (m + 1) 0 1) (((H.put gk (some (.row 3 [.amap gm, .int .i64 (vars + 1), A]))).put m (some (.row 1 [.str nm]))).put (m + 1) (some (.row 1 [.str nm]))) (m + 2) := by
            refine ⟨⟨by rw [Heap.put_ne _ _ (by omega), Heap.put_ne _ _ (by omega), Heap.put_at], lk.wr.keepO (by omega) fun y hy => by have := hA y hy; rw [Heap.put_ne _ _ (by omega), Heap.put_ne _ _ (by omega), Heap.put_ne _ _ (by omega)], by rw [Heap.put_ne _ _ (by omega), Heap.put_ne _ _ (by omega), Heap.put_ne _ _ (by omega)]; exact hmap, hgg, by omega⟩, ⟨?_, fun y hy => ?_⟩, h.ext.old (by omega) fun y hy hne => by rw [Heap.put_ne _ _ (by omega), Heap.put_ne _ _ (by omega), Heap.put_ne _ _ hne], h.gk0, by omega, by omega⟩
            · exact RowS.row (l := [nm]) (by omega) (by omega) (Heap.put_at _ _ _)
            · simp [owns] at hy
              exact ⟨by omega, fun hy2 => by have := hA y hy2; omega⟩
          exact zii hT hE hB hi hw (by simp at hnl ⊢; omega) (hmid _ _ (by omega) (by omega)) hbad fun hz A' H' m' q1 q2 q3 => hok hz A' _ H' m' q1 q2 q3
        | @row names ga a1 a2 a3 =>
          have hga := nf ga (by simp [owns])
          have hgm : ga ≠ gm := by have := h.gk0; omega
          have rl := zed (f := strC) (sz := 1) (fun _ => rfl) names
          have hb16 : (names.length + 1) * 16 ≤ 140737488355328 := by omega
          generalize hrr : (names.map strC).flatten = rr at rl a3
          have h3 : rr.take names.length = rr := List.take_of_length_le (by omega)
          have hgk := hga.1
          have ne_1 : gk ≠ gm ∧ gm ≠ gk ∧ gk ≠ ga ∧ ga ≠ gk ∧ gm ≠ ga ∧ ga ≠ gm ∧ gk ≠ m ∧ m ≠ gk ∧ gk ≠ m + 1 ∧ m + 1 ≠ gk ∧ gm ≠ m ∧ m ≠ gm ∧ gm ≠ m + 1 ∧ m + 1 ≠ gm ∧ ga ≠ m ∧ m ≠ ga ∧ ga ≠ m + 1 ∧ m + 1 ≠ ga := ⟨by omega, by omega, by omega, by omega, by omega, by omega, by omega, by omega, by omega, by omega, by omega, by omega, by omega, by omega, by omega, by omega, by omega, by omega⟩
          simp [zag, hn, row, hwr, hm, a3, rl, hb16, h3, ne_1]
          simp only [hpr]
          have hB : BkS gk gm fns A0 H0 m0 (names ++ [nm]) (vars + 1) ws A (.slc (m + 1) 0 (names.length + 1)) ((((H.put gk (some (.row 3 [.amap gm, .int .i64 (vars + 1), A]))).put m (some (.row 1 [.str nm]))).put ga none).put (m + 1) (some (.row 1 (rr ++ [.str nm])))) (m + 2) := by
            refine ⟨⟨by rw [Heap.put_ne _ _ (by omega), Heap.put_ne _ _ (by omega), Heap.put_ne _ _ (by omega), Heap.put_at], lk.wr.keepO (by omega) fun y hy => by have := hA y hy; have hyg : y ≠ ga := (fun e => hga.2 (by rw [← e]; exact hy)); rw [Heap.put_ne _ _ (by omega), Heap.put_ne _ _ hyg, Heap.put_ne _ _ (by omega), Heap.put_ne _ _ (by omega)], by rw [Heap.put_ne _ _ (by omega), Heap.put_ne _ _ (by omega), Heap.put_ne _ _ (by omega), Heap.put_ne _ _ (by omega)]; exact hmap, hgg, by omega⟩, ⟨?_, fun y hy => ?_⟩, h.ext.old (by omega) fun y hy hne => by rw [Heap.put_ne _ _ (by omega), Heap.put_ne _ _ (by omega), Heap.put_ne _ _ (by omega), Heap.put_ne _ _ hne], h.gk0, by omega, by omega⟩
            · have := RowS.row (f := strC) (sz := 1) (H := (((H.put gk (some (.row 3 [.amap gm, .int .i64 (vars + 1), A]))).put m (some (.row 1 [.str nm]))).put ga none).put (m + 1) (some (.row 1 (rr ++ [.str nm])))) (lo := m0) (hi := m + 2) (l := names ++ [nm]) (ga := m + 1) (by omega) (by omega) (by rw [Heap.put_at, zby, hrr]; rfl)
              rw [List.length_append] at this
              exact this
            · simp [owns] at hy
              exact ⟨by omega, fun hy2 => by have := hA y hy2; omega⟩
          exact zii hT hE hB hi hw (by simp at hnl ⊢; omega) (hmid _ _ (by omega) (by omega)) hbad fun hz A' H' m' q1 q2 q3 => hok hz A' _ H' m' q1 q2 q3
  · by_cases h2 : k = 2
    · subst h2
      simp [zp]
      refine zft (by omega) hin ?_
      by_cases hn : nm ∈ names
      · rw [if_neg (by simp), if_neg (by simp), if_neg (by simp [hn])] at hbad hok
        simp [zbu, hn]
        simp only [hpr]
        simp at hbad hok
        exact zii hT hE h hi hw (by omega) (hmid names vars h.v0 h.v8) hbad fun hz A' H' m' q1 q2 q3 => hok hz A' a H' m' q1 q2 q3
      · rw [if_neg (by simp), if_neg (by simp), if_pos ⟨rfl, hn⟩] at hbad
        simp [zbu, hn]
        exact hbad (by simp) A H m lk h.ext
    · rw [if_neg (fun h => h1 h.1), if_neg (fun h => h1 h.1), if_neg (fun h => h2 h.1), if_neg h1, if_neg h1] at hbad hok
      simp [zp, h1, h2]
      simp only [hpr]
      simp only at hbad hok
      exact zii hT hE h hi hw (by omega) (hmid names vars h.v0 h.v8) hbad fun hz A' H' m' q1 q2 q3 => hok hz A' a H' m' q1 q2 q3
end Go.Proofs.YtpllgpgdcbgalaaDoor
set_option maxRecDepth 8000
namespace Go.Proofs.YtpllgpgdcbgalaaDoor
open Go Go.RowKit
namespace VM
def Good (s s' : ScS) (w : Nat) : Prop := 0 ≤ s'.1 ∧ s'.1 ≤ 8 ∧ s'.2.length ≤ s.2.length + w
mutual
theorem smC_good (fns : List (Str × Nat)) : ∀ (x : Sm) (names : List Str) (s : ScS), 0 ≤ s.1 → s.1 ≤ 8 → (smC fns names x s).2.1 = 0 → Good s (smC fns names x s).1 (smW x) ∧ (smC fns names x s).2.2.length ≤ names.length + 1
  | .mk k nm ar t e, names, s, h0, h8, hz => by
    have ha := exCL_le fns names ar s.2
    rw [smC_rest] at hz ⊢
    unfold restC at hz ⊢
    split at hz
    · rename_i h; exact absurd hz h
    · rename_i hx
      rw [if_neg hx]
      split at hz
      · cases hz
      · rename_i c1
        rw [if_neg c1]
        split at hz
        · cases hz
        · rename_i c2
          rw [if_neg c2]
          split at hz
          · cases hz
          · rename_i c3
            rw [if_neg c3]
            have hv : 0 ≤ (if k = 1 then s.1 + 1 else s.1) ∧ (if k = 1 then s.1 + 1 else s.1) ≤ 8 := by
              split
              · rename_i hk
                have : ¬ 8 < s.1 + 1 := fun h => c2 ⟨hk, h⟩
                omega
              · omega
            have hn : (if k = 1 then names ++ [nm] else names).length ≤ names.length + 1 := by
              split
              · rw [List.length_append]; simp
              · omega
            generalize (if k = 1 then s.1 + 1 else s.1) = v at *
            generalize (if k = 1 then names ++ [nm] else names) = nms at *
            simp only at hz ⊢
            refine ⟨?_, hn⟩
            unfold pairC at hz ⊢
            split at hz
            · rename_i h; exact absurd hz h
            · rename_i ht
              rw [if_neg ht]
              have g1 := smCL_good fns t nms (v, (exCL fns names ar s.2).1) hv.1 hv.2 (by simpa using ht)
              have g2 := smCL_good fns e nms _ g1.1 g1.2.1 hz
              unfold smW
              exact ⟨g2.1, g2.2.1, by have := g2.2.2; have := g1.2.2; simp only at *; omega⟩
theorem smCL_good (fns : List (Str × Nat)) : ∀ (l : List Sm) (names : List Str) (s : ScS), 0 ≤ s.1 → s.1 ≤ 8 → (smCL fns names l s).2 = 0 → Good s (smCL fns names l s).1 (smWL l)
  | [], names, s, h0, h8, hz => by unfold smCL smWL; exact ⟨h0, h8, by simp⟩
  | x :: r, names, s, h0, h8, hz => by
    unfold smCL at hz ⊢
    split at hz
    · rename_i h; exact absurd hz h
    · rename_i h
      rw [if_neg h]
      have g1 := (smC_good fns x names s h0 h8 (by simpa using h)).1
      have g2 := smCL_good fns r (smC fns names x s).2.2 _ g1.1 g1.2.1 hz
      unfold smWL
      exact ⟨g2.1, g2.2.1, by have := g2.2.2; have := g1.2.2; omega⟩
end
end VM
end Go.Proofs.YtpllgpgdcbgalaaDoor
set_option maxRecDepth 8000
namespace Go.Proofs.YtpllgpgdcbgalaaDoor
open Go Go.RowKit
set_option maxHeartbeats 2000000 in
theorem zvf {gk gm m0 : Nat} {fns : List (Str × Nat)} {names : List Str} {k : Int} {nm : Str} {ar : List Ex} {t e : List Sm} (hT : LBlC gk gm fns t) (hE : LBlC gk gm fns e) {A0 : AV} {H0 : Heap} {vars : Int} {ws : List Str} {A a L : AV} {H : Heap} {m len i : Nat} {Q : QT} {K : J3} (h : BkS gk gm fns A0 H0 m0 names vars ws A a H m) (hi : i < 4294967296)
    (hw : ws.length + VM.smW (.mk k nm ar t e) ≤ 4294967296) (hnl : names.length + VM.smW (.mk k nm ar t e) ≤ 4294967296)
    (hbad : (VM.smC fns names (.mk k nm ar t e) (vars, ws)).2.1 ≠ 0 → ∀ A' H' m', LkM gk gm fns (VM.smC fns names (.mk k nm ar t e) (vars, ws)).1.1 (VM.smC fns names (.mk k nm ar t e) (vars, ws)).1.2 A' H' m' → Ext gk A0 H0 m0 A' H' m' → Q (.int .i64 (VM.smC fns names (.mk k nm ar t e) (vars, ws)).2.1) H' m')
    (hok : (VM.smC fns names (.mk k nm ar t e) (vars, ws)).2.1 = 0 → ∀ A' a' H' m', LkM gk gm fns (VM.smC fns names (.mk k nm ar t e) (vars, ws)).1.1 (VM.smC fns names (.mk k nm ar t e) (vars, ws)).1.2 A' H' m' → Ext gk A0 H0 m0 A' H' m' → OwN gk A' m0 (VM.smC fns names (.mk k nm ar t e) (vars, ws)).2.2 H' m' a' → K [.ptr gk 0, L, a', .int .i64 len, .int .i64 ((i : Int) + 1)] H' m') :
    LP (zp Q K) [.ptr gk 0, L, a, .rop (Sm.mk k nm ar t e).avs 0, .int .i64 len, .int .i64 i, .int .i64 ar.length, .int .i64 0] H m := by
  simp only [VM.smW] at hw hnl
  have hlen := VM.len_exWL ar
  rw [VM.smC_rest] at hbad hok
  refine LP.mk (fun j xs H' m' => ∃ (q : Nat) (ws' : List Str) (A' : AV), q + j = ar.length ∧ xs = [.ptr gk 0, L, a, .rop (Sm.mk k nm ar t e).avs 0, .int .i64 len, .int .i64 i, .int .i64 ar.length, .int .i64 q] ∧ BkS gk gm fns A0 H0 m0 names vars ws' A' a H' m' ∧ ws'.length + VM.exWL (ar.drop q) ≤ ws.length + VM.exWL ar ∧ VM.exCL fns names ar ws = VM.exCL fns names (ar.drop q) ws') ar.length ⟨0, ws, A, by omega, rfl, h, by simp, by simp⟩ ?_
  rintro j xs H' m' ⟨q, ws', A', hqj, rfl, h', hw', hgo⟩
  generalize hJ : (fun (xs : List AV) (H' : Heap) (m' : Nat) => ∃ j', j' < j ∧ ∃ (q : Nat) (ws' : List Str) (A' : AV), q + j' = ar.length ∧ xs = [.ptr gk 0, L, a, .rop (Sm.mk k nm ar t e).avs 0, .int .i64 len, .int .i64 i, .int .i64 ar.length, .int .i64 q] ∧ BkS gk gm fns A0 H0 m0 names vars ws' A' a H' m' ∧ ws'.length + VM.exWL (ar.drop q) ≤ ws.length + VM.exWL ar ∧ VM.exCL fns names ar ws = VM.exCL fns names (ar.drop q) ws') = J
  cases j with
  | zero =>
    have eq : q = ar.length := by omega
    subst eq
    rw [List.drop_length] at hgo hw'
    have e0 : VM.exCL fns names [] ws' = (ws', 0) := by simp only [VM.exCL]
    simp only [VM.exWL] at hw'
    rw [hgo, e0, if_neg (show ¬ ((ws', (0 : Int)).2 ≠ 0) by simp)] at hbad hok
    exact zrv hT hE h' hi (by omega) (by omega) (fun nms v h0 h8 hz => VM.smCL_good fns t nms (v, ws') h0 h8 hz) hbad hok
  | succ j =>
    have hlt : q < ar.length := by omega
    have hx : ar[q]? = some ar[q] := List.getElem?_eq_getElem hlt
    have hdr : ar.drop q = ar[q] :: ar.drop (q + 1) := List.drop_eq_getElem_cons hlt
    have hxl := zdp ar[q]
    have hwi : IntKind.i64.wrap ((q : Int) + 1) = (q : Int) + 1 := i64w (by omega)
    rw [hdr] at hgo hw'
    simp only [VM.exCL, VM.exWL] at hgo hw'
    rw [zfx]
    simp [zp, hlt, hxl]
    refine zoz (by omega) ar[q] vars ws' A' a H' m' _ h'.lk h'.nm.nma (by omega) fun A2 H2 m2 h2 e2 => ?_
    have hle := VM.exC_le fns names ar[q] ws'
    by_cases hz : (VM.exC fns names ar[q] ws').2 = 0
    · rw [if_neg (by simpa using hz)] at hgo
      simp [zl, hz, hwi]
      rw [← hJ, zfx]
      exact ⟨j, by omega, q + 1, _, _, by omega, rfl, ⟨h2, h'.nm.ext e2, h'.ext.trans e2, h'.gk0, h'.v0, h'.v8⟩, by omega, hgo⟩
    · rw [if_pos hz] at hgo
      rw [hgo, if_pos hz] at hbad
      simp [zl, hz]
      exact hbad hz A2 H2 m2 h2 (h'.ext.trans e2)
set_option maxHeartbeats 2000000 in
theorem zst {gk gm : Nat} {fns : List (Str × Nat)} {l : List Sm} (hS : ∀ x ∈ l, ∀ k nm ar t e, x = .mk k nm ar t e → LBlC gk gm fns t ∧ LBlC gk gm fns e) (hl : l.length ≤ VM.smWL l) : LBlC gk gm fns l := by
  intro names vars ws A a H m Q h hn hw hnl h0 h8 hq
  refine zhl _ _ _ _ _ _ ?_
  unfold zef
  have hgn := h.gn
  refine zus (gk := gk) (A := A) (fun y hy => (h.ownA y hy).2) hgn hn (by omega) fun a' H1 m1 hn1 hm1 hk1 => ?_
  have e1 : Ext gk A H m A H1 m1 := ⟨hm1, fun y hy _ _ => hk1 y hy, fun y hy => .inl hy⟩
  have b1 : BkS gk gm fns A H m names vars ws A a' H1 m1 := ⟨h.old hm1 hk1, hn1, e1, hgn, h0, h8⟩
  simp [zeg]
  refine LP.mk (fun j xs H' m' => ∃ (i : Nat) (nms : List Str) (v : Int) (ws' : List Str) (A' a2 : AV), i + j = l.length ∧ xs = [.ptr gk 0, .ro (l.map Sm.avs), a2, .int .i64 l.length, .int .i64 i] ∧ BkS gk gm fns A H m nms v ws' A' a2 H' m' ∧ ws'.length + VM.smWL (l.drop i) ≤ 4294967296 ∧ nms.length + VM.smWL (l.drop i) ≤ 4294967296 ∧ VM.smCL fns names l (vars, ws) = VM.smCL fns nms (l.drop i) (v, ws')) l.length ⟨0, names, vars, ws, A, a', by omega, rfl, b1, by simpa using hw, by simpa using hnl, by simp⟩ ?_
  rintro j xs H' m' ⟨i, nms, v, ws', A', a2, hij, rfl, b', hw', hn', hgo⟩
  generalize hJ : (fun (xs : List AV) (H' : Heap) (m' : Nat) => ∃ j', j' < j ∧ ∃ (i : Nat) (nms : List Str) (v : Int) (ws' : List Str) (A' a2 : AV), i + j' = l.length ∧ xs = [.ptr gk 0, .ro (l.map Sm.avs), a2, .int .i64 l.length, .int .i64 i] ∧ BkS gk gm fns A H m nms v ws' A' a2 H' m' ∧ ws'.length + VM.smWL (l.drop i) ≤ 4294967296 ∧ nms.length + VM.smWL (l.drop i) ≤ 4294967296 ∧ VM.smCL fns names l (vars, ws) = VM.smCL fns nms (l.drop i) (v, ws')) = J
  cases j with
  | zero =>
    have ei : i = l.length := by omega
    subst ei
    rw [List.drop_length] at hgo
    rw [hgo] at hq
    simp only [VM.smCL] at hq
    simp [zbt]
    exact hq A' H' m' b'.lk b'.ext
  | succ j =>
    have hlt : i < l.length := by omega
    have hdr : l.drop i = l[i] :: l.drop (i + 1) := List.drop_eq_getElem_cons hlt
    have hxl := zkl l[i]
    rw [hdr] at hgo hw' hn'
    simp only [VM.smCL, VM.smWL] at hgo hw' hn'
    have hS' := hS l[i] (List.getElem_mem hlt)
    simp [zbt, hlt, hxl]
    generalize l[i] = x at *
    obtain ⟨k, nm, ar, t, e⟩ := x
    obtain ⟨hT, hE⟩ := hS' k nm ar t e rfl
    have hsa := zfx k nm ar t e
    have h2 : ∀ hh : 2 < (Sm.mk k nm ar t e).avs.length, (Sm.mk k nm ar t e).avs[2]'hh = .ro (ar.map Ex.avs) := by
      rw [hsa]; intro hh; rfl
    rw [h2]
    simp
    refine zvf hT hE b' (by omega) (by omega) (by omega) (fun hz A2 H2 m2 q1 q2 => ?_) fun hz A2 a3 H2 m2 q1 q2 q3 => ?_
    · rw [if_pos hz] at hgo
      rw [hgo] at hq
      exact hq A2 H2 m2 q1 q2
    · rw [if_neg (by simpa using hz)] at hgo
      have g := VM.smC_good fns (.mk k nm ar t e) nms (v, ws') b'.v0 b'.v8 hz
      have hp : 1 ≤ VM.smW (.mk k nm ar t e) := by unfold VM.smW; omega
      rw [← hJ]
      exact ⟨j, by omega, i + 1, _, _, _, A2, a3, by omega, rfl, ⟨q1, q3, q2, b'.gk0, g.1.1, g.1.2.1⟩, by have := g.1.2.2; simp only at this; omega, by have := g.2; omega, hgo⟩
theorem zvj : ∀ x : Sm, 1 ≤ VM.smW x
  | .mk _ _ _ _ _ => by unfold VM.smW; omega
theorem zpa : ∀ l : List Sm, l.length ≤ VM.smWL l
  | [] => by simp
  | x :: r => by have := zvj x; have := zpa r; unfold VM.smWL; rw [List.length_cons]; omega
def SubC (gk gm : Nat) (fns : List (Str × Nat)) : Sm → Prop
  | .mk _ _ _ t e => LBlC gk gm fns t ∧ LBlC gk gm fns e
theorem zmm {gk gm : Nat} {fns : List (Str × Nat)} {l : List Sm} (h : ∀ x ∈ l, SubC gk gm fns x) : LBlC gk gm fns l :=
  zst (fun x hx k nm ar t e hh => by have := h x hx; rw [hh] at this; exact this) (zpa l)
mutual
theorem zwd (gk gm : Nat) (fns : List (Str × Nat)) : ∀ x : Sm, SubC gk gm fns x
  | .mk _ _ _ t e => ⟨zmm (zle gk gm fns t), zmm (zle gk gm fns e)⟩
theorem zle (gk gm : Nat) (fns : List (Str × Nat)) : ∀ l : List Sm, ∀ x ∈ l, SubC gk gm fns x
  | [], x, h => absurd h (by simp)
  | y :: r, x, h => (List.mem_cons.1 h).elim (fun e => e ▸ zwd gk gm fns y) fun h => zle gk gm fns r x h
end
theorem zuv (gk gm : Nat) (fns : List (Str × Nat)) (l : List Sm) : LBlC gk gm fns l := zmm (zle gk gm fns l)
end Go.Proofs.YtpllgpgdcbgalaaDoor
set_option maxRecDepth 8000
namespace Go.Proofs.YtpllgpgdcbgalaaDoor
open Go Go.RowKit
def zbo : List Fnc → Nat
  | [] => 0
  | f :: r => f.params.length + VM.smWL f.body + zbo r
set_option maxHeartbeats 2000000 in
theorem zuu {gk gm : Nat} {fns : List (Str × Nat)} {l : List Fnc} {vars : Int} {A : AV} {H : Heap} {m : Nat} {Q : QT} (h : LkM gk gm fns vars [] A H m) (hw : zbo l ≤ 4294967296) (hp : ∀ f ∈ l, f.params.length ≤ 4) (hl : l.length ≤ 4294967296)
    (hbad : (VM.bodiesC fns l []).2 ≠ 0 → ∀ H' m', (∀ y, y < gm → H' y = H y) → Q (.int .i64 (VM.bodiesC fns l []).2) H' m')
    (hok : (VM.bodiesC fns l []).2 = 0 → ∀ H' m', (∀ y, y < gm → H' y = H y) → Q (.int .i64 (if 16 < (VM.bodiesC fns l []).1.length then 4 else 0)) H' m') :
    LP (zbb Q) [.ptr gk 0, .ro (l.map Fnc.avs), .int .i64 l.length, .int .i64 0] H m := by
  refine LP.mk (fun j xs H' m' => ∃ (i : Nat) (ws' : List Str) (v : Int) (A' : AV), i + j = l.length ∧ xs = [.ptr gk 0, .ro (l.map Fnc.avs), .int .i64 l.length, .int .i64 i] ∧ LkM gk gm fns v ws' A' H' m' ∧ (∀ y, y < gm → H' y = H y) ∧ ws'.length + zbo (l.drop i) ≤ 4294967296 ∧ VM.bodiesC fns l [] = VM.bodiesC fns (l.drop i) ws') l.length ⟨0, [], vars, A, by omega, rfl, h, fun _ _ => rfl, by simpa using hw, by simp⟩ ?_
  rintro j xs H' m' ⟨i, ws', v, A', hij, rfl, h', hk, hw', hgo⟩
  generalize hJ : (fun (xs : List AV) (H' : Heap) (m' : Nat) => ∃ j', j' < j ∧ ∃ (i : Nat) (ws' : List Str) (v : Int) (A' : AV), i + j' = l.length ∧ xs = [.ptr gk 0, .ro (l.map Fnc.avs), .int .i64 l.length, .int .i64 i] ∧ LkM gk gm fns v ws' A' H' m' ∧ (∀ y, y < gm → H' y = H y) ∧ ws'.length + zbo (l.drop i) ≤ 4294967296 ∧ VM.bodiesC fns l [] = VM.bodiesC fns (l.drop i) ws') = J
  have row := h'.row
  cases j with
  | zero =>
    have ei : i = l.length := by omega
    subst ei
    rw [List.drop_length] at hgo
    have e0 : VM.bodiesC fns [] ws' = (ws', 0) := rfl
    rw [hgo, e0] at hok
    have hln := fun k => h'.wr.lnl (k := k)
    by_cases h16 : 16 < ws'.length
    · have h16' : (16 : Int) < ws'.length := by omega
      have := hok rfl H' m' hk
      simp only at this
      rw [if_pos h16] at this
      simp [zbb, row, hln, h16', this]
    · have h16' : ¬ (16 : Int) < ws'.length := by omega
      have := hok rfl H' m' hk
      simp only at this
      rw [if_neg h16] at this
      simp [zbb, row, hln, h16', this]
  | succ j =>
    have hlt : i < l.length := by omega
    have hdr : l.drop i = l[i] :: l.drop (i + 1) := List.drop_eq_getElem_cons hlt
    have hf4 := hp l[i] (List.getElem_mem hlt)
    rw [hdr] at hgo hw'
    simp only [VM.bodiesC, zbo] at hgo hw'
    have hgn := h'.gn
    have hgg := h'.gg
    simp [zbb, hlt, znm]
    generalize l[i] = f at *
    obtain ⟨fnm, ps, body⟩ := f
    dsimp only [Fnc.avs]
    have ne_0 : gk ≠ gm ∧ gm ≠ gk ∧ gk ≠ m' ∧ m' ≠ gk ∧ gm ≠ m' ∧ m' ≠ gm := ⟨by omega, by omega, by omega, by omega, by omega, by omega⟩
    simp [row, ne_0]
    show LNL (.ro (ps.map strC)) _
    simp
    have hA := h'.ownA
    have hL : LkM gk gm fns (ps.length : Int) ws' A' ((H'.put m' (some (.row 3 [.str fnm, .ro (ps.map strC), .ro (body.map Sm.avs)]))).put gk (some (.row 3 [.amap gm, .int .i64 (ps.length : Int), A']))) (m' + 1) :=
      ⟨Heap.put_at _ _ _, h'.wr.keepO (by omega) fun y hy => by have := hA y hy; rw [Heap.put_ne _ _ (by omega), Heap.put_ne _ _ (by omega)], by rw [Heap.put_ne _ _ (by omega), Heap.put_ne _ _ (by omega)]; exact h'.map, hgg, by omega⟩
    have hkk : ∀ y, y < gm → ((H'.put m' (some (.row 3 [.str fnm, .ro (ps.map strC), .ro (body.map Sm.avs)]))).put gk (some (.row 3 [.amap gm, .int .i64 (ps.length : Int), A']))) y = H y := fun y hy => by rw [Heap.put_ne _ _ (by omega), Heap.put_ne _ _ (by omega)]; exact hk y hy
    have hE : za Tryd.prog 34 [.ptr gk 0, .ro (body.map Sm.avs), .ro (ps.map strC)] ((H'.put m' (some (.row 3 [.str fnm, .ro (ps.map strC), .ro (body.map Sm.avs)]))).put gk (some (.row 3 [.amap gm, .int .i64 (ps.length : Int), A']))) (m' + 1) (zda Q [.ptr gk 0, .ro (l.map Fnc.avs), .int .i64 l.length, .int .i64 i] J) := by
      generalize Heap.put (Heap.put H' m' _) gk _ = HX at hL hkk ⊢
      simp only at hf4 hw' hgo
      refine zuv gk gm fns body ps (ps.length : Int) ws' A' (.ro (ps.map strC)) HX (m' + 1) _ hL ⟨.ro, fun y hy => by simp [owns] at hy⟩ (by omega) (by omega) (by omega) (by omega) fun A2 H2 m2 h2 e2 => ?_
      have hwi : IntKind.i64.wrap ((i : Int) + 1) = (i : Int) + 1 := i64w (by omega)
      have hk2 : ∀ y, y < gm → H2 y = H y := fun y hy => by rw [e2.keep y (by omega) (by omega) (fun hy2 => by have := hA y hy2; omega)]; exact hkk y hy
      by_cases hz : (VM.smCL fns ps body ((ps.length : Int), ws')).2 = 0
      · rw [if_neg (by simpa using hz)] at hgo
        have g := VM.smCL_good fns body ps ((ps.length : Int), ws') (by simp only; omega) (by simp only; omega) hz
        simp [zda, hz, hwi]
        rw [← hJ]
        exact ⟨j, by omega, i + 1, _, _, A2, by omega, rfl, h2, hk2, by have := g.2.2; simp only at this; omega, hgo⟩
      · rw [if_pos hz] at hgo
        rw [hgo] at hbad
        simp [zda, hz]
        exact hbad hz H2 m2 hk2
    exact hE
end Go.Proofs.YtpllgpgdcbgalaaDoor
set_option maxRecDepth 8000
namespace Go.Proofs.YtpllgpgdcbgalaaDoor
open Go Go.RowKit
theorem znx : ∀ {l : List Fnc} {f : Fnc}, f ∈ l → f.params.length ≤ zbo l
  | g :: r, f, h => by
    unfold zbo
    rcases List.mem_cons.1 h with rfl | h
    · omega
    · have := znx h; omega
set_option maxHeartbeats 2000000 in
theorem zut {gk gm : Nat} {f0 : Fnc} {l0 l : List Fnc} (hl0 : l = f0 :: l0) {H : Heap} {m : Nat} {Q : QT} (h : LkM gk gm [] 0 [] .nils H m) (hw : zbo l ≤ 4294967296) (hl : l.length ≤ 5)
    (hq : ∀ H' m', (∀ y, y < gm → H' y = H y) → Q (.int .i64 (VM.checkC l)) H' m') :
    LP (zcz Q) [.ro (l.map Fnc.avs), .ptr gk 0, .ro (l.map Fnc.avs), .int .i64 l.length, .int .i64 0] H m := by
  refine LP.mk (fun j xs H' m' => ∃ (i : Nat) (fns : List (Str × Nat)), i + j = l.length ∧ xs = [.ro (l.map Fnc.avs), .ptr gk 0, .ro (l.map Fnc.avs), .int .i64 l.length, .int .i64 i] ∧ LkM gk gm fns 0 [] .nils H' m' ∧ (∀ y, y < gm → H' y = H y) ∧ (∀ f ∈ l.take i, f.params.length ≤ 4) ∧ VM.fnsC [] l = VM.fnsC fns (l.drop i)) l.length ⟨0, [], by omega, rfl, h, fun _ _ => rfl, by simp, by simp⟩ ?_
  rintro j xs H' m' ⟨i, fns, hij, rfl, h', hk, h4, hgo⟩
  generalize hJ : (fun (xs : List AV) (H' : Heap) (m' : Nat) => ∃ j', j' < j ∧ ∃ (i : Nat) (fns : List (Str × Nat)), i + j' = l.length ∧ xs = [.ro (l.map Fnc.avs), .ptr gk 0, .ro (l.map Fnc.avs), .int .i64 l.length, .int .i64 i] ∧ LkM gk gm fns 0 [] .nils H' m' ∧ (∀ y, y < gm → H' y = H y) ∧ (∀ f ∈ l.take i, f.params.length ≤ 4) ∧ VM.fnsC [] l = VM.fnsC fns (l.drop i)) = J
  have hcheck : ∀ z, z ≠ 0 → (VM.fnsC [] l).2 = z → VM.checkC l = z := by
    intro z hz e
    subst hl0
    unfold VM.checkC
    simp only
    rw [if_neg (by simp only [List.length_cons] at hl; omega), if_pos (by rw [e]; exact hz), e]
  have row := h'.row
  have hmap := h'.map
  have hgn := h'.gn
  have hgg := h'.gg
  cases j with
  | zero =>
    have ei : i = l.length := by omega
    subst ei
    rw [List.drop_length] at hgo
    rw [List.take_length] at h4
    have e0 : VM.fnsC fns [] = (fns, 0) := rfl
    rw [e0] at hgo
    subst hl0
    have hc : VM.checkC (f0 :: l0) = if 0 < f0.params.length then 10 else if (VM.bodiesC fns (f0 :: l0) []).2 ≠ 0 then (VM.bodiesC fns (f0 :: l0) []).2 else if 16 < (VM.bodiesC fns (f0 :: l0) []).1.length then 4 else 0 := by
      unfold VM.checkC
      simp only
      rw [if_neg (by simp only [List.length_cons] at hl; omega), hgo, if_neg (by simp)]
    rw [hc] at hq
    simp [zcz]
    refine ⟨znm f0, ?_⟩
    show OPTK (some (AV.ro (f0.params.map strC))) _
    simp
    by_cases hp0 : 0 < f0.params.length
    · rw [if_pos hp0] at hq
      have hne : ¬ f0.params = [] := fun e => by rw [e] at hp0; simp at hp0
      have := hq H' m' hk
      simp [hp0, hne]
      exact this
    · rw [if_neg hp0] at hq
      have hnil : f0.params = [] := List.length_eq_zero_iff.1 (by omega)
      have hfin : LP (zbb Q) [.ptr gk 0, .ro ((f0 :: l0).map Fnc.avs), .int .i64 (f0 :: l0).length, .int .i64 0] H' m' :=
        zuu h' hw h4 (by omega) (fun hz H2 m2 hk2 => by
          have := hq H2 m2 fun y hy => (hk2 y hy).trans (hk y hy)
          rw [if_pos hz] at this
          exact this) fun hz H2 m2 hk2 => by
          have := hq H2 m2 fun y hy => (hk2 y hy).trans (hk y hy)
          rw [if_neg (by simpa using hz)] at this
          exact this
      simp [hnil]
      simp at hfin
      exact hfin
  | succ j =>
    have hlt : i < l.length := by omega
    have hdr : l.drop i = l[i] :: l.drop (i + 1) := List.drop_eq_getElem_cons hlt
    rw [hdr] at hgo
    have hpl := znx (List.getElem_mem hlt)
    have hts : l.take (i + 1) = l.take i ++ [l[i]] := List.take_succ_eq_append_getElem hlt
    simp only [VM.fnsC] at hgo
    simp [zcz, hlt, znm]
    generalize l[i] = f at *
    obtain ⟨fnm, ps, body⟩ := f
    obtain ⟨r, f1, f2⟩ := znp fnm fns
    dsimp only [Fnc.avs]
    have ne_0 : gk ≠ gm ∧ gm ≠ gk ∧ gk ≠ m' ∧ m' ≠ gk ∧ gm ≠ m' ∧ m' ≠ gm := ⟨by omega, by omega, by omega, by omega, by omega, by omega⟩
    simp [row, hmap, f1, ne_0]
    show zq .str (.str fnm) = true ∧ OPTK (zy (.str fnm) _) _
    rw [f1]
    simp
    have e7 : ((fns.lookup fnm).isSome ∨ VM.unlike ps = false) → VM.checkC l = 7 := fun hh => hcheck 7 (by decide) (by rw [hgo]; simp only; rw [if_pos hh])
    have hkk : ∀ y, y < gm → (H'.put m' (some (.row 3 [.str fnm, .ro (ps.map strC), .ro (body.map Sm.avs)]))) y = H y := fun y hy => by rw [Heap.put_ne _ _ (by omega)]; exact hk y hy
    cases r with
    | some p =>
      obtain ⟨q, v⟩ := p
      simp only at f2
      have := hq _ (m' + 1) hkk
      rw [e7 (.inl (Option.isSome_iff_ne_none.2 f2.1))] at this
      simp
      exact this
    | none =>
      simp only at f2
      simp
      simp only at hpl
      refine (zrs ps (by omega)).call ?_
      by_cases hu : VM.unlike ps = true
      · have hnn : ¬ ((fns.lookup fnm).isSome = true ∨ VM.unlike ps = false) := by rw [f2, hu]; simp
        simp only at hgo
        rw [if_neg hnn] at hgo
        by_cases h5 : 4 < ps.length
        · have h5' : (4 : Int) < ps.length := by omega
          rw [if_pos h5] at hgo
          have := hq _ (m' + 1) hkk
          rw [hcheck 5 (by decide) (by rw [hgo])] at this
          simp [zdb, hu, h5']
          exact this
        · have h5' : ¬ (4 : Int) < ps.length := by omega
          rw [if_neg h5] at hgo
          have hwi : IntKind.i64.wrap ((i : Int) + 1) = (i : Int) + 1 := i64w (by omega)
          have ne_1 : gk ≠ gm ∧ gm ≠ gk ∧ gk ≠ m' ∧ m' ≠ gk ∧ gm ≠ m' ∧ m' ≠ gm := ⟨by omega, by omega, by omega, by omega, by omega, by omega⟩
          simp [zdb, hu, h5', row, hmap, f1, hwi, ne_1]
          rw [← hJ]
          refine ⟨j, by omega, i + 1, fns ++ [(fnm, ps.length)], by omega, rfl, ⟨?_, ?_, ?_, hgg, by omega⟩, fun y hy => ?_, fun f hf => ?_, hgo⟩
          · rw [Heap.put_ne _ _ (by omega), Heap.put_ne _ _ (by omega)]; exact row
          · exact .nil
          · rw [Heap.put_at, List.map_append]; rfl
          · rw [Heap.put_ne _ _ (by omega), Heap.put_ne _ _ (by omega)]; exact hk y hy
          · rw [hts] at hf
            rcases List.mem_append.1 hf with hf | hf
            · exact h4 f hf
            · rw [List.mem_singleton.1 hf]; simp only; omega
      · have hu' : VM.unlike ps = false := by simpa using hu
        have := hq _ (m' + 1) hkk
        rw [e7 (.inr hu')] at this
        simp [zdb, hu']
        exact this
theorem zjw (l : List Fnc) (hw : zbo l ≤ 4294967296) : QC Tryd.prog 11 [.ro (l.map Fnc.avs)] (.int .i64 (VM.checkC l)) := by
  refine QC.of' fun H n => ?_
  suffices main : ∀ Q : QT, (∀ H' n', Keep n H' H → Q (.int .i64 (VM.checkC l)) H' n') → za Tryd.prog 11 [.ro (l.map Fnc.avs)] H n Q from main _ fun H' n' b => ⟨by simp, b⟩
  intro Q hq
  refine zlt _ _ _ _ ?_
  have hK : Keep n H H := by simp
  cases l with
  | nil =>
    have := hq H n hK
    simp [zcy]
    exact this
  | cons f0 l0 =>
    by_cases h5 : 5 < l0.length + 1
    · have e : VM.checkC (f0 :: l0) = 5 := by unfold VM.checkC; simp only; rw [if_pos h5]
      have h5' : (5 : Int) < l0.length + 1 := by omega
      have h1 : ¬ (l0.length : Int) + 1 < 1 := by omega
      have := hq H n hK
      rw [e] at this
      simp [zcy, h5', h1]
      exact this
    · have h5' : ¬ (5 : Int) < l0.length + 1 := by omega
      have h1 : ¬ (l0.length : Int) + 1 < 1 := by omega
      have hL : LkM (n + 1) n [] 0 [] .nils ((H.put n (some (.mp []))).put (n + 1) (some (.row 3 [.amap n, .int .i64 0, .nils]))) (n + 2) :=
        ⟨Heap.put_at _ _ _, .nil, by rw [Heap.put_ne _ _ (by omega), Heap.put_at]; rfl, by omega, by omega⟩
      have fin := zut (l := f0 :: l0) (Q := Q) rfl hL hw (by simp only [List.length_cons]; omega) fun H' m' hk => hq H' m' fun y hy => by rw [hk y hy, Heap.put_ne _ _ (by omega), Heap.put_ne _ _ (by omega)]
      simp [zcy, h5', h1]
      simp at fin
      exact fin
end Go.Proofs.YtpllgpgdcbgalaaDoor
set_option maxRecDepth 8000
namespace Go.Proofs.YtpllgpgdcbgalaaDoor
open Go Go.RowKit
def wRow (ws : List Str) : List (AV × AV) := ws.map fun w => (AV.str w, AV.bool true)
structure RfM (gk gf gw : Nat) (fns : List (Str × Nat)) (vars : Int) (ws : List Str) (H : Heap) (m : Nat) : Prop where
  row : H gk = some (.row 3 [.amap gf, .int .i64 vars, .amap gw])
  map : H gf = some (.mp (fns.map fun p => (.str p.1, .int .i64 p.2)))
  wds : H gw = some (.mp (wRow ws))
  gf0 : gf < gw
  gw0 : gw < gk
  gn : gk < m
end Go.Proofs.YtpllgpgdcbgalaaDoor
set_option maxRecDepth 8000
namespace Go.Proofs.YtpllgpgdcbgalaaDoor
open Go Go.RowKit
structure RExt (gk gw : Nat) (H : Heap) (m : Nat) (H' : Heap) (m' : Nat) : Prop where
  le : m ≤ m'
  keep : ∀ y, y < m → y ≠ gk → y ≠ gw → H' y = H y
theorem RExt.refl (gk gw : Nat) (H : Heap) (m : Nat) : RExt gk gw H m H m := ⟨Nat.le_refl _, fun _ _ _ _ => rfl⟩
theorem RExt.trans {gk gw m1 m2 m3 : Nat} {H1 H2 H3 : Heap} (h : RExt gk gw H1 m1 H2 m2) (k : RExt gk gw H2 m2 H3 m3) : RExt gk gw H1 m1 H3 m3 := by
  have h1 := h.le
  have h2 := k.le
  exact ⟨by omega, fun y hy a b => by rw [k.keep y (by omega) a b]; exact h.keep y hy a b⟩
structure RNm (gk gw : Nat) (names : List Str) (H : Heap) (m : Nat) (a : AV) : Prop where
  arg : zae H m 1 (names.map strC) a
  far : ∀ y ∈ owns a, y ≠ gk ∧ y ≠ gw
theorem RNm.ext {gk gw m m' : Nat} {H H' : Heap} {names : List Str} {a : AV} (h : RNm gk gw names H m a) (e : RExt gk gw H m H' m') : RNm gk gw names H' m' a := by
  have hle := e.le
  obtain ⟨h1, h2⟩ := h
  cases h1 with
  | ro => exact ⟨.ro, h2⟩
  | nils h => exact ⟨.nils h, h2⟩
  | slc g q1 q2 =>
    have hg := h2 g (by simp [owns])
    exact ⟨.slc g (by omega) (by rw [e.keep g q1 hg.1 hg.2]; exact q2), h2⟩
end Go.Proofs.YtpllgpgdcbgalaaDoor
set_option maxRecDepth 8000
namespace Go.Proofs.YtpllgpgdcbgalaaDoor
open Go Go.RowKit
end Go.Proofs.YtpllgpgdcbgalaaDoor
set_option maxRecDepth 8000
namespace Go.Proofs.YtpllgpgdcbgalaaDoor
open Go Go.RowKit
structure RbS (gk gf gw : Nat) (fns : List (Str × Nat)) (H0 : Heap) (m0 : Nat) (names : List Str) (vars : Int) (ws : List Str) (a : AV) (H : Heap) (m : Nat) : Prop where
  rf : RfM gk gf gw fns vars ws H m
  nm : RNm gk gw names H m a
  ext : RExt gk gw H0 m0 H m
  v0 : 0 ≤ vars
  v8 : vars ≤ 8
theorem RbS.ext' {gk gf gw : Nat} {fns : List (Str × Nat)} {H0 H H' : Heap} {m0 m m' : Nat} {names : List Str} {vars vars' : Int} {ws ws' : List Str} {a : AV} (h : RbS gk gf gw fns H0 m0 names vars ws a H m) (e : RExt gk gw H m H' m') (r : RfM gk gf gw fns vars' ws' H' m') (h0 : 0 ≤ vars') (h8 : vars' ≤ 8) : RbS gk gf gw fns H0 m0 names vars' ws' a H' m' :=
  ⟨r, h.nm.ext e, h.ext.trans e, h0, h8⟩
end Go.Proofs.YtpllgpgdcbgalaaDoor
set_option maxRecDepth 8000
namespace Go.Proofs.YtpllgpgdcbgalaaDoor
open Go Go.RowKit
theorem RfM.old {gk gf gw m m' : Nat} {fns : List (Str × Nat)} {vars : Int} {ws : List Str} {H H' : Heap} (h : RfM gk gf gw fns vars ws H m) (hm : m ≤ m') (hk : ∀ y, y < m → H' y = H y) : RfM gk gf gw fns vars ws H' m' := by
  have h1 := h.gf0
  have h2 := h.gw0
  have h3 := h.gn
  exact ⟨by rw [hk _ h3]; exact h.row, by rw [hk _ (by omega)]; exact h.map, by rw [hk _ (by omega)]; exact h.wds, h1, h2, by omega⟩
theorem RExt.old {gk gw m m' : Nat} {H H' : Heap} (hm : m ≤ m') (hk : ∀ y, y < m → H' y = H y) : RExt gk gw H m H' m' := ⟨hm, fun y hy _ _ => hk y hy⟩
theorem RExt.gk {gk gw m m' : Nat} {H H' : Heap} (hm : m ≤ m') (hk : ∀ y, y < m → y ≠ gk → H' y = H y) : RExt gk gw H m H' m' := ⟨hm, fun y hy h _ => hk y hy h⟩
end Go.Proofs.YtpllgpgdcbgalaaDoor
set_option maxRecDepth 8000
namespace Go.Proofs.YtpllgpgdcbgalaaDoor
open Go Go.RowKit
end Go.Proofs.YtpllgpgdcbgalaaDoor
set_option maxRecDepth 8000
namespace Go.Proofs.YtpllgpgdcbgalaaDoor
open Go Go.RowKit
@[simp ↓] theorem zael {g : Nat} {H : Heap} {k : AV → Prop} : LNM (.amap g) H k = MAPK (H g) fun es => k (.int .i64 (es.length : Int)) := by
  simp only [LNM, LENM, MAPK]
  cases hg : H g with
  | none => simp
  | some o => cases o <;> simp [qk]
end Go.Proofs.YtpllgpgdcbgalaaDoor
set_option maxRecDepth 8000
namespace Go.Proofs.YtpllgpgdcbgalaaDoor
open Go Go.RowKit
end Go.Proofs.YtpllgpgdcbgalaaDoor
set_option maxRecDepth 8000
namespace Go.Proofs.YtpllgpgdcbgalaaDoor
open Go Go.RowKit
namespace VM
theorem exWL_sum : ∀ l : List Ex, exWL l = (l.map exW).sum
  | [] => by simp [exWL]
  | x :: r => by simp [exWL, exWL_sum r]
theorem smWL_sum : ∀ l : List Sm, smWL l = (l.map smW).sum
  | [] => by simp [smWL]
  | x :: r => by simp [smWL, smWL_sum r]
def Fits {α : Type} (m : St → α × St) (w : α → Nat) : Prop := ∀ st, (m st).2.2 = 0 → w (m st).1 + (m st).2.1.length ≤ st.1.length
theorem until_zero {α : Type} {m : St → α × St} : ∀ (k : Nat) (st : St), (untilF m k st).2.2 = 0 → st.2 = 0
  | 0, st, h => h
  | k + 1, st, h => by
    unfold untilF at h
    split at h
    · rename_i hc; exact hc.1
    · exact not_zero must_stuck h
theorem Fits.until {α : Type} {m : St → α × St} {w : α → Nat} (hf : Fits m w) : ∀ (k : Nat) (st : St), (untilF m k st).2.2 = 0 → ((untilF m k st).1.map w).sum + (untilF m k st).2.1.length ≤ st.1.length
  | 0, st, _ => by simp [untilF]
  | k + 1, st, h => by
    unfold untilF at h ⊢
    split
    · rename_i hc
      rw [if_pos hc] at h
      have h1 := hf.until k _ h
      have h2 := hf (trim st.1, 0) (until_zero k _ h)
      have h3 := trim_le st.1
      simp only [List.map_cons, List.sum_cons] at *
      omega
    · have := must_le 41 st
      simp only [List.map_nil, List.sum_nil]
      omega
theorem Fits.many {α : Type} {m : St → α × St} {w : α → Nat} (hf : Fits m w) : Fits (manyF m) (fun l => (l.map w).sum) := fun st h => hf.until _ st h
theorem fits_one {α : Type} {m : St → α × St} (hm : Nice m) : Fits m (fun _ => 1) := fun st h => by
  have := hm.eats st (not_zero (hm.stuck st) h) h
  show 1 + _ ≤ _
  omega
theorem Fits.times {α : Type} {m : St → α × St} {w : α → Nat} (hm : Nice m) (hf : Fits m w) : ∀ (k : Nat), Fits (timesF m k) (fun l => (l.map w).sum)
  | 0 => fun st _ => by simp [timesF]
  | k + 1 => fun st h => by
    unfold timesF at h ⊢
    have h1 := Fits.times hm hf k _ h
    have h2 := hf st ((flow_times hm k _).2 h)
    simp only [List.map_cons, List.sum_cons] at *
    omega
theorem fits_form {m : St → Ex × St} (hm : Nice m) (hf : Fits m exW) (w : Str) (st : St) (h : (formF m w st).2.2 = 0) : exW (formF m w st).1 + (formF m w st).2.1.length ≤ st.1.length + 1 := by
  have key : ∀ s : St, (manyF m s).2.2 = 0 → exWL (manyF m s).1 + (manyF m s).2.1.length ≤ s.1.length := fun s h => by rw [exWL_sum]; exact hf.many s h
  unfold formF at *
  cases hw : headOf w with
  | some p =>
    obtain ⟨k, n, want⟩ := p
    rw [hw] at h
    dsimp only at *
    split at h
    · rename_i hc; rw [if_pos hc]; have := key _ h; unfold exW; omega
    · exact absurd h (bad_err (by decide))
  | none =>
    rw [hw] at h
    dsimp only at *
    have hs : (if name w then st else badF 7 st).1.length = st.1.length := by split <;> rfl
    generalize (if name w = true then st else badF 7 st) = s at *
    split at h
    · rename_i hc; rw [if_pos hc]; have := key _ h; unfold exW; omega
    · exact absurd h (bad_err (by decide))
theorem leaf_quoted (t : Str) (e : Int) : exW (quotedF t e).1 = 1 := by
  unfold quotedF
  split <;> simp [exW, exWL]
theorem leaf_plain (st : St) : exW (plainF st).1 = 1 := by
  unfold plainF
  split <;> simp [exW, exWL]
theorem fits_expr : ∀ d, Fits (exprF d) exW
  | 0 => fun st h => absurd h (bad_err (by decide))
  | d + 1 => fun st h => by
    have ih := fits_expr d
    have eats := (nice_expr (d + 1)).eats st (not_zero ((nice_expr (d + 1)).stuck st) h) h
    have ht := trim_le st.1
    unfold exprF at *
    split at h
    · rename_i hc; exact absurd h hc
    · rename_i hc
      rw [if_neg hc] at *
      split at h
      · rename_i h2
        rw [if_pos h2] at *
        rw [leaf_quoted]; omega
      · rename_i h2
        rw [if_neg h2] at *
        split at h
        · rename_i h3
          rw [if_pos h3] at *
          rw [leaf_plain]; omega
        · rename_i h3
          rw [if_neg h3] at *
          have h4 := fits_form (nice_expr d) ih _ _ h
          have h5 := w_eats (form_zero (nice_expr d) h)
          simp only [List.length_drop] at h5
          have h6 : nxt st.1 = 40 := by simpa using h3
          have h7 : nxt st.1 ≠ 0 := by rw [h6]; decide
          have : 0 < (trim st.1).length := by
            obtain ⟨c, r, hc⟩ := zgw h7
            rw [hc]; simp
          omega
theorem fits_stmt : ∀ d, Fits (stmtF d) smW
  | 0 => fun st h => absurd h (bad_err (by decide))
  | d + 1 => fun st h => by
    have ih := fits_stmt d
    have hM : ∀ s : St, (manyF (stmtF d) s).2.2 = 0 → smWL (manyF (stmtF d) s).1 + (manyF (stmtF d) s).2.1.length ≤ s.1.length := fun s h => by rw [smWL_sum]; exact ih.many s h
    have fM : ∀ s : St, Flow s (manyF (stmtF d) s).2 := fun s => (nice_many (nice_stmt d)).flow s
    by_cases hc : st.2 ≠ 0
    · unfold stmtF at h; rw [if_pos hc] at h; exact absurd h hc
    · simp only [stmtF] at h ⊢
      rw [if_neg hc] at h ⊢
      have f1 := flow_w (mustF 40 st)
      have w1 := w_eats (st := mustF 40 st)
      have m1 := must_le 40 st
      generalize wF (mustF 40 st) = w at *
      have f2 : Flow w.2 (if stKind w.1 = 0 then badF 1 w.2 else w.2) := by
        split
        · exact flow_bad 1 _
        · exact .refl _
      generalize (if stKind w.1 = 0 then badF 1 w.2 else w.2) = s1 at *
      have f3 := flow_nm (stKind w.1) s1
      generalize nmF (stKind w.1) s1 = nm at *
      have f4 := flow_times (nice_expr d) (argsOf (stKind w.1)) nm.2
      have e4 := (fits_expr d).times (nice_expr d) (argsOf (stKind w.1)) nm.2
      generalize timesF (exprF d) (argsOf (stKind w.1)) nm.2 = a at *
      have f5 := (f2.trans f3).trans f4
      simp only [← exWL_sum] at e4
      have fin : a.2.2 = 0 → 1 + exWL a.1 + a.2.1.length ≤ st.1.length := fun ha => by
        have h1 := e4 ha
        have h2 := w1 (f5.2 ha)
        have h3 := (f2.trans f3).1
        omega
      by_cases h3 : stKind w.1 = 3
      · rw [if_pos h3] at h ⊢
        simp only [smW]
        have g1 := (flow_must 41 _).2 h
        have g2 := hM _ g1
        have g3 := (flow_must 40 _).2 ((fM _).2 g1)
        have g4 := hM _ g3
        have g5 := (flow_must 40 _).2 ((fM _).2 g3)
        have g6 := fin g5
        have q1 := must_le 41 (manyF (stmtF d) (mustF 40 (manyF (stmtF d) (mustF 40 a.2)).2)).2
        have q2 := must_le 40 (manyF (stmtF d) (mustF 40 a.2)).2
        have q3 := must_le 40 a.2
        omega
      · rw [if_neg h3] at h ⊢
        by_cases h4 : stKind w.1 = 4
        · rw [if_pos h4] at h ⊢
          simp only [smW, smWL]
          have g1 := hM _ h
          have g2 := fin ((fM _).2 h)
          omega
        · rw [if_neg h4] at h ⊢
          simp only [smW, smWL]
          have g2 := fin ((flow_must 41 _).2 h)
          have q1 := must_le 41 a.2
          omega
def fncW (f : Fnc) : Nat := f.params.length + smWL f.body
theorem sum_one {α : Type} (l : List α) : (l.map fun _ => 1).sum = l.length := by
  induction l with
  | nil => rfl
  | cons x r ih => simp [ih]; omega
theorem fits_fn : Fits fnF fncW := fun st h => by
  unfold fnF at *
  simp only [fncW] at *
  have b1 := (fits_stmt 11).many _ h
  have b2 := (fits_one nice_n).many _ ((nice_many (nice_stmt 11)).flow _ |>.2 h)
  have b3 := must_le 40 (nF (mustF 40 st)).2
  have b4 := (zuy (mustF 40 st)).2
  have b5 := must_le 40 st
  simp only [← smWL_sum] at b1
  simp only [sum_one] at b2
  omega
theorem fits_fns : ∀ (k : Nat) (st : St), (fnsF k st).2.2 = 0 → zbo (fnsF k st).1 + (fnsF k st).2.1.length ≤ st.1.length
  | 0, st, _ => by simp [fnsF, zbo]
  | k + 1, st, h => by
    unfold fnsF at h ⊢
    have zero : ∀ (k : Nat) (st : St), (fnsF k st).2.2 = 0 → st.2 = 0 := fun k st h => by
      cases k with
      | zero => exact h
      | succ k =>
        unfold fnsF at h
        split at h
        · rename_i hc; exact hc.1
        · exact h
    split
    · rename_i hc
      rw [if_pos hc] at h
      have h1 := fits_fns k _ h
      have h2 := fits_fn (trim st.1, 0) (zero k _ h)
      have h3 := trim_le st.1
      simp only [zbo, fncW] at *
      omega
    · have h3 := trim_le st.1
      simp only [zbo]
      split <;> (try simp only) <;> omega
theorem parse_fits (s : Str) (h : (parseF s).2 = 0) : zbo (parseF s).1 ≤ 1500 := by
  unfold parseF at *
  split at h
  · cases h
  · rename_i h1
    rw [if_neg h1] at *
    split at h
    · rename_i h2; exact absurd h h2
    · rename_i h2
      rw [if_neg h2]
      have := fits_fns (s.length + 2) (s, 0) (by simpa using h2)
      simp only at *
      omega
end VM
end Go.Proofs.YtpllgpgdcbgalaaDoor
set_option maxRecDepth 8000
namespace Go.Proofs.YtpllgpgdcbgalaaDoor
open Go Go.RowKit
namespace VM
theorem trim_nb {c : UInt8} (r : Str) (h : blank c = false) : trim (c :: r) = c :: r := by simp [trim, h]
theorem trim_sp (r : Str) : trim (32 :: r) = trim r := by simp [trim, blank]
theorem nxt_sp (r : Str) : nxt (32 :: r) = nxt r := by unfold nxt; rw [trim_sp]
theorem nxt_nb {c : UInt8} (r : Str) (h : blank c = false) (h0 : c ≠ 0) : nxt (c :: r) = (c.toNat : Int) := by
  unfold nxt; rw [trim_nb r h]; simp [h0]
def IsW (n : Str) : Prop := n ≠ [] ∧ ∀ c ∈ n, wordC c = true
theorem wordC_nb {c : UInt8} (h : wordC c = true) : blank c = false := by
  unfold wordC at h
  unfold blank
  simp at h ⊢
  exact ⟨h.1.1.1.1, h.1.1.1.2⟩
theorem trim_w {n : Str} (hn : IsW n) (r : Str) : trim (n ++ r) = n ++ r := by
  obtain ⟨h1, h2⟩ := hn
  cases n with
  | nil => exact absurd rfl h1
  | cons c t => exact trim_nb _ (wordC_nb (h2 c (by simp)))
theorem take_w {n : Str} (hn : IsW n) {c : UInt8} (hc : wordC c = false) (r : Str) : (n ++ c :: r).takeWhile wordC = n ∧ (n ++ c :: r).dropWhile wordC = c :: r :=
  zjn hn.2 fun d q h => by cases h; exact hc
theorem w_hit {n : Str} (hn : IsW n) {c : UInt8} (hc : wordC c = false) (r : Str) (e : Int) : wF (n ++ c :: r, e) = (n, (c :: r, e)) := by
  obtain ⟨a, b⟩ := take_w hn hc r
  unfold wF
  simp only
  rw [trim_w hn, a, b, if_neg hn.1]
theorem w_sp (r : Str) (e : Int) : wF (32 :: r, e) = wF (r, e) := by unfold wF; simp only; rw [trim_sp]
theorem isW_name {n : Str} (h : name n = true) : IsW n := by
  unfold name at h
  simp only [Bool.and_eq_true, decide_eq_true_eq, List.all_eq_true] at h
  obtain ⟨⟨⟨_, h2⟩, h3⟩, _⟩ := h
  refine ⟨List.length_pos_iff.1 h3, fun c hc => ?_⟩
  obtain ⟨a, b⟩ := h2 c hc
  unfold wordC
  have e : ∀ k : UInt8, k.toNat < 97 → (c == k) = false := fun k hk => by
    rw [beq_eq_false_iff_ne]; rintro rfl; omega
  rw [e 32 (by decide), e 10 (by decide), e 40 (by decide), e 41 (by decide), e 39 (by decide)]
  rfl
theorem name_hd {n : Str} (h : name n = true) : ∃ c t, n = c :: t ∧ 97 ≤ c.toNat ∧ c.toNat ≤ 122 := by
  have hw := isW_name h
  unfold name at h
  simp only [Bool.and_eq_true, decide_eq_true_eq, List.all_eq_true] at h
  obtain ⟨⟨⟨_, h2⟩, h3⟩, _⟩ := h
  cases n with
  | nil => exact absurd rfl hw.1
  | cons c t => obtain ⟨a, b⟩ := h2 c (by simp); exact ⟨c, t, rfl, a, b⟩
theorem nxt_name {n : Str} (h : name n = true) (r : Str) : 97 ≤ nxt (n ++ r) ∧ nxt (n ++ r) ≤ 122 := by
  obtain ⟨c, t, rfl, a, b⟩ := name_hd h
  have hw := isW_name h
  rw [List.cons_append, nxt_nb _ (wordC_nb (hw.2 c (by simp))) (by rintro rfl; simp at a)]
  omega
theorem must_hit {k : Int} {t : Str} (h : nxt t = k) (e : Int) : mustF k (t, e) = ((trim t).drop 1, e) := by
  unfold mustF; simp only; rw [if_pos h]
theorem must40 (r : Str) (e : Int) : mustF 40 (40 :: r, e) = (r, e) := by rw [must_hit (k := 40) rfl]; rfl
theorem must41 (r : Str) (e : Int) : mustF 41 (41 :: r, e) = (r, e) := by rw [must_hit (k := 41) rfl]; rfl
theorem must_sp (k : Int) (r : Str) (e : Int) : mustF k (32 :: r, e) = mustF k (r, e) := by rw [← must_trim k (32 :: r), trim_sp, must_trim]
theorem n_hit {n : Str} (hn : name n = true) {c : UInt8} (hc : wordC c = false) (r : Str) (e : Int) : nF (n ++ c :: r, e) = (n, (c :: r, e)) := by
  unfold nF
  rw [w_hit (isW_name hn) hc]
  simp [hn]
theorem n_sp (r : Str) (e : Int) : nF (32 :: r, e) = nF (r, e) := by unfold nF; rw [w_sp]
theorem numOf_name {n : Str} (h : name n = true) : numOf n = none := by
  obtain ⟨c, t, rfl, a, b⟩ := name_hd h
  have h1 : ¬ (c.toNat = 43 ∨ c.toNat = 45) := by omega
  have h2 : ¬ (48 ≤ c.toNat ∧ c.toNat ≤ 57) := by omega
  have h3 : Lib.atoiAll (c :: t) = Lib.atoiAll [] := by
    simp only [Lib.atoiAll, Lib.parseMag]
    rw [if_neg h1, if_neg (by simp)]
    simp only [Lib.parseUint10]
    rw [if_neg h2]
  unfold numOf
  rw [h3]
  rfl
theorem expr_sp (d : Nat) (r : Str) : exprF (d + 1) (32 :: r, 0) = exprF (d + 1) (r, 0) := by
  unfold exprF
  rw [if_neg (show ¬ (0 : Int) ≠ 0 by simp), if_neg (show ¬ (0 : Int) ≠ 0 by simp)]
  simp only [nxt_sp, trim_sp]
theorem expr_name {n : Str} (hn : name n = true) {c : UInt8} (hc : wordC c = false) (d : Nat) (r : Str) : exprF (d + 1) (n ++ c :: r, 0) = (.mk 3 0 n [], (c :: r, 0)) := by
  have h1 := nxt_name hn (c :: r)
  unfold exprF
  simp only
  rw [if_neg (by simp), if_neg (by omega), if_pos (by omega), trim_w (isW_name hn)]
  unfold plainF
  rw [w_hit (isW_name hn) hc]
  simp [numOf_name hn, hn]
theorem expr_dig {k : UInt8} (hk : k = 49 ∨ k = 50) {c : UInt8} (hc : wordC c = false) (d : Nat) (r : Str) : exprF (d + 1) (k :: c :: r, 0) = (.mk 1 ((k.toNat : Int) - 48) [] [], (c :: r, 0)) := by
  have hw : IsW [k] := ⟨by simp, fun c hc => by rw [List.mem_singleton.1 hc]; rcases hk with rfl | rfl <;> decide⟩
  have w1 := w_hit hw hc r 0
  have t1 := trim_w hw (c :: r)
  simp only [List.cons_append, List.nil_append] at w1 t1
  have h1 : nxt (k :: c :: r) = (k.toNat : Int) := by rcases hk with rfl | rfl <;> rfl
  have h2 : numOf [k] = some ((k.toNat : Int) - 48) := by rcases hk with rfl | rfl <;> decide +kernel
  unfold exprF
  simp only
  rw [if_neg (by simp), h1, if_neg (by rcases hk with rfl | rfl <;> decide), if_pos (by rcases hk with rfl | rfl <;> decide), t1]
  unfold plainF
  rw [w1]
  simp only [h2]
  rw [if_neg (by rcases hk with rfl | rfl <;> decide)]
theorem many_eq {α : Type} {m : St → α × St} (hm : Nice m) (st : St) : manyF m st = if st.2 = 0 ∧ nxt st.1 ≠ 41 then ((m (trim st.1, 0)).1 :: (manyF m (m (trim st.1, 0)).2).1, (manyF m (m (trim st.1, 0)).2).2) else ([], mustF 41 st) := by
  have h := left_le st
  have e1 : manyF m st = untilF m (st.1.length + 1 + 1) st := rfl
  rw [e1]
  rw [show untilF m (st.1.length + 1 + 1) st = if st.2 = 0 ∧ nxt st.1 ≠ 41 then ((m (trim st.1, 0)).1 :: (untilF m (st.1.length + 1) (m (trim st.1, 0)).2).1, (untilF m (st.1.length + 1) (m (trim st.1, 0)).2).2) else ([], mustF 41 st) from rfl]
  split
  · rename_i hc
    have hl := left_lt hm (st := st) hc.1
    rw [many_cons hm (st.1.length + 1) _ _ (by omega) (left_le _)]
    rfl
  · rfl
theorem many_nil {α : Type} {m : St → α × St} (hm : Nice m) (r : Str) : manyF m (41 :: r, 0) = ([], (r, 0)) := by
  rw [many_eq hm, if_neg (by simp [nxt_nb (c := 41) r (by decide) (by decide)]), must41]
theorem many_sp {α : Type} {m : St → α × St} (hm : Nice m) (r : Str) : manyF m (32 :: r, 0) = manyF m (r, 0) := by
  rw [many_eq hm, many_eq hm (r, 0)]
  simp only [nxt_sp, trim_sp, must_sp]
theorem many_one {α : Type} {m : St → α × St} (hm : Nice m) {t r : Str} {x : α} (hn : nxt t ≠ 41) (ht : trim t = t) (h : m (t, 0) = (x, (r, 0))) : manyF m (t, 0) = (x :: (manyF m (r, 0)).1, (manyF m (r, 0)).2) := by
  rw [many_eq hm, if_pos ⟨rfl, hn⟩]
  simp only [ht, h]
end VM
end Go.Proofs.YtpllgpgdcbgalaaDoor
set_option maxRecDepth 8000
namespace Go.Proofs.YtpllgpgdcbgalaaDoor
open Go Go.RowKit
namespace VM
def sayT (n r : Str) : Str := 40 :: 115 :: 97 :: 121 :: 32 :: (n ++ 41 :: r)
def letT (n : Str) (k : UInt8) (r : Str) : Str := 40 :: 108 :: 101 :: 116 :: 32 :: (n ++ 32 :: k :: 41 :: r)
def setT (n : Str) (k : UInt8) (r : Str) : Str := 40 :: 115 :: 101 :: 116 :: 32 :: (n ++ 32 :: k :: 41 :: r)
def sayX (n : Str) : Sm := .mk 5 [] [.mk 3 0 n []] [] []
def numX (k : UInt8) : Ex := .mk 1 ((k.toNat : Int) - 48) [] []
theorem lit_w (w : Str) (h : IsW w) (r : Str) (e : Int) : wF (w ++ 32 :: r, e) = (w, (32 :: r, e)) := w_hit h (by decide) r e
theorem isW_lit {w : Str} (h : w ≠ []) (h2 : w.all wordC = true) : IsW w := ⟨h, fun c hc => List.all_eq_true.1 h2 c hc⟩
theorem times_one {α : Type} (m : St → α × St) (st : St) : timesF m 1 st = ([(m st).1], (m st).2) := by simp [timesF]
theorem stmt_say {n : Str} (hn : name n = true) (d : Nat) (r : Str) : stmtF (d + 2) (sayT n r, 0) = (sayX n, (r, 0)) := by
  have w1 := lit_w [115, 97, 121] (isW_lit (by simp) (by decide)) (n ++ 41 :: r) 0
  simp only [List.cons_append, List.nil_append] at w1
  unfold sayT stmtF
  simp only [must40, w1]
  rw [if_neg (by simp)]
  have k1 : stKind [115, 97, 121] = 5 := by decide
  simp only [k1, nmF, argsOf]
  simp [times_one, expr_sp, expr_name hn (c := 41) (by decide), must41, sayX]
theorem stmt_let {n : Str} (hn : name n = true) {k : UInt8} (hk : k = 49 ∨ k = 50) (d : Nat) (r : Str) : stmtF (d + 2) (letT n k r, 0) = (.mk 1 n [numX k] [] [], (r, 0)) := by
  have w1 := lit_w [108, 101, 116] (isW_lit (by simp) (by decide)) (n ++ 32 :: k :: 41 :: r) 0
  simp only [List.cons_append, List.nil_append] at w1
  unfold letT stmtF
  simp only [must40, w1]
  rw [if_neg (by simp)]
  have k1 : stKind [108, 101, 116] = 1 := by decide
  simp only [k1, nmF, argsOf]
  simp [times_one, n_sp, n_hit hn (c := 32) (by decide), expr_sp, expr_dig hk (c := 41) (by decide), must41, numX]
theorem stmt_set {n : Str} (hn : name n = true) {k : UInt8} (hk : k = 49 ∨ k = 50) (d : Nat) (r : Str) : stmtF (d + 2) (setT n k r, 0) = (.mk 2 n [numX k] [] [], (r, 0)) := by
  have w1 := lit_w [115, 101, 116] (isW_lit (by simp) (by decide)) (n ++ 32 :: k :: 41 :: r) 0
  simp only [List.cons_append, List.nil_append] at w1
  unfold setT stmtF
  simp only [must40, w1]
  rw [if_neg (by simp)]
  have k1 : stKind [115, 101, 116] = 2 := by decide
  simp only [k1, nmF, argsOf]
  simp [times_one, n_sp, n_hit hn (c := 32) (by decide), expr_sp, expr_dig hk (c := 41) (by decide), must41, numX]
theorem many_st {d : Nat} {t r : Str} {x : Sm} (h : stmtF d (40 :: t, 0) = (x, (r, 0))) : manyF (stmtF d) (40 :: t, 0) = (x :: (manyF (stmtF d) (r, 0)).1, (manyF (stmtF d) (r, 0)).2) :=
  many_one (nice_stmt d) (by rw [nxt_nb (c := 40) t (by decide) (by decide)]; decide) (trim_nb t (by decide)) h
def ifT (n r : Str) : Str := 40 :: 105 :: 102 :: 32 :: 49 :: 32 :: 40 :: letT n 49 (32 :: sayT n (41 :: 32 :: 40 :: 41 :: 41 :: r))
def ifX (n : Str) : Sm := .mk 3 [] [numX 49] [.mk 1 n [numX 49] [] [], sayX n] []
theorem stmt_if {n : Str} (hn : name n = true) (d : Nat) (r : Str) : stmtF (d + 3) (ifT n r, 0) = (ifX n, (r, 0)) := by
  have w1 := lit_w [105, 102] (isW_lit (by simp) (by decide)) (49 :: 32 :: 40 :: letT n 49 (32 :: sayT n (41 :: 32 :: 40 :: 41 :: 41 :: r))) 0
  simp only [List.cons_append, List.nil_append] at w1
  have e1 := expr_dig (k := 49) (.inl rfl) (c := 32) (by decide) (d + 1) (40 :: letT n 49 (32 :: sayT n (41 :: 32 :: 40 :: 41 :: 41 :: r)))
  have m1 : manyF (stmtF (d + 2)) (letT n 49 (32 :: sayT n (41 :: 32 :: 40 :: 41 :: 41 :: r)), 0) = ([.mk 1 n [numX 49] [] [], sayX n], (32 :: 40 :: 41 :: 41 :: r, 0)) := by
    have s1 := stmt_let hn (k := 49) (.inl rfl) d (32 :: sayT n (41 :: 32 :: 40 :: 41 :: 41 :: r))
    have s2 := stmt_say hn d (41 :: 32 :: 40 :: 41 :: 41 :: r)
    unfold letT at s1 ⊢
    rw [many_st s1, many_sp (nice_stmt _)]
    unfold sayT at s2 ⊢
    rw [many_st s2, many_nil (nice_stmt _)]
  unfold ifT stmtF
  simp only [must40, w1]
  rw [if_neg (by simp)]
  have k1 : stKind [105, 102] = 3 := by decide
  simp only [k1, nmF, argsOf]
  simp [times_one, expr_sp, e1, must_sp, must40, m1, many_nil (nice_stmt _), must41, ifX, numX]
theorem parse_main {B : Str} {body : List Sm} (hl : B.length ≤ 1400) (h : manyF (stmtF 11) (B, 0) = (body, ([], 0))) : parseF (40 :: 109 :: 97 :: 105 :: 110 :: 32 :: 40 :: 41 :: 32 :: B) = ([⟨[109, 97, 105, 110], [], body⟩], 0) := by
  have n1 := n_hit (n := [109, 97, 105, 110]) (by decide) (c := 32) (by decide) (40 :: 41 :: 32 :: B) 0
  simp only [List.cons_append, List.nil_append] at n1
  have f1 : fnF (40 :: 109 :: 97 :: 105 :: 110 :: 32 :: 40 :: 41 :: 32 :: B, 0) = (⟨[109, 97, 105, 110], [], body⟩, ([], 0)) := by
    unfold fnF
    simp only [must40, n1, must_sp, many_nil nice_n, many_sp (nice_stmt _), h]
  have t1 : trim (40 :: 109 :: 97 :: 105 :: 110 :: 32 :: 40 :: 41 :: 32 :: B) = 40 :: 109 :: 97 :: 105 :: 110 :: 32 :: 40 :: 41 :: 32 :: B := trim_nb _ (by decide)
  have x1 : nxt (40 :: 109 :: 97 :: 105 :: 110 :: 32 :: 40 :: 41 :: 32 :: B) = 40 := nxt_nb _ (by decide) (by decide)
  unfold parseF
  rw [if_neg (by simp only [List.length_cons]; omega)]
  have g1 : ∀ k, fnsF (k + 2) (40 :: 109 :: 97 :: 105 :: 110 :: 32 :: 40 :: 41 :: 32 :: B, 0) = ([⟨[109, 97, 105, 110], [], body⟩], ([], 0)) := fun k => by
    unfold fnsF
    simp only [x1, t1, f1]
    rw [if_pos (by simp)]
    simp [fnsF, nxt, trim]
  rw [g1]
  simp
theorem name_len {n : Str} (h : name n = true) : n.length < 9 := by
  unfold name at h
  simp only [Bool.and_eq_true, decide_eq_true_eq] at h
  exact h.2
def preT (n r : Str) : Str := 40 :: 109 :: 97 :: 105 :: 110 :: 32 :: 40 :: 41 :: 32 :: ifT n (32 :: r)
theorem parse_pre {n r : Str} (hn : name n = true) {body : List Sm} (hl : r.length ≤ 100) (h : manyF (stmtF 11) (r, 0) = (body, ([], 0))) : parseF (preT n r) = ([⟨[109, 97, 105, 110], [], ifX n :: body⟩], 0) := by
  have l1 := name_len hn
  refine parse_main ?_ ?_
  · unfold ifT letT sayT
    simp only [List.length_cons, List.length_append]
    omega
  · have s1 := stmt_if hn 8 (32 :: r)
    unfold ifT at s1 ⊢
    rw [many_st s1, many_sp (nice_stmt _), h]
theorem check_1 {n : Str} : checkC [⟨[109, 97, 105, 110], [], [ifX n, sayX n]⟩] = 6 := by
  simp [checkC, fnsC, bodiesC, smCL, smC, exCL, exC, headE, ifX, sayX, numX, unlike]
theorem check_2 {n : Str} : checkC [⟨[109, 97, 105, 110], [], [ifX n, .mk 1 n [numX 50] [] [], sayX n]⟩] = 0 := by
  simp [checkC, fnsC, bodiesC, smCL, smC, exCL, exC, headE, ifX, sayX, numX, unlike]
theorem check_3 {n o : Str} : checkC [⟨[109, 97, 105, 110], [], [ifX n, .mk 2 o [numX 50] [] []]⟩] = 6 := by
  simp [checkC, fnsC, bodiesC, smCL, smC, exCL, exC, headE, ifX, sayX, numX, unlike]
theorem check_4 {n : Str} : checkC [⟨[109, 97, 105, 110], [], [.mk 1 n [numX 49] [] [], .mk 1 n [numX 50] [] []]⟩] = 7 := by
  simp [checkC, fnsC, bodiesC, smCL, smC, exCL, exC, headE, numX, unlike]
end VM
theorem zhq (s : Str) : QC Tryd.prog 15 [.str s] (.ro ((VM.parseF s).1.map Fnc.avs)) := by
  intro H n
  refine zmd _ _ _ _ ?_
  unfold zkc
  refine (zti s).call ?_
  simp [zkd]
theorem zol : QC Tryd.prog 13 [] (.bool true) := by
  intro H n
  refine zkj _ _ _ ?_
  have p1 : VM.checkC (VM.parseF [40, 109, 97, 105, 110, 32, 40, 41, 32, 40, 115, 97, 121, 32, 120, 41, 41]).1 = 6 := by decide +kernel
  have p2 : VM.checkC (VM.parseF [40, 109, 97, 105, 110, 32, 40, 41, 32, 40, 115, 97, 121, 32, 40, 102, 32, 49, 41, 41, 41, 40, 102, 32, 40, 120, 41, 32, 40, 114, 101, 116, 117, 114, 110, 32, 120, 41, 41]).1 = 0 := by decide +kernel
  have p3 : VM.checkC (VM.parseF [40, 109, 97, 105, 110, 32, 40, 120, 41, 32, 40, 115, 97, 121, 32, 120, 41, 41]).1 = 10 := by decide +kernel
  have w1 : zbo (VM.parseF [40, 109, 97, 105, 110, 32, 40, 41, 32, 40, 115, 97, 121, 32, 120, 41, 41]).1 ≤ 4294967296 := Nat.le_trans (VM.parse_fits _ (by decide +kernel)) (by omega)
  have w2 : zbo (VM.parseF [40, 109, 97, 105, 110, 32, 40, 41, 32, 40, 115, 97, 121, 32, 40, 102, 32, 49, 41, 41, 41, 40, 102, 32, 40, 120, 41, 32, 40, 114, 101, 116, 117, 114, 110, 32, 120, 41, 41]).1 ≤ 4294967296 := Nat.le_trans (VM.parse_fits _ (by decide +kernel)) (by omega)
  have w3 : zbo (VM.parseF [40, 109, 97, 105, 110, 32, 40, 120, 41, 32, 40, 115, 97, 121, 32, 120, 41, 41]).1 ≤ 4294967296 := Nat.le_trans (VM.parse_fits _ (by decide +kernel)) (by omega)
  unfold zia
  refine (zhq _).call ?_
  unfold zib
  refine (zjw _ w1).call ?_
  rw [p1]
  simp [zic]
  refine (zhq _).call ?_
  unfold zid
  refine (zjw _ w2).call ?_
  rw [p2]
  simp [zie]
  refine (zhq _).call ?_
  unfold zif
  refine (zjw _ w3).call ?_
  rw [p3]
  simp [zig]
theorem checked {s : Str} {l : List Fnc} {c : Int} (h : VM.parseF s = (l, 0)) (hc : VM.checkC l = c) {H : Heap} {m : Nat} {Q : QT} (hq : Q (.int .i64 c) H m) : za Tryd.prog 11 [.ro ((VM.parseF s).1.map Fnc.avs)] H m Q := by
  have hw := VM.parse_fits s (by rw [h])
  refine (zjw _ (by omega)).call ?_
  rw [h, hc]
  exact hq
theorem zok (n o : Str) (hn : n.length ≤ 140737488351232) (ho : o.length ≤ 140737488351232) : QC Tryd.prog 4 [.str n, .str o] (.bool true) := by
  intro H m
  refine zhu _ _ _ _ _ ?_
  unfold zer
  refine zol.call ?_
  simp [zee]
  refine (znh n (by unfold maxLen; omega)).call ?_
  by_cases h1 : VM.name n = true
  · simp [zbr, h1]
    refine (znh o (by unfold maxLen; omega)).call ?_
    by_cases h2 : VM.name o = true
    · by_cases h3 : n = o
      · simp [zay, h2, h3]
      · have l1 := VM.name_len h1
        have l2 := VM.name_len h2
        simp [zay, h2, h3]
        refine ⟨by omega, by omega, by omega, by omega, by omega, by omega, by omega, ?_⟩
        have t41 : ∀ d, VM.manyF (VM.stmtF d) ([41], 0) = ([], ([], 0)) := fun d => VM.many_nil (VM.nice_stmt d) []
        have m1 : VM.manyF (VM.stmtF 11) (VM.sayT n [41], 0) = ([VM.sayX n], ([], 0)) := by
          have s1 := VM.stmt_say h1 9 [41]
          unfold VM.sayT at s1 ⊢
          rw [VM.many_st s1, t41]
        have m2 : VM.manyF (VM.stmtF 11) (VM.letT n 50 (32 :: VM.sayT n [41]), 0) = ([.mk 1 n [VM.numX 50] [] [], VM.sayX n], ([], 0)) := by
          have s1 := VM.stmt_let h1 (k := 50) (.inr rfl) 9 (32 :: VM.sayT n [41])
          unfold VM.letT at s1 ⊢
          rw [VM.many_st s1, VM.many_sp (VM.nice_stmt _), m1]
        have m3 : VM.manyF (VM.stmtF 11) (VM.setT o 50 [41], 0) = ([.mk 2 o [VM.numX 50] [] []], ([], 0)) := by
          have s1 := VM.stmt_set h2 (k := 50) (.inr rfl) 9 [41]
          unfold VM.setT at s1 ⊢
          rw [VM.many_st s1, t41]
        have m4 : VM.manyF (VM.stmtF 11) (VM.letT n 49 (32 :: VM.letT n 50 [41]), 0) = ([.mk 1 n [VM.numX 49] [] [], .mk 1 n [VM.numX 50] [] []], ([], 0)) := by
          have s1 := VM.stmt_let h1 (k := 49) (.inl rfl) 9 (32 :: VM.letT n 50 [41])
          have s2 := VM.stmt_let h1 (k := 50) (.inr rfl) 9 [41]
          have s3 : VM.manyF (VM.stmtF 11) (VM.letT n 50 [41], 0) = ([.mk 1 n [VM.numX 50] [] []], ([], 0)) := by
            unfold VM.letT at s2 ⊢
            rw [VM.many_st s2, t41]
          have e : VM.letT n 49 (32 :: VM.letT n 50 [41]) = 40 :: 108 :: 101 :: 116 :: 32 :: (n ++ 32 :: 49 :: 41 :: (32 :: VM.letT n 50 [41])) := rfl
          rw [e] at s1 ⊢
          rw [VM.many_st s1, VM.many_sp (VM.nice_stmt _), s3]
        have q1 := VM.parse_pre h1 (by unfold VM.sayT; simp only [List.length_cons, List.length_append, List.length_nil]; omega) m1
        have q2 := VM.parse_pre h1 (by unfold VM.letT VM.sayT; simp only [List.length_cons, List.length_append, List.length_nil]; omega) m2
        have q3 := VM.parse_pre h1 (by unfold VM.setT; simp only [List.length_cons, List.length_append, List.length_nil]; omega) m3
        have q4 := VM.parse_main (by unfold VM.letT; simp only [List.length_cons, List.length_append, List.length_nil]; omega) m4
        simp only [VM.preT, VM.ifT, VM.letT, VM.sayT, VM.setT] at q1 q2 q3 q4
        refine (zhq _).call ?_
        unfold zes
        refine checked q1 VM.check_1 ?_
        simp [zet]
        refine ⟨by omega, by omega, by omega, by omega, by omega, ?_⟩
        refine (zhq _).call ?_
        unfold zeu
        refine checked q2 VM.check_2 ?_
        simp [zev]
        refine ⟨by omega, by omega, by omega, ?_⟩
        refine (zhq _).call ?_
        unfold zew
        refine checked q3 VM.check_3 ?_
        simp [zex]
        refine ⟨by omega, by omega, by omega, by omega, ?_⟩
        refine (zhq _).call ?_
        unfold zey
        refine checked q4 VM.check_4 ?_
        simp [zez]
    · simp [zay, h2]
  · simp [zbr, h1]
end Go.Proofs.YtpllgpgdcbgalaaDoor
namespace Go.Proofs.YtpllgpgdcbgalaaDoor
open Go Go.RowKit
theorem LayE.of_var {n : String} {w : World} {t : TypeId} {p : Value} (h : w.var? Tryd.prog n = some #[.iface t p]) : LayE n (fun b => w.heap[b]?) := fun g hg => by
  unfold World.var? at h
  rw [hg, Option.bind_some] at h
  split at h
  · rename_i cs e m hc
    cases h
    exact ⟨_, _, e, m, hc⟩
  · cases h
theorem zpb : "*" ++ "errors.errorString" = "*errors.errorString" := by decide
theorem zqm (u : TypeId) (h : Tryd.prog.typeName? 3 u = some "*errors.errorString") : u = 160 :=
  typeName_ptr_named (nm := "errors.errorString") (by rw [zpb]; kernel_rfl) (by kernel_rfl) (by decide) u (by rw [zpb]; exact h)
theorem zrb {r : List (String × DataW Unit)} {text : List UInt8} {W : World} (h : laidMet Tryd.prog (("strconv.ErrRange", .iface "*errors.errorString" (.ptr (.agg [.lit (.string text)]))) :: r) W) : LayE "strconv.ErrRange" (fun b => W.heap[b]?) := by
  obtain ⟨a, s, h1, _⟩ := laid_sentinel (g := 2) (ti := 120) (tp := 160) (te := 162) (ts := 9) h (by kernel_rfl) (by kernel_rfl) Tryd.underlying120 zqm Tryd.underlying160 Tryd.underlying162 rfl rfl Tryd.underlying9 (by kernel_rfl) (by kernel_rfl)
  exact .of_var h1
theorem zpx {r : List (String × DataW Unit)} {text : List UInt8} {W : World} (h : laidMet Tryd.prog (("strconv.ErrSyntax", .iface "*errors.errorString" (.ptr (.agg [.lit (.string text)]))) :: r) W) : LayE "strconv.ErrSyntax" (fun b => W.heap[b]?) := by
  obtain ⟨a, s, h1, _⟩ := laid_sentinel (g := 1) (ti := 120) (tp := 160) (te := 162) (ts := 9) h (by kernel_rfl) (by kernel_rfl) Tryd.underlying120 zqm Tryd.underlying160 Tryd.underlying162 rfl rfl Tryd.underlying9 (by kernel_rfl) (by kernel_rfl)
  exact .of_var h1
end Go.Proofs.YtpllgpgdcbgalaaDoor
namespace Go.Proofs.YtpllgpgdcbgalaaDoor
open Go Go.RowKit Go.ChangeShapes
theorem zon {H : Type} {enc : TypeId × Value → H} {a : Assume} {C : Checked} {os : Os} {f : FuncId} {fn : Func} {s : ChangeSpec} {zdw : List PathCond} {apart fresh handsOn again : Bool} {X : World → Array Value → Prop}
    (hX : ∀ (w w' : World) (args : Array Value), w.heap = w'.heap → X w args → X w' args)
    (own : ownKnob C.prog.godebug = none) (started : os.Started) (noInit : C.prog.inits.idxOf? f = none) (hfn : C.prog.funcs[f]? = some fn)
    (witness : ∃ (w : World) (tape : Tape) (i : Input), w.os = os ∧ (w.forCall tape i).Shaped C.prog ∧ i.vars = [] ∧ Input.okWide C.prog (w.forCall tape i) .any w.heap.size f i ∧
      ((s.pre enc C.prog fn zdw apart (w.forCall tape i).memory i.args ∧ X (w.forCall tape i).memory i.args) ∧ sizedMet enc C.prog fn (OpenSpec.ofChange s) apart (w.forCall tape i).memory i.args) ∧ a.holds C.prog (lone (Frame.enter C.prog f i.args .normal) [] (w.forCall tape i)))
    (contract : ∀ (W : World) (base : Nat) (args : Array Value) (ds gs : List (DataW H)) (before : List MemPlace), W.ShapedOpen C.prog →
      (∀ (j : Nat) t v, fn.params[j]? = some t → args[j]? = some v → Value.okWide C.prog W .any base t v) →
      DataW.Whole enc C.prog fn.params.toList s.vars apart W args.toList ds gs before →
      zdw.all (PathCond.test C.prog ⟨fn.params.toList, ds, s.plain.varTypes C.prog, gs⟩) = true →
      (DataW.weightsEach C.prog (fn.params.toList ++ s.plain.varTypes C.prog) (ds ++ gs)).all (· ≤ reachBytes) = true → X W args →
      a.holds C.prog (lone (Frame.enter C.prog f args .normal) [] W) →
      Calls C.prog f args W fun e W' => ∃ v, e = .returned v ∧ s.post enc C.prog fn apart fresh handsOn again W args v W') :
    ReturnsInHanded a C os f .any (fun w args => (s.pre enc C.prog fn zdw apart w args ∧ X w args) ∧ sizedMet enc C.prog fn (OpenSpec.ofChange s) apart w args) (s.post enc C.prog fn apart fresh handsOn again) := by
  refine returnsInHanded_of_calls own started noInit witness ?_
  intro w tape i _ shape _ hok hpre hholds
  obtain ⟨_, _, _, fn', hfn', _, _, _, _, hval⟩ := hok
  obtain rfl : fn' = fn := Option.some.inj (hfn'.symm.trans hfn)
  obtain ⟨⟨⟨ds, gs, before, hw, hc⟩, hx⟩, hz⟩ := hpre
  have whole := DataW.Whole.of_heap (w' := w.forCall tape i) (by rfl) hw
  have calls := contract (w.forCall tape i) w.heap.size i.args ds gs before shape hval whole hc (hz.weights hw) (hX _ _ _ (by rfl) hx) hholds
  refine calls.mono ?_
  rintro e W' ⟨v, rfl, hp⟩
  exact ChangeSpec.post_blind hp
theorem zpw {W : World} (h : W.ShapedOpen Tryd.prog) : LayM "internal/bytealg.MaxLen" (fun b => W.heap[b]?) :=
  .of_cell (g := 0) (by kernel_rfl) (cell_of_shapedOpen_int (t := 3) (zero := #[.int .i64 0]) h (of_decide_eq_true (by kernel_rfl)) (by kernel_rfl) rfl (by kernel_rfl) (by kernel_rfl) Tryd.underlying3)
end Go.Proofs.YtpllgpgdcbgalaaDoor
