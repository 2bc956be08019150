/- The machine: Pack. The machine: Pack, all of it. An agent's bytes. Right agents, that go on or are away: what is asked of them, and how they pass into one another. Agents as bytes, and back: what was written comes back; no part of it does. What is right never gets stuck; who begins is right: in plain words. Agents as bytes, and back: the laws. Agents as bytes, and back: there and back; a part is nothing; seen the same, written the same. The bytes of an agent that is away: the program's, and the document's. The readers: agents, in plain words. -/
import Derived.Test.YtpbnaaoilgohkaaG11
import Derived.Test.YtpbnaaoilgohkaaG9
import Derived.Test.YtpbnaaoilgohkaaG10
set_option linter.unusedSimpArgs false
set_option linter.unusedVariables false
set_option maxRecDepth 8000
namespace Go.Proofs.Ytpbnaaoilgohkaa
open Go Go.RowKit
section
variable {ki : IntKind}
theorem zadx {s : Nat} {xs : List (List AV)} {a : Int} {H : Heap} {k : AV → Prop} (hs : ∀ x ∈ xs, x.length = s) (h0 : 0 ≤ a) (h1 : a ≤ xs.length) (hk : k (.ro (xs.drop a.toNat))) : SL s (.ro xs) (some (.int ki a)) none H k := by
  simp only [SL, zbb, lohi, PURE, qk, Int.toNat_natCast, List.take_length]
  exact ⟨h0, h1, Int.le_refl _, hs, hk⟩
end
theorem Slot.cp {H : Heap} {sz k : Nat} {cells : List AV} {a : AV} {kh : AV → Heap → Prop} (hg : Slot H sz k cells a) {ys rest : List (List AV)} (hs : ∀ x ∈ ys ++ rest, x.length = sz) (hy : ys.length = k) (hone : ∀ x ∈ ys ++ rest, ∀ c ∈ x, c.one = true)
    (hk : ∀ H', Slot H' sz k ys.flatten a → (∀ g, g ∉ own a → H' g = H g) → kh (.int .i64 k) H') : CP sz a (.ro (ys ++ rest)) H kh := by
  have hsrc := zpg (H := H) hs
  rcases hg with ⟨rfl, rfl | rfl⟩ | ⟨g, cs, rfl, h1, h2, h3⟩
  · unfold CP COPY
    rw [hsrc]
    exact hk _ (.inl ⟨rfl, .inl rfl⟩) fun g _ => rfl
  · unfold CP COPY
    rw [hsrc]
    exact hk _ (.inl ⟨rfl, .inr rfl⟩) fun g _ => rfl
  · have hl : ys.flatten.length = k * sz := by rw [zej fun x hx => hs x (List.mem_append_left _ hx), hy]
    refine zapk hsrc h1 (by omega) ?_ ?_
    · refine List.all_eq_true.2 fun c hc => ?_
      obtain ⟨x, hx, hcx⟩ := List.mem_flatten.1 hc
      exact hone x hx c hcx
    · have e : min (ys ++ rest).length k = k := by simp [hy]
      rw [e]
      have et : ((ys ++ rest).flatten.take (k * sz)) = ys.flatten := by rw [List.flatten_append, List.take_append_of_le_length (by omega), List.take_of_length_le (by omega)]
      rw [et]
      refine hk _ (.inr ⟨g, _, rfl, Heap.put_at _ _ _, ?_, ?_⟩) fun x hx => Heap.put_ne _ _ (by simpa [own] using hx)
      · unfold zaw
        simp [hl]
      · unfold zaw
        simp [hl]
theorem Slot.gather {H : Heap} {sz k bytes nx m : Nat} {cells new : List AV} {a x : AV} {rdx : List Nat} {kt : Kt} (hg : Slot H sz k cells a) (hlen : cells.length = k * sz) (hs : zg sz H x = some (m, new, rdx)) (hnl : new.length = m * sz) (hone : new.all AV.one = true)
    (hb : (k + m) * bytes ≤ 140737488355328) (hk : ∀ v rd fr D, fr.length ≤ 1 → (∀ g ∈ domD D, g ∈ own a ∨ g = nx) → Slot (H.apply D) sz (k + m) (cells ++ new) v → (∀ g ∈ own v, g = nx ∧ fr.length = 1) → (∀ g, g ∉ own a → g ≠ nx → (H.apply D) g = H g) → kt v rd fr D) : zy sz bytes a x H nx kt := by
  rcases hg with ⟨rfl, rfl | rfl⟩ | ⟨g, cs, rfl, h1, h2, h3⟩
  · have hc : cells = [] := List.eq_nil_of_length_eq_zero (by omega)
    subst hc
    rw [zml, hs, optk]
    refine ⟨hone, fun hm => ?_, fun hm => ⟨by simpa using hb, ?_⟩⟩
    · simp only at hm; subst hm
      exact hk _ _ _ _ (by simp) (by simp) (.inl ⟨rfl, .inl rfl⟩) (by simp [own]) fun g _ _ => rfl
    · exact hk _ _ _ _ (by simp) (by simp) (.inr ⟨nx, new, by simp, by simp only [zac, zah, Heap.put_at], by rw [List.nil_append, List.take_of_length_le (by rw [Nat.zero_add]; omega)], by rw [Nat.zero_add]; omega⟩) (by simp [own]) fun g _ hx => by simp only [zac, zah]; exact Heap.put_ne _ _ hx
  · have hc : cells = [] := List.eq_nil_of_length_eq_zero (by omega)
    subst hc
    rw [zxz, hs, optk]
    refine ⟨hone, fun hm => ?_, fun hm => ⟨by simpa using hb, ?_⟩⟩
    · simp only at hm; subst hm
      exact hk _ _ _ _ (by simp) (by simp) (.inl ⟨rfl, .inr rfl⟩) (by simp [own]) fun g _ _ => rfl
    · exact hk _ _ _ _ (by simp) (by simp) (.inr ⟨nx, new, by simp, by simp only [zac, zah, Heap.put_at], by rw [List.nil_append, List.take_of_length_le (by rw [Nat.zero_add]; omega)], by rw [Nat.zero_add]; omega⟩) (by simp [own]) fun g _ hx => by simp only [zac, zah]; exact Heap.put_ne _ _ hx
  · rw [zle, hs, optk, h1, rowk]
    refine ⟨rfl, hone, by omega, hb, hk _ _ _ _ (by simp) (by simp [own]) (.inr ⟨nx, cells ++ new, rfl, ?_, ?_, ?_⟩) (by simp [own]) (fun x hx1 hx => ?_)⟩
    · simp only [zac, zah]; rw [Heap.put_at, List.drop_zero, h2]
    · rw [List.take_of_length_le]; rw [List.length_append, hlen, hnl, Nat.add_mul]; exact Nat.le_refl _
    · rw [List.length_append, hlen, hnl, Nat.add_mul]; exact Nat.le_refl _
    · simp only [zac, zah]; rw [Heap.put_ne _ _ hx, Heap.put_ne _ _ (by simpa [own] using hx1)]
theorem QC.thaw {P : Program} {f : FuncId} {args args' : List AV} {r : AV} (h : QC P f args r) {H H0 : Heap} {nx : Nat} {G : Nat → Prop} (hf : zav H G args' args) (h0 : ∀ g o, H0 g = some o → ¬ G g ∧ H g = some o) {kk : AV → Heap → Nat → Prop} (hk : kk r H0 nx) : za P f args' H nx kk :=
  za.thaw ((h H0 nx).mono fun v H' n' ⟨a, b, c⟩ => by subst a; subst b; subst c; exact hk) hf h0
theorem zvd : ∀ {ss : List (AV × AV)} {k i : Nat} {s t : AV × AV} {g : Nat}, (owns ss).Nodup → ss[k]? = some s → ss[i]? = some t → k ≠ i → g ∈ own s.1 ++ own s.2 → g ∈ own t.1 ++ own t.2 → False
  | [], k, i, s, t, g, _, h, _, _, _, _ => by simp at h
  | u :: ss, k, i, s, t, g, nd, h1, h2, hne, m1, m2 => by
    have e : owns (u :: ss) = (own u.1 ++ own u.2) ++ owns ss := by simp [owns]
    rw [e, List.nodup_append] at nd
    obtain ⟨_, n2, n3⟩ := nd
    have mem : ∀ {j : Nat} {v : AV × AV}, ss[j]? = some v → g ∈ own v.1 ++ own v.2 → g ∈ owns ss := fun hv hg => List.mem_flatMap.2 ⟨_, List.mem_of_getElem? hv, hg⟩
    match k, i with
    | 0, 0 => exact hne rfl
    | 0, i + 1 =>
      simp at h1 h2; subst h1
      exact n3 g m1 g (mem h2 m2) rfl
    | k + 1, 0 =>
      simp at h1 h2; subst h2
      exact n3 g m2 g (mem h1 m1) rfl
    | k + 1, i + 1 => exact zvd n2 (by simpa using h1) (by simpa using h2) (by omega) m1 m2
theorem zx.set {H H' : Heap} {fs : List Frm} {ss : List (AV × AV)} {i : Nat} {f : Frm} {s : AV × AV} (h : zx H fs ss) (nd : (owns ss).Nodup) (hs : ss[i]? = some s) (hk : ∀ g, g ∉ own s.1 → g ∉ own s.2 → H' g = H g) (h1 : Slot H' 3 f.vars.length (rowV f.vars) s.1) (h2 : Slot H' 3 f.stack.length (rowV f.stack) s.2) : zx H' (fs.set i f) ss := by
  refine ⟨by simp [h.1], fun k f' s' hf hs' => ?_⟩
  by_cases e : k = i
  · subst e
    rw [hs] at hs'; cases hs'
    have hl : k < fs.length := by rw [← h.1]; exact (List.getElem?_eq_some_iff.1 hs).1
    rw [List.getElem?_set_self hl] at hf
    cases hf
    exact ⟨h1, h2⟩
  · rw [List.getElem?_set_ne (Ne.symm e)] at hf
    obtain ⟨q1, q2⟩ := h.2 k f' s' hf hs'
    have hd : ∀ g, (g ∈ own s'.1 ∨ g ∈ own s'.2) → g ∉ own s.1 ∧ g ∉ own s.2 := fun g hg => by
      exact ⟨fun hx => zvd nd hs' hs e (List.mem_append.2 hg) (List.mem_append_left _ hx), fun hx => zvd nd hs' hs e (List.mem_append.2 hg) (List.mem_append_right _ hx)⟩
    exact ⟨q1.keep fun g hg => hk g (hd g (.inl hg)).1 (hd g (.inl hg)).2, q2.keep fun g hg => hk g (hd g (.inr hg)).1 (hd g (.inr hg)).2⟩
end Go.Proofs.Ytpbnaaoilgohkaa
set_option maxRecDepth 8000
namespace Go.Proofs.Ytpbnaaoilgohkaa
open Go Go.RowKit
theorem zaes : ∀ {fs : List Frm} {ss : List (AV × AV)} {i : Nat} {f : Frm} {s : AV × AV}, ss.length = fs.length → fs[i]? = some f → ss[i]? = some s → ((frow fs ss).drop (i * 4)).take 4 = [.int .i64 f.fn, .int .i64 f.at_, s.1, s.2]
  | [], _, i, f, s, _, h, _ => by simp at h
  | _ :: _, [], i, f, s, h0, _, h => by simp at h
  | g :: fs, t :: ss, 0, f, s, h0, h1, h2 => by simp at h1 h2; subst h1; subst h2; simp [frow]
  | g :: fs, t :: ss, i + 1, f, s, h0, h1, h2 => by
    have := zaes (fs := fs) (ss := ss) (i := i) (f := f) (s := s) (by simpa using h0) (by simpa using h1) (by simpa using h2)
    rw [← this, show (i + 1) * 4 = i * 4 + 1 + 1 + 1 + 1 by omega]
    simp [frow]
theorem zakx {cs : List AV} {fs : List Frm} {ss : List (AV × AV)} {i : Nat} {f : Frm} {s : AV × AV} (h : cs.take (fs.length * 4) = frow fs ss) (hl : ss.length = fs.length) (h1 : fs[i]? = some f) (h2 : ss[i]? = some s) : (cs.drop (i * 4)).take 4 = [.int .i64 f.fn, .int .i64 f.at_, s.1, s.2] := by
  have e := zaes hl h1 h2
  have hi := (List.getElem?_eq_some_iff.1 h1).1
  rw [← h, List.drop_take, List.take_take] at e
  rw [← e]; congr 1; omega
theorem Slot.frzP {H : Heap} {G : Nat → Prop} {sz : Nat} {xs : List (List AV)} {a : AV} (hs : Slot H sz xs.length xs.flatten a) (ho : ∀ g ∈ own a, G g) (hsz : ∀ x ∈ xs, x.length = sz) : FrzP H G a (.ro xs) := by
  rcases hs with ⟨h0, rfl | rfl⟩ | ⟨g, cs, rfl, h1, h2, h3⟩
  · rw [List.eq_nil_of_length_eq_zero h0]; exact .nils
  · rw [List.eq_nil_of_length_eq_zero h0]; exact .zs
  · refine FrzP.row (ho g (by simp [own])) h1 rfl hsz (fun i x j v hx hv => ⟨v, ?_, .same _⟩) h3
    have := zakh hsz hx hv
    rw [← h2, List.getElem?_take] at this
    split at this
    · exact this
    · cases this
def ze (fs : List Frm) : List Val := fs.flatMap fun f => f.vars ++ f.stack
theorem zxe (fs : List Frm) (f : Frm) : ze (fs ++ [f]) = ze fs ++ f.vars ++ f.stack := by simp [ze]
theorem zzd {fs : List Frm} (i : Nat) : (ze (fs.take i)).length ≤ (ze fs).length := by
  have e : ze fs = ze (fs.take i) ++ ze (fs.drop i) := by unfold ze; rw [← List.flatMap_append, List.take_append_drop]
  rw [e, List.length_append]; omega
set_option maxRecDepth 20000 in
set_option maxHeartbeats 1000000 in
theorem zagi {a : Agt} {H5 : Heap} {lo n1 gf p1 : Nat} {ss : List (AV × AV)} {cs : List AV} {Q : AV → Heap → Nat → Prop} (hb : (ze a.frames).length ≤ 4096) (hfl : a.frames.length ≤ 4096) (c1 : H5 gf = some (.row 4 cs)) (c2 : cs.take (a.frames.length * 4) = frow a.frames ss) (c3 : a.frames.length * 4 ≤ cs.length)
    (fr : zx H5 a.frames ss) (bd : ∀ g, (g = gf ∨ g ∈ owns ss) → lo ≤ g ∧ g < n1)
    (hend : ∀ H' n' l, n1 + 1 ≤ n' → (∀ g, g < n1 + 1 → H' g = H5 g) → Slot H' 3 (ze a.frames).length (rowV (ze a.frames)) l → (∀ g ∈ own l, n1 < g ∧ g < n') →
      FA 5 (.ptr n1 0) fun v29 => LD false 1 v29 H' fun v30 => za Try.prog 42 [v30, l] H' n' (zuv [.ptr p1 0, .ptr n1 0, l, .slc gf 0 a.frames.length, .int .i64 a.frames.length, .int .i64 a.frames.length] Q)) :
    LP (zkn Q) [.ptr p1 0, .ptr n1 0, .nils, .slc gf 0 a.frames.length, .int .i64 a.frames.length, .int .i64 0] H5 (n1 + 1) := by
  refine LP.mk (fun k xs H' n' => ∃ (i : Nat) (l : AV), k = a.frames.length - i ∧ i ≤ a.frames.length ∧ xs = [.ptr p1 0, .ptr n1 0, l, .slc gf 0 a.frames.length, .int .i64 a.frames.length, .int .i64 i] ∧ n1 + 1 ≤ n' ∧ (∀ g, g < n1 + 1 → H' g = H5 g) ∧
    Slot H' 3 (ze (a.frames.take i)).length (rowV (ze (a.frames.take i))) l ∧ ∀ g ∈ own l, n1 < g ∧ g < n') a.frames.length ⟨0, .nils, rfl, by omega, rfl, Nat.le_refl _, fun _ _ => rfl, .inl ⟨rfl, .inl rfl⟩, by simp [own]⟩ ?_
  rintro k xs H' n' ⟨i, l, rfl, hi, rfl, hn, keep, sl, bl⟩
  suffices key : ∀ K : J3, (∀ (i' : Nat) (l : AV) H' n', a.frames.length - i' < a.frames.length - i → i' ≤ a.frames.length → n1 + 1 ≤ n' → (∀ g, g < n1 + 1 → H' g = H5 g) → Slot H' 3 (ze (a.frames.take i')).length (rowV (ze (a.frames.take i'))) l → (∀ g ∈ own l, n1 < g ∧ g < n') → K [.ptr p1 0, .ptr n1 0, l, .slc gf 0 a.frames.length, .int .i64 a.frames.length, .int .i64 i'] H' n') →
      zkn Q K [.ptr p1 0, .ptr n1 0, l, .slc gf 0 a.frames.length, .int .i64 a.frames.length, .int .i64 i] H' n' from
    key _ fun i' l H' n' h1 h2 h3 h4 h5 h6 => ⟨_, h1, i', l, rfl, h2, rfl, h3, h4, h5, h6⟩
  intro K hK
  by_cases hil : i < a.frames.length
  · have hf : a.frames[i]? = some a.frames[i] := List.getElem?_eq_getElem hil
    have hs : ss[i]? = some (ss[i]'(by rw [fr.1]; exact hil)) := List.getElem?_eq_getElem _
    generalize a.frames[i] = f at hf
    generalize ss[i]'(by rw [fr.1]; exact hil) = s at hs
    obtain ⟨sv, st⟩ := fr.2 i f s hf hs
    have hgf := bd gf (.inl rfl)
    have e1 : H' gf = some (.row 4 cs) := (keep gf (by omega)).trans c1
    have e2 := zakx c2 fr.1 hf hs
    have one : s.1.one = true ∧ s.2.one = true := ⟨sv.one.2.1, st.one.2.1⟩
    have hsm : ∀ g, (g ∈ own s.1 ∨ g ∈ own s.2) → g < n1 := fun g hg => by
      refine (bd g (.inr (List.mem_flatMap.2 ⟨s, List.mem_of_getElem? hs, ?_⟩))).2
      simpa using hg
    have htk : a.frames.take (i + 1) = a.frames.take i ++ [f] := zgn hf
    have hle := zzd (fs := a.frames) (i + 1)
    have hadd : IntKind.i64.wrap ((i : Int) + 1) = ((i + 1 : Nat) : Int) := by rw [i64w (by omega)]; rfl
    have hr1 : ze (a.frames.take (i + 1)) = ze (a.frames.take i) ++ f.vars ++ f.stack := by rw [htk, zxe]
    rw [hr1] at hle
    simp only [List.length_append] at hle
    simp [zkn, hil, e1, e2, sv.one, st.one]
    refine ⟨by omega, ?_⟩
    have lst : (frow a.frames ss).length = a.frames.length * 4 := zmd fr.1
    have b0 : ∀ l : List Val, (rowV l).all AV.one = true := fun l => List.all_eq_true.2 fun c hc => zck (zgo _ c hc)
    have z0 : ∀ l : List Val, l.length = 0 → rowV l = [] := fun l h => by rw [List.eq_nil_of_length_eq_zero h]; rfl
    generalize hX : Heap.put H' n' _ = HX
    have x1 : HX n' = some (.row 4 [.int .i64 f.fn, .int .i64 f.at_, s.1, s.2]) := by rw [← hX, Heap.put_at]
    have xk : ∀ g, g ≠ n' → HX g = H' g := fun g hg => by rw [← hX, Heap.put_ne _ _ hg]
    have xs : ∀ g, (g ∈ own s.1 ∨ g ∈ own s.2) → HX g = H5 g := fun g hg => by have := hsm g hg; rw [xk g (by omega), keep g (by omega)]
    obtain ⟨rd0, hs1⟩ := (sv.keep fun g hg => xs g (.inl hg)).src (z0 f.vars)
    refine Slot.gather (sl.keep fun g hg => xk g (by have := bl g hg; omega)) (by simp) hs1 (by simp) (b0 _) (by omega) fun v1 rd1 fr1 D1 l1 d1 s1 o1 k1 => ?_
    have y1 : (HX.apply D1) n' = some (.row 4 [.int .i64 f.fn, .int .i64 f.at_, s.1, s.2]) := by rw [k1 n' (fun h => by have := bl _ h; omega) (by omega)]; exact x1
    have yk : ∀ g, g < n1 + 1 → (HX.apply D1) g = H5 g := fun g hg => by rw [k1 g (fun h => by have := bl _ h; omega) (by omega), xk g (by omega), keep g hg]
    have dd : n' ∉ domD D1 := fun h => by
      rcases d1 n' h with h | h
      · have := bl _ h; omega
      · omega
    generalize HX.apply D1 = HY at *
    simp only [y1, rowk]
    simp
    obtain ⟨rd2, hs2⟩ := (st.keep fun g hg => yk g (by have := hsm g (.inr hg); omega)).src (z0 f.stack)
    refine Slot.gather s1 (by simp; omega) hs2 (by simp) (b0 _) (by omega) fun v2 rd3 fr2 D2 l2 d2 s2 o2 k2 => ?_
    have zk : ∀ g, g < n1 + 1 → (HY.apply D2) g = H5 g := fun g hg => by rw [k2 g (fun h => by have := o1 _ h; omega) (by omega), yk g hg]
    generalize HY.apply D2 = HZ at *
    refine zbs (fun g _ => by simp) (zbs (fun g _ => by simp) (zbs (fun g hg => by simp; rintro rfl; exact dd hg) (zbs (fun g _ => by simp) ?_)))
    rw [hadd]
    refine hK (i + 1) v2 HZ _ (by omega) (by omega) (by omega) zk ?_ fun g hg => ?_
    · rw [hr1, zpk, zpk]
      simpa [Nat.add_assoc] using s2
    · have := o2 g hg; omega
  · obtain rfl : i = a.frames.length := by omega
    rw [List.take_length] at sl
    have := hend H' n' l hn keep sl bl
    simpa [zkn] using this
theorem zaer {p : Val → Val} : ∀ (fs : List Frm) (ss : List (AV × AV)), frow (fs.map fun f => { f with vars := f.vars.map p, stack := f.stack.map p }) ss = frow fs ss
  | [], _ => rfl
  | _ :: _, [] => rfl
  | f :: fs, s :: ss => by simp only [List.map_cons, frow]; rw [zaer fs ss]
def pkF (p : Val → Val) (f : Frm) : Frm := { f with vars := f.vars.map p, stack := f.stack.map p }
set_option maxRecDepth 20000 in
set_option maxHeartbeats 1000000 in
theorem zakb {fs : List Frm} {id trip : Int} {pr : Prg} {m : Pmt} {p : Val → Val} {hp : List Cl} {H1 : Heap} {n1 gf p1 n : Nat} {ss : List (AV × AV)} {cs : List AV} {ha : AV} {Q : AV → Heap → Nat → Prop} (hfl : fs.length ≤ 4096) (c1 : H1 gf = some (.row 4 cs)) (c2 : cs.take (fs.length * 4) = frow fs ss) (c3 : fs.length * 4 ≤ cs.length)
    (fr : zx H1 fs ss) (nd : (owns ss).Nodup) (g0 : gf ∉ owns ss) (g1 : n1 ∉ owns ss) (g2 : p1 ∉ owns ss) (g3 : p1 ≠ n1) (r1 : H1 n1 = some (.row 9 (zaj id trip pr (.slc gf 0 fs.length) ha m))) (r2 : ∃ z, H1 p1 = some (.row 9 z) ∧ z.length = 9)
    (hend : ∀ H', zx H' (fs.map (pkF p)) ss → (∀ g, g ∉ owns ss → g ≠ n1 → g ≠ p1 → H' g = H1 g) → Q (.agg (zaj id trip pr (.slc gf 0 fs.length) (.ro (hp.map Cl.avs)) m)) H' n) :
    LP (zko Q) [.ptr p1 0, .ptr n1 0, .ro ((ze fs).map fun v => (p v).avs), .ro (hp.map Cl.avs), .int .i64 fs.length, .int .i64 0] H1 n := by
  refine LP.mk (fun k xs H' n' => ∃ i : Nat, k = fs.length - i ∧ i ≤ fs.length ∧ n' = n ∧ xs = [.ptr p1 0, .ptr n1 0, .ro ((ze (fs.drop i)).map fun v => (p v).avs), .ro (hp.map Cl.avs), .int .i64 fs.length, .int .i64 i] ∧
    zx H' ((fs.take i).map (pkF p) ++ fs.drop i) ss ∧ ∀ g, g ∉ owns ss → H' g = H1 g) fs.length ⟨0, rfl, by omega, rfl, rfl, by simpa using fr, fun _ _ => rfl⟩ ?_
  rintro k xs H' n' ⟨i, rfl, hi, rfl, rfl, fr', keep⟩
  suffices key : ∀ K : J3, (∀ (i' : Nat) H', fs.length - i' < fs.length - i → i' ≤ fs.length → zx H' ((fs.take i').map (pkF p) ++ fs.drop i') ss → (∀ g, g ∉ owns ss → H' g = H1 g) → K [.ptr p1 0, .ptr n1 0, .ro ((ze (fs.drop i')).map fun v => (p v).avs), .ro (hp.map Cl.avs), .int .i64 fs.length, .int .i64 i'] H' n') →
      zko Q K [.ptr p1 0, .ptr n1 0, .ro ((ze (fs.drop i)).map fun v => (p v).avs), .ro (hp.map Cl.avs), .int .i64 fs.length, .int .i64 i] H' n' from
    key _ fun i' H' h1 h2 h3 h4 => ⟨_, h1, i', rfl, h2, rfl, rfl, h3, h4⟩
  intro K hK
  have e0 := (keep _ g0).trans c1
  have e1 := (keep _ g1).trans r1
  obtain ⟨z, z1, z2⟩ := r2
  have e2 := (keep _ g2).trans z1
  by_cases hil : i < fs.length
  · have hf : fs[i]? = some fs[i] := List.getElem?_eq_getElem hil
    have hs : ss[i]? = some (ss[i]'(by rw [fr.1]; exact hil)) := List.getElem?_eq_getElem _
    have hdrop : fs.drop i = fs[i] :: fs.drop (i + 1) := List.drop_eq_getElem_cons hil
    have htk : fs.take (i + 1) = fs.take i ++ [fs[i]] := zgn hf
    generalize fs[i] = f at *
    generalize ss[i]'(by rw [fr.1]; exact hil) = s at hs
    have e3 := zakx c2 fr.1 hf hs
    have hadd : IntKind.i64.wrap ((i : Int) + 1) = ((i + 1 : Nat) : Int) := by rw [i64w (by omega)]; rfl
    have hm : ((fs.take i).map (pkF p) ++ fs.drop i)[i]? = some f := by rw [List.getElem?_append_right (by simp; omega)]; simp [Nat.min_eq_left (Nat.le_of_lt hil), hf]
    obtain ⟨sv, st⟩ := fr'.2 i f s hm hs
    have hroots : ze (fs.drop i) = f.vars ++ (f.stack ++ ze (fs.drop (i + 1))) := by rw [hdrop]; simp [ze]
    have q2 : cs[i * 4 + 2]? = some s.1 := by
      have := congrArg (·[2]?) e3
      simpa using this
    have q3 : cs[i * 4 + 3]? = some s.2 := by
      have := congrArg (·[3]?) e3
      simpa using this
    rw [hroots]
    have hown : ∀ g, (g ∈ own s.1 ∨ g ∈ own s.2) → g ∈ owns ss := fun g hg => List.mem_flatMap.2 ⟨s, List.mem_of_getElem? hs, by simpa using hg⟩
    have hdis : ∀ g ∈ own s.1, g ∉ own s.2 := by
      obtain ⟨hi1, rfl⟩ := List.getElem?_eq_some_iff.1 hs
      have hsub : (own ss[i].1 ++ own ss[i].2).Sublist (owns ss) := List.sublist_flatten_of_mem (List.mem_map.2 ⟨_, List.getElem_mem hi1, rfl⟩)
      have := List.nodup_append.1 (nd.sublist hsub)
      exact fun g h1 h2 => this.2.2 g h1 g h2 rfl
    have len3 : ∀ l : List Val, ∀ x ∈ l.map (fun v => (p v).avs), x.length = 3 := fun l x hx => by obtain ⟨v, _, rfl⟩ := List.mem_map.1 hx; rfl
    have one3 : ∀ l : List Val, ∀ x ∈ l.map (fun v => (p v).avs), ∀ c ∈ x, c.one = true := fun l x hx c hc => by obtain ⟨v, _, rfl⟩ := List.mem_map.1 hx; exact zck (zbp _ c hc)
    have fl : ∀ l : List Val, (l.map fun v => (p v).avs).flatten = rowV (l.map p) := fun l => by simp [rowV, List.map_map, Function.comp_def]
    simp [zko, hil, e0, e1, zaj, q2, q3]
    refine Slot.cp sv (fun x hx => ?_) (by simp) (fun x hx => ?_) fun H2 s2 k2 => ?_
    · rw [← List.map_append, ← List.map_append] at hx; exact len3 _ x hx
    · rw [← List.map_append, ← List.map_append] at hx; exact one3 _ x hx
    refine zadx (fun x hx => ?_) (by omega) (by simp; omega) ?_
    · rw [← List.map_append, ← List.map_append] at hx; exact len3 _ x hx
    have h2 : H2 gf = some (.row 4 cs) := by rw [k2 gf (fun h => g0 (hown _ (.inl h)))]; exact e0
    have hd1 : ∀ (A B : List (List AV)) (n : Nat), A.length = n → (A ++ B).drop ((n : Int).toNat) = B := fun A B n h => by simp [← h]
    rw [hd1 _ _ _ (by simp)]
    simp only [h2, rowk, q3, optk]
    refine Slot.cp (st.keep fun g hg => k2 g fun h => hdis g h hg) (fun x hx => ?_) (by simp) (fun x hx => ?_) fun H3 s3 k3 => ?_
    · rw [← List.map_append] at hx; exact len3 _ x hx
    · rw [← List.map_append] at hx; exact one3 _ x hx
    refine zadx (fun x hx => ?_) (by omega) (by simp; omega) ?_
    · rw [← List.map_append] at hx; exact len3 _ x hx
    rw [hd1 _ _ _ (by simp), hadd]
    rw [fl] at s2 s3
    have e4 : (fs.take (i + 1)).map (pkF p) ++ fs.drop (i + 1) = ((fs.take i).map (pkF p) ++ fs.drop i).set i (pkF p f) := by
      rw [htk, hdrop, List.set_append_right _ _ (by simp; omega)]
      simp [Nat.min_eq_left (Nat.le_of_lt hil)]
    refine hK (i + 1) H3 (by omega) (by omega) ?_ fun g hg => ?_
    · rw [e4]
      refine fr'.set nd hs (fun g h1 h2 => by rw [k3 g h2, k2 g h1]) ?_ ?_
      · have := s2.keep (H' := H3) fun g hg => k3 g (hdis g hg)
        simpa [pkF] using this
      · simpa [pkF] using s3
    · rw [k3 g (fun h => hg (hown _ (.inr h))), k2 g (fun h => hg (hown _ (.inl h)))]
      exact keep g hg
  · obtain rfl : i = fs.length := by omega
    rw [List.take_length, List.drop_length, List.append_nil] at fr'
    simp [zko, e1, e2, zaj, z2, g3]
    have := hend ((H'.put n1 (some (.row 9 (zaj id trip pr (.slc gf 0 fs.length) (.ro (hp.map Cl.avs)) m)))).put p1 (some (.row 9 (zaj id trip pr (.slc gf 0 fs.length) (.ro (hp.map Cl.avs)) m ++ z.drop 9)))) (fr'.keep fun g hg => ?_) fun g q1 q2 q3 => ?_
    · simpa [zaj] using this
    · have a1 : g ≠ p1 := fun e => g2 (e ▸ hg)
      have a2 : g ≠ n1 := fun e => g1 (e ▸ hg)
      rw [Heap.put_ne _ _ a1, Heap.put_ne _ _ a2]
    · rw [Heap.put_ne _ _ q3, Heap.put_ne _ _ q2]; exact keep g q1
set_option maxRecDepth 20000 in
set_option maxHeartbeats 1000000 in
theorem zapa {a : Agt} {fs : List Frm} {f : Frm} (sz : zadr a) (hfr : a.frames = fs ++ [f]) (hfl : a.frames.length ≤ 4096) (hb : (ze a.frames).length ≤ 4096) (hr : VM.right a.heap (ze a.frames) = true) :
    QC Try.prog 13 [.agg a.avs] (.agg (VM.pack a).avs) := by
  refine QC.of' fun H nx => ?_
  refine zadl _ H nx _ ?_
  have av : (AV.agg a.avs).cells = a.avs := by simp
  have al : a.avs.length = 9 := rfl
  have hsu : (AV.agg a.avs).sure = true := by simp [Agt.avs]
  have at9 : a.avs.take 9 = a.avs := by rw [← al, List.take_length]
  unfold zaaj
  rw [av, al]
  refine ⟨hsu, ?_⟩
  simp [al, at9]
  refine zapq sz fun H1 n1 ss fa ha hn1 k1 ow => ?_
  generalize hHH : Heap.put _ (nx + 1) _ = HH at *
  have q2 : ∃ z, HH (nx + 1) = some (.row 9 z) ∧ z.length = 9 := ⟨_, by rw [← hHH, Heap.put_at], rfl⟩
  have q4 : Keep nx HH H := fun g hg => by rw [← hHH, Heap.put_ne _ _ (by omega), Heap.put_ne _ _ (by omega)]
  have h1 := ow.hp.one
  obtain ⟨gf, cs, rfl, c1, c2, c3⟩ : ∃ gf cs, fa = .slc gf 0 a.frames.length ∧ H1 gf = some (.row 4 cs) ∧ cs.take (a.frames.length * 4) = frow a.frames ss ∧ a.frames.length * 4 ≤ cs.length := by
    rcases ow.row with ⟨h0, _⟩ | ⟨gf, cs, h2⟩
    · rw [hfr] at h0; simp at h0
    · exact ⟨gf, cs, h2⟩
  have bd : ∀ g, (g = gf ∨ g ∈ owns ss) → nx + 2 ≤ g ∧ g < n1 := fun g hg => ow.bd g (by rcases hg with rfl | h <;> simp [own, *])
  have bh : ∀ g ∈ own ha, nx + 2 ≤ g ∧ g < n1 := fun g hg => ow.bd g (by simp [hg])
  have nd := ow.nd
  have e0 : own (AV.slc gf 0 a.frames.length) = [gf] := rfl
  rw [e0, List.singleton_append, List.nodup_cons, List.nodup_append] at nd
  obtain ⟨nd1, nd2, nd3, nd4⟩ := nd
  simp only [List.mem_append, not_or] at nd1
  simp [zaak, zaj, h1.1, h1.2.1, h1.2.2]
  generalize hX : Heap.put H1 n1 _ = HX
  have x1 : HX n1 = some (.row 9 (zaj a.id a.trip a.prog (.slc gf 0 a.frames.length) ha a.permit)) := by rw [← hX, Heap.put_at]; rfl
  have xk : ∀ g, g < n1 → HX g = H1 g := fun g hg => by rw [← hX, Heap.put_ne _ _ (by omega)]
  refine zagi (lo := nx + 2) hb hfl (by rw [xk gf (bd gf (.inl rfl)).2]; exact c1) c2 c3 (ow.frs.keep fun g hg => xk g (bd g (.inr hg)).2) bd fun H' n' l hn keep sl bl => ?_
  have x2 := (keep n1 (by omega)).trans x1
  simp [x2, zaj]
  let G : Nat → Prop := fun g => g ∈ own ha ∨ g ∈ own l
  let H0 : Heap := fun g => if g ∈ own ha ∨ g ∈ own l then none else H' g
  have h0 : ∀ g o, H0 g = some o → ¬ G g ∧ H' g = some o := fun g o hg => by
    by_cases h : g ∈ own ha ∨ g ∈ own l
    · simp only [H0, if_pos h] at hg; cases hg
    · simp only [H0, if_neg h] at hg; exact ⟨h, hg⟩
  have up : ∀ g, g ∉ own ha → g < n1 + 1 → H0 g = HX g := fun g h1 h2 => by
    simp only [H0]
    rw [if_neg (fun h => by
      rcases h with h | h
      · exact h1 h
      · have := bl g h; omega)]
    exact keep g h2
  refine QC.thaw (zanx a.heap (ze a.frames) hr sz.b5 (by omega)) (G := G) (H0 := H0) (zav.cons (Slot.frzP (sz := 6) ?_ (fun g hg => .inl hg) (zfh _)) (zav.cons (Slot.frzP (sz := 3) ?_ (fun g hg => .inr hg) (zda _)) .nil)) h0 ?_
  · have := ow.hp.keep (H' := H') fun g hg => by have := bh g hg; rw [keep g (by omega), xk g (by omega)]
    simpa [rowC] using this
  · simpa [rowV] using sl
  have y1 : H0 n1 = some (.row 9 (zaj a.id a.trip a.prog (.slc gf 0 a.frames.length) ha a.permit)) := by
    rw [up n1 (fun h => by have := bh _ h; omega) (by omega)]; exact x1
  have lowk : ∀ g, g < nx + 2 → H0 g = HH g := fun g hg => by
    rw [up g (fun h => by have := bh _ h; omega) (by omega), xk g (by omega), k1 g (by omega)]
  simp [zuv, y1, zaj]
  obtain ⟨z, z1, z2⟩ := q2
  have hcv : (VM.canonV a.heap (ze a.frames)).map Val.avs = (ze a.frames).map fun v => (VM.put (VM.order a.heap (ze a.frames)) v).avs := by
    unfold VM.canonV; rw [List.map_map]; rfl
  rw [hcv]
  have gdis : ∀ g ∈ owns ss, g ∉ own ha := fun g hg h => nd4 g h g hg rfl
  refine zakb (id := a.id) (trip := a.trip) (pr := a.prog) (m := a.permit) (p := VM.put (VM.order a.heap (ze a.frames))) (hp := VM.canonC a.heap (ze a.frames)) (ss := ss) (cs := cs) (ha := ha) hfl ?_ c2 c3 (ow.frs.keep fun g hg => ?_) nd3 nd1.2 (fun h => by have := bd _ (.inr h); omega) (fun h => by have := bd _ (.inr h); omega) (by omega) y1 ⟨z, by rw [lowk _ (by omega)]; exact z1, z2⟩ fun H3 fr3 k3 => ?_
  · rw [up gf nd1.1 (by have := bd gf (.inl rfl); omega), xk gf (bd gf (.inl rfl)).2]; exact c1
  · rw [up g (gdis g hg) (by have := bd g (.inr hg); omega), xk g (bd g (.inr hg)).2]
  have hgf := bd gf (.inl rfl)
  refine ⟨?_, fun g hg => ?_⟩
  · have hp : VM.pack a = ⟨a.id, a.trip, a.prog, a.frames.map (pkF (VM.put (VM.order a.heap (ze a.frames)))), VM.canonC a.heap (ze a.frames), a.permit⟩ := rfl
    rw [hp]
    have ef : frow (a.frames.map (pkF (VM.put (VM.order a.heap (ze a.frames))))) ss = frow a.frames ss := zaer _ _
    refine zacv (zx.frz (cs := cs) fr3 ?_ (by simpa [ef] using c2) (by simpa using c3) (by omega) (fun x hx => by have := bd x (.inr hx); omega) (by simp)) (.same _ (zgu (zwz _)))
    rw [k3 gf nd1.2 (by omega) (by omega), up gf nd1.1 (by omega), xk gf hgf.2]; exact c1
  · rw [k3 g (fun h => by have := bd _ (.inr h); omega) (by omega) (by omega), lowk g (by omega)]
    exact q4 g hg
end Go.Proofs.Ytpbnaaoilgohkaa
set_option maxRecDepth 8000
namespace Go.Proofs.Ytpbnaaoilgohkaa
open Go Go.RowKit
theorem WExt.numsL {p n n' : Nat} {l l' : AV} {bs : Str} {H H' : Heap} {Q : AV → Heap → Nat → Prop} (e : WExt p l H n l' bs H' n') (ns : List Int) (hb : bs.length + 10 * ns.length ≤ 100000000000000) (hi : ∀ m ∈ ns, -9223372036854775808 ≤ m ∧ m ≤ 9223372036854775807)
    (hq : ∀ H2 n2 l2, WExt p l H n l2 (bs ++ zt ns) H2 n2 → (∀ y, y < n' → y ≠ p → y ∉ own l' → H2 y = H' y ∧ y ∉ own l2 ∧ y < n2) → Q (.tup []) H2 n2) : za Try.prog 14 [.ptr p 0, .slc n' 0 ns.length] (H'.put n' (some (.row 1 (ns.map (AV.int .i64))))) (n' + 1) Q := by
  have w := e.wr
  have e1 := e.put (.row 1 (ns.map (AV.int .i64)))
  refine zahe e1.wr (Heap.put_at _ _ _) (by have := w.lt; omega) (fun h => by have := w.ow _ h; omega) (by omega) hb hi fun H2 n2 l2 e2 => hq _ _ _ (e1.trans e2) fun y h1 h2 h3 => ⟨?_, fun h4 => ?_, by have := e2.le; omega⟩
  · rw [e2.keep y (by omega) h2 h3, Heap.put_ne _ _ (by omega)]
  · rcases e2.new y h4 with h5 | h5
    · exact h3 h5
    · omega
theorem zxn (f : Frm) : VM.frmB f = zt [f.fn, f.at_] ++ VM.valsB f.vars ++ VM.valsB f.stack := by simp [VM.frmB, zt]
theorem zws {l : List Val} (h : I64l l) (hl : l.length ≤ 4096) : (VM.valsB l).length ≤ 20000000 := by
  unfold VM.valsB
  have h1 := zap l.length
  have h2 := zex (l := l) (f := VM.valB) (k := 4116) fun v hv => by have := zjj v; have := (h v hv).2; omega
  rw [List.length_append]
  omega
structure zabp (b : Agt) : Prop where
  prog : zyb b.prog
  id : I64 b.id
  trip : I64 b.trip
  pmt : I64 b.permit.fuel ∧ I64 b.permit.room ∧ I64 b.permit.hops
  frames : b.frames.length ≤ 4096 ∧ ∀ f ∈ b.frames, I64 f.fn ∧ I64 f.at_ ∧ (I64l f.vars ∧ f.vars.length ≤ 4096) ∧ (I64l f.stack ∧ f.stack.length ≤ 4096)
  heap : b.heap.length ≤ 4096 ∧ ∀ c ∈ b.heap, (I64v c.left ∧ c.left.text.length ≤ 4096) ∧ (I64v c.right ∧ c.right.text.length ≤ 4096)
theorem zzx {f : Frm} (h1 : I64l f.vars ∧ f.vars.length ≤ 4096) (h2 : I64l f.stack ∧ f.stack.length ≤ 4096) : (VM.frmB f).length ≤ 50000000 := by
  rw [zxn, List.length_append, List.length_append]
  have := zbk [f.fn, f.at_]
  have := zws h1.1 h1.2
  have := zws h2.1 h2.2
  simp only [List.length_cons, List.length_nil] at *
  omega
theorem zahn {c : Cl} (h1 : c.left.text.length ≤ 4096) (h2 : c.right.text.length ≤ 4096) : (VM.clB c).length ≤ 10000 := by
  unfold VM.clB
  have := zjj c.left
  have := zjj c.right
  rw [List.length_append]
  omega
theorem zael {p : Prg} (h : zyb p) : (VM.prgB p).length ≤ 1000000000 := by
  unfold VM.prgB
  have h1 := zap p.words.length
  have h2 := zap p.codes.length
  have h3 := zex (l := p.words) (f := VM.textB) (k := 4106) fun w hw => by have := zmp w; have := h.words.2 w hw; omega
  have h4 := zex (l := p.codes) (f := VM.codB) (k := 200000) fun c hc => zvk (h.codes.2 c hc).1
  have := h.words.1
  have := h.codes.1
  simp only [List.length_append]
  omega
set_option maxRecDepth 20000 in
set_option maxHeartbeats 4000000 in
theorem zanz {a : Agt} {fs : List Frm} {f : Frm} (sz : zadr a) (hfr : a.frames = fs ++ [f]) (hfl : a.frames.length ≤ 4096) (hroots : (ze a.frames).length ≤ 4096) (hr : VM.right a.heap (ze a.frames) = true) (sm : zabp (VM.pack a)) :
    QC Try.prog 5 [.agg a.avs] (.ro (bsR (VM.image a))) := by
  refine QC.of' fun H nx => ?_
  refine zyx _ H nx _ ?_
  have al : a.avs.length = 9 := rfl
  have at9 : a.avs.take 9 = a.avs := rfl
  have hsu : (AV.agg a.avs).sure = true := by simp [Agt.avs]
  unfold ztu
  refine ⟨hsu, ?_⟩
  simp [al, at9]
  refine QC.call (zapa sz hfr hfl hroots hr) ?_
  have him : VM.image a = VM.agtB (VM.pack a) ++ WM.num (WM.sum (VM.agtB (VM.pack a))) := rfl
  rw [him]
  generalize VM.pack a = b at *
  clear hfr hfl hroots hr sz at9 al hsu
  have bl : b.avs.length = 9 := rfl
  have bt : b.avs.take 9 = b.avs := rfl
  have bd : b.avs.drop 9 = [] := rfl
  have hsb : (AV.agg b.avs).sure = true := by simp [Agt.avs]
  have bav : b.avs = [.int .i64 b.id, .int .i64 b.trip, .ro (b.prog.codes.map Cod.avs), .ro (b.prog.words.map fun w => [.str w]), .ro (b.frames.map Frm.avs), .ro (b.heap.map Cl.avs), .int .i64 b.permit.fuel, .int .i64 b.permit.room, .int .i64 b.permit.hops] := rfl
  have ne_0 : nx ≠ nx + 1 ∧ nx + 1 ≠ nx ∧ nx ≠ nx + 1 + 1 ∧ nx + 1 + 1 ≠ nx := ⟨by omega, by omega, by omega, by omega⟩
  simp [zsf, bav]
  rw [← bav]
  generalize hX : Heap.put _ (nx + 1 + 1) _ = X
  have x1 : X (nx + 1 + 1) = some (.row 1 [.nils]) := by rw [← hX, Heap.put_at]
  have x2 : X (nx + 1) = some (.row 9 b.avs) := by rw [← hX, Heap.put_ne _ _ (by omega), Heap.put_at]
  have xk : ∀ y, y < nx → X y = H y := fun y hy => by rw [← hX, Heap.put_ne _ _ (by omega), Heap.put_ne _ _ (by omega), Heap.put_ne _ _ (by omega)]
  clear hX
  have w : WrM (nx + 1 + 1) .nils [] X (nx + 1 + 2) := ⟨x1, .inl ⟨rfl, .inl rfl⟩, by simp [own], by omega⟩
  have gk : ∀ {H' : Heap} {n' : Nat} {l' : AV} {bs' : Str}, WExt (nx + 1 + 1) .nils X (nx + 1 + 2) l' bs' H' n' → H' (nx + 1) = some (.row 9 b.avs) := fun e => (e.keep _ (by omega) (by omega) (by simp [own])).trans x2
  have b4 : b.avs[4]? = some (.ro (b.frames.map Frm.avs)) := rfl
  have b5 : b.avs[5]? = some (.ro (b.heap.map Cl.avs)) := rfl
  obtain ⟨sp, s1, s2, ⟨s3, s4, s5⟩, ⟨f1, f2⟩, ⟨h1, h2⟩⟩ := sm
  refine w.ext.nums [b.id, b.trip, b.permit.fuel, b.permit.room, b.permit.hops] (by simp) (by simp; exact ⟨s1, s2, s3, s4, s5⟩) fun H1 n1 l1 e1 _ => ?_
  rw [List.nil_append] at e1
  have nl1 := zbk [b.id, b.trip, b.permit.fuel, b.permit.room, b.permit.hops]
  simp only [List.length_cons, List.length_nil] at nl1
  simp only [zsg]
  refine zaft e1.wr sp (gk e1) (by omega) rfl rfl (by omega) fun H2 n2 l2 e2' => ?_
  have e2 := e1.trans e2'
  have pl := zael sp
  have g2 := gk e2
  simp [zsh, g2, b4]
  refine e2.nums [(b.frames.length : Int)] (by rw [List.length_append, List.length_singleton]; omega) (by simp; omega) fun H3 n3 l3 e3 _ => ?_
  have nl3 := zbk [(b.frames.length : Int)]
  simp only [List.length_singleton] at nl3
  have g3 := gk e3
  simp [ztv, g3, b4]
  generalize hB : zt [b.id, b.trip, b.permit.fuel, b.permit.room, b.permit.hops] ++ VM.prgB b.prog ++ zt [(b.frames.length : Int)] = B at e3
  have hBl : B.length ≤ 2000000000 := by rw [← hB]; simp only [List.length_append]; omega
  have hfl : ∀ f ∈ b.frames, (VM.frmB f).length ≤ 50000000 := fun f hf => zzx (f2 f hf).2.2.1 (f2 f hf).2.2.2
  have hcl : ∀ c ∈ b.heap, (VM.clB c).length ≤ 10000 := fun c hc => zahn (h2 c hc).1.2 (h2 c hc).2.2
  refine LP.mk (fun k xs H' n' => ∃ (i : Nat) (l' : AV), k = b.frames.length - i ∧ i ≤ b.frames.length ∧ xs = [.ptr (nx + 1) 0, .ptr (nx + 1 + 1) 0, .ro (b.frames.map Frm.avs), .int .i64 b.frames.length, .int .i64 i] ∧ WExt (nx + 1 + 1) .nils X (nx + 1 + 2) l' (B ++ (b.frames.take i).flatMap VM.frmB) H' n') b.frames.length ⟨0, l3, rfl, by omega, rfl, by simpa using e3⟩ ?_
  clear e3 g3 e2 g2 e2' e1
  rintro k xs H4 n4 ⟨i, l4, rfl, hil, rfl, e4⟩
  have hft := zat hfl hil
  by_cases hlt : i < b.frames.length
  · have hadd : IntKind.i64.wrap ((i : Int) + 1) = ((i + 1 : Nat) : Int) := by rw [i64w (by omega)]; rfl
    have hm : b.frames[i]? = some b.frames[i] := List.getElem?_eq_getElem hlt
    obtain ⟨d1, d2, ⟨d3, d4⟩, ⟨d5, d6⟩⟩ := f2 _ (List.getElem_mem hlt)
    generalize hmm : b.frames[i] = m at hm d1 d2 d3 d4 d5 d6
    have hsn := zau (f := VM.frmB) hm
    simp [zmb, hlt, hmm, Frm.avs]
    have ep := e4.put (.row 4 m.avs)
    have lp := e4.wr.lt
    have nop : n4 ∉ own l4 := fun h => by have := e4.wr.ow _ h; omega
    refine ep.numsL [m.fn, m.at_] (by rw [List.length_append]; simp only [List.length_cons, List.length_nil]; omega) (by simp; exact ⟨d1, d2⟩) fun H5 n5 l5 e5 k5 => ?_
    have nl5 := zbk [m.fn, m.at_]
    simp only [List.length_cons, List.length_nil] at nl5
    obtain ⟨r5, o5, lt5⟩ := k5 n4 (by omega) (by omega) nop
    rw [Heap.put_at] at r5
    simp [zub, r5, Frm.avs]
    refine zacl e5.wr d3 (by omega) (by simp only [List.length_append]; omega) fun H6 n6 l6 e6 => ?_
    have e6' := e5.trans e6
    have lv := zws d3 d4
    have r6 : H6 n4 = some (.row 4 m.avs) := (e6.keep n4 lt5 (by omega) o5).trans r5
    simp [zuc, r6, Frm.avs]
    refine zacl e6'.wr d5 (by omega) (by simp only [List.length_append]; omega) fun H7 n7 l7 e7 => ?_
    have e7' := e6'.trans e7
    have eb : B ++ (b.frames.take i).flatMap VM.frmB ++ zt [m.fn, m.at_] ++ VM.valsB m.vars ++ VM.valsB m.stack = B ++ (b.frames.take (i + 1)).flatMap VM.frmB := by rw [hsn, zxn]; simp only [List.append_assoc]
    rw [eb] at e7'
    simp [zud, hadd]
    exact ⟨b.frames.length - (i + 1), by omega, i + 1, rfl, by omega, rfl, _, e7'⟩
  · obtain rfl : i = b.frames.length := by omega
    rw [List.take_length] at e4 hft
    have g4 := gk e4
    simp [zmb, g4, b5]
    refine e4.nums [(b.heap.length : Int)] (by rw [List.length_append, List.length_singleton]; omega) (by simp; omega) fun H5 n5 l5 e5 _ => ?_
    have nl5 := zbk [(b.heap.length : Int)]
    simp only [List.length_singleton] at nl5
    have g5 := gk e5
    simp [ztw, g5, b5]
    generalize hC : B ++ b.frames.flatMap VM.frmB ++ zt [(b.heap.length : Int)] = C at e5
    have hCl : C.length ≤ 500000000000 := by rw [← hC]; simp only [List.length_append]; omega
    refine LP.mk (fun k xs H' n' => ∃ (i : Nat) (l' : AV), k = b.heap.length - i ∧ i ≤ b.heap.length ∧ xs = [.ptr (nx + 1 + 1) 0, .ro (b.heap.map Cl.avs), .int .i64 b.heap.length, .int .i64 i] ∧ WExt (nx + 1 + 1) .nils X (nx + 1 + 2) l' (C ++ (b.heap.take i).flatMap VM.clB) H' n') b.heap.length ⟨0, l5, rfl, by omega, rfl, by simpa using e5⟩ ?_
    clear e5 g5 e4 g4
    rintro k xs H6 n6 ⟨i, l6, rfl, hil, rfl, e6⟩
    have hft6 := zat hcl hil
    by_cases hlt : i < b.heap.length
    · have hadd : IntKind.i64.wrap ((i : Int) + 1) = ((i + 1 : Nat) : Int) := by rw [i64w (by omega)]; rfl
      have hm : b.heap[i]? = some b.heap[i] := List.getElem?_eq_getElem hlt
      obtain ⟨⟨d1, d2⟩, ⟨d3, d4⟩⟩ := h2 _ (List.getElem_mem hlt)
      generalize hmm : b.heap[i] = m at hm d1 d2 d3 d4
      have hsn := zau (f := VM.clB) hm
      simp [zmc, hlt, hmm, Cl.avs, Val.avs]
      have ep := e6.put (.row 6 m.avs)
      have lp := e6.wr.lt
      have nop : n6 ∉ own l6 := fun h => by have := e6.wr.ow _ h; omega
      refine zzr ep.wr d1 (by simp only [List.length_append]; omega) fun H7 n7 l7 e7 => ?_
      have vl := zjj m.left
      have e7' := ep.trans e7
      have r7 : H7 n6 = some (.row 6 m.avs) := by rw [e7.keep n6 (by omega) (by omega) nop, Heap.put_at]; rfl
      simp [ztz, r7, Cl.avs, Val.avs]
      refine zzr e7'.wr d3 (by simp only [List.length_append]; omega) fun H8 n8 l8 e8 => ?_
      have e8' := e7'.trans e8
      have eb : C ++ (b.heap.take i).flatMap VM.clB ++ VM.valB m.left ++ VM.valB m.right = C ++ (b.heap.take (i + 1)).flatMap VM.clB := by rw [hsn]; unfold VM.clB; simp only [List.append_assoc]
      rw [eb] at e8'
      simp [zua, hadd]
      exact ⟨b.heap.length - (i + 1), by omega, i + 1, rfl, by omega, rfl, _, e8'⟩
    · obtain rfl : i = b.heap.length := by omega
      rw [List.take_length] at e6 hft6
      have ea : C ++ b.heap.flatMap VM.clB = VM.agtB b := by rw [← hC, ← hB]; simp [VM.agtB, zt]
      have hal : (VM.agtB b).length ≤ 600000000000 := by rw [← ea]; simp only [List.length_append]; omega
      rw [ea] at e6
      have rp := e6.wr.row
      simp [zmc, rp]
      have hsm := zwv (VM.agtB b) 2166136261 (by omega)
      have hs64 : (WM.sum (VM.agtB b) : Int) ≤ 9223372036854775807 := by
        have e : WM.sum (VM.agtB b) = (VM.agtB b).foldl WM.sumStep 2166136261 := rfl
        rw [e]; omega
      refine QC.readsC (zaos (VM.agtB b) (by omega)) (by simp) (LFrz.cons (Slot.frzB e6.wr.slot fun _ _ => Nat.zero_le _) LFrz.nil) ?_
      simp [ztx]
      refine e6.nums [((WM.sum (VM.agtB b) : Nat) : Int)] (by rw [List.length_singleton]; omega) (by simp; omega) fun H7 n7 l7 e7 _ => ?_
      have en : zt [((WM.sum (VM.agtB b) : Nat) : Int)] = WM.num (WM.sum (VM.agtB b)) := by simp [zt]
      rw [en] at e7
      have r7 := e7.wr.row
      simp [zty, r7]
      refine ⟨Slot.frzB e7.wr.slot fun y hy => (by have := e7.wr.ow y hy; omega), fun y hy => ?_⟩
      rw [e7.keep y (by omega) (by omega) (by simp [own])]
      exact xk y hy
end Go.Proofs.Ytpbnaaoilgohkaa
set_option maxRecDepth 8000
namespace Go.Proofs.Ytpbnaaoilgohkaa
namespace VM
theorem firstErr_all {α : Type} {f : α → Int} : ∀ {l : List α}, (∀ x ∈ l, f x = 0) → firstErr f l = 0
  | [], _ => rfl
  | x :: r, h => by
    unfold firstErr
    rw [if_neg (by rw [h x (by simp)]; simp)]
    exact firstErr_all fun y hy => h y (by simp [hy])
structure Went (p : Prg) (f : Frm) : Prop where
  pos : 0 < f.at_
  op : ((codeAt p f.fn).ins.getD (f.at_.toNat - 1) ⟨0, 0, 0⟩).op = 13
  seen : 0 ≤ (hts p f).getD (f.at_.toNat - 1) 0
  hei : (hts p f)[f.at_.toNat]? = some ((f.stack.length : Int) + 1)
section
variable {a : Agt} {k : Nat} {f : Frm}
theorem frame_open (hk : a.frames[k]? = some f) (ok : FrOk a.prog a.heap.length f) (away : Bool) : frame a k away =
    if (!decide (k + 1 = a.frames.length) || away) && (decide (f.at_ = 0) || ((!decide (k + 1 = a.frames.length) && (decide (((codeAt a.prog f.fn).ins.getD (f.at_.toNat - 1) ⟨0, 0, 0⟩).op ≠ 17) || decide (((codeAt a.prog f.fn).ins.getD (f.at_.toNat - 1) ⟨0, 0, 0⟩).a ≠ ((a.frames[k + 1]?).map (·.fn)).getD 0))) || (decide (k + 1 = a.frames.length) && decide (((codeAt a.prog f.fn).ins.getD (f.at_.toNat - 1) ⟨0, 0, 0⟩).op ≠ 13)) || decide ((hts a.prog f).getD (f.at_.toNat - 1) 0 < 0))) then 10
    else if (if (!decide (k + 1 = a.frames.length) || away) = true then (hts a.prog f).getD f.at_.toNat 0 - 1 else (hts a.prog f).getD f.at_.toNat 0) < 0 ∨ (f.stack.length : Int) ≠ (if (!decide (k + 1 = a.frames.length) || away) = true then (hts a.prog f).getD f.at_.toNat 0 - 1 else (hts a.prog f).getD f.at_.toNat 0) then 10
    else firstErr (fun v => wrong v a.heap.length) (f.vars ++ f.stack) := by
  have hc : a.prog.codes[f.fn.toNat]? = some (codeAt a.prog f.fn) := by
    unfold codeAt; rw [List.getD_eq_getElem?_getD, List.getElem?_eq_getElem ok.code]; rfl
  have hi : (codeAt a.prog f.fn).ins[f.at_.toNat]? = some ((codeAt a.prog f.fn).ins[f.at_.toNat]'ok.ins) := List.getElem?_eq_getElem ok.ins
  unfold frame
  rw [hk]
  simp only
  rw [if_pos ok.fn0, hc]
  simp only
  rw [if_pos ok.at0, hi]
  simp only
  rw [if_neg (by have := ok.vars; omega)]
  rfl
theorem vals_zero (ok : FrOk a.prog a.heap.length f) : firstErr (fun v => wrong v a.heap.length) (f.vars ++ f.stack) = 0 := firstErr_all fun v hv => by
  rcases List.mem_append.1 hv with h | h
  · exact ok_wrong (ok.vv v h)
  · exact ok_wrong (ok.sv v h)
theorem getD_of {l : List Int} {n : Nat} {x : Int} (h : l[n]? = some x) : l.getD n 0 = x := by rw [List.getD_eq_getElem?_getD, h]; rfl
theorem frame_waits {fn : Int} (hk : a.frames[k]? = some f) (hl : k + 1 ≠ a.frames.length) (ok : FrOk a.prog a.heap.length f) (w : Waits a.prog f fn) (hfn : ((a.frames[k + 1]?).map (·.fn)).getD 0 = fn) (away : Bool) : frame a k away = 0 := by
  rw [frame_open hk ok]
  have h := getD_of w.hei
  have h0 : ¬ f.at_ = 0 := by have := w.pos; omega
  have h4 : ¬ (hts a.prog f).getD (f.at_.toNat - 1) 0 < 0 := by have := w.seen; omega
  simp only [hl, decide_false, Bool.not_false, Bool.true_or, Bool.true_and, if_true, h0, w.op, w.to, hfn, h4, ne_eq, not_true_eq_false, Bool.false_and, Bool.or_false, Bool.false_eq_true, if_false]
  rw [h, if_neg (by omega)]
  exact vals_zero ok
theorem frame_went (hk : a.frames[k]? = some f) (hl : k + 1 = a.frames.length) (ok : FrOk a.prog a.heap.length f) (w : Went a.prog f) : frame a k true = 0 := by
  rw [frame_open hk ok]
  have h := getD_of w.hei
  have h0 : ¬ f.at_ = 0 := by have := w.pos; omega
  have h4 : ¬ (hts a.prog f).getD (f.at_.toNat - 1) 0 < 0 := by have := w.seen; omega
  simp only [hl, decide_true, Bool.not_true, Bool.false_or, Bool.true_and, if_true, h0, w.op, h4, ne_eq, not_true_eq_false, decide_false, Bool.false_and, Bool.or_false, Bool.false_eq_true, if_false]
  rw [h, if_neg (by omega)]
  exact vals_zero ok
end
theorem chain_get {p : Prg} {fs : List Frm} {fn : Int} (h : WChain p fs fn) : ∀ (f : Frm), f.fn = fn → ∀ (k : Nat) (g : Frm), fs[k]? = some g → Waits p g ((((fs ++ [f])[k + 1]?).map (·.fn)).getD 0) := by
  induction h with
  | nil fn => intro f _ k g hg; simp at hg
  | snoc gs g' fn hc hw ih =>
    intro f hf k g hg
    by_cases hk : k < gs.length
    · rw [List.getElem?_append_left hk] at hg
      have := ih g' rfl k g hg
      rw [List.append_assoc, show k + 1 = k + 1 from rfl]
      have e : (gs ++ ([g'] ++ [f]))[k + 1]? = (gs ++ [g'])[k + 1]? := by
        rw [← List.append_assoc, List.getElem?_append_left (by simp; omega)]
      rw [e]; exact this
    · have hk' : k = gs.length := by have := (List.getElem?_eq_some_iff.1 hg).1; simp at this; omega
      subst hk'
      rw [List.getElem?_append_right (Nat.le_refl _)] at hg
      simp at hg
      subst hg
      have e : ((gs ++ [g']) ++ [f])[gs.length + 1]? = some f := by
        rw [List.getElem?_append_right (by simp)]; simp
      rw [e]
      simp only [Option.map_some, Option.getD_some, hf]
      exact hw
structure Gone (a : Agt) (fs : List Frm) (f : Frm) : Prop where
  fr : a.frames = fs ++ [f]
  prog : program a.prog = 0
  id : 0 ≤ a.id ∧ a.id ≤ 1073741824
  trip : 0 ≤ a.trip ∧ a.trip ≤ 1073741824
  fuel : 0 ≤ a.permit.fuel ∧ a.permit.fuel ≤ 2000
  room : 0 ≤ a.permit.room
  hops : 0 ≤ a.permit.hops ∧ a.permit.hops ≤ 12
  flen : fs.length < 12
  hlen : (a.heap.length : Int) + a.permit.room ≤ 60
  ok : ∀ g ∈ fs ++ [f], FrOk a.prog a.heap.length g
  chain : WChain a.prog fs f.fn
  went : Went a.prog f
  cells : ∀ c ∈ a.heap, WrongOk c.left a.heap.length ∧ WrongOk c.right a.heap.length
theorem cells_zero {h : List Cl} {N : Int} (hc : ∀ c ∈ h, WrongOk c.left N ∧ WrongOk c.right N) : firstErr (cellErr N) h = 0 := firstErr_all fun c h => by
  unfold cellErr
  rw [if_neg (by rw [ok_wrong (hc c h).1]; simp)]
  exact ok_wrong (hc c h).2
theorem agent_zero {a : Agt} {away : Bool} (hp : program a.prog = 0) (h1 : 0 ≤ a.id ∧ a.id ≤ 1073741824) (h2 : 0 ≤ a.trip ∧ a.trip ≤ 1073741824) (h3 : 0 ≤ a.permit.fuel ∧ a.permit.fuel ≤ 2000) (h4 : 0 ≤ a.permit.room) (h5 : 0 ≤ a.permit.hops ∧ a.permit.hops ≤ 12) (h6 : 1 ≤ a.frames.length ∧ a.frames.length ≤ 12)
    (h7 : (a.heap.length : Int) + a.permit.room ≤ 60) (h8 : ∀ k, k < a.frames.length → frame a k away = 0) (h9 : ∀ c ∈ a.heap, WrongOk c.left a.heap.length ∧ WrongOk c.right a.heap.length) : agent a away = 0 := by
  unfold agent
  rw [if_neg (by rw [hp]; simp), if_neg (by omega), if_neg (by omega), if_neg (by omega)]
  have hf : framesErr a away = 0 := firstErr_all fun k hk => h8 k (List.mem_range.1 hk)
  rw [if_neg (by rw [hf]; simp)]
  exact cells_zero h9
theorem waits_at {a : Agt} {fs : List Frm} {f : Frm} (fr : a.frames = fs ++ [f]) (ok : ∀ g ∈ fs ++ [f], FrOk a.prog a.heap.length g) (chain : WChain a.prog fs f.fn) (away : Bool) {k : Nat} (hk : k < fs.length) : frame a k away = 0 := by
  have hg : fs[k]? = some fs[k] := List.getElem?_eq_getElem hk
  have hg' : a.frames[k]? = some fs[k] := by rw [fr, List.getElem?_append_left hk]; exact hg
  refine frame_waits hg' (by rw [fr]; simp; omega) (ok _ (by simp)) (chain_get chain f rfl k _ hg) (by rw [fr]) away
theorem gone_agent {a : Agt} {fs : List Frm} {f : Frm} (l : Gone a fs f) : agent a true = 0 := by
  have hlen : a.frames.length = fs.length + 1 := by rw [l.fr]; simp
  have flen := l.flen
  refine agent_zero l.prog l.id l.trip l.fuel l.room l.hops ⟨by omega, by omega⟩ l.hlen (fun k hk => ?_) l.cells
  by_cases h : k < fs.length
  · exact waits_at l.fr l.ok l.chain true h
  · have hk' : k = fs.length := by omega
    subst hk'
    exact frame_went (by rw [l.fr]; simp) (by omega) (l.ok f (by simp)) l.went
theorem frame_gone {a : Agt} {k : Nat} {f : Frm} (hp : program a.prog = 0) (hk : a.frames[k]? = some f) (h : frame a k true = 0) : FrOk a.prog a.heap.length f ∧ (k + 1 = a.frames.length → Went a.prog f) ∧ (k + 1 ≠ a.frames.length → Waits a.prog f (((a.frames[k + 1]?).map (·.fn)).getD 0)) := by
  unfold frame at h
  rw [hk] at h
  simp only at h
  by_cases hfn : 0 ≤ f.fn
  case neg => rw [if_neg hfn] at h; simp at h
  rw [if_pos hfn] at h
  cases hc : a.prog.codes[f.fn.toNat]? with
  | none => rw [hc] at h; simp at h
  | some c =>
  rw [hc] at h
  simp only at h
  by_cases hat : 0 ≤ f.at_
  case neg => rw [if_neg hat] at h; simp at h
  rw [if_pos hat] at h
  cases hi : c.ins[f.at_.toNat]? with
  | none => rw [hi] at h; simp at h
  | some i =>
  rw [hi] at h
  simp only at h
  by_cases hv : (f.vars.length : Int) ≠ c.vars
  · rw [if_pos hv] at h; omega
  rw [if_neg hv] at h
  have hcode := (List.getElem?_eq_some_iff.1 hc).1
  have hca : codeAt a.prog f.fn = c := by unfold codeAt; rw [List.getD_eq_getElem?_getD, hc]; rfl
  have hil := (List.getElem?_eq_some_iff.1 hi).1
  obtain ⟨pr, _⟩ := zch hp
  obtain ⟨_, calm, hz⟩ := pr _ (List.mem_of_getElem? hc)
  have hlen := (zfo calm hz).1
  have hh : (heights c.ins).1[f.at_.toNat]? = some ((heights c.ins).1.getD f.at_.toNat 0) := by
    rw [List.getD_eq_getElem?_getD, List.getElem?_eq_getElem (by omega)]; rfl
  have main : VM.firstErr (fun v => wrong v a.heap.length) (f.vars ++ f.stack) = 0 ∧ f.at_ ≠ 0 ∧ 0 ≤ (heights c.ins).1.getD (f.at_.toNat - 1) 0 ∧ (heights c.ins).1.getD f.at_.toNat 0 = f.stack.length + 1 ∧ (k + 1 = a.frames.length → (c.ins.getD (f.at_.toNat - 1) ⟨0, 0, 0⟩).op = 13) ∧ (k + 1 ≠ a.frames.length → (c.ins.getD (f.at_.toNat - 1) ⟨0, 0, 0⟩).op = 17 ∧
      (c.ins.getD (f.at_.toNat - 1) ⟨0, 0, 0⟩).a = ((a.frames[k + 1]?).map (·.fn)).getD 0) := by
    by_cases hlast : k + 1 = a.frames.length
    · simp only [hlast, decide_true, Bool.not_true, Bool.false_or, Bool.true_and, Bool.false_and, Bool.or_true, if_true] at h
      by_cases hw : (decide (f.at_ = 0) || (decide ((c.ins.getD (f.at_.toNat - 1) ⟨0, 0, 0⟩).op ≠ 13) || decide ((heights c.ins).1.getD (f.at_.toNat - 1) 0 < 0))) = true
      · rw [if_pos hw] at h; omega
      · rw [if_neg hw] at h
        by_cases hst : (heights c.ins).1.getD f.at_.toNat 0 - 1 < 0 ∨ (f.stack.length : Int) ≠ (heights c.ins).1.getD f.at_.toNat 0 - 1
        · rw [if_pos hst] at h; omega
        · rw [if_neg hst] at h
          simp only [Bool.or_eq_true, decide_eq_true_eq, not_or, Classical.not_not] at hw
          obtain ⟨w1, w2, w4⟩ := hw
          exact ⟨h, w1, by omega, by omega, fun _ => w2, fun hx => absurd hlast hx⟩
    · simp only [hlast, decide_false, Bool.not_false, Bool.true_and, Bool.or_false, Bool.false_and, Bool.true_or, if_true] at h
      by_cases hw : (decide (f.at_ = 0) || (decide ((c.ins.getD (f.at_.toNat - 1) ⟨0, 0, 0⟩).op ≠ 17) || decide ((c.ins.getD (f.at_.toNat - 1) ⟨0, 0, 0⟩).a ≠ ((a.frames[k + 1]?).map (·.fn)).getD 0) || decide ((heights c.ins).1.getD (f.at_.toNat - 1) 0 < 0))) = true
      · rw [if_pos hw] at h; omega
      · rw [if_neg hw] at h
        by_cases hst : (heights c.ins).1.getD f.at_.toNat 0 - 1 < 0 ∨ (f.stack.length : Int) ≠ (heights c.ins).1.getD f.at_.toNat 0 - 1
        · rw [if_pos hst] at h; omega
        · rw [if_neg hst] at h
          simp only [Bool.or_eq_true, decide_eq_true_eq, not_or, Classical.not_not] at hw
          obtain ⟨w1, ⟨w2, w3⟩, w4⟩ := hw
          exact ⟨h, w1, by omega, by omega, fun hx => absurd hx hlast, fun _ => ⟨w2, w3⟩⟩
  obtain ⟨m1, w1, w4, w5, m2, m3⟩ := main
  obtain ⟨e1, e2⟩ := firstErr_app m1
  refine ⟨⟨hfn, hat, hcode, by rw [hca]; exact hil, by rw [hca]; omega, fun v hv => wrong_ok (e1 v hv), fun v hv => wrong_ok (e2 v hv)⟩, fun hlast => ?_, fun hlast => ?_⟩
  · refine ⟨by omega, by rw [hca]; exact m2 hlast, by unfold hts; rw [hca]; exact w4, ?_⟩
    unfold hts
    rw [hca, hh, w5]
  · obtain ⟨w2, w3⟩ := m3 hlast
    refine ⟨by omega, by rw [hca]; exact w2, by rw [hca]; exact w3, by unfold hts; rw [hca]; exact w4, ?_⟩
    unfold hts
    rw [hca, hh, w5]
theorem agent_gone {a : Agt} (h : agent a true = 0) : ∃ fs f, Gone a fs f := by
  unfold agent at h
  by_cases h1 : program a.prog ≠ 0
  · rw [if_pos h1] at h; exact absurd h h1
  rw [if_neg h1] at h
  have hp := Classical.not_not.1 h1
  split at h
  · omega
  rename_i h2
  split at h
  · omega
  rename_i h3
  split at h
  · omega
  rename_i h4
  by_cases h5 : framesErr a true ≠ 0
  · rw [if_pos h5] at h; exact absurd h h5
  rw [if_neg h5] at h
  have hfr := zbf (Classical.not_not.1 h5)
  have hcell := zbf h
  obtain ⟨n, hn⟩ : ∃ n, a.frames.length = n + 1 := ⟨a.frames.length - 1, by omega⟩
  have hlast : a.frames[n]? = some a.frames[n] := List.getElem?_eq_getElem (by omega)
  have hall : ∀ (k : Nat) (g : Frm), a.frames[k]? = some g → frame a k true = 0 := fun k g hg => hfr k (List.mem_range.2 (List.getElem?_eq_some_iff.1 hg).1)
  have hsplit : a.frames = a.frames.take n ++ [a.frames[n]] := by
    have : a.frames.take (n + 1) = a.frames.take n ++ [a.frames[n]] := by rw [List.take_add_one, hlast]; rfl
    rw [← this, List.take_of_length_le (by omega)]
  refine ⟨a.frames.take n, a.frames[n], hsplit, hp, by omega, by omega, by omega, by omega, by omega, by rw [List.length_take]; omega, by omega, fun g hg => ?_, ?_, (frame_gone hp hlast (hall n _ hlast)).2.1 (by omega), fun c hc => ?_⟩
  · rw [← hsplit] at hg
    obtain ⟨k, hk, rfl⟩ := List.getElem_of_mem hg
    exact (frame_gone hp (List.getElem?_eq_getElem hk) (hall k _ (List.getElem?_eq_getElem hk))).1
  · exact chain_of n _ hlast fun j g hj hg => (frame_gone hp hg (hall j g hg)).2.2 (by omega)
  · have := hcell c hc
    unfold cellErr at this
    split at this
    · rename_i hx; exact absurd this hx
    · rename_i hx
      exact ⟨wrong_ok (Classical.not_not.1 hx), wrong_ok this⟩
end VM
end Go.Proofs.Ytpbnaaoilgohkaa
set_option maxRecDepth 8000
namespace Go.Proofs.Ytpbnaaoilgohkaa
namespace VM
def Reads {α : Type} (m : Rd α) (B : Str) (a : α) : Prop := ∀ r, m (B ++ r) = .ok a r
theorem Reads.pure {α : Type} (a : α) : Reads (Rd.pure a) [] a := fun _ => rfl
theorem Reads.bind {α β : Type} {m : Rd α} {k : α → Rd β} {B C : Str} {a : α} {b : β} (h : Reads m B a) (h2 : Reads (k a) C b) : Reads (m.bind k) (B ++ C) b := fun r => by
  unfold Rd.bind
  rw [List.append_assoc, h (C ++ r)]
  exact h2 r
theorem Reads.bind0 {α β : Type} {m : Rd α} {k : α → Rd β} {B : Str} {a : α} {b : β} (h : Reads m B a) (h2 : Reads (k a) [] b) : Reads (m.bind k) B b := by
  have := h.bind h2
  rwa [List.append_nil] at this
theorem reads_num {n : Int} (h : -9223372036854775808 ≤ n ∧ n ≤ 9223372036854775807) : Reads rNum (WM.num n) n := fun r => by
  unfold rNum
  rw [WM.getNum_num n h.1 h.2 r]
  simp
theorem reads_count {n : Nat} {most : Int} (h : (n : Int) ≤ most) (hm : most ≤ 9223372036854775807) : Reads (rCount most) (WM.num n) n := fun r => by
  unfold rCount
  rw [reads_num (n := (n : Int)) (by omega) r]
  simp only
  rw [if_neg (by omega)]
theorem reads_text {s : Str} {most : Int} (h : (s.length : Int) ≤ most) (hm : most ≤ 9223372036854775807) : Reads (rText most) (textB s) s := fun r => by
  have hg : WM.getNum (textB s ++ r) = ((s.length : Int), ((WM.num s.length).length : Int), 0) := by
    unfold textB
    rw [List.append_assoc]
    exact WM.getNum_num (s.length : Int) (by omega) (by omega) (s ++ r)
  have ht : WM.getText (textB s ++ r) most = (s, ((WM.num s.length).length : Int) + s.length, 0) := by
    unfold WM.getText
    rw [hg]
    simp only
    rw [if_neg (by simp), if_neg (by omega), if_neg (by simp [textB]; omega)]
    simp [textB]
  unfold rText
  rw [ht]
  simp only [ne_eq, not_true_eq_false, if_false]
  congr 1
  have : ((((WM.num s.length).length : Int) + s.length).toNat) = (textB s).length := by simp [textB]; omega
  rw [this, List.drop_left]
theorem reads_many {α : Type} {m : Rd α} {enc : α → Str} : ∀ {l : List α}, (∀ x ∈ l, Reads m (enc x) x) → Reads (rMany m l.length) (l.flatMap enc) l
  | [], _ => Reads.pure []
  | x :: r, h => by
    have h1 := h x (by simp)
    have h2 := reads_many (l := r) fun y hy => h y (by simp [hy])
    rw [List.flatMap_cons]
    exact h1.bind (h2.bind0 (Reads.pure _))
theorem reads_val {v : Val} {N : Int} (w : WrongOk v N) (hN : N ≤ 4096) : Reads rVal (valB v) v := by
  unfold rVal valB
  have hk : -9223372036854775808 ≤ v.kind ∧ v.kind ≤ 9223372036854775807 := by rcases w.kind with h | h | h <;> omega
  refine (reads_num hk).bind ?_
  by_cases h1 : v.kind = 1
  · rw [if_pos h1, if_pos h1]
    have hl := w.len
    refine (reads_text (by omega) (by omega)).bind0 ?_
    have e : (⟨v.kind, 0, v.text⟩ : Val) = v := by
      have := w.txt h1
      obtain ⟨k, n, t⟩ := v
      simp at this
      simp [this]
    rw [e]; exact Reads.pure v
  · rw [if_neg h1, if_neg h1]
    have hn : -9223372036854775808 ≤ v.n ∧ v.n ≤ 9223372036854775807 := by
      rcases w.kind with h | h | h
      · have := w.int h; omega
      · exact absurd h h1
      · have := w.cell h; omega
    refine (reads_num hn).bind0 ?_
    have e : (⟨v.kind, v.n, []⟩ : Val) = v := by
      have := w.non h1
      obtain ⟨k, n, t⟩ := v
      simp at this
      simp [this]
    rw [e]; exact Reads.pure v
theorem reads_vals {l : List Val} {N most : Int} (w : ∀ v ∈ l, WrongOk v N) (hN : N ≤ 4096) (hl : (l.length : Int) ≤ most) (hm : most ≤ 4096) : Reads (rVals most) (valsB l) l := by
  unfold rVals valsB
  refine (reads_count hl (by omega)).bind ?_
  rw [Int.toNat_natCast]
  exact reads_many fun v hv => reads_val (w v hv) hN
theorem reads_ins {i : Ins} (h1 : -9223372036854775808 ≤ i.op ∧ i.op ≤ 9223372036854775807) (h2 : -9223372036854775808 ≤ i.a ∧ i.a ≤ 9223372036854775807) (h3 : -9223372036854775808 ≤ i.b ∧ i.b ≤ 9223372036854775807) : Reads rIns (insB i) i := by
  unfold rIns insB
  rw [List.append_assoc]
  exact (reads_num h1).bind ((reads_num h2).bind ((reads_num h3).bind0 (Reads.pure i)))
structure PrgOk (p : Prg) : Prop where
  words : p.words.length ≤ 16
  word : ∀ w ∈ p.words, w.length ≤ 12
  codes : p.codes.length ≤ 5
  code : ∀ c ∈ p.codes, c.ins.length ≤ 200 ∧ (0 ≤ c.params ∧ c.params ≤ 100) ∧ (0 ≤ c.vars ∧ c.vars ≤ 100) ∧ ∀ i ∈ c.ins, (-9223372036854775808 ≤ i.op ∧ i.op ≤ 9223372036854775807) ∧ (-9223372036854775808 ≤ i.a ∧ i.a ≤ 9223372036854775807) ∧ (-9223372036854775808 ≤ i.b ∧ i.b ≤ 9223372036854775807)
theorem reads_cod {c : Cod} (h : c.ins.length ≤ 200 ∧ (0 ≤ c.params ∧ c.params ≤ 100) ∧ (0 ≤ c.vars ∧ c.vars ≤ 100) ∧ ∀ i ∈ c.ins, (-9223372036854775808 ≤ i.op ∧ i.op ≤ 9223372036854775807) ∧ (-9223372036854775808 ≤ i.a ∧ i.a ≤ 9223372036854775807) ∧ (-9223372036854775808 ≤ i.b ∧ i.b ≤ 9223372036854775807)) : Reads rCod (codB c) c := by
  obtain ⟨h1, h2, h3, h4⟩ := h
  unfold rCod codB
  rw [List.append_assoc, List.append_assoc]
  refine (reads_num (by omega)).bind ((reads_num (by omega)).bind ((reads_count (by omega) (by omega)).bind ?_))
  rw [Int.toNat_natCast]
  exact (reads_many fun i hi => reads_ins (h4 i hi).1 (h4 i hi).2.1 (h4 i hi).2.2).bind0 (Reads.pure c)
theorem reads_prg {p : Prg} (h : PrgOk p) : Reads rPrg (prgB p) p := by
  obtain ⟨h1, h2, h3, h4⟩ := h
  unfold rPrg prgB
  rw [List.append_assoc, List.append_assoc]
  refine (reads_count (by omega) (by omega)).bind ?_
  rw [Int.toNat_natCast]
  refine (reads_many fun w hw => reads_text (by have := h2 w hw; omega) (by omega)).bind ((reads_count (by omega) (by omega)).bind ?_)
  rw [Int.toNat_natCast]
  exact (reads_many fun c hc => reads_cod (h4 c hc)).bind0 (Reads.pure p)
theorem reads_frm {f : Frm} {N : Int} (h1 : -9223372036854775808 ≤ f.fn ∧ f.fn ≤ 9223372036854775807) (h2 : -9223372036854775808 ≤ f.at_ ∧ f.at_ ≤ 9223372036854775807) (h3 : f.vars.length ≤ 8) (h4 : f.stack.length ≤ 16) (hN : N ≤ 4096) (v3 : ∀ v ∈ f.vars, WrongOk v N) (v4 : ∀ v ∈ f.stack, WrongOk v N) : Reads rFrm (frmB f) f := by
  unfold rFrm frmB
  rw [List.append_assoc, List.append_assoc]
  exact (reads_num h1).bind ((reads_num h2).bind ((reads_vals v3 hN (by omega) (by omega)).bind ((reads_vals v4 hN (by omega) (by omega)).bind0 (Reads.pure f))))
theorem reads_cl {c : Cl} {N : Int} (hN : N ≤ 4096) (h1 : WrongOk c.left N) (h2 : WrongOk c.right N) : Reads rCl (clB c) c := by
  unfold rCl clB
  exact (reads_val h1 hN).bind ((reads_val h2 hN).bind0 (Reads.pure c))
theorem prg_ok {p : Prg} (h : program p = 0) : PrgOk p := by
  obtain ⟨pr, pc, pw⟩ := zch h
  have nums := program_nums h
  have hw : ∀ w ∈ p.words, w.length ≤ 12 := fun w hw => by
    unfold program at h
    by_cases h1 : p.codes.length < 1 ∨ 5 < p.codes.length
    · rw [if_pos h1] at h; omega
    rw [if_neg h1] at h
    by_cases h2 : 16 < p.words.length
    · rw [if_pos h2] at h; omega
    rw [if_neg h2] at h
    by_cases h3 : p.words.all word = false
    · rw [if_pos h3] at h; omega
    have := List.all_eq_true.1 (by simpa using h3 : p.words.all word = true) w hw
    unfold word at this
    rw [Bool.and_eq_true, decide_eq_true_eq] at this
    exact this.1
  refine ⟨pw, hw, pc, fun c hc => ?_⟩
  obtain ⟨cr, calm, _⟩ := pr c hc
  unfold codeRange at cr
  rw [decide_eq_false_iff_not] at cr
  refine ⟨by omega, by omega, by omega, fun i hi => ?_⟩
  obtain ⟨q1, q2, q3, q4⟩ := numbers_ok (nums c hc i hi)
  have ha : -1073741824 ≤ i.a ∧ i.a ≤ 1073741824 := by
    unfold numOk isIn at q3
    split at q3 <;> (try split at q3) <;> (try split at q3) <;> (try split at q3) <;> (try split at q3) <;> (try split at q3) <;> simp at q3 <;> omega
  have hb : 0 ≤ i.b ∧ i.b ≤ 16 := by
    by_cases h17 : i.op = 17
    · exact calm i hi h17
    · have := q4 h17; omega
  omega
end VM
end Go.Proofs.Ytpbnaaoilgohkaa
set_option maxRecDepth 8000
namespace Go.Proofs.Ytpbnaaoilgohkaa
namespace VM
end VM
end Go.Proofs.Ytpbnaaoilgohkaa
set_option maxRecDepth 8000
namespace Go.Proofs.Ytpbnaaoilgohkaa
namespace VM
theorem roots_ok {a : Agt} {fs : List Frm} {f : Frm} (l : Gone a fs f) : right a.heap (roots a) = true := by
  refine ok_right (fun v hv => ?_) l.cells
  unfold roots at hv
  obtain ⟨g, hg, hv⟩ := List.mem_flatMap.1 hv
  rw [l.fr] at hg
  have ok := l.ok g hg
  rcases List.mem_append.1 hv with h | h
  · exact ok.vv v h
  · exact ok.sv v h
theorem pack_gone {a : Agt} {fs : List Frm} {f : Frm} (l : Gone a fs f) : Gone (pack a) (fs.map fun g => { g with vars := g.vars.map (put (order a.heap (roots a))), stack := g.stack.map (put (order a.heap (roots a))) }) { f with vars := f.vars.map (put (order a.heap (roots a))), stack := f.stack.map (put (order a.heap (roots a))) } := by
  have hr := roots_ok l
  obtain ⟨c1, c2, c3, _⟩ := canon_law hr
  have cv := right_okV c3
  have cc := right_okC c3
  have hlen := l.hlen
  have room := l.room
  refine ⟨by simp [pack, l.fr], l.prog, l.id, l.trip, l.fuel, l.room, l.hops, by simpa using l.flen, ?_, fun g hg => ?_, ?_, ⟨l.went.pos, l.went.op, l.went.seen, ?_⟩, cc⟩
  · show ((canonC a.heap (roots a)).length : Int) + a.permit.room ≤ 60
    omega
  · have : ∃ g0 ∈ fs ++ [f], g = { g0 with vars := g0.vars.map (put (order a.heap (roots a))), stack := g0.stack.map (put (order a.heap (roots a))) } := by
      rcases List.mem_append.1 hg with h | h
      · obtain ⟨g0, h0, rfl⟩ := List.mem_map.1 h
        exact ⟨g0, by simp [h0], rfl⟩
      · simp at h; exact ⟨f, by simp, h⟩
    obtain ⟨g0, h0, rfl⟩ := this
    have ok := l.ok g0 h0
    have mem : ∀ v, v ∈ g0.vars ++ g0.stack → put (order a.heap (roots a)) v ∈ canonV a.heap (roots a) := fun v hv => by
      refine List.mem_map_of_mem ?_
      unfold roots
      exact List.mem_flatMap.2 ⟨g0, by rw [l.fr]; exact h0, hv⟩
    refine ⟨ok.fn0, ok.at0, ok.code, ok.ins, by have := ok.vars; simpa [pack] using this, fun v hv => ?_, fun v hv => ?_⟩
    · obtain ⟨u, hu, rfl⟩ := List.mem_map.1 hv
      exact cv _ (mem u (by simp [hu]))
    · obtain ⟨u, hu, rfl⟩ := List.mem_map.1 hv
      exact cv _ (mem u (by simp [hu]))
  · have key : ∀ {gs : List Frm} {fn : Int}, WChain a.prog gs fn → WChain a.prog (gs.map fun g => { g with vars := g.vars.map (put (order a.heap (roots a))), stack := g.stack.map (put (order a.heap (roots a))) }) fn := by
      intro gs fn h
      induction h with
      | nil fn => exact .nil fn
      | snoc gs g fn _ hw ih =>
        rw [List.map_append]
        exact .snoc _ _ _ ih ⟨hw.pos, hw.op, hw.to, hw.seen, by have := hw.hei; unfold hts at this ⊢; simp only [List.length_map]; exact this⟩
    exact key l.chain
  · have := l.went.hei
    unfold hts at this ⊢
    simp only [List.length_map]
    exact this
theorem roots_pack (a : Agt) : roots (pack a) = canonV a.heap (roots a) := by
  show (a.frames.map _).flatMap _ = (a.frames.flatMap _).map _
  rw [List.flatMap_map, List.map_flatMap]
  congr 1
  funext f
  simp
theorem pack_pack {a : Agt} {fs : List Frm} {f : Frm} (l : Gone a fs f) : pack (pack a) = pack a := by
  have hr := roots_ok l
  obtain ⟨_, _, _, _, c5, c6⟩ := canon_law hr
  have e : roots (pack a) = canonV a.heap (roots a) := roots_pack a
  have eh : (pack a).heap = canonC a.heap (roots a) := rfl
  have c5' : ∀ v ∈ canonV a.heap (roots a), put (order (canonC a.heap (roots a)) (canonV a.heap (roots a))) v = v := by
    have : (canonV a.heap (roots a)).map (put (order (canonC a.heap (roots a)) (canonV a.heap (roots a)))) = canonV a.heap (roots a) := c5
    intro v hv
    obtain ⟨i, hi, rfl⟩ := List.getElem_of_mem hv
    have h1 := congrArg (·[i]?) this
    simp only [List.getElem?_map, List.getElem?_eq_getElem hi, Option.map_some, Option.some.injEq] at h1
    exact h1
  have mem : ∀ g ∈ a.frames, ∀ v ∈ g.vars ++ g.stack, put (order a.heap (roots a)) v ∈ canonV a.heap (roots a) := fun g hg v hv => List.mem_map_of_mem (List.mem_flatMap.2 ⟨g, hg, hv⟩)
  have ef : (pack (pack a)).frames = (pack a).frames := by
    show ((pack a).frames.map fun f => { f with vars := f.vars.map (put (order (pack a).heap (roots (pack a)))), stack := f.stack.map (put (order (pack a).heap (roots (pack a)))) }) = (pack a).frames
    rw [e, eh]
    show ((a.frames.map _).map _) = a.frames.map _
    rw [List.map_map]
    refine List.map_congr_left fun g hg => ?_
    simp only [Function.comp]
    congr 1
    · rw [List.map_map]
      exact List.map_congr_left fun v hv => c5' _ (mem g hg v (by simp [hv]))
    · rw [List.map_map]
      exact List.map_congr_left fun v hv => c5' _ (mem g hg v (by simp [hv]))
  have ec : (pack (pack a)).heap = (pack a).heap := by
    show canonC (pack a).heap (roots (pack a)) = (pack a).heap
    rw [e, eh]; exact c6
  calc pack (pack a) = { pack (pack a) with frames := (pack (pack a)).frames, heap := (pack (pack a)).heap } := rfl
    _ = pack a := by rw [ef, ec]; rfl
theorem i64_small {n : Int} (h : 0 ≤ n ∧ n ≤ 1073741824) : -9223372036854775808 ≤ n ∧ n ≤ 9223372036854775807 := by omega
theorem reads_agt {a : Agt} {fs : List Frm} {f : Frm} (l : Gone a fs f) {s : Int} (hs : -9223372036854775808 ≤ s ∧ s ≤ 9223372036854775807) (hst : ∀ g ∈ a.frames, g.vars.length ≤ 8 ∧ g.stack.length ≤ 16) : Reads rAgt (agtB a ++ WM.num s) a := by
  have hlen : a.frames.length ≤ 12 := by rw [l.fr]; simp; have := l.flen; omega
  have hh : a.heap.length ≤ 60 := by have := l.hlen; have := l.room; omega
  have fu := l.fuel
  have ho := l.hops
  have hroom := l.room
  have hhl := l.hlen
  have po := prg_ok l.prog
  unfold rAgt agtB
  simp only [List.append_assoc]
  refine (reads_num (i64_small l.id)).bind ((reads_num (i64_small l.trip)).bind ((reads_num (by omega)).bind ((reads_num (by omega)).bind ((reads_num (by omega)).bind ((reads_prg po).bind ((reads_count (by omega) (by omega)).bind ?_))))))
  rw [Int.toNat_natCast]
  refine (reads_many fun g hg => ?_).bind ((reads_count (by omega) (by omega)).bind ?_)
  · have ok := l.ok g (by rw [← l.fr]; exact hg)
    have hp := po.codes
    have hc := (po.code _ (code_mem ok.code)).1
    exact reads_frm (N := a.heap.length) (by have := ok.fn0; have := ok.code; omega) (by have := ok.at0; have := ok.ins; omega) (hst g hg).1 (hst g hg).2 (by omega) ok.vv ok.sv
  · rw [Int.toNat_natCast]
    refine (reads_many fun c hc => reads_cl (N := a.heap.length) (by omega) (l.cells c hc).1 (l.cells c hc).2).bind ((reads_num hs).bind0 (Reads.pure a))
def Firm {α : Type} (m : Rd α) : Prop := ∀ b a r c, m b = .ok a r → m (b ++ c) = .ok a (r ++ c)
theorem Firm.pure {α : Type} (a : α) : Firm (Rd.pure a) := fun b x r c h => by cases h; rfl
theorem Firm.bind {α β : Type} {m : Rd α} {k : α → Rd β} (h : Firm m) (h2 : ∀ a, Firm (k a)) : Firm (m.bind k) := fun b x r c hx => by
  unfold Rd.bind at hx ⊢
  split at hx
  · rename_i a r' hm
    rw [h _ _ _ c hm]
    exact h2 a _ _ _ c hx
  · cases hx
theorem Firm.many {α : Type} {m : Rd α} (h : Firm m) : ∀ n, Firm (rMany m n)
  | 0 => Firm.pure []
  | n + 1 => h.bind fun a => (Firm.many h n).bind fun l => Firm.pure _
end VM
end Go.Proofs.Ytpbnaaoilgohkaa
set_option maxRecDepth 8000
namespace Go.Proofs.Ytpbnaaoilgohkaa
namespace VM
theorem gone_stk {a : Agt} {fs : List Frm} {f : Frm} (l : Gone a fs f) : ∀ g ∈ a.frames, g.vars.length ≤ 8 ∧ g.stack.length ≤ 16 := by
  have key : ∀ g ∈ fs ++ [f], ∀ x : Int, (hts a.prog g)[g.at_.toNat]? = some x → (g.stack.length : Int) ≤ x → g.vars.length ≤ 8 ∧ g.stack.length ≤ 16 := fun g hg x hx hle => by
    have ok := l.ok g hg
    obtain ⟨cr, calm, hz⟩ := (zch l.prog).1 _ (code_mem ok.code)
    unfold codeRange at cr
    rw [decide_eq_false_iff_not] at cr
    have hm := (zfo calm hz).2 _ (List.mem_of_getElem? hx)
    have := ok.vars
    omega
  intro g hg
  rw [l.fr] at hg
  rcases List.mem_append.1 hg with h | h
  · obtain ⟨k, hk, rfl⟩ := List.getElem_of_mem h
    have w := chain_get l.chain f rfl k _ (List.getElem?_eq_getElem hk)
    exact key _ hg _ w.hei (by omega)
  · simp at h; subst h
    exact key _ hg _ l.went.hei (by omega)
theorem sum_lt (b : Str) : WM.sum b < 4294967296 := by
  unfold WM.sum
  have : ∀ (l : Str) (s : Nat), s < 4294967296 → l.foldl WM.sumStep s < 4294967296 := by
    intro l
    induction l with
    | nil => intro s h; exact h
    | cons c r ih => intro s _; exact ih _ (by unfold WM.sumStep; exact Nat.mod_lt _ (by decide))
  exact this b _ (by decide)
theorem image_pack {a : Agt} {fs : List Frm} {f : Frm} (l : Gone a fs f) : image (pack a) = image a := by
  unfold image; rw [pack_pack l]
theorem reads_image {a : Agt} {fs : List Frm} {f : Frm} (l : Gone a fs f) (r : Str) : rAgt (image a ++ r) = .ok (pack a) r := by
  have hs := sum_lt (agtB (pack a))
  exact reads_agt (pack_gone l) (s := (WM.sum (agtB (pack a)) : Int)) (by omega) (gone_stk (pack_gone l)) r
theorem parse_image {a : Agt} {fs : List Frm} {f : Frm} (l : Gone a fs f) : parse (image a) = (pack a, 0) := by
  have h := reads_image l []
  rw [List.append_nil] at h
  unfold parse
  rw [h]
  simp only
  rw [if_neg (by simp), if_neg (by rw [gone_agent (pack_gone l)]; simp), if_neg (by rw [image_pack l]; simp)]
def Honest {α : Type} (m : Rd α) : Prop := ∀ b e, m b = .no e → e ≠ 0
theorem Honest.pure {α : Type} (a : α) : Honest (Rd.pure a) := fun b e h => by cases h
theorem Honest.bind {α β : Type} {m : Rd α} {k : α → Rd β} (h : Honest m) (h2 : ∀ a, Honest (k a)) : Honest (m.bind k) := fun b e hx => by
  unfold Rd.bind at hx
  split at hx
  · exact h2 _ _ _ hx
  · rename_i e' hm; cases hx; exact h _ _ hm
theorem Honest.many {α : Type} {m : Rd α} (h : Honest m) : ∀ n, Honest (rMany m n)
  | 0 => Honest.pure []
  | n + 1 => h.bind fun a => (Honest.many h n).bind fun l => Honest.pure _
theorem honest_num : Honest rNum := fun b e h => by
  unfold rNum at h
  split at h
  · rename_i hz; cases h; exact hz
  · cases h
theorem honest_count (most : Int) : Honest (rCount most) := fun b e h => by
  unfold rCount at h
  split at h
  · split at h
    · cases h; decide
    · cases h
  · rename_i e' hm; cases h; exact honest_num _ _ hm
theorem honest_text (most : Int) : Honest (rText most) := fun b e h => by
  unfold rText at h
  split at h
  · rename_i hz; cases h; exact hz
  · cases h
theorem honest_val : Honest rVal := honest_num.bind fun k => by
  by_cases h : k = 1
  · rw [if_pos h]; exact (honest_text 60).bind fun s => Honest.pure _
  · rw [if_neg h]; exact honest_num.bind fun n => Honest.pure _
theorem honest_vals (most : Int) : Honest (rVals most) := (honest_count most).bind fun n => honest_val.many _
theorem honest_ins : Honest rIns := honest_num.bind fun _ => honest_num.bind fun _ => honest_num.bind fun _ => Honest.pure _
theorem honest_cod : Honest rCod := honest_num.bind fun _ => honest_num.bind fun _ => (honest_count 200).bind fun _ => (honest_ins.many _).bind fun _ => Honest.pure _
theorem honest_prg : Honest rPrg := (honest_count 16).bind fun _ => ((honest_text 12).many _).bind fun _ => (honest_count 5).bind fun _ => (honest_cod.many _).bind fun _ => Honest.pure _
theorem honest_frm : Honest rFrm := honest_num.bind fun _ => honest_num.bind fun _ => (honest_vals 8).bind fun _ => (honest_vals 16).bind fun _ => Honest.pure _
theorem honest_cl : Honest rCl := honest_val.bind fun _ => honest_val.bind fun _ => Honest.pure _
theorem honest_agt : Honest rAgt := honest_num.bind fun _ => honest_num.bind fun _ => honest_num.bind fun _ => honest_num.bind fun _ => honest_num.bind fun _ => honest_prg.bind fun _ => (honest_count 12).bind fun _ => (honest_frm.many _).bind fun _ => (honest_count 60).bind fun _ => (honest_cl.many _).bind fun _ => honest_num.bind fun _ => Honest.pure _
theorem parse_open {b : Str} {x : Agt} (h : parse b = (x, 0)) : rAgt b = .ok x [] ∧ agent x true = 0 ∧ image x = b := by
  unfold parse at h
  split at h
  · rename_i e he
    have := honest_agt _ _ he
    rw [Prod.mk.injEq] at h
    exact absurd h.2 this
  · rename_i a r hr
    split at h
    · rw [Prod.mk.injEq] at h; exact absurd h.2 (by decide)
    · rename_i h1
      split at h
      · rename_i h2; rw [Prod.mk.injEq] at h; exact absurd h.2 h2
      · rename_i h2
        split at h
        · rw [Prod.mk.injEq] at h; exact absurd h.2 (by decide)
        · rename_i h3
          rw [Prod.mk.injEq] at h
          obtain ⟨rfl, _⟩ := h
          rw [Classical.not_not.1 h1] at hr
          exact ⟨hr, Classical.not_not.1 h2, Classical.not_not.1 h3⟩
theorem parse_ok {b : Str} {x : Agt} (h : parse b = (x, 0)) : agent x true = 0 ∧ pack x = x ∧ image x = b := by
  obtain ⟨_, h2, h3⟩ := parse_open h
  obtain ⟨fs, f, l⟩ := agent_gone h2
  have := parse_image l
  rw [h3, h, Prod.mk.injEq] at this
  exact ⟨h2, this.1.symm, h3⟩
theorem parse_err {b : Str} (h : (parse b).2 ≠ 0) : (parse b).1 = agt0 := by
  unfold parse at h ⊢
  split
  · rfl
  · rename_i a r hr
    rw [hr] at h
    simp only at h
    split
    · rfl
    · rename_i h1
      rw [if_neg h1] at h
      split
      · rfl
      · rename_i h2
        rw [if_neg h2] at h
        split
        · rfl
        · rename_i h3
          rw [if_neg h3] at h
          exact absurd rfl h
end VM
end Go.Proofs.Ytpbnaaoilgohkaa
set_option maxRecDepth 8000
namespace Go.Proofs.Ytpbnaaoilgohkaa
open Go Go.RowKit
theorem zrh {v : Val} {N : Int} (h : VM.WrongOk v N) (hN : N ≤ 4096) : I64v v ∧ v.text.length ≤ 4096 := by
  have hl := h.len
  refine ⟨⟨?_, ?_⟩, by omega⟩
  · rcases h.kind with k | k | k <;> omega
  · rcases h.kind with k | k | k
    · have := h.int k; omega
    · have := h.txt k; omega
    · have := h.cell k; omega
theorem zaap {a : Agt} {fs : List Frm} {f : Frm} (l : VM.Gone a fs f) : zabp a := by
  have po := VM.prg_ok l.prog
  have hl := l.hlen
  have hr := l.room
  have st := VM.gone_stk l
  have fl := l.flen
  have h1 := l.id
  have h2 := l.trip
  have h3 := l.fuel
  have h4 := l.hops
  refine ⟨⟨⟨by have := po.words; omega, fun w hw => by have := po.word w hw; omega⟩, by have := po.codes; omega, fun c hc => ?_⟩, ⟨by omega, by omega⟩, ⟨by omega, by omega⟩, ⟨⟨by omega, by omega⟩, ⟨by omega, by omega⟩, ⟨by omega, by omega⟩⟩, ⟨by rw [l.fr]; simp; omega, fun g hg => ?_⟩, ⟨by omega, fun c hc => ?_⟩⟩
  · obtain ⟨q1, q2, q3, q4⟩ := po.code c hc
    exact ⟨by omega, ⟨by omega, by omega⟩, ⟨by omega, by omega⟩, fun i hi => ⟨(q4 i hi).1, (q4 i hi).2.1, (q4 i hi).2.2⟩⟩
  · have ok := l.ok g (by rw [← l.fr]; exact hg)
    have sg := st g hg
    have hc := po.codes
    have c1 := ok.code
    have c2 := ok.fn0
    have c3 := ok.at0
    have c4 := ok.ins
    have c5 := (po.code _ (VM.code_mem ok.code)).1
    refine ⟨⟨by omega, by omega⟩, ⟨by omega, by omega⟩, ⟨fun v hv => zrh (ok.vv v hv) (by omega), by omega⟩, ⟨fun v hv => zrh (ok.sv v hv) (by omega), by omega⟩⟩
  · obtain ⟨w1, w2⟩ := l.cells c hc
    exact ⟨zrh w1 (by omega), zrh w2 (by omega)⟩
theorem zaip {a : Agt} {fs : List Frm} {f : Frm} (l : VM.Gone a fs f) : zadr a := by
  have po := VM.prg_ok l.prog
  have hl := l.hlen
  have hr := l.room
  have st := VM.gone_stk l
  have fl := l.flen
  exact ⟨by have := po.codes; omega, fun c hc => by have := (po.code c hc).1; omega, by have := po.words; omega, by rw [l.fr]; simp; omega, by omega, fun g hg => by have := st g hg; omega⟩
theorem zabf {a : Agt} {fs : List Frm} {f : Frm} (l : VM.Gone a fs f) : (ze a.frames).length ≤ 4096 := by
  have sk := VM.gone_stk l
  have fl : a.frames.length ≤ 12 := by rw [l.fr]; simp; have := l.flen; omega
  have key : ∀ gs : List Frm, (∀ g ∈ gs, g.vars.length ≤ 8 ∧ g.stack.length ≤ 16) → (ze gs).length ≤ gs.length * 24 := by
    intro gs
    induction gs with
    | nil => intro _; simp [ze]
    | cons g r ih =>
      intro h
      have := ih fun x hx => h x (by simp [hx])
      have h0 := h g (by simp)
      simp [ze] at this ⊢
      omega
  have := key a.frames sk
  omega
theorem zact {a : Agt} {fs : List Frm} {f : Frm} (l : VM.Gone a fs f) : QC Try.prog 5 [.agg a.avs] (.ro (bsR (VM.image a))) := by
  have fl : a.frames.length ≤ 12 := by rw [l.fr]; simp; have := l.flen; omega
  exact zanz (zaip l) l.fr (by omega) (zabf l) (VM.roots_ok l) (zaap (VM.pack_gone l))
end Go.Proofs.Ytpbnaaoilgohkaa
set_option maxRecDepth 8000
namespace Go.Proofs.Ytpbnaaoilgohkaa
open Go Go.RowKit
namespace VM
structure Counts (cnt : Int → St → Int × St) : Prop where
  goes : ∀ most, 0 ≤ most → ∀ st, Goes (rCount most) st (cnt most st).1 (cnt most st).2
  short : ∀ most, Short (cnt most)
  range : ∀ most, 0 ≤ most → ∀ st, 0 ≤ (cnt most st).1 ∧ (cnt most st).1 ≤ most
theorem counts_rd : Counts rdCount := ⟨fun most _ st => goes_count most st, short_count, fun _ h st => rdCount_range h st⟩
theorem counts_ref : Counts refN := ⟨fun _ h st => goes_refN h st, short_refN, fun most h st => by
  unfold refN
  split
  · exact ⟨Int.le_refl _, h⟩
  · split
    · exact ⟨Int.le_refl _, h⟩
    · split
      · exact ⟨Int.le_refl _, h⟩
      · rename_i h3
        have h4 : ¬ ((WM.getNum st.1).1 < 0 ∨ most < (WM.getNum st.1).1) := fun h5 => h3 ⟨h, h5⟩
        simp only
        omega⟩
def insOf (st : St) : Ins × St := (⟨(rdNum st).1, (rdNum (rdNum st).2).1, (rdNum (rdNum (rdNum st).2).2).1⟩, (rdNum (rdNum (rdNum st).2).2).2)
theorem goes_ins (st : St) : Goes rIns st (insOf st).1 (insOf st).2 := (goes_num _).bind ((goes_num _).bind ((goes_num _).bind (Goes.pure _ _)))
theorem short_ins : Short insOf := fun st => Nat.le_trans (short_num _) (Nat.le_trans (short_num _) (short_num st))
section
variable {cnt : Int → St → Int × St}
def listOf {α : Type} (cnt : Int → St → Int × St) (most : Int) (m : St → α × St) (st : St) : List α × St := rdMany m (cnt most st).1.toNat (cnt most st).2
theorem goes_list {α : Type} (hc : Counts cnt) {most : Int} (h0 : 0 ≤ most) {r : Rd α} {m : St → α × St} (h : ∀ st, Goes r st (m st).1 (m st).2) (st : St) : Goes ((rCount most).bind fun n => rMany r n.toNat) st (listOf cnt most m st).1 (listOf cnt most m st).2 :=
  (hc.goes most h0 st).bind (goes_many h _ _)
theorem short_list {α : Type} (hc : Counts cnt) (most : Int) {m : St → α × St} (h : Short m) : Short (listOf cnt most m) := fun st => Nat.le_trans (short_many h _ _) (hc.short most st)
theorem list_len {α : Type} (hc : Counts cnt) {most : Int} (h0 : 0 ≤ most) (m : St → α × St) (st : St) : ((listOf cnt most m st).1.length : Int) ≤ most := by
  unfold listOf
  rw [rdMany_len]
  have := hc.range most h0 st
  omega
def codOf (cnt : Int → St → Int × St) (st : St) : Cod × St :=
  (⟨(rdNum st).1, (rdNum (rdNum st).2).1, (listOf cnt 200 insOf (rdNum (rdNum st).2).2).1⟩, (listOf cnt 200 insOf (rdNum (rdNum st).2).2).2)
theorem goes_cod (hc : Counts cnt) (st : St) : Goes rCod st (codOf cnt st).1 (codOf cnt st).2 :=
  (goes_num _).bind ((goes_num _).bind ((hc.goes 200 (by omega) _).bind ((goes_many goes_ins _ _).bind (Goes.pure _ _))))
theorem short_cod (hc : Counts cnt) : Short (codOf cnt) := fun st => Nat.le_trans (short_list hc 200 short_ins _) (Nat.le_trans (short_num _) (short_num st))
def prgOf (cnt : Int → St → Int × St) (st : St) : Prg × St :=
  (⟨(listOf cnt 5 (codOf cnt) (listOf cnt 16 (rdText 12) st).2).1, (listOf cnt 16 (rdText 12) st).1⟩, (listOf cnt 5 (codOf cnt) (listOf cnt 16 (rdText 12) st).2).2)
theorem goes_prg (hc : Counts cnt) (st : St) : Goes rPrg st (prgOf cnt st).1 (prgOf cnt st).2 :=
  (hc.goes 16 (by omega) _).bind ((goes_many (goes_text 12) _ _).bind ((hc.goes 5 (by omega) _).bind ((goes_many (goes_cod hc) _ _).bind (Goes.pure _ _))))
theorem short_prg (hc : Counts cnt) : Short (prgOf cnt) := fun st => Nat.le_trans (short_list hc 5 (short_cod hc) _) (short_list hc 16 (short_text 12) st)
def frmOf (cnt : Int → St → Int × St) (st : St) : Frm × St :=
  let a := rdNum st
  let b := rdNum a.2
  let v := listOf cnt 8 rdVal b.2
  let s := listOf cnt 16 rdVal v.2
  (⟨a.1, b.1, v.1, s.1⟩, s.2)
theorem goes_frm (hc : Counts cnt) (st : St) : Goes rFrm st (frmOf cnt st).1 (frmOf cnt st).2 :=
  (goes_num _).bind ((goes_num _).bind ((goes_list hc (by omega) goes_val _).bind ((goes_list hc (by omega) goes_val _).bind (Goes.pure _ _))))
theorem short_frm (hc : Counts cnt) : Short (frmOf cnt) := fun st => Nat.le_trans (short_list hc 16 short_val _) (Nat.le_trans (short_list hc 8 short_val _) (Nat.le_trans (short_num _) (short_num st)))
def clOf (st : St) : Cl × St := (⟨(rdVal st).1, (rdVal (rdVal st).2).1⟩, (rdVal (rdVal st).2).2)
theorem goes_cl (st : St) : Goes rCl st (clOf st).1 (clOf st).2 := (goes_val _).bind ((goes_val _).bind (Goes.pure _ _))
theorem short_cl : Short clOf := fun st => Nat.le_trans (short_val _) (short_val st)
def agtOf (cnt : Int → St → Int × St) (st : St) : Agt × St :=
  let i := rdNum st
  let t := rdNum i.2
  let u := rdNum t.2
  let c := rdNum u.2
  let h := rdNum c.2
  let p := prgOf cnt h.2
  let f := listOf cnt 12 (frmOf cnt) p.2
  let k := listOf cnt 60 clOf f.2
  let s := rdNum k.2
  (⟨i.1, t.1, p.1, f.1, k.1, ⟨u.1, c.1, h.1⟩⟩, s.2)
theorem goes_agt (hc : Counts cnt) (st : St) : Goes rAgt st (agtOf cnt st).1 (agtOf cnt st).2 :=
  (goes_num _).bind ((goes_num _).bind ((goes_num _).bind ((goes_num _).bind ((goes_num _).bind ((goes_prg hc _).bind ((hc.goes 12 (by omega) _).bind ((goes_many (goes_frm hc) _ _).bind ((hc.goes 60 (by omega) _).bind ((goes_many goes_cl _ _).bind ((goes_num _).bind (Goes.pure _ _)))))))))))
def answerOf (b : Str) (r : Agt × St) : Agt × Int :=
  if r.2.2 ≠ 0 then (agt0, r.2.2) else if r.2.1 ≠ [] then (agt0, 2) else if agent r.1 true ≠ 0 then (agt0, agent r.1 true) else if image r.1 ≠ b then (agt0, 2) else (r.1, 0)
theorem answer_parse (hc : Counts cnt) (b : Str) : answerOf b (agtOf cnt (b, 0)) = parse b := by
  have g := goes_agt hc (b, 0)
  unfold answerOf parse
  generalize agtOf cnt (b, 0) = r at *
  cases hr : rAgt b with
  | ok a q =>
    obtain ⟨e1, e2⟩ := g.good rfl _ _ hr
    rw [e1, e2]
    simp
  | no e =>
    obtain ⟨e1, e2⟩ := g.bad rfl _ hr
    rw [e2]
    rw [if_pos e1]
end
end VM
end Go.Proofs.Ytpbnaaoilgohkaa
