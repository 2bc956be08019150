/- Cells numbered as they are come to: the document's closures. Cells numbered as they are come to: the document's function, its first part. Cells numbered as they are come to: the document's function, its loops. Cells numbered as they are come to: the document's function, all of it. Cells numbered as they are come to: the document's answer. The document's machine: Pack. A program, and an agent, are the same as themselves. Agents: what the document's function says is wrong with one. Agents: what the document's function says is wrong with one, on. Agents: what the document's function says is wrong with one, whole. -/
import Derived.Test.YtpbnaaoilgohkaaGreatDoorG9
import Derived.Test.YtpbnaaoilgohkaaGreatDoorG11
import Derived.Test.YtpbnaaoilgohkaaGreatDoorG13
import Derived.Test.YtpbnaaoilgohkaaGreatDoorG6
set_option linter.unusedSimpArgs false
set_option linter.unusedVariables false
set_option maxRecDepth 8000
namespace Go.Proofs.YtpbnaaoilgohkaaGreatDoor
open Go Go.RowKit
def zaq (o : List Nat) (N : Nat) : List AV := (List.range N).map fun n => .int .i64 (if n ∈ o then (o.idxOf n : Int) else -1)
@[simp] theorem zarr (o : List Nat) (N : Nat) : (zaq o N).length = N := by simp [zaq]
theorem zew {o : List Nat} {N n : Nat} (h : n < N) : (zaq o N)[n]? = some (.int .i64 (if n ∈ o then (o.idxOf n : Int) else -1)) := by simp [zaq, h]
theorem zadt {o : List Nat} {N m : Nat} (hm : m < N) (hn : m ∉ o) : (zaq o N).take m ++ AV.int .i64 o.length :: (zaq o N).drop (m + 1) = zaq (o ++ [m]) N := by
  have e : (zaq o N).take m ++ AV.int .i64 o.length :: (zaq o N).drop (m + 1) = (zaq o N).set m (.int .i64 o.length) := by
    rw [List.set_eq_take_append_cons_drop, if_pos (by simpa using hm)]
  rw [e]
  apply List.ext_getElem?
  intro n
  by_cases hN : n < N
  · rw [zew hN]
    by_cases hnm : n = m
    · subst hnm
      rw [List.getElem?_set_self (by simpa using hm)]
      simp [hn, List.idxOf_append]
    · rw [List.getElem?_set_ne (fun h => hnm h.symm), zew hN]
      by_cases ho : n ∈ o
      · simp [ho, List.idxOf_append]
      · simp [ho, hnm]
  · rw [List.getElem?_eq_none (by simp; omega), List.getElem?_eq_none (by simp; omega)]
structure zacs (H : Heap) (gp go gpl gr N : Nat) (o : List Nat) : Prop where
  p : H gp = some (.row 1 [.slc gpl 0 N])
  pl : H gpl = some (.row 1 (zaq o N))
  oo : H go = some (.row 1 [if o = [] then .nils else .slc gr 0 o.length])
  rr : o ≠ [] → H gr = some (.row 1 (zam o))
  d1 : gp ≠ go
  d2 : gp ≠ gpl
  d3 : go ≠ gpl
  d4 : o ≠ [] → gr ≠ gp ∧ gr ≠ go ∧ gr ≠ gpl
theorem zakw (v : Val) (o : List Nat) (N : Nat) (hv : VM.WrongOk v N) (hin : VM.In o v) {H : Heap} {nx gp gpl : Nat} (h1 : H gp = some (.row 1 [.slc gpl 0 N])) (h2 : H gpl = some (.row 1 (zaq o N))) (l1 : gp < nx) (l2 : gpl < nx) :
    za Tryz.prog 59 [.agg v.avs, .ptr gp 0] H nx fun r H' _ => r = .agg (VM.put o v).avs ∧ Keep nx H' H := by
  refine zsk _ _ H nx _ ?_
  have n0 : gp ≠ nx ∧ gpl ≠ nx ∧ nx ≠ nx + 1 ∧ gp ≠ nx + 1 ∧ gpl ≠ nx + 1 := by omega
  by_cases hk : v.kind = 2
  · obtain ⟨c1, c2⟩ := hv.cell hk
    have hm := hin hk
    have hlt : v.n.toNat < N := by omega
    have e1 : (VM.put o v).kind = 2 := by unfold VM.put; rw [if_pos hk]; exact hk
    have e2 : (VM.put o v).n = (o.idxOf v.n.toNat : Nat) := by unfold VM.put; rw [if_pos hk]
    have e3 : (VM.put o v).text = v.text := by unfold VM.put; rw [if_pos hk]
    simp [zhg, Val.avs, hk, n0, h1, h2, e1, e2, e3, zew hlt, hm]
    omega
  · have e : VM.put o v = v := by unfold VM.put; rw [if_neg hk]
    simp [zhg, Val.avs, hk, n0, e]
theorem zarc (v : Val) (o : List Nat) (N : Nat) (hv : VM.WrongOk v N) (ho : (o.length + 1) * 8 ≤ 140737488355328) {H : Heap} {nx gp go gpl gr : Nat} (st : zacs H gp go gpl gr N o) (l1 : gp < nx) (l2 : go < nx) (l3 : gpl < nx) (lr : o ≠ [] → gr < nx) :
    za Tryz.prog 58 [.agg v.avs, .ptr gp 0, .ptr go 0] H nx fun r H' nx' => r = .tup [] ∧ nx ≤ nx' ∧ ∃ gr', zacs H' gp go gpl gr' N (VM.meet o v) ∧ (VM.meet o v ≠ [] → gr' < nx' ∧ ((o ≠ [] ∧ gr' = gr) ∨ nx ≤ gr')) ∧
      ∀ g, g < nx → g ≠ gpl → g ≠ go → (o ≠ [] → g ≠ gr) → H' g = H g := by
  refine zsl _ _ _ H nx _ ?_
  obtain ⟨s1, s2, s3, s4, d1, d2, d3, d4⟩ := st
  have n0 : gp ≠ nx ∧ gpl ≠ nx ∧ go ≠ nx ∧ gp ≠ nx + 1 ∧ gpl ≠ nx + 1 ∧ go ≠ nx + 1 ∧ nx ≠ nx + 1 := by omega
  have same : VM.meet o v = o → ∃ gr', zacs (H.put nx (some (.row 3 v.avs))) gp go gpl gr' N (VM.meet o v) ∧ (VM.meet o v ≠ [] → gr' < nx + 1 ∧ ((o ≠ [] ∧ gr' = gr) ∨ nx ≤ gr')) ∧ ∀ g, g < nx → g ≠ gpl → g ≠ go → (o ≠ [] → g ≠ gr) → (H.put nx (some (.row 3 v.avs))) g = H g := by
    intro e
    rw [e]
    refine ⟨gr, ⟨by rw [Heap.put_ne _ _ (by omega)]; exact s1, by rw [Heap.put_ne _ _ (by omega)]; exact s2, by rw [Heap.put_ne _ _ (by omega)]; exact s3, fun h => by rw [Heap.put_ne _ _ (by have := lr h; omega)]; exact s4 h, d1, d2, d3, d4⟩, fun h => ⟨by have := lr h; omega, .inl ⟨h, rfl⟩⟩, fun g hg _ _ _ => Heap.put_ne _ _ (by omega)⟩
  by_cases hk : v.kind = 2
  · obtain ⟨c1, c2⟩ := hv.cell hk
    obtain ⟨k, n, s⟩ := v
    simp only at hk c1 c2
    subst hk
    obtain ⟨m, rfl⟩ : ∃ m : Nat, n = m := ⟨n.toNat, by omega⟩
    have hlt : m < N := by omega
    by_cases hm : m ∈ o
    · have e : VM.meet o ⟨2, m, s⟩ = o := zoa (by simp [hm])
      have nn : ¬ ((o.idxOf m : Nat) : Int) < 0 := by omega
      simp [zct, Val.avs, n0, s1, s2, zew hlt, hm, nn]
      have := same e
      simp [Val.avs] at this
      exact ⟨hlt, this⟩
    · have e : VM.meet o ⟨2, m, s⟩ = o ++ [m] := zkx (by simp [hm])
      have ps := zadt hlt hm
      rw [e]
      by_cases h0 : o = []
      · subst h0
        simp at s3
        have ne_0 : gp ≠ go ∧ go ≠ gp ∧ gp ≠ gpl ∧ gpl ≠ gp ∧ gp ≠ nx ∧ nx ≠ gp ∧ go ≠ gpl ∧ gpl ≠ go ∧ go ≠ nx ∧ nx ≠ go ∧ gpl ≠ nx ∧ nx ≠ gpl ∧ gp ≠ nx + 1 ∧ nx + 1 ≠ gp ∧ gp ≠ nx + 2 ∧ nx + 2 ≠ gp ∧ gp ≠ nx + 3 ∧ nx + 3 ≠ gp ∧ go ≠ nx + 1 ∧ nx + 1 ≠ go ∧ go ≠ nx + 2 ∧ nx + 2 ≠ go ∧ go ≠ nx + 3 ∧ nx + 3 ≠ go ∧ gpl ≠ nx + 1 ∧ nx + 1 ≠ gpl ∧ gpl ≠ nx + 2 ∧ nx + 2 ≠ gpl ∧ gpl ≠ nx + 3 ∧ nx + 3 ≠ gpl ∧ nx ≠ nx + 1 ∧ nx + 1 ≠ nx ∧ nx ≠ nx + 2 ∧ nx + 2 ≠ nx ∧ nx ≠ nx + 3 ∧ nx + 3 ≠ nx := ⟨by omega, by omega, by omega, by omega, by omega, by omega, by omega, by omega, by omega, by omega, by omega, by omega, by omega, by omega, by omega, by omega, by omega, by omega, by omega, by omega, by omega, by omega, by omega, by omega, by omega, by omega, by omega, by omega, by omega, by omega, by omega, by omega, by omega, by omega, by omega, by omega⟩
        simp [zct, Val.avs, n0, s1, s2, s3, zew hlt, hm, ne_0]
        refine ⟨hlt, by omega, by omega, nx + 2, ⟨?_, ?_, ?_, fun _ => ?_, d1, d2, d3, fun _ => by omega⟩, by omega, fun g hg a b => ?_⟩
        · simp [ne_0, s1]
        · simp [ne_0]; simpa using ps
        · simp [ne_0]
        · simp [ne_0, zam]
        · repeat rw [if_neg (by omega)]
      · have r4 := d4 h0
        have lr' := lr h0
        rw [if_neg h0] at s3
        have s4' := s4 h0
        have ne_1 : gr ≠ gp ∧ gp ≠ gr ∧ gr ≠ go ∧ go ≠ gr ∧ gr ≠ gpl ∧ gpl ≠ gr ∧ gr ≠ nx ∧ nx ≠ gr ∧ gp ≠ go ∧ go ≠ gp ∧ gp ≠ gpl ∧ gpl ≠ gp ∧ gp ≠ nx ∧ nx ≠ gp ∧ go ≠ gpl ∧ gpl ≠ go ∧ go ≠ nx ∧ nx ≠ go ∧ gpl ≠ nx ∧ nx ≠ gpl ∧ gr ≠ nx + 1 ∧ nx + 1 ≠ gr ∧ gr ≠ nx + 2 ∧ nx + 2 ≠ gr ∧ gr ≠ nx + 3 ∧ nx + 3 ≠ gr ∧ gp ≠ nx + 1 ∧ nx + 1 ≠ gp ∧ gp ≠ nx + 2 ∧ nx + 2 ≠ gp ∧ gp ≠ nx + 3 ∧ nx + 3 ≠ gp ∧ go ≠ nx + 1 ∧ nx + 1 ≠ go ∧ go ≠ nx + 2 ∧ nx + 2 ≠ go ∧ go ≠ nx + 3 ∧ nx + 3 ≠ go ∧ gpl ≠ nx + 1 ∧ nx + 1 ≠ gpl ∧ gpl ≠ nx + 2 ∧ nx + 2 ≠ gpl ∧ gpl ≠ nx + 3 ∧ nx + 3 ≠ gpl ∧ nx ≠ nx + 1 ∧ nx + 1 ≠ nx ∧ nx ≠ nx + 2 ∧ nx + 2 ≠ nx ∧ nx ≠ nx + 3 ∧ nx + 3 ≠ nx := ⟨by omega, by omega, by omega, by omega, by omega, by omega, by omega, by omega, by omega, by omega, by omega, by omega, by omega, by omega, by omega, by omega, by omega, by omega, by omega, by omega, by omega, by omega, by omega, by omega, by omega, by omega, by omega, by omega, by omega, by omega, by omega, by omega, by omega, by omega, by omega, by omega, by omega, by omega, by omega, by omega, by omega, by omega, by omega, by omega, by omega, by omega, by omega, by omega, by omega, by omega⟩
        simp [zct, Val.avs, n0, s1, s2, s3, s4', zew hlt, hm, ne_1]
        have htk : List.take o.length (zam o) = zam o := List.take_of_length_le (by simp)
        simp only [htk]
        refine ⟨hlt, by omega, ho, by omega, nx + 2, ⟨?_, ?_, ?_, fun _ => ?_, d1, d2, d3, fun _ => by omega⟩, by omega, fun g hg a b c => ?_⟩
        · simp [ne_1, s1]
        · simp [ne_1]; simpa using ps
        · simp [ne_1]
        · simp [ne_1, zam]
        · have := c h0
          repeat rw [if_neg (by omega)]
  · have e : VM.meet o v = o := zoa (by simp [hk])
    simp [zct, Val.avs, hk, n0]
    have := same e
    simp [Val.avs] at this
    exact this
end Go.Proofs.YtpbnaaoilgohkaaGreatDoor
set_option maxRecDepth 8000
namespace Go.Proofs.YtpbnaaoilgohkaaGreatDoor
open Go Go.RowKit
structure RCan (h : List Cl) (H0 : Heap) (nx : Nat) (o : List Nat) (H : Heap) (n gr : Nat) : Prop where
  st : zacs H (nx + 1) (nx + 2) nx gr h.length o
  lr : o ≠ [] → nx + 3 ≤ gr ∧ gr < n
  keep : Keep nx H H0
  good : VM.Good h.length o
  le : nx + 3 ≤ n
theorem RCan.more {h : List Cl} {H0 H H' : Heap} {nx n n' gr : Nat} {o : List Nat} (c : RCan h H0 nx o H n gr) (hn : n ≤ n') (hk : ∀ g, g < n → H' g = H g) : RCan h H0 nx o H' n' gr := by
  have l := c.le
  refine ⟨⟨by rw [hk _ (by omega)]; exact c.st.p, by rw [hk _ (by omega)]; exact c.st.pl, by rw [hk _ (by omega)]; exact c.st.oo, fun ho => by rw [hk _ (c.lr ho).2]; exact c.st.rr ho, c.st.d1, c.st.d2, c.st.d3, c.st.d4⟩, fun ho => by have := c.lr ho; omega, fun g hg => by rw [hk _ (by omega)]; exact c.keep g hg, c.good, by omega⟩
theorem RCan.meet {h : List Cl} {H0 H : Heap} {nx n gr : Nat} {o : List Nat} (c : RCan h H0 nx o H n gr) (hs : h.length * 64 ≤ 140737488355328) {v : Val} (hv : VM.WrongOk v h.length) {Q : AV → Heap → Nat → Prop} (hq : ∀ H' n' gr', n ≤ n' → RCan h H0 nx (VM.meet o v) H' n' gr' → Q (.tup []) H' n') :
    za Tryz.prog 58 [.agg v.avs, .ptr (nx + 1) 0, .ptr (nx + 2) 0] H n Q := by
  have l := c.le
  have g := c.good.len
  refine (zarc v o h.length hv (by omega) c.st (by omega) (by omega) (by omega) (fun ho => (c.lr ho).2)).mono ?_
  rintro r H' n' ⟨rfl, hn, gr', st, q1, q2⟩
  refine hq H' n' gr' hn ⟨st, fun ho => ?_, fun x hx => ?_, c.good.meet hv.okV, by omega⟩
  · obtain ⟨a, b⟩ := q1 ho
    rcases b with ⟨b1, rfl⟩ | b
    · have := c.lr b1; omega
    · omega
  · rw [q2 x (by omega) (by omega) (by omega) (fun ho => by have := c.lr ho; omega)]; exact c.keep x hx
def avI (l : List Int) : List AV := l.map (AV.int .i64)
theorem zakx (N : Nat) : avI (List.replicate N (-1)) = zaq [] N := by
  unfold avI zaq
  rw [List.map_replicate]
  apply List.ext_getElem?
  intro i
  by_cases h : i < N
  · simp [h]
  · rw [List.getElem?_eq_none (by simp; omega), List.getElem?_eq_none (by simp; omega)]
theorem zaos (n i : Nat) (h : i < n) : List.take i (avI (List.replicate i (-1) ++ List.replicate (n - i) 0)) ++ AV.int .i64 (-1) :: List.drop (i + 1) (avI (List.replicate i (-1) ++ List.replicate (n - i) 0)) = avI (List.replicate (i + 1) (-1) ++ List.replicate (n - (i + 1)) 0) := by
  have e : n - i = (n - (i + 1)) + 1 := by omega
  rw [e, List.replicate_succ, List.replicate_succ']
  simp [avI, List.take_append, List.drop_append]
theorem zaad {h : List Cl} {l : List Val} (hr : VM.right h l = true) (hs : h.length * 64 ≤ 140737488355328) (hl : l.length * 32 ≤ 140737488355328) {H : Heap} {nx : Nat} {Q : AV → Heap → Nat → Prop}
    (hq : ∀ H' , RCan h H nx [] H' (nx + 3) 0 → LP (zdg Q) [.ro (h.map Cl.avs), .ro (l.map Val.avs), .ptr (nx + 1) 0, .ptr (nx + 2) 0, .clo 58 [.ptr (nx + 1) 0, .ptr (nx + 2) 0], .int .i64 0, .ro (l.map Val.avs), .int .i64 l.length, .int .i64 0] H' (nx + 3)) :
    zjf (.ro (h.map Cl.avs)) (.ro (l.map Val.avs)) H nx Q := by
  simp [zjf]
  refine ⟨by omega, by omega, ?_⟩
  refine LP.mk (fun m xs H' n' => ∃ i, m = h.length - i ∧ i ≤ h.length ∧ n' = nx + 2 ∧ xs = [.ro (h.map Cl.avs), .ro (l.map Val.avs), .ptr (nx + 1) 0, .int .i64 h.length, .int .i64 i] ∧ H' (nx + 1) = some (.row 1 [.slc nx 0 h.length]) ∧ H' nx = some (.row 1 (avI (List.replicate i (-1) ++ List.replicate (h.length - i) 0))) ∧ Keep nx H' H) h.length
    ⟨0, by omega, by omega, rfl, rfl, ?_, ?_, ?_⟩ ?_
  · rw [Heap.put_at]
  · rw [Heap.put_ne _ _ (by omega), Heap.put_at]
    simp [avI]
  · intro g hg; rw [Heap.put_ne _ _ (by omega), Heap.put_ne _ _ (by omega)]
  rintro m xs H' n' ⟨i, rfl, hi, rfl, rfl, h1, h2, hk⟩
  by_cases hil : i < h.length
  · simp [zjg, hil, h1, h2]
    refine ⟨by simp [avI]; omega, h.length - (i + 1), by omega, i + 1, rfl, by omega, i64w (by omega), zaos _ _ hil, hk⟩
  · obtain rfl : i = h.length := by omega
    simp [zjg]
    refine hq _ ⟨⟨?_, ?_, ?_, fun ho => absurd rfl ho, by omega, by omega, by omega, fun ho => absurd rfl ho⟩, fun ho => absurd rfl ho, ?_, VM.Good.nil, Nat.le_refl _⟩
    · rw [Heap.put_ne _ _ (by omega)]; exact h1
    · rw [Heap.put_ne _ _ (by omega), h2, ← zakx]; simp
    · rw [Heap.put_at]; rfl
    · intro g hg; rw [Heap.put_ne _ _ (by omega)]; exact hk g hg
end Go.Proofs.YtpbnaaoilgohkaaGreatDoor
set_option maxRecDepth 8000
namespace Go.Proofs.YtpbnaaoilgohkaaGreatDoor
open Go Go.RowKit
theorem zagb {o o' : List Nat} (h : o <+: o') {d n : Nat} (hd : o[d]? = some n) : o'[d]? = some n := by
  obtain ⟨t, rfl⟩ := h
  rw [List.getElem?_append_left (List.getElem?_eq_some_iff.1 hd).1]; exact hd
set_option maxHeartbeats 2000000 in
set_option maxRecDepth 20000 in
theorem zaae (h : List Cl) (l : List Val) (hr : VM.right h l = true) (hs : h.length * 64 ≤ 140737488355328) (hl : l.length * 32 ≤ 140737488355328) {H0 : Heap} {nx i : Nat} (hi : i < l.length) (K16 : J3)
    (hK : ∀ H n gr o, RCan h H0 nx o H n gr → VM.orderGo h (l.drop (i + 1)) o = VM.order h l →
      K16 [.ro (h.map Cl.avs), .ro (l.map Val.avs), .ptr (nx + 1) 0, .ptr (nx + 2) 0, .clo 58 [.ptr (nx + 1) 0, .ptr (nx + 2) 0], .int .i64 o.length, .ro (l.map Val.avs), .int .i64 l.length, .int .i64 (i + 1 : Nat)] H n)
    (H : Heap) (n gr : Nat) (o : List Nat) (d : Nat) (hdo : d ≤ o.length) (st : RCan h H0 nx o H n gr) (hF : VM.orderGo h (l.drop (i + 1)) (VM.drain h (h.length - d) o d) = VM.order h l) :
    LP (zdj K16) [.ro (h.map Cl.avs), .ro (l.map Val.avs), .ptr (nx + 1) 0, .ptr (nx + 2) 0, .clo 58 [.ptr (nx + 1) 0, .ptr (nx + 2) 0], .int .i64 d, .ro (l.map Val.avs), .int .i64 l.length, .int .i64 i] H n := by
  refine LP.mk (fun m xs H n => ∃ d gr o, m = h.length - d ∧ d ≤ o.length ∧ xs = [.ro (h.map Cl.avs), .ro (l.map Val.avs), .ptr (nx + 1) 0, .ptr (nx + 2) 0, .clo 58 [.ptr (nx + 1) 0, .ptr (nx + 2) 0], .int .i64 d, .ro (l.map Val.avs), .int .i64 l.length, .int .i64 i] ∧ RCan h H0 nx o H n gr ∧
    VM.orderGo h (l.drop (i + 1)) (VM.drain h (h.length - d) o d) = VM.order h l) (h.length - d) ⟨d, gr, o, rfl, hdo, rfl, st, hF⟩ ?_
  clear st hF hdo
  rintro m xs H n ⟨d, gr, o, rfl, hdo, rfl, st, hF⟩
  by_cases hd : d < o.length
  case neg =>
    obtain rfl : d = o.length := by omega
    simp [zdj, st.st.oo, zwk]
    rw [i64w (by omega)]
    rw [VM.drain_end (Nat.le_refl _)] at hF
    exact hK H n gr o st hF
  obtain ⟨c0, hc0⟩ : ∃ n0, o[d]? = some n0 := ⟨_, List.getElem?_eq_getElem hd⟩
  have hc0l : c0 < h.length := st.good.lt c0 (List.mem_of_getElem? hc0)
  have hc : h[c0]? = some h[c0] := List.getElem?_eq_getElem hc0l
  have ho : o ≠ [] := by intro e; subst e; simp at hd
  obtain ⟨w1, w2⟩ := VM.right_okC hr _ (List.mem_of_getElem? hc)
  have hol := st.good.len
  have oo := st.st.oo
  rw [if_neg ho] at oo
  have hrow : (zam o)[d]? = some (.int .i64 c0) := zps hc0
  obtain ⟨hdr, hrow'⟩ := List.getElem?_eq_some_iff.1 hrow
  suffices key : ∀ K28 : J3, (∀ H n gr o, RCan h H0 nx o H n gr → d + 1 ≤ o.length → VM.orderGo h (l.drop (i + 1)) (VM.drain h (h.length - (d + 1)) o (d + 1)) = VM.order h l →
      K28 [.ro (h.map Cl.avs), .ro (l.map Val.avs), .ptr (nx + 1) 0, .ptr (nx + 2) 0, .clo 58 [.ptr (nx + 1) 0, .ptr (nx + 2) 0], .int .i64 (d + 1 : Nat), .ro (l.map Val.avs), .int .i64 l.length, .int .i64 i] H n) →
      zdj K16 K28 [.ro (h.map Cl.avs), .ro (l.map Val.avs), .ptr (nx + 1) 0, .ptr (nx + 2) 0, .clo 58 [.ptr (nx + 1) 0, .ptr (nx + 2) 0], .int .i64 d, .ro (l.map Val.avs), .int .i64 l.length, .int .i64 i] H n from
    key _ fun H n gr o st' hdo' hF' => ⟨_, by omega, d + 1, gr, o, rfl, hdo', rfl, st', hF'⟩
  intro K28 hK28
  rw [show h.length - d = (h.length - (d + 1)) + 1 by omega, VM.drain_step hc0 hc] at hF
  have t1 : h[c0].avs.take 3 = h[c0].left.avs := rfl
  have t2 : (h[c0].avs.drop 3).take 3 = h[c0].right.avs := rfl
  simp [zdj, oo, hd, st.st.rr ho, hrow', zwk, hc0l, t1, CALL]
  refine st.meet hs w1 fun H2 n2 gr2 hn2 st2 => ?_
  have p1 := VM.meet_pre o h[c0].left
  have hc1 := zagb p1 hc0
  have ho1 : VM.meet o h[c0].left ≠ [] := by intro e; rw [e] at hc1; simp at hc1
  have oo2 := st2.st.oo
  rw [if_neg ho1] at oo2
  obtain ⟨hdr2, hrow2⟩ := List.getElem?_eq_some_iff.1 (zps hc1)
  have hd1 := (List.getElem?_eq_some_iff.1 hc1).1
  simp [zpc, oo2, st2.st.rr ho1, hrow2, hd1, hc0l, t2, CALL]
  refine st2.meet hs w2 fun H3 n3 gr3 hn3 st3 => ?_
  simp [zpd]
  rw [i64w (by omega)]
  have p2 := VM.meet_pre (VM.meet o h[c0].left) h[c0].right
  exact hK28 H3 n3 gr3 _ st3 (by have := p2.length_le; omega) hF
end Go.Proofs.YtpbnaaoilgohkaaGreatDoor
set_option maxRecDepth 8000
namespace Go.Proofs.YtpbnaaoilgohkaaGreatDoor
open Go Go.RowKit
theorem zxb (v : Val) (o : List Nat) (N : Nat) (hv : VM.WrongOk v N) (hin : VM.In o v) {H : Heap} {nx gp gpl : Nat} (h1 : H gp = some (.row 1 [.slc gpl 0 N])) (h2 : H gpl = some (.row 1 (zaq o N))) (l1 : gp < nx) (l2 : gpl < nx) :
    za Tryz.prog 59 [.agg v.avs, .ptr gp 0] H nx fun r H' _ => Frz H' nx r (.agg (VM.put o v).avs) ∧ Keep nx H' H :=
  (zakw v o N hv hin h1 h2 l1 l2).mono fun r H' _ hh => ⟨by rw [hh.1]; exact .same _ (zvg _), hh.2⟩
theorem zo.put {v : Val} {o : List Nat} {N : Nat} (hv : VM.WrongOk v N) (hin : VM.In o v) {H : Heap} {gp gpl n : Nat} (h1 : H gp = some (.row 1 [.slc gpl 0 N])) (h2 : H gpl = some (.row 1 (zaq o N))) {k : Kt} (hk : k (.agg (VM.put o v).avs) [gp, gpl] [] []) :
    zo Tryz.prog (.clo 59 [.ptr gp 0]) [.agg v.avs] H n k := by
  refine zo.of_qcr [gp, gpl] (by simp [h1, h2]) (fun H' n' ha => ?_) (zvg _) hk
  obtain ⟨a1, a2⟩ := ha gp (by simp)
  obtain ⟨a3, a4⟩ := ha gpl (by simp)
  exact za.pure (zxb v o N hv hin (by rw [a1]; exact h1) (by rw [a3]; exact h2) a2 a4)
set_option maxHeartbeats 2000000 in
set_option maxRecDepth 20000 in
theorem zadr (h : List Cl) (F : List Nat) (hF : VM.Good h.length F) (hok : zaam h) (hsh : VM.Shut h F F.length) (hs : h.length * 64 ≤ 140737488355328) {H0 : Heap} {nx : Nat} (a2 a4 : AV) (Q : AV → Heap → Nat → Prop) {H1 : Heap} {n1 gr : Nat} (st : RCan h H0 nx F H1 n1 gr)
    (h4 : a4 = if F = [] then AV.nils else .slc gr 0 F.length)
    (hQ : ∀ a3 H' n', n1 ≤ n' → Keep n1 H' H1 → Grow H' n1 n' 6 F.length (rowC (F.map (zbm F h))) a3 → Q (.tup [a2, a3]) H' n') :
    LP (zdi Q) [.ro (h.map Cl.avs), .clo 59 [.ptr (nx + 1) 0], a2, .nils, a4, .int .i64 F.length, .int .i64 0] H1 n1 := by
  have hFl := hF.len
  refine LP.mk (fun m xs H' n' => ∃ i a3, m = F.length - i ∧ i ≤ F.length ∧ n1 ≤ n' ∧ Keep n1 H' H1 ∧ Grow H' n1 n' 6 i (rowC ((F.take i).map (zbm F h))) a3 ∧ xs = [.ro (h.map Cl.avs), .clo 59 [.ptr (nx + 1) 0], a2, a3, a4, .int .i64 F.length, .int .i64 i]) F.length
    ⟨0, .nils, by omega, by omega, Nat.le_refl _, by simp, .inl ⟨rfl, rfl⟩, rfl⟩ ?_
  rintro m xs H n ⟨i, a3, rfl, hi, hn, hk, hg, rfl⟩
  by_cases hil : i < F.length
  case neg =>
    obtain rfl : i = F.length := by omega
    simp [zdi]
    rw [List.take_length] at hg
    exact hQ a3 H n hn hk hg
  suffices key : ∀ K75 : J3, (∀ a3 H n, n1 ≤ n → Keep n1 H H1 → Grow H n1 n 6 (i + 1) (rowC ((F.take (i + 1)).map (zbm F h))) a3 → K75 [.ro (h.map Cl.avs), .clo 59 [.ptr (nx + 1) 0], a2, a3, a4, .int .i64 F.length, .int .i64 (i + 1 : Nat)] H n) →
      zdi Q K75 [.ro (h.map Cl.avs), .clo 59 [.ptr (nx + 1) 0], a2, a3, a4, .int .i64 F.length, .int .i64 i] H n from
    key _ fun a3 H n h1 h2 h3 => ⟨_, by omega, i + 1, a3, rfl, by omega, h1, h2, h3, rfl⟩
  intro K75 hK75
  have hc0 : F[i]? = some F[i] := List.getElem?_eq_getElem hil
  have hc0l := hF.lt F[i] (List.mem_of_getElem? hc0)
  have hc : h[F[i]]? = some h[F[i]] := List.getElem?_eq_getElem hc0l
  obtain ⟨i1, i2⟩ := hsh i F[i] _ hil hc0 hc
  obtain ⟨w1, w2⟩ := hok _ (List.mem_of_getElem? hc)
  have hne : F ≠ [] := by intro e; subst e; simp at hil
  rw [if_neg hne] at h4
  subst h4
  have l := st.le
  obtain ⟨r1, r2⟩ := st.lr hne
  have kk : ∀ g, g < n1 → H g = H1 g := hk
  have hr : H gr = some (.row 1 (zam F)) := by rw [kk _ r2]; exact st.st.rr hne
  have hp : H (nx + 1) = some (.row 1 [.slc nx 0 h.length]) := by rw [kk _ (by omega)]; exact st.st.p
  have hpl : H nx = some (.row 1 (zaq F h.length)) := by rw [kk _ (by omega)]; exact st.st.pl
  obtain ⟨hdr, hrow'⟩ := List.getElem?_eq_some_iff.1 (zps hc0)
  have t1 : h[F[i]].avs.take 3 = h[F[i]].left.avs := rfl
  have t2 : (h[F[i]].avs.drop 3).take 3 = h[F[i]].right.avs := rfl
  have hcell : zbm F h F[i] = ⟨VM.put F h[F[i]].left, VM.put F h[F[i]].right⟩ := by unfold zbm VM.putC; rw [hc]; rfl
  simp [zdi, hil, hr, hrow', hc0l, t1]
  refine zo.put w1 i1 hp hpl ?_
  simp [zoy, hc0l, t2]
  refine zo.put w2 i2 hp hpl ?_
  have hsn : rowC ((F.take (i + 1)).map (zbm F h)) = rowC ((F.take i).map (zbm F h)) ++ ((VM.put F h[F[i]].left).avs ++ (VM.put F h[F[i]].right).avs) := by
    rw [ztu _ hc0, zakv, hcell]; rfl
  generalize VM.put F h[F[i]].left = pl at *
  generalize VM.put F h[F[i]].right = pr at *
  simp [zoz, Val.avs]
  refine Grow.append (new := pl.avs ++ pr.avs) (hg.more (n' := n) (Nat.le_refl _) fun g _ h2 => Heap.put_ne _ _ (by omega)) (by simp; omega) (by rw [Heap.put_at]; rfl) rfl (by simp [Val.avs]) (by omega) (by omega) (by omega) fun rd D hD hk2 hg2 => ?_
  rw [← hsn] at hg2
  rw [i64w (by omega)]
  have := hK75 _ _ _ (by omega) (fun g hg => (hk2 g hg).trans ((Heap.put_ne _ _ (by omega)).trans (hk g hg))) hg2
  simpa [Val.avs] using this
end Go.Proofs.YtpbnaaoilgohkaaGreatDoor
set_option maxRecDepth 8000
namespace Go.Proofs.YtpbnaaoilgohkaaGreatDoor
open Go Go.RowKit
set_option maxHeartbeats 2000000 in
set_option maxRecDepth 20000 in
theorem zafp (h : List Cl) (l : List Val) (F : List Nat) (hl : l.length * 32 ≤ 140737488355328) (hs : h.length * 64 ≤ 140737488355328) (hF : VM.Good h.length F) (hok : zaam h) (hsh : VM.Shut h F F.length) (hv : ∀ v ∈ l, VM.WrongOk v h.length) (hin : ∀ v ∈ l, VM.In F v) {H0 : Heap} {nx : Nat} (Q : AV → Heap → Nat → Prop) {H1 : Heap} {n1 gr : Nat} (st : RCan h H0 nx F H1 n1 gr)
    (hQ : ∀ a2 a3 H' n' n2, Keep n1 H' H1 → n1 ≤ n2 → n2 ≤ n' → Grow H' n1 n2 3 l.length (rowV (l.map (VM.put F))) a2 → Grow H' n2 n' 6 F.length (rowC (F.map (zbm F h))) a3 → Q (.tup [a2, a3]) H' n') :
    LP (zdh Q) [.ro (h.map Cl.avs), .ptr (nx + 2) 0, .clo 59 [.ptr (nx + 1) 0], .nils, .ro (l.map Val.avs), .int .i64 l.length, .int .i64 0] H1 n1 := by
  have hFl := hF.len
  refine LP.mk (fun m xs H' n' => ∃ i a3, m = l.length - i ∧ i ≤ l.length ∧ n1 ≤ n' ∧ Keep n1 H' H1 ∧ Grow H' n1 n' 3 i (rowV ((l.take i).map (VM.put F))) a3 ∧ xs = [.ro (h.map Cl.avs), .ptr (nx + 2) 0, .clo 59 [.ptr (nx + 1) 0], a3, .ro (l.map Val.avs), .int .i64 l.length, .int .i64 i]) l.length
    ⟨0, .nils, by omega, by omega, Nat.le_refl _, by simp, .zero, rfl⟩ ?_
  rintro m xs H n ⟨i, a3, rfl, hi, hn, hk, hg, rfl⟩
  have hk' : ∀ g, g < n1 → H g = H1 g := hk
  have stn : RCan h H0 nx F H n gr := by
    have l0 := st.le
    exact ⟨⟨by rw [hk' _ (by omega)]; exact st.st.p, by rw [hk' _ (by omega)]; exact st.st.pl, by rw [hk' _ (by omega)]; exact st.st.oo, fun ho => by rw [hk' _ (st.lr ho).2]; exact st.st.rr ho, st.st.d1, st.st.d2, st.st.d3, st.st.d4⟩, fun ho => by have := st.lr ho; omega, fun g hg => by rw [hk' _ (by omega)]; exact st.keep g hg, st.good, by omega⟩
  by_cases hil : i < l.length
  case neg =>
    obtain rfl : i = l.length := by omega
    rw [List.take_length] at hg
    simp [zdh, stn.st.oo, zwk]
    refine zadr h F hF hok hsh hs a3 _ Q stn rfl fun a4 H' n' hn2 hk2 hg2 => ?_
    refine hQ a3 a4 H' n' n (fun g hg => (hk2 g (by omega)).trans (hk g hg)) hn hn2 (hg.more (Nat.le_refl _) fun g _ h2 => hk2 g h2) hg2
  suffices key : ∀ K56 : J3, (∀ a3 H n, n1 ≤ n → Keep n1 H H1 → Grow H n1 n 3 (i + 1) (rowV ((l.take (i + 1)).map (VM.put F))) a3 → K56 [.ro (h.map Cl.avs), .ptr (nx + 2) 0, .clo 59 [.ptr (nx + 1) 0], a3, .ro (l.map Val.avs), .int .i64 l.length, .int .i64 (i + 1 : Nat)] H n) →
      zdh Q K56 [.ro (h.map Cl.avs), .ptr (nx + 2) 0, .clo 59 [.ptr (nx + 1) 0], a3, .ro (l.map Val.avs), .int .i64 l.length, .int .i64 i] H n from
    key _ fun a3 H n h1 h2 h3 => ⟨_, by omega, i + 1, a3, rfl, by omega, h1, h2, h3, rfl⟩
  intro K56 hK56
  have hvl : l[i]? = some l[i] := List.getElem?_eq_getElem hil
  have w := hv _ (List.mem_of_getElem? hvl)
  have hi1 := hin _ (List.mem_of_getElem? hvl)
  have tv : l[i].avs.take 3 = l[i].avs := rfl
  have l0 := stn.le
  simp [zdh, hil, tv, CALL]
  refine ⟨fun x hx => zcc (zbk _ x hx), ?_⟩
  refine za.pure_call (zxb l[i] F h.length w hi1 (gp := nx + 1) (gpl := nx) (by rw [Heap.put_ne _ _ (by omega)]; exact stn.st.p) (by rw [Heap.put_ne _ _ (by omega)]; exact stn.st.pl) (by omega) (by omega)) ?_
  have hsn : rowV ((l.take (i + 1)).map (VM.put F)) = rowV ((l.take i).map (VM.put F)) ++ (VM.put F l[i]).avs := by rw [zfo hvl, List.map_append, List.map_singleton, zaku]
  generalize VM.put F l[i] = rv at *
  have tr : rv.avs.take 3 = rv.avs := rfl
  simp [zpa, tr]
  refine Grow.app (new := rv.avs) (hg.more (n' := n) (Nat.le_refl _) fun g _ h2 => ?_) (by simp; omega) (Heap.put_at _ _ _) rfl (List.all_eq_true.2 fun x hx => zcc (zbk _ x hx)) (by omega) (by omega) (by omega) fun H' hk2 hg2 => ?_
  · rw [Heap.put_ne _ _ (by omega), Heap.put_ne _ _ (by omega)]
  rw [← hsn] at hg2
  rw [i64w (by omega)]
  exact hK56 _ _ _ (by omega) (fun g hg => (hk2 g hg).trans (by rw [Heap.put_ne _ _ (by omega), Heap.put_ne _ _ (by omega)]; exact hk g hg)) hg2
set_option maxHeartbeats 2000000 in
set_option maxRecDepth 20000 in
theorem zafq (h : List Cl) (l : List Val) (hr : VM.right h l = true) (hs : h.length * 64 ≤ 140737488355328) (hl : l.length * 32 ≤ 140737488355328) : QC Tryz.prog 36 [.ro (h.map Cl.avs), .ro (l.map Val.avs)] (.tup [.ro ((VM.canonV h l).map Val.avs), .ro ((VM.canonC h l).map Cl.avs)]) := by
  refine QC.of' fun H nx => zui _ _ H nx _ ?_
  refine zaad hr hs hl fun H1 st0 => ?_
  have hok : zaam h := VM.right_okC hr
  have hv := VM.right_okV hr
  refine LP.mk (fun m xs H' n' => ∃ i gr o, m = l.length - i ∧ i ≤ l.length ∧ xs = [.ro (h.map Cl.avs), .ro (l.map Val.avs), .ptr (nx + 1) 0, .ptr (nx + 2) 0, .clo 58 [.ptr (nx + 1) 0, .ptr (nx + 2) 0], .int .i64 o.length, .ro (l.map Val.avs), .int .i64 l.length, .int .i64 i] ∧
    RCan h H nx o H' n' gr ∧ VM.orderGo h (l.drop i) o = VM.order h l) l.length ⟨0, 0, [], by omega, by omega, rfl, st0, rfl⟩ ?_
  rintro m xs H2 n2 ⟨i, gr, o, rfl, hi, rfl, st, hF⟩
  by_cases hil : i < l.length
  case neg =>
    obtain rfl : i = l.length := by omega
    have hFo : o = VM.order h l := by rw [← hF, List.drop_length]; rfl
    obtain ⟨hsh, hin⟩ := VM.orderGo_shut (VM.okH hok) l [] (fun v hx => (hv v hx).okV) VM.Good.nil (fun j n c hj => by simp at hj)
    have hsh' : VM.Shut h (VM.order h l) (VM.order h l).length := hsh
    have hin' : ∀ v ∈ l, VM.In (VM.order h l) v := hin
    have hg := st.good
    subst hFo
    simp [zdg]
    refine zafp h l _ hl hs hg hok hsh' hv hin' _ st fun a2 a3 H' n' n3 hk hn3 hn' hg1 hg2 => ?_
    have l0 := st.le
    refine ⟨?_, fun g hg => (hk g (by omega)).trans (st.keep g hg)⟩
    rw [zabu hg.lt]
    refine Frz.tup2 (hg1.frz (by omega) (by simp [VM.canonV]) (zdu _) rfl fun c hc => zcd (zfp _ c hc)) (hg2.frz (by omega) (by simp) (zfy _) rfl fun c hc => zcd (zvd _ c hc))
  have hvl : l[i]? = some l[i] := List.getElem?_eq_getElem hil
  have w := hv _ (List.mem_of_getElem? hvl)
  have tv : l[i].avs.take 3 = l[i].avs := rfl
  have hdrop : l.drop i = l[i] :: l.drop (i + 1) := List.drop_eq_getElem_cons hil
  rw [hdrop] at hF
  have hF' : VM.orderGo h (l.drop (i + 1)) (VM.drain h (h.length - o.length) (VM.meet o l[i]) o.length) = VM.order h l := hF
  have l0 := st.le
  suffices key : ∀ K16 : J3, (∀ H' n' gr o, RCan h H nx o H' n' gr → VM.orderGo h (l.drop (i + 1)) o = VM.order h l →
      K16 [.ro (h.map Cl.avs), .ro (l.map Val.avs), .ptr (nx + 1) 0, .ptr (nx + 2) 0, .clo 58 [.ptr (nx + 1) 0, .ptr (nx + 2) 0], .int .i64 o.length, .ro (l.map Val.avs), .int .i64 l.length, .int .i64 (i + 1 : Nat)] H' n') →
      zdg (fun v H' _ => Frz H' nx v (.tup [.ro ((VM.canonV h l).map Val.avs), .ro ((VM.canonC h l).map Cl.avs)]) ∧ Keep nx H' H) K16 [.ro (h.map Cl.avs), .ro (l.map Val.avs), .ptr (nx + 1) 0, .ptr (nx + 2) 0, .clo 58 [.ptr (nx + 1) 0, .ptr (nx + 2) 0], .int .i64 o.length, .ro (l.map Val.avs), .int .i64 l.length, .int .i64 i] H2 n2 from
    key _ fun H' n' gr o h1 h2 => ⟨_, by omega, i + 1, gr, o, rfl, by omega, rfl, h1, h2⟩
  intro K16 hK16
  simp [zdg, hil, tv, CALL]
  refine ⟨fun x hx => zcc (zbk _ x hx), ?_⟩
  refine (st.more (H' := H2.put n2 (some (AObj.row 3 l[i].avs))) (n' := n2 + 1) (by omega) (fun g hg => Heap.put_ne _ _ (by omega))).meet hs w fun H3 n3 gr3 hn3 st3 => ?_
  simp [zpb]
  exact zaae h l hr hs hl hil K16 (fun H' n' gr o h1 h2 => hK16 H' n' gr o h1 h2) H3 n3 gr3 _ o.length (VM.meet_pre o l[i]).length_le st3 hF'
end Go.Proofs.YtpbnaaoilgohkaaGreatDoor
set_option maxRecDepth 8000
namespace Go.Proofs.YtpbnaaoilgohkaaGreatDoor
open Go Go.RowKit
section
variable {ki kj : IntKind}
theorem zafj {s : Nat} {xs : List (List AV)} {b : Int} {H : Heap} {kt : Kt} : zap s (.ro xs) none (some (.int ki b)) H kt = (0 ≤ b ∧ b ≤ xs.length ∧ (∀ x ∈ xs, x.length = s) ∧ kt (.ro (xs.take b.toNat)) [] [] []) := by
  simp [zap, lohi, PURE]
theorem zacf {s : Nat} {xs : List (List AV)} {a b : Int} {H : Heap} {kt : Kt} : zap s (.ro xs) (some (.int ki a)) (some (.int kj b)) H kt = (0 ≤ a ∧ a ≤ b ∧ b ≤ xs.length ∧ (∀ x ∈ xs, x.length = s) ∧ kt (.ro ((xs.take b.toNat).drop a.toNat)) [] [] []) := by
  simp [zap, lohi, PURE]
theorem zann {s : Nat} {xs : List (List AV)} {a : Int} {H : Heap} {k : AV → Prop} : SL s (.ro xs) (some (.int ki a)) none H k = (0 ≤ a ∧ a ≤ xs.length ∧ (∀ x ∈ xs, x.length = s) ∧ k (.ro (xs.drop a.toNat))) := by
  simp [SL, zap, lohi, PURE, qk]
end
set_option maxRecDepth 20000 in
set_option maxHeartbeats 1000000 in
theorem zaac {fs : List Frm} {H5 : Heap} {n : Nat} {Q : AV → Heap → Nat → Prop} (hb : (zd fs).length ≤ 4096) (hfl : fs.length ≤ 4096)
    (hend : ∀ H' n' l, n + 2 ≤ n' → (∀ g, g < n + 2 → H' g = H5 g) → Slot H' 3 (zd fs).length (rowV (zd fs)) l → (∀ g ∈ own l, n + 2 ≤ g ∧ g < n') →
      FA 5 (.ptr n 0) fun v29 => LD false 1 v29 H' fun v30 => za Tryz.prog 36 [v30, l] H' n' (zku [.ptr n 0, .ptr (n + 1) 0, l, .ro (fs.map Frm.avs), .int .i64 fs.length, .int .i64 fs.length] Q)) :
    LP (zdv Q) [.ptr n 0, .ptr (n + 1) 0, .nils, .ro (fs.map Frm.avs), .int .i64 fs.length, .int .i64 0] H5 (n + 2) := by
  refine LP.mk (fun k xs H' n' => ∃ (i : Nat) (l : AV), k = fs.length - i ∧ i ≤ fs.length ∧ xs = [.ptr n 0, .ptr (n + 1) 0, l, .ro (fs.map Frm.avs), .int .i64 fs.length, .int .i64 i] ∧ n + 2 ≤ n' ∧ (∀ g, g < n + 2 → H' g = H5 g) ∧
    Slot H' 3 (zd (fs.take i)).length (rowV (zd (fs.take i))) l ∧ ∀ g ∈ own l, n + 2 ≤ g ∧ g < n') fs.length ⟨0, .nils, rfl, by omega, rfl, Nat.le_refl _, fun _ _ => rfl, .inl ⟨rfl, .inl rfl⟩, by simp [own]⟩ ?_
  rintro k xs H' n' ⟨i, l, rfl, hi, rfl, hn, keep, sl, bl⟩
  suffices key : ∀ K : J3, (∀ (i' : Nat) (l : AV) H' n', fs.length - i' < fs.length - i → i' ≤ fs.length → n + 2 ≤ n' → (∀ g, g < n + 2 → H' g = H5 g) → Slot H' 3 (zd (fs.take i')).length (rowV (zd (fs.take i'))) l → (∀ g ∈ own l, n + 2 ≤ g ∧ g < n') → K [.ptr n 0, .ptr (n + 1) 0, l, .ro (fs.map Frm.avs), .int .i64 fs.length, .int .i64 i'] H' n') →
      zdv Q K [.ptr n 0, .ptr (n + 1) 0, l, .ro (fs.map Frm.avs), .int .i64 fs.length, .int .i64 i] H' n' from
    key _ fun i' l H' n' h1 h2 h3 h4 h5 h6 => ⟨_, h1, i', l, rfl, h2, rfl, h3, h4, h5, h6⟩
  intro K hK
  by_cases hil : i < fs.length
  · have hf : fs[i]? = some fs[i] := List.getElem?_eq_getElem hil
    have hadd : IntKind.i64.wrap ((i : Int) + 1) = ((i + 1 : Nat) : Int) := by rw [i64w (by omega)]; rfl
    have htk : fs.take (i + 1) = fs.take i ++ [fs[i]] := zfo hf
    have hle := zxa (fs := fs) (i + 1)
    have hr1 : zd (fs.take (i + 1)) = zd (fs.take i) ++ fs[i].vars ++ fs[i].stack := by rw [htk, zvl]
    rw [hr1] at hle
    simp only [List.length_append] at hle
    have b0 : ∀ l : List Val, (rowV l).all AV.one = true := fun l => List.all_eq_true.2 fun c hc => zcc (zfp _ c hc)
    have hsrc : ∀ (H : Heap) (l : List Val), zg 3 H (.ro (l.map Val.avs)) = some (l.length, rowV l, []) := fun H l => by rw [znu (zdu l)]; simp [rowV]
    simp [zdv, hil]
    simp [Frm.avs]
    generalize hX : Heap.put H' n' _ = HX
    have x1 : HX n' = some (.row 4 [.int .i64 fs[i].fn, .int .i64 fs[i].at_, .ro (fs[i].vars.map Val.avs), .ro (fs[i].stack.map Val.avs)]) := by rw [← hX, Heap.put_at]
    have xk : ∀ g, g ≠ n' → HX g = H' g := fun g hg => by rw [← hX, Heap.put_ne _ _ hg]
    refine Slot.gather (sl.keep fun g hg => xk g (by have := bl g hg; omega)) (by simp) (hsrc _ _) (by simp) (b0 _) (by omega) fun v1 rd1 fr1 D1 l1 d1 s1 o1 k1 => ?_
    have y1 : (HX.apply D1) n' = some (.row 4 [.int .i64 fs[i].fn, .int .i64 fs[i].at_, .ro (fs[i].vars.map Val.avs), .ro (fs[i].stack.map Val.avs)]) := by rw [k1 n' (fun h => by have := bl _ h; omega) (by omega)]; exact x1
    have yk : ∀ g, g < n + 2 → (HX.apply D1) g = H5 g := fun g hg => by rw [k1 g (fun h => by have := bl _ h; omega) (by omega), xk g (by omega), keep g hg]
    have dd : n' ∉ domD D1 := fun h => by
      rcases d1 n' h with h | h
      · have := bl _ h; omega
      · omega
    generalize HX.apply D1 = HY at *
    simp only [y1, rowk]
    simp
    refine Slot.gather s1 (by simp; omega) (hsrc _ _) (by simp) (b0 _) (by omega) fun v2 rd3 fr2 D2 l2 d2 s2 o2 k2 => ?_
    have zk : ∀ g, g < n + 2 → (HY.apply D2) g = H5 g := fun g hg => by rw [k2 g (fun h => by have := o1 _ h; omega) (by omega), yk g hg]
    generalize HY.apply D2 = HZ at *
    refine zbl (fun g _ => by simp) (zbl (fun g _ => by simp) (zbl (fun g hg => by simp; rintro rfl; exact dd hg) (zbl (fun g _ => by simp) ?_)))
    rw [hadd]
    refine hK (i + 1) v2 HZ _ (by omega) (by omega) (by omega) zk ?_ fun g hg => ?_
    · rw [hr1, zny, zny]
      simpa [Nat.add_assoc] using s2
    · have := o2 g hg; omega
  · obtain rfl : i = fs.length := by omega
    rw [List.take_length] at sl
    have := hend H' n' l hn keep sl bl
    simpa [zdv] using this
set_option maxRecDepth 20000 in
set_option maxHeartbeats 1000000 in
theorem zadq {fs : List Frm} {id trip : Int} {pr : Prg} {m : Pmt} {p : Val → Val} {hp h : List Cl} {H1 : Heap} {n mid : Nat} {Q : AV → Heap → Nat → Prop} (hfl : fs.length ≤ 4096) (hb : ∀ f ∈ fs, f.vars.length ≤ 4096 ∧ f.stack.length ≤ 4096) (hmid : n + 2 ≤ mid)
    (r1 : H1 n = some (.row 9 (zae id trip pr (.ro (fs.map Frm.avs)) (.ro (h.map Cl.avs)) m))) (r2 : ∃ z, H1 (n + 1) = some (.row 9 z) ∧ z.length = 9)
    (hend : ∀ H' n' ss fa, zia H' mid n' (fs.map (pkF p)) ss fa → (∀ g, g < n → H' g = H1 g) → Q (.agg (zae id trip pr fa (.ro (hp.map Cl.avs)) m)) H' n') :
    LP (zdw Q) [.ptr n 0, .ptr (n + 1) 0, .ro ((zd fs).map fun v => (p v).avs), .ro (hp.map Cl.avs), .nils, .ro (fs.map Frm.avs), .int .i64 fs.length, .int .i64 0] H1 mid := by
  refine LP.mk (fun k xs H' n' => ∃ (i : Nat) (ss : List (AV × AV)) (fa : AV), k = fs.length - i ∧ i ≤ fs.length ∧ mid ≤ n' ∧ xs = [.ptr n 0, .ptr (n + 1) 0, .ro ((zd (fs.drop i)).map fun v => (p v).avs), .ro (hp.map Cl.avs), fa, .ro (fs.map Frm.avs), .int .i64 fs.length, .int .i64 i] ∧
    zia H' mid n' ((fs.take i).map (pkF p)) ss fa ∧ ∀ g, g < mid → H' g = H1 g) fs.length ⟨0, [], .nils, rfl, by omega, Nat.le_refl _, rfl, ⟨⟨rfl, fun k f s hf => by simp at hf⟩, .inl ⟨by simp, .inl rfl⟩, by simp [own, owns], by simp [own, owns]⟩, fun _ _ => rfl⟩ ?_
  rintro k xs H' n' ⟨i, ss, fa, rfl, hi, hn', rfl, st, keep⟩
  suffices key : ∀ K : J3, (∀ (i' : Nat) ss fa H' n', fs.length - i' < fs.length - i → i' ≤ fs.length → mid ≤ n' → zia H' mid n' ((fs.take i').map (pkF p)) ss fa → (∀ g, g < mid → H' g = H1 g) → K [.ptr n 0, .ptr (n + 1) 0, .ro ((zd (fs.drop i')).map fun v => (p v).avs), .ro (hp.map Cl.avs), fa, .ro (fs.map Frm.avs), .int .i64 fs.length, .int .i64 i'] H' n') →
      zdw Q K [.ptr n 0, .ptr (n + 1) 0, .ro ((zd (fs.drop i)).map fun v => (p v).avs), .ro (hp.map Cl.avs), fa, .ro (fs.map Frm.avs), .int .i64 fs.length, .int .i64 i] H' n' from
    key _ fun i' ss fa H' n' h1 h2 h3 h4 h5 => ⟨_, h1, i', ss, fa, rfl, h2, h3, rfl, h4, h5⟩
  intro K hK
  have e1 := (keep n (by omega)).trans r1
  obtain ⟨z, z1, z2⟩ := r2
  have e2 := (keep (n + 1) (by omega)).trans z1
  by_cases hil : i < fs.length
  · have hf : fs[i]? = some fs[i] := List.getElem?_eq_getElem hil
    have hdrop : fs.drop i = fs[i] :: fs.drop (i + 1) := List.drop_eq_getElem_cons hil
    have htk : fs.take (i + 1) = fs.take i ++ [fs[i]] := zfo hf
    have hadd : IntKind.i64.wrap ((i : Int) + 1) = ((i + 1 : Nat) : Int) := by rw [i64w (by omega)]; rfl
    have hroots : zd (fs.drop i) = fs[i].vars ++ (fs[i].stack ++ zd (fs.drop (i + 1))) := by unfold zd; rw [hdrop, List.flatMap_cons, List.append_assoc]
    have len3 : ∀ l : List Val, ∀ x ∈ l.map (fun v => (p v).avs), x.length = 3 := fun l x hx => by obtain ⟨v, _, rfl⟩ := List.mem_map.1 hx; rfl
    have one3 : ∀ l : List Val, ∀ x ∈ l.map (fun v => (p v).avs), ∀ c ∈ x, c.one = true := fun l x hx c hc => by obtain ⟨v, _, rfl⟩ := List.mem_map.1 hx; exact zcc (zbk _ c hc)
    have fl : ∀ l : List Val, (l.map fun v => (p v).avs).flatten = rowV (l.map p) := fun l => by simp [rowV, List.map_map, Function.comp_def]
    obtain ⟨b1, b2⟩ := hb _ (List.getElem_mem hil)
    have hw : IntKind.i64.wrap ((fs[i].vars.length : Int) + fs[i].stack.length) = ((fs[i].vars.length + fs[i].stack.length : Nat) : Int) := by rw [i64w (by omega)]; rfl
    have hsrc : ∀ (H : Heap) (l : List Val), zg 3 H (.ro (l.map fun v => (p v).avs)) = some (l.length, rowV (l.map p), []) := fun H l => by rw [znu (len3 l), fl]; simp
    have hones : ∀ l : List Val, ∀ x ∈ rowV l, x.one = true := fun l c hc => zcc (zfp l c hc)
    obtain ⟨X, hX⟩ : ∃ X, X = (zd (fs.drop i)).map fun v => (p v).avs := ⟨_, rfl⟩
    have x3 : ∀ x ∈ X, x.length = 3 := by rw [hX]; exact len3 _
    have lX : fs[i].vars.length + fs[i].stack.length ≤ X.length := by rw [hX, hroots]; simp
    have t1 : X.take fs[i].vars.length = fs[i].vars.map fun v => (p v).avs := by rw [hX, hroots, List.map_append, List.take_append_of_le_length (by simp), List.take_of_length_le (by simp)]
    have t2 : (X.take (fs[i].vars.length + fs[i].stack.length)).drop fs[i].vars.length = fs[i].stack.map fun v => (p v).avs := by
      rw [hX, hroots, List.map_append, List.map_append, ← List.append_assoc, List.take_append_of_le_length (by simp), List.take_of_length_le (by simp), List.drop_append_of_le_length (by simp), List.drop_of_length_le (by simp), List.nil_append]
    have t3 : X.drop (fs[i].vars.length + fs[i].stack.length) = (zd (fs.drop (i + 1))).map fun v => (p v).avs := by
      rw [hX, hroots, List.map_append, List.map_append, ← List.append_assoc, List.drop_append_of_le_length (by simp), List.drop_of_length_le (by simp), List.nil_append]
    have q1 : ((fs[i].vars.length : Int)) ≤ X.length := by omega
    have q2 : ((fs[i].vars.length : Int) + fs[i].stack.length) ≤ X.length := by omega
    have q3 : ((fs[i].vars.length : Int) + fs[i].stack.length).toNat = fs[i].vars.length + fs[i].stack.length := by omega
    rw [← hX]
    simp [zdw, hil]
    have m1 : n' ≠ n' + 2 := by omega
    have m2 : n' ≠ n' + 2 + 1 := by omega
    have m3 : n' ≠ n' + 4 := by omega
    have m4 : n' ≠ n' + 1 := by omega
    have m5 : n' ≠ n' + 4 + 1 := by omega
    simp [Frm.avs, zafj, zacf, zann, hw, t1, t2, t3, hsrc, x3, q1, q2, q3, m1, m2, m3, m4, m5]
    refine ⟨x3, hones _, by omega, by omega, x3, hones _, by omega, by omega, x3, ?_⟩
    generalize hY : Heap.put _ (n' + 4 + 1) _ = HY
    have y1 : HY (n' + 4 + 1) = some (.row 4 [.int .i64 fs[i].fn, .int .i64 fs[i].at_, .slc (n' + 2) 0 fs[i].vars.length, .slc (n' + 4) 0 fs[i].stack.length]) := by rw [← hY, Heap.put_at]
    have y2 : HY (n' + 4) = some (.row 3 (rowV (fs[i].stack.map p))) := by rw [← hY, Heap.put_ne _ _ (by omega), Heap.put_ne _ _ (by omega), Heap.put_at]
    have y3 : HY (n' + 2) = some (.row 3 (rowV (fs[i].vars.map p))) := by rw [← hY, Heap.put_ne _ _ (by omega), Heap.put_ne _ _ (by omega), Heap.put_ne _ _ (by omega), Heap.put_ne _ _ (by omega), Heap.put_at]
    have yk : ∀ g, g < n' → HY g = H' g := fun g hg => by rw [← hY, Heap.put_ne _ _ (by omega), Heap.put_ne _ _ (by omega), Heap.put_ne _ _ (by omega), Heap.put_ne _ _ (by omega), Heap.put_ne _ _ (by omega), Heap.put_ne _ _ (by omega), Heap.put_ne _ _ (by omega)]
    have tl : ((fs.take i).map (pkF p)).length = i := by simp; omega
    refine st.snoc (f := pkF p fs[i]) (va := .slc (n' + 2) 0 fs[i].vars.length) (sa := .slc (n' + 4) 0 fs[i].stack.length) (N := n' + 2) (by omega) (by omega) (by omega) (by rw [tl]; omega) yk (.inr ⟨n' + 2, _, by simp [pkF], y3, List.take_of_length_le (by simp [pkF]), by simp [pkF]⟩) (.inr ⟨n' + 4, _, by simp [pkF], y2, List.take_of_length_le (by simp [pkF]), by simp [pkF]⟩) (by simp [own]) (fun g hg => by simp [own] at hg; omega) y1 fun H3 a' h1 h2 => ?_
    rw [hadd]
    refine hK (i + 1) (ss ++ [(.slc (n' + 2) 0 fs[i].vars.length, .slc (n' + 4) 0 fs[i].stack.length)]) a' H3 _ (by omega) (by omega) (by omega) ?_ fun g hg => ?_
    · rw [htk, List.map_append]; exact h2
    · rw [h1 g hg, yk g (by omega)]; exact keep g hg
  · obtain rfl : i = fs.length := by omega
    rw [List.take_length] at st
    simp [zdw, e1, e2, zae, z2, st.row.one.1, st.row.one.2.1, st.row.one.2.2]
    have bd := st.bd
    refine hend _ n' ss fa ⟨st.frs.keep fun g hg => ?_, st.row.keep fun g hg => ?_, st.nd, st.bd⟩ fun g hg => ?_
    · have := bd g (List.mem_append_right _ hg)
      rw [Heap.put_ne _ _ (by omega), Heap.put_ne _ _ (by omega)]
    · have := bd g (List.mem_append_left _ hg)
      rw [Heap.put_ne _ _ (by omega), Heap.put_ne _ _ (by omega)]
    · rw [Heap.put_ne _ _ (by omega), Heap.put_ne _ _ (by omega)]; exact keep g (by omega)
set_option maxRecDepth 20000 in
set_option maxHeartbeats 1000000 in
theorem zaiq {a : Agt} (hfl : a.frames.length ≤ 4096) (hb : (zd a.frames).length ≤ 4096) (hh : a.heap.length ≤ 4096) (hr : VM.right a.heap (zd a.frames) = true) :
    QC Tryz.prog 11 [.agg a.avs] (.agg (VM.pack a).avs) := by
  refine QC.of' fun H n => ?_
  refine zwo _ H n _ ?_
  have av : (AV.agg a.avs).cells = a.avs := by simp
  have hsu : (AV.agg a.avs).sure = true := by simp [Agt.avs]
  have e9 : a.avs.length = 9 := rfl
  have e4 : a.avs[4]? = some (.ro (a.frames.map Frm.avs)) := rfl
  have e5 : a.avs[5]? = some (.ro (a.heap.map Cl.avs)) := rfl
  unfold zra
  rw [av, e9]
  refine ⟨hsu, ?_⟩
  simp [e4]
  generalize hX : Heap.put _ (n + 1) _ = HX
  have x0 : HX n = some (.row 9 a.avs) := by rw [← hX, Heap.put_ne _ _ (by omega), Heap.put_at]
  have x1 : ∃ z, HX (n + 1) = some (.row 9 z) ∧ z.length = 9 := ⟨_, by rw [← hX, Heap.put_at], rfl⟩
  have xk : ∀ g, g < n → HX g = H g := fun g hg => by rw [← hX, Heap.put_ne _ _ (by omega), Heap.put_ne _ _ (by omega)]
  have each : ∀ f ∈ a.frames, f.vars.length ≤ 4096 ∧ f.stack.length ≤ 4096 := fun f hf => by
    obtain ⟨s, t, e⟩ := List.append_of_mem hf
    have : zd a.frames = zd s ++ (f.vars ++ f.stack ++ zd t) := by rw [e]; simp [zd]
    rw [this] at hb
    simp only [List.length_append] at hb
    omega
  refine zaac hb hfl fun H' n' l hn keep sl bl => ?_
  have y0 := (keep n (by omega)).trans x0
  simp [y0, e5]
  let G : Nat → Prop := fun g => g ∈ own l
  let H0 : Heap := fun g => if g ∈ own l then none else H' g
  have h0 : ∀ g o, H0 g = some o → ¬ G g ∧ H' g = some o := fun g o hg => by
    by_cases h : g ∈ own l
    · simp only [H0, if_pos h] at hg; cases hg
    · simp only [H0, if_neg h] at hg; exact ⟨h, hg⟩
  have up : ∀ g, g < n + 2 → H0 g = HX g := fun g h2 => by
    simp only [H0]
    rw [if_neg (fun h => by have := bl g h; omega)]
    exact keep g h2
  refine QC.thaw (zafq a.heap (zd a.frames) hr (by omega) (by omega)) (G := G) (H0 := H0) (zep.cons (.same _) (zep.cons (Slot.frzP (sz := 3) (by simpa [rowV] using sl) (fun g hg => hg) (zdu _)) .nil)) h0 ?_
  have z0 := (up n (by omega)).trans x0
  obtain ⟨z, z1, z2⟩ := x1
  simp [zku, z0, e4]
  have hcv : (VM.canonV a.heap (zd a.frames)).map Val.avs = (zd a.frames).map fun v => (VM.put (VM.order a.heap (zd a.frames)) v).avs := by
    unfold VM.canonV; rw [List.map_map]; rfl
  rw [hcv]
  refine zadq (id := a.id) (trip := a.trip) (pr := a.prog) (m := a.permit) (p := VM.put (VM.order a.heap (zd a.frames))) (hp := VM.canonC a.heap (zd a.frames)) (h := a.heap) hfl each hn z0 ⟨z, (up (n + 1) (by omega)).trans z1, z2⟩ fun H3 n3 ss fa fc k3 => ⟨?_, fun g hg => ?_⟩
  · have hp : VM.pack a = ⟨a.id, a.trip, a.prog, a.frames.map (pkF (VM.put (VM.order a.heap (zd a.frames)))), VM.canonC a.heap (zd a.frames), a.permit⟩ := rfl
    rw [hp]
    refine zabe ?_ (.same _ (zkj (zvf _)))
    rcases fc.row with ⟨q0, rfl | rfl⟩ | ⟨gf, cs, rfl, c1, c2, c3⟩
    · rw [List.eq_nil_of_length_eq_zero q0]; exact .nils
    · rw [List.eq_nil_of_length_eq_zero q0]; exact .zs
    · exact zaa.frz fc.frs c1 c2 c3 (by have := fc.bd gf (by simp [own]); omega) (fun x hx => by have := fc.bd x (List.mem_append_right _ hx); omega) rfl
  · rw [k3 g hg, up g (by omega)]; exact xk g hg
end Go.Proofs.YtpbnaaoilgohkaaGreatDoor
set_option maxRecDepth 8000
namespace Go.Proofs.YtpbnaaoilgohkaaGreatDoor
open Go Go.RowKit
theorem zarh : eqsT 74 = true := by kernel_rfl
theorem zarg : eqsT 29 = true := by kernel_rfl
set_option maxRecDepth 20000 in
set_option maxHeartbeats 1000000 in
theorem zanp (p : Prg) (h1 : p.codes.length ≤ 4611686018427387904) (h2 : p.words.length ≤ 4611686018427387904) (h3 : ∀ c ∈ p.codes, c.ins.length ≤ 4611686018427387904) : QC Tryz.prog 33 [.agg p.avs, .agg p.avs] (.bool true) := by
  refine QC.of' fun H nx => ?_
  suffices main : ∀ Q : AV → Heap → Nat → Prop, (∀ H' n', Keep nx H' H → Q (.bool true) H' n') → za Tryz.prog 33 [.agg p.avs, .agg p.avs] H nx Q from main _ fun H' n' h => ⟨zxw, h⟩
  intro Q hQ
  refine znp _ _ H nx _ ?_
  have m : nx ≠ nx + 1 := by omega
  simp [zik, Prg.avs, m]
  generalize hX : Heap.put _ (nx + 1) _ = X
  have x0 : X nx = some (.row 2 [.ro (p.codes.map Cod.avs), .ro (p.words.map fun w => [.str w])]) := by rw [← hX, Heap.put_ne _ _ m, Heap.put_at]
  have x1 : X (nx + 1) = some (.row 2 [.ro (p.codes.map Cod.avs), .ro (p.words.map fun w => [.str w])]) := by rw [← hX, Heap.put_at]
  have xk : Keep nx X H := fun g hg => by rw [← hX, Heap.put_ne _ _ (by omega), Heap.put_ne _ _ (by omega)]
  refine LP.mk (fun k xs H' n' => ∃ i : Nat, xs = [.ptr nx 0, .ptr (nx + 1) 0, .int .i64 p.words.length, .int .i64 i] ∧ i ≤ p.words.length ∧ k = p.words.length - i ∧ X = H' ∧ nx + 2 ≤ n') p.words.length ⟨0, rfl, by omega, by omega, rfl, by omega⟩ ?_
  rintro k xs H' n' ⟨i, rfl, hi, rfl, rfl, hn⟩
  by_cases hlt : i < p.words.length
  · have hadd : IntKind.i64.wrap ((i : Int) + 1) = ((i + 1 : Nat) : Int) := by rw [i64w (by omega)]; rfl
    simp [zdx, hlt, x0, x1, hadd]
    exact ⟨p.words.length - (i + 1), by omega, i + 1, rfl, by omega, rfl, hn⟩
  have hge : ¬ (i : Int) < p.words.length := by omega
  simp [zdx, hge, x0]
  clear hlt hge hi i
  refine LP.mk (fun k xs H' n' => ∃ i : Nat, xs = [.ptr (nx + 1) 0, .ro (p.codes.map Cod.avs), .int .i64 p.codes.length, .int .i64 i] ∧ i ≤ p.codes.length ∧ k = p.codes.length - i ∧ (∀ g, g < nx + 2 → H' g = X g) ∧ nx + 2 ≤ n') p.codes.length ⟨0, rfl, by omega, by omega, fun _ _ => rfl, hn⟩ ?_
  rintro k xs H' n' ⟨i, rfl, hi, rfl, hk, hn⟩
  by_cases hlt : i < p.codes.length
  · have hadd : IntKind.i64.wrap ((i : Int) + 1) = ((i + 1 : Nat) : Int) := by rw [i64w (by omega)]; rfl
    have y1 : H' (nx + 1) = some (.row 2 [.ro (p.codes.map Cod.avs), .ro (p.words.map fun w => [.str w])]) := by rw [hk _ (by omega)]; exact x1
    have ha : p.codes[i]? = some p.codes[i] := List.getElem?_eq_getElem hlt
    have hci := h3 p.codes[i] (List.getElem_mem hlt)
    obtain ⟨_, ha'⟩ := List.getElem?_eq_some_iff.1 ha
    generalize hcc : p.codes[i] = c at *
    clear ha
    have ne_0 : nx ≠ nx + 1 ∧ nx + 1 ≠ nx ∧ nx ≠ n' ∧ n' ≠ nx ∧ nx ≠ n' + 1 ∧ n' + 1 ≠ nx ∧ nx + 1 ≠ n' ∧ n' ≠ nx + 1 ∧ nx + 1 ≠ n' + 1 ∧ n' + 1 ≠ nx + 1 := ⟨by omega, by omega, by omega, by omega, by omega, by omega, by omega, by omega, by omega, by omega⟩
    simp [zdy, hlt, y1, hcc, Cod.avs, ne_0]
    generalize hY : Heap.put _ (n' + 1) _ = Y
    have z0 : Y n' = some (.row 3 [.int .i64 c.params, .int .i64 c.vars, .ro (c.ins.map Ins.avs)]) := by rw [← hY, Heap.put_ne _ _ (by omega), Heap.put_at]
    have z1 : Y (n' + 1) = some (.row 3 [.int .i64 c.params, .int .i64 c.vars, .ro (c.ins.map Ins.avs)]) := by rw [← hY, Heap.put_at]
    have zk : ∀ g, g < nx + 2 → Y g = X g := fun g hg => by rw [← hY, Heap.put_ne _ _ (by omega), Heap.put_ne _ _ (by omega)]; exact hk g hg
    suffices key : ∀ K : J3, (∀ H2 n2, (∀ g, g < nx + 2 → H2 g = X g) → nx + 2 ≤ n2 → K [.ptr (nx + 1) 0, .ro (p.codes.map Cod.avs), .int .i64 p.codes.length, .int .i64 ((i + 1 : Nat) : Int)] H2 n2) →
        LP (zcn Q K) [.ptr (nx + 1) 0, .ptr n' 0, .ptr (n' + 1) 0, .ro (p.codes.map Cod.avs), .int .i64 p.codes.length, .int .i64 i, .int .i64 c.ins.length, .int .i64 0] Y (n' + 2) by
      refine key _ fun H2 n2 h h' => ⟨p.codes.length - (i + 1), by omega, i + 1, rfl, by omega, rfl, h, h'⟩
    intro K hK
    refine LP.mk (fun k xs H' n2 => ∃ j : Nat, xs = [.ptr (nx + 1) 0, .ptr n' 0, .ptr (n' + 1) 0, .ro (p.codes.map Cod.avs), .int .i64 p.codes.length, .int .i64 i, .int .i64 c.ins.length, .int .i64 j] ∧ j ≤ c.ins.length ∧ k = c.ins.length - j ∧ Y = H' ∧ n' + 2 ≤ n2) c.ins.length ⟨0, rfl, by omega, by omega, rfl, by omega⟩ ?_
    rintro k xs H2 n2 ⟨j, rfl, hj, rfl, rfl, hn2⟩
    by_cases hjl : j < c.ins.length
    · have hadj : IntKind.i64.wrap ((j : Int) + 1) = ((j + 1 : Nat) : Int) := by rw [i64w (by omega)]; rfl
      generalize hii : c.ins[j] = ii
      simp [zcn, hjl, z0, z1, hii, Ins.avs, hadj, zarh]
      exact ⟨c.ins.length - (j + 1), by omega, j + 1, rfl, by omega, rfl, hn2⟩
    · have hjg : ¬ (j : Int) < c.ins.length := by omega
      simp [zcn, hjg, hadd]
      exact hK _ _ zk (by omega)
  · have hge : ¬ (i : Int) < p.codes.length := by omega
    simp [zdy, hge]
    exact hQ _ _ fun g hg => (hk g (by omega)).trans (xk g hg)
set_option maxRecDepth 20000 in
set_option maxHeartbeats 1000000 in
theorem zanr (a : Agt) (h1 : a.prog.codes.length ≤ 4611686018427387904) (h2 : a.prog.words.length ≤ 4611686018427387904) (h3 : ∀ c ∈ a.prog.codes, c.ins.length ≤ 4611686018427387904) (h4 : a.frames.length ≤ 4611686018427387904) (h5 : a.heap.length ≤ 4611686018427387904)
    (h6 : ∀ f ∈ a.frames, f.vars.length ≤ 4611686018427387904 ∧ f.stack.length ≤ 4611686018427387904) : QC Tryz.prog 10 [.agg a.avs, .agg a.avs] (.bool true) := by
  refine QC.of' fun H nx => ?_
  suffices main : ∀ Q : AV → Heap → Nat → Prop, (∀ H' n', Keep nx H' H → Q (.bool true) H' n') → za Tryz.prog 10 [.agg a.avs, .agg a.avs] H nx Q from main _ fun H' n' h => ⟨zxw, h⟩
  intro Q hQ
  refine zqm _ _ H nx _ ?_
  have m : nx ≠ nx + 1 := by omega
  simp [zkn, Agt.avs, m, zarg]
  generalize hX : Heap.put _ (nx + 1) _ = X
  have x0 : X nx = some (.row 9 a.avs) := by rw [← hX, Heap.put_ne _ _ m, Heap.put_at]; rfl
  have x1 : X (nx + 1) = some (.row 9 a.avs) := by rw [← hX, Heap.put_at]; rfl
  have xk : Keep nx X H := fun g hg => by rw [← hX, Heap.put_ne _ _ (by omega), Heap.put_ne _ _ (by omega)]
  clear hX
  refine QC.call (zanp a.prog h1 h2 h3) ?_
  have e4 : a.avs[4]'(by simp [Agt.avs]) = .ro (a.frames.map Frm.avs) := rfl
  have e5 : a.avs[5]'(by simp [Agt.avs]) = .ro (a.heap.map Cl.avs) := rfl
  have al : a.avs.length = 9 := rfl
  have sc := zanq a.heap a.heap h5
  rw [decide_eq_true rfl] at sc
  simp [zko, x0, x1, e4, e5, al]
  refine QC.call sc ?_
  simp [zkp, x0, x1, e4, al]
  refine LP.mk (fun k xs H' n' => ∃ i : Nat, xs = [.ptr (nx + 1) 0, .ro (a.frames.map Frm.avs), .int .i64 a.frames.length, .int .i64 i] ∧ i ≤ a.frames.length ∧ k = a.frames.length - i ∧ (∀ g, g < nx + 2 → H' g = X g) ∧ nx + 2 ≤ n') a.frames.length ⟨0, rfl, by omega, by omega, fun _ _ => rfl, by omega⟩ ?_
  rintro k xs H' n' ⟨i, rfl, hi, rfl, hk, hn⟩
  by_cases hlt : i < a.frames.length
  · have hadd : IntKind.i64.wrap ((i : Int) + 1) = ((i + 1 : Nat) : Int) := by rw [i64w (by omega)]; rfl
    have y1 : H' (nx + 1) = some (.row 9 a.avs) := by rw [hk _ (by omega)]; exact x1
    have hci := h6 a.frames[i] (List.getElem_mem hlt)
    generalize hcc : a.frames[i] = c at *
    have sv := zadi c.vars c.vars hci.1
    have ss := zadi c.stack c.stack hci.2
    rw [decide_eq_true rfl] at sv ss
    have ne_1 : nx ≠ nx + 1 ∧ nx + 1 ≠ nx ∧ nx ≠ n' ∧ n' ≠ nx ∧ nx ≠ n' + 1 ∧ n' + 1 ≠ nx ∧ nx + 1 ≠ n' ∧ n' ≠ nx + 1 ∧ nx + 1 ≠ n' + 1 ∧ n' + 1 ≠ nx + 1 := ⟨by omega, by omega, by omega, by omega, by omega, by omega, by omega, by omega, by omega, by omega⟩
    simp [zfa, hlt, y1, e4, al, hcc, Frm.avs, ne_1]
    generalize hY : Heap.put _ (n' + 1) _ = Y
    have z0 : Y n' = some (.row 4 [.int .i64 c.fn, .int .i64 c.at_, .ro (c.vars.map Val.avs), .ro (c.stack.map Val.avs)]) := by rw [← hY, Heap.put_ne _ _ (by omega), Heap.put_at]
    have z1 : Y (n' + 1) = some (.row 4 [.int .i64 c.fn, .int .i64 c.at_, .ro (c.vars.map Val.avs), .ro (c.stack.map Val.avs)]) := by rw [← hY, Heap.put_at]
    refine QC.call sv ?_
    simp [zkq, z0, z1]
    refine QC.call ss ?_
    simp [zkr, hadd]
    refine ⟨a.frames.length - (i + 1), by omega, i + 1, rfl, by omega, rfl, fun g hg => ?_, by omega⟩
    rw [← hY, Heap.put_ne _ _ (by omega), Heap.put_ne _ _ (by omega)]; exact hk g hg
  · have hge : ¬ (i : Int) < a.frames.length := by omega
    simp [zfa, hge]
    exact hQ _ _ fun g hg => (hk g (by omega)).trans (xk g hg)
end Go.Proofs.YtpbnaaoilgohkaaGreatDoor
set_option maxRecDepth 8000
namespace Go.Proofs.YtpbnaaoilgohkaaGreatDoor
open Go Go.RowKit
def fl (l : List Val) : List AV := (l.map Val.avs).flatten
theorem zaha (v : Val) (l : List Val) : fl (v :: l) = v.avs ++ fl l := rfl
theorem zall (l m : List Val) : fl (l ++ m) = fl l ++ fl m := by simp [fl]
theorem zaef (l : List Val) : (fl l).length = l.length * 3 := by
  induction l with
  | nil => rfl
  | cons v r ih => rw [zaha, List.length_append, ih, zahk, List.length_cons]; omega
theorem zalk (l : List Val) : ∀ x ∈ fl l, x.one = true := by
  intro x hx
  simp [fl] at hx
  obtain ⟨_, ⟨v, _, rfl⟩, h⟩ := hx
  unfold Val.avs at h
  simp at h
  rcases h with rfl | rfl | rfl <;> rfl
theorem zath (l : List Val) (j : Nat) (v : Val) (h : l[j]? = some v) : ((fl l).drop (j * 3)).take 3 = v.avs := by
  induction l generalizing j with
  | nil => simp at h
  | cons w r ih =>
    cases j with
    | zero => simp at h; subst h; rfl
    | succ j =>
      rw [zaha, List.drop_append, List.drop_of_length_le (by simp; omega), zahk, show (j + 1) * 3 - 3 = j * 3 by omega, List.nil_append]
      exact ih j (by simpa using h)
set_option maxHeartbeats 4000000 in
theorem zxg (a : Agt) (k : Nat) (f : Frm) (hv : Int) (away : Bool) (r1 r2 : AV) (H H0 : Heap) (nx n0 g b0 : Nat) (K : J3) (R : Int) (hg : H g = some (.row 9 a.avs)) (hgn : g < nx) (hb : H b0 = some (.row 4 f.avs)) (hbn : b0 < nx) (hn0 : n0 ≤ nx) (hK : Keep n0 H H0) (hvl : f.vars.length ≤ 8) (hb16 : hv ≤ 16) (hk12 : k ≤ 12)
    (hbad : zaj a f.vars f.stack hv ≠ 0 → R = zaj a f.vars f.stack hv)
    (hgo : zaj a f.vars f.stack hv = 0 → ∀ H' nx', H' g = some (.row 9 a.avs) → Keep n0 H' H0 → nx ≤ nx' → K [.bool away, .ptr g 0, r1, r2, .int .i64 (k + 1)] H' nx') :
    zbi (fun v H' _ => Frz H' n0 v (.int .i64 R) ∧ Keep n0 H' H0) K [.bool away, .ptr g 0, .ptr b0 0, .int .i64 hv, r1, r2, .int .i64 k] H nx := by
  by_cases h1 : hv < 0 ∨ (f.stack.length : Int) ≠ hv
  · have e : zaj a f.vars f.stack hv = 10 := by unfold zaj; rw [if_pos h1]
    have hR := hbad (by omega)
    rw [hR, e]
    by_cases h2 : hv < 0
    · simp [zbi, h2, hK]
    · have h3 : ¬ hv = (f.stack.length : Int) := by omega
      simp [zbi, h2, h3, hK, hb, Frm.avs]
  have e : zaj a f.vars f.stack hv = VM.firstErr (fun v => VM.wrong v a.heap.length) (f.vars ++ f.stack) := by unfold zaj; rw [if_neg h1]
  rw [e] at hbad hgo
  have h2 : ¬ hv < 0 := by omega
  have h3 : hv = (f.stack.length : Int) := by omega
  have n1' : b0 ≠ nx := by omega
  have n2' : b0 ≠ nx + 1 := by omega
  have hs1 : ∀ H : Heap, zg 3 H (.ro (f.vars.map Val.avs)) = some (f.vars.length, fl f.vars, []) := fun H => by rw [znu (by simp)]; simp [fl]
  have hs2 : ∀ H : Heap, zg 3 H (.ro (f.stack.map Val.avs)) = some (f.stack.length, fl f.stack, []) := fun H => by rw [znu (by simp)]; simp [fl]
  simp [zbi, h2, h3, hb, Frm.avs, n1', n2', -znu, hs1, hs2]
  have htk : List.take (f.vars.length * 3) (fl f.vars) = fl f.vars := List.take_of_length_le (by rw [zaef]; omega)
  rw [htk, ← zall]
  refine ⟨fun h => by omega, zalk _, by omega, zalk _, by rw [zaef]; omega, by omega, by omega, by omega, ?_⟩
  have hll : (f.vars ++ f.stack).length = f.vars.length + f.stack.length := by simp
  generalize f.vars ++ f.stack = l at *
  refine LP.mk (fun m xs H' nx' => ∃ (j : Nat), j ≤ l.length ∧ m = l.length - j ∧ xs = [.bool away, .ptr g 0, r1, r2, .int .i64 k, .slc (nx + 1 + 1) 0 l.length, .int .i64 l.length, .int .i64 j] ∧ H' (nx + 1 + 1) = some (.row 3 (fl l)) ∧ H' g = some (.row 9 a.avs) ∧ Keep n0 H' H0 ∧ nx + 2 < nx' ∧
    VM.firstErr (fun v => VM.wrong v a.heap.length) l = VM.firstErr (fun v => VM.wrong v a.heap.length) (l.drop j)) l.length
    ⟨0, by omega, by omega, by simp [hll], by simp, ?_, ?_, by omega, rfl⟩ ?_
  · rw [Heap.put_ne _ _ (by omega), Heap.put_ne _ _ (by omega), Heap.put_ne _ _ (by omega)]; exact hg
  · rw [Keep.put (by omega), Keep.put (by omega), Keep.put (by omega)]; exact hK
  rintro m xs H2 n2 ⟨j, hj, rfl, rfl, hb2, hg2, hK2, hn2, hfj⟩
  by_cases hjl : j < l.length
  · obtain ⟨v, hv'⟩ : ∃ v, l[j]? = some v := ⟨_, List.getElem?_eq_getElem hjl⟩
    have m1 : g ≠ n2 := by omega
    have m2 : nx + 1 + 1 ≠ n2 := by omega
    have hfa := zath l j v hv'
    have hlen3 : j * 3 + 3 ≤ (fl l).length := by rw [zaef]; omega
    simp only [Val.avs] at hfa
    simp [zjb, hjl, hb2, hfa, hg2, m1, Agt.avs, hlen3]
    refine QC.call (zuq v _) ?_
    simp [zow]
    rw [zbc _ _ _ _ hv'] at hfj
    have hK3 : Keep n0 (H2.put n2 (some (.row 3 [.int .i64 v.kind, .int .i64 v.n, .str v.text]))) H0 := by rw [Keep.put (by omega)]; exact hK2
    refine ⟨fun hz => ⟨?_, hK3⟩, fun hz => ?_⟩
    · rw [if_pos hz] at hfj
      rw [hbad (by rw [hfj]; exact hz), hfj]
    · rw [if_neg (by simpa using hz)] at hfj
      rw [i64w (by omega)]
      exact ⟨l.length - (j + 1), by omega, j + 1, by omega, rfl, rfl, by rw [if_neg m2]; exact hb2, by rw [if_neg m1]; exact hg2, hK3, by omega, hfj⟩
  obtain rfl : j = l.length := by omega
  have hz : VM.firstErr (fun v => VM.wrong v a.heap.length) l = 0 := by rw [hfj]; simp [VM.firstErr]
  simp [zjb]
  rw [i64w (by omega)]
  exact hgo hz _ _ hg2 hK2 (by omega)
end Go.Proofs.YtpbnaaoilgohkaaGreatDoor
set_option maxRecDepth 8000
namespace Go.Proofs.YtpbnaaoilgohkaaGreatDoor
open Go Go.RowKit
set_option maxHeartbeats 4000000 in
theorem zagd (a : Agt) (k : Nat) (away : Bool) (H H0 : Heap) (nx n0 g : Nat) (K : J3) (R : Int) (hg : H g = some (.row 9 a.avs)) (hgn : g < nx) (hn0 : n0 ≤ nx) (hK : Keep n0 H H0) (hk : k < a.frames.length) (hl : a.frames.length ≤ 12) (hp : VM.program a.prog = 0)
    (hbad : VM.frame a k away ≠ 0 → R = VM.frame a k away)
    (hgo : VM.frame a k away = 0 → ∀ H' nx', H' g = some (.row 9 a.avs) → Keep n0 H' H0 → nx ≤ nx' → K [.bool away, .ptr g 0, .ro (a.frames.map Frm.avs), .int .i64 a.frames.length, .int .i64 (k + 1)] H' nx') :
    zak (fun v H' _ => Frz H' n0 v (.int .i64 R) ∧ Keep n0 H' H0) K [.bool away, .ptr g 0, .ro (a.frames.map Frm.avs), .int .i64 a.frames.length, .int .i64 k] H nx := by
  obtain ⟨f, hf⟩ : ∃ f, a.frames[k]? = some f := ⟨_, List.getElem?_eq_getElem hk⟩
  obtain ⟨_, hf'⟩ := List.getElem?_eq_some_iff.1 hf
  obtain ⟨fn, at_, vs, st⟩ := f
  have hgx : g ≠ nx := by omega
  have hgx1 : g ≠ nx + 1 := by omega
  have hKf : ∀ o, Keep n0 (H.put nx o) H0 := fun o => by rw [Keep.put (by omega)]; exact hK
  have hKf2 : ∀ o o', Keep n0 ((H.put nx o).put (nx + 1) o') H0 := fun o o' => by rw [Keep.put (by omega), Keep.put (by omega)]; exact hK
  by_cases h1 : 0 ≤ fn ∧ fn < a.prog.codes.length
  case neg =>
    have e : VM.frame a k away = 3 := by
      unfold VM.frame
      rw [hf]
      have : (if 0 ≤ fn then a.prog.codes[fn.toNat]? else none) = none := by
        split
        · exact List.getElem?_eq_none (by omega)
        · rfl
      simp only [this]
    have hR := hbad (by omega)
    rw [hR, e]
    by_cases h0 : fn < 0
    · simp [zak, hg, Agt.avs, hk, hf', Frm.avs, h0, hKf]
    · have : (a.prog.codes.length : Int) ≤ fn := by omega
      simp [zak, hg, Agt.avs, hk, hf', Frm.avs, h0, this, hKf, hgx]
  obtain ⟨h10, h11⟩ := h1
  obtain ⟨n, rfl⟩ : ∃ n : Nat, fn = n := ⟨fn.toNat, by omega⟩
  have hnl : n < a.prog.codes.length := by omega
  obtain ⟨c, hc⟩ : ∃ c, a.prog.codes[n]? = some c := ⟨_, List.getElem?_eq_getElem hnl⟩
  obtain ⟨_, hc'⟩ := List.getElem?_eq_some_iff.1 hc
  obtain ⟨hcr, hcalm, hch⟩ := (zbz hp).1 c (List.mem_of_getElem? hc)
  have hcr' : ¬ (c.params < 0 ∨ 4 < c.params ∨ c.vars < c.params ∨ 8 < c.vars ∨ c.ins.length < 1 ∨ 200 < c.ins.length) := by
    unfold VM.codeRange at hcr
    rwa [decide_eq_false_iff_not] at hcr
  have hnn : ¬ (a.prog.codes.length ≤ n) := by omega
  have hn0' : ¬ ((n : Int) < 0) := by omega
  by_cases h2 : (0 ≤ at_ ∧ at_ < c.ins.length) ∧ (vs.length : Int) = c.vars
  case neg =>
    have e : VM.frame a k away = 3 := by
      unfold VM.frame
      rw [hf]
      simp only [Int.toNat_natCast]
      rw [if_pos (by omega), hc]
      simp only
      by_cases hat : 0 ≤ at_ ∧ at_ < c.ins.length
      · rw [if_pos hat.1, List.getElem?_eq_getElem (by omega)]
        simp only
        rw [if_pos (by omega)]
      · have : (if 0 ≤ at_ then c.ins[at_.toNat]? else none) = none := by
          split
          · exact List.getElem?_eq_none (by omega)
          · rfl
        simp only [this]
    have hR := hbad (by omega)
    rw [hR, e]
    by_cases h0 : at_ < 0
    · simp [zak, hg, Agt.avs, hk, hf', Frm.avs, hn0', hnn, hnl, hc', h0, Cod.avs, hKf, hKf2, hgx, hgx1]
    · by_cases h3 : (c.ins.length : Int) ≤ at_
      · simp [zak, hg, Agt.avs, hk, hf', Frm.avs, hn0', hnn, hnl, hc', h0, h3, Cod.avs, hKf, hKf2, hgx, hgx1]
      · have h4 : ¬ (vs.length : Int) = c.vars := by omega
        simp [zak, hg, Agt.avs, hk, hf', Frm.avs, hn0', hnn, hnl, hc', h0, h3, h4, Cod.avs, hKf, hKf2, hgx, hgx1]
  obtain ⟨⟨h20, h21⟩, h22⟩ := h2
  obtain ⟨m, rfl⟩ : ∃ m : Nat, at_ = m := ⟨at_.toNat, by omega⟩
  have hml : m < c.ins.length := by omega
  have hm0' : ¬ ((m : Int) < 0) := by omega
  obtain ⟨hhl, hhb⟩ := zex hcalm hch
  obtain ⟨h, hh⟩ : ∃ h, (VM.heights c.ins).1[m]? = some h := ⟨_, List.getElem?_eq_getElem (by omega)⟩
  obtain ⟨hm1, hh'⟩ := List.getElem?_eq_some_iff.1 hh
  have hhb' := hhb h (List.mem_of_getElem? hh)
  have hfe := zxx (away := away) hf hc hml h22 rfl hh
  have hnm : ¬ (c.ins.length ≤ m) := by omega
  simp [zak, hg, Agt.avs, hk, hf', Frm.avs, hn0', hnn, hnl, hc', h22, Cod.avs, hm0', hml, hnm, hgx, hgx1]
  refine QC.call (zxe c (by omega) hcalm) ?_
  have hg2 : ((H.put nx (some (.row 4 [.int .i64 n, .int .i64 m, .ro (vs.map Val.avs), .ro (st.map Val.avs)]))).put (nx + 1) (some (.row 3 [.int .i64 c.params, .int .i64 c.vars, .ro (c.ins.map Ins.avs)]))) g = some (.row 9 a.avs) := by rw [Heap.put_ne _ _ hgx1, Heap.put_ne _ _ hgx]; exact hg
  have hf2 : ((H.put nx (some (.row 4 [.int .i64 n, .int .i64 m, .ro (vs.map Val.avs), .ro (st.map Val.avs)]))).put (nx + 1) (some (.row 3 [.int .i64 c.params, .int .i64 c.vars, .ro (c.ins.map Ins.avs)]))) nx = some (.row 4 [.int .i64 n, .int .i64 m, .ro (vs.map Val.avs), .ro (st.map Val.avs)]) := by rw [Heap.put_ne _ _ (by omega), Heap.put_at]
  have hc2 : ((H.put nx (some (.row 4 [.int .i64 n, .int .i64 m, .ro (vs.map Val.avs), .ro (st.map Val.avs)]))).put (nx + 1) (some (.row 3 [.int .i64 c.params, .int .i64 c.vars, .ro (c.ins.map Ins.avs)]))) (nx + 1) = some (.row 3 [.int .i64 c.params, .int .i64 c.vars, .ro (c.ins.map Ins.avs)]) := Heap.put_at _ _ _
  have hK2 := hKf2 (some (.row 4 [.int .i64 n, .int .i64 m, .ro (vs.map Val.avs), .ro (st.map Val.avs)])) (some (.row 3 [.int .i64 c.params, .int .i64 c.vars, .ro (c.ins.map Ins.avs)]))
  generalize ((H.put nx (some (.row 4 [.int .i64 n, .int .i64 m, .ro (vs.map Val.avs), .ro (st.map Val.avs)]))).put (nx + 1) (some (.row 3 [.int .i64 c.params, .int .i64 c.vars, .ro (c.ins.map Ins.avs)]))) = H1 at *
  have w1 : IntKind.i64.wrap ((a.frames.length : Int) - 1) = (a.frames.length : Int) - 1 := i64w (by omega)
  have hvl : vs.length ≤ 8 := by omega
  simp [zov, hf2, hm1, hh', hg2, Agt.avs, w1]
  refine JN.same ?_
  simp [zox]
  refine JN.same ?_
  have key : zcm (fun v H' _ => Frz H' n0 v (.int .i64 R) ∧ Keep n0 H' H0) (zbi (fun v H' _ => Frz H' n0 v (.int .i64 R) ∧ Keep n0 H' H0) K)
      [.bool away, .ptr g 0, .int .i64 k, .ptr nx 0, .ptr (nx + 1) 0, .ro ((VM.heights c.ins).1.map fun n => [.int .i64 n]), .int .i64 h, .bool (decide (k + 1 = a.frames.length)), .ro (a.frames.map Frm.avs), .int .i64 a.frames.length, .int .i64 k, .bool (!decide (k + 1 = a.frames.length) || away)] H1 (nx + 2) := by
    cases hw : (!decide (k + 1 = a.frames.length) || away)
    · rw [hw] at hfe
      simp only [Bool.false_and, Bool.false_eq_true, if_false] at hfe
      rw [hfe] at hbad hgo
      simp [zcm]
      exact zxg a k ⟨n, m, vs, st⟩ h away _ _ H1 H0 (nx + 2) n0 g nx K R hg2 (by omega) hf2 (by omega) (by omega) hK2 hvl hhb'.2 (by omega) hbad fun h0 H' nx' q1 q2 q3 => hgo h0 H' nx' q1 q2 (by omega)
    rw [hw] at hfe
    simp only [Bool.true_and, if_true] at hfe
    cases m with
    | zero =>
      have e10 : VM.frame a k away = 10 := by rw [hfe]; simp
      have hR := hbad (by omega)
      rw [hR, e10]
      have w2 : IntKind.i64.wrap (h - 1) = h - 1 := i64w (by omega)
      simp [zcm, hf2, hK2]
    | succ m =>
    have h00 : ¬ ((m : Int) + 1 = 0) := by omega
    have w2 : IntKind.i64.wrap (h - 1) = h - 1 := i64w (by omega)
    have w3 : IntKind.i64.wrap (m : Int) = m := i64w (by omega)
    have hml' : m < c.ins.length := by omega
    obtain ⟨i, hi⟩ : ∃ i, c.ins[m]? = some i := ⟨_, List.getElem?_eq_getElem hml'⟩
    obtain ⟨_, hi'⟩ := List.getElem?_eq_some_iff.1 hi
    obtain ⟨q, hq⟩ : ∃ q, (VM.heights c.ins).1[m]? = some q := ⟨_, List.getElem?_eq_getElem (by omega)⟩
    obtain ⟨hqm, hq'⟩ := List.getElem?_eq_some_iff.1 hq
    have z1 : nx ≠ nx + 2 := by omega
    have z2 : nx + 1 ≠ nx + 2 := by omega
    have z3 : g ≠ nx + 2 := by omega
    have hg3 : (H1.put (nx + 2) (some (.row 3 [.int .i64 i.op, .int .i64 i.a, .int .i64 i.b]))) g = some (.row 9 a.avs) := by rw [Heap.put_ne _ _ z3]; exact hg2
    have hf3 : (H1.put (nx + 2) (some (.row 3 [.int .i64 i.op, .int .i64 i.a, .int .i64 i.b]))) nx = some (.row 4 [.int .i64 n, .int .i64 ((m + 1 : Nat) : Int), .ro (vs.map Val.avs), .ro (st.map Val.avs)]) := by rw [Heap.put_ne _ _ z1]; exact hf2
    have hi3 : (H1.put (nx + 2) (some (.row 3 [.int .i64 i.op, .int .i64 i.a, .int .i64 i.b]))) (nx + 2) = some (.row 3 [.int .i64 i.op, .int .i64 i.a, .int .i64 i.b]) := Heap.put_at _ _ _
    have hK3 : Keep n0 (H1.put (nx + 2) (some (.row 3 [.int .i64 i.op, .int .i64 i.a, .int .i64 i.b]))) H0 := by rw [Keep.put (by omega)]; exact hK2
    have hbp : zey a k c (VM.heights c.ins).1 (m + 1) = ((!decide (k + 1 = a.frames.length) && (decide (i.op ≠ 17) || decide (i.a ≠ ((a.frames[k + 1]?).map (·.fn)).getD 0))) || (decide (k + 1 = a.frames.length) && decide (i.op ≠ 13)) || decide (q < 0)) := by
      unfold zey
      simp only [Nat.add_sub_cancel, List.getD_eq_getElem?_getD, hi, hq, Option.getD_some]
    have hbadv : zey a k c (VM.heights c.ins).1 (m + 1) = true → R = 10 := fun hb => by
      have : VM.frame a k away = 10 := by rw [hfe, if_pos (by simp [hb])]
      rw [hbad (by omega), this]
    have hfin : zey a k c (VM.heights c.ins).1 (m + 1) = false → zbi (fun v H' _ => Frz H' n0 v (.int .i64 R) ∧ Keep n0 H' H0) K [.bool away, .ptr g 0, .ptr nx 0, .int .i64 (h - 1), .ro (a.frames.map Frm.avs), .int .i64 a.frames.length, .int .i64 k] (H1.put (nx + 2) (some (.row 3 [.int .i64 i.op, .int .i64 i.a, .int .i64 i.b]))) (nx + 2 + 1) := by
      intro hb
      have e : VM.frame a k away = zaj a vs st (h - 1) := by rw [hfe, if_neg (by simp [hb]; omega)]
      rw [e] at hbad hgo
      exact zxg a k ⟨n, ((m + 1 : Nat) : Int), vs, st⟩ (h - 1) away _ _ _ H0 (nx + 2 + 1) n0 g nx K R hg3 (by omega) hf3 (by omega) (by omega) hK3 hvl (by omega) (by omega) hbad fun h0 H' nx' q1 q2 q3 => hgo h0 H' nx' q1 q2 (by omega)
    rw [hbp] at hfin hbadv
    by_cases hlast : k + 1 = a.frames.length
    · simp [hlast] at hfin hbadv
      simp [zcm, hf2, hc2, h00, w2, w3, hml', hi', Ins.avs, z1, z2, hqm, hq', hlast]
      refine ⟨fun hq0 => ⟨fun h13 => ⟨hbadv (.inl h13), hK3⟩, fun h13 => hfin h13 hq0⟩, fun hq0 => ⟨hbadv (.inr hq0), hK3⟩⟩
    · have hk2 : k + 1 < a.frames.length := by omega
      obtain ⟨f2, hf2'⟩ : ∃ f2, a.frames[k + 1]? = some f2 := ⟨_, List.getElem?_eq_getElem hk2⟩
      obtain ⟨_, hf2''⟩ := List.getElem?_eq_some_iff.1 hf2'
      rw [hf2'] at hfin hbadv
      simp [hlast] at hfin hbadv
      have w4 : IntKind.i64.wrap ((k : Int) + 1) = (k : Int) + 1 := i64w (by omega)
      have hk2i : (k : Int) + 1 < a.frames.length := by omega
      have hk0 : (0 : Int) ≤ (k : Int) + 1 := by omega
      have htn : ((k : Int) + 1).toNat = k + 1 := by omega
      simp [zcm, hf2, hc2, h00, w2, w3, w4, hml', hi', Ins.avs, z1, z2, z3, hqm, hq', hlast, hg2, Agt.avs, hk2i, hk0, htn, hk2, hf2'', Frm.avs]
      refine ⟨fun hq0 => ⟨fun h17 => ⟨fun ha => ⟨hbadv (.inl (.inr ha)), hK3⟩, fun ha => hfin h17 ha hq0⟩, fun h17 => ⟨hbadv (.inl (.inl h17)), hK3⟩⟩, fun hq0 => ⟨hbadv (.inr hq0), hK3⟩⟩
  by_cases hlast : k + 1 = a.frames.length
  · have l2 : (k : Int) = (a.frames.length : Int) - 1 := by omega
    simp [zjd, l2]
    simp [hlast, l2] at key
    exact key
  · have l2 : ¬ (k : Int) = (a.frames.length : Int) - 1 := by omega
    simp [zjd, l2]
    simp [hlast] at key
    exact key
end Go.Proofs.YtpbnaaoilgohkaaGreatDoor
set_option maxRecDepth 8000
namespace Go.Proofs.YtpbnaaoilgohkaaGreatDoor
open Go Go.RowKit
set_option maxHeartbeats 4000000 in
theorem zacc (a : Agt) (away : Bool) (ha : a.prog.ok) (hhl : a.heap.length ≤ 4611686018427387904) : QC Tryz.prog 7 [.agg a.avs, .bool away] (.int .i64 (VM.agent a away)) := by
  refine QC.of' fun H nx => zuh _ _ H nx _ ?_
  simp [zos, Agt.avs]
  refine QC.call (zafs a.prog ha) ?_
  have hg : (H.put nx (some (.row 9 [.int .i64 a.id, .int .i64 a.trip, .ro (a.prog.codes.map Cod.avs), .ro (a.prog.words.map fun w => [.str w]), .ro (a.frames.map Frm.avs), .ro (a.heap.map Cl.avs), .int .i64 a.permit.fuel, .int .i64 a.permit.room, .int .i64 a.permit.hops]))) nx = some (.row 9 a.avs) := Heap.put_at _ _ _
  have hK : Keep nx (H.put nx (some (.row 9 [.int .i64 a.id, .int .i64 a.trip, .ro (a.prog.codes.map Cod.avs), .ro (a.prog.words.map fun w => [.str w]), .ro (a.frames.map Frm.avs), .ro (a.heap.map Cl.avs), .int .i64 a.permit.fuel, .int .i64 a.permit.room, .int .i64 a.permit.hops]))) H := by simp
  generalize (H.put nx (some (.row 9 [.int .i64 a.id, .int .i64 a.trip, .ro (a.prog.codes.map Cod.avs), .ro (a.prog.words.map fun w => [.str w]), .ro (a.frames.map Frm.avs), .ro (a.heap.map Cl.avs), .int .i64 a.permit.fuel, .int .i64 a.permit.room, .int .i64 a.permit.hops]))) = H1 at *
  by_cases hp : VM.program a.prog = 0
  case neg =>
    have e : VM.agent a away = VM.program a.prog := by unfold VM.agent; rw [if_pos hp]
    rw [e]
    simp [zjc, hp, hK]
  simp [zjc, hp, hg, Agt.avs]
  have e3 : (a.id < 0 ∨ 1073741824 < a.id ∨ a.trip < 0 ∨ 1073741824 < a.trip ∨ a.permit.fuel < 0 ∨ 2000 < a.permit.fuel ∨ a.permit.room < 0 ∨ 60 < a.permit.room ∨ a.permit.hops < 0 ∨ 12 < a.permit.hops) → VM.agent a away = 3 := fun h => by
    unfold VM.agent; rw [if_neg (by simpa using hp), if_pos h]
  refine LP.mk (fun m xs H' nx' => ∃ i : Nat, i ≤ 5 ∧ m = 5 - i ∧ xs = [.bool away, .ptr nx 0, .slc (nx + 1) 0 5, .int .i64 5, .int .i64 i] ∧ H' nx = some (.row 9 a.avs) ∧
    H' (nx + 1) = some (.row 2 [.int .i64 a.id, .int .i64 1073741824, .int .i64 a.trip, .int .i64 1073741824, .int .i64 a.permit.fuel, .int .i64 2000, .int .i64 a.permit.room, .int .i64 60, .int .i64 a.permit.hops, .int .i64 12]) ∧ Keep nx H' H ∧ nx + 1 < nx' ∧
    (1 ≤ i → 0 ≤ a.id ∧ a.id ≤ 1073741824) ∧ (2 ≤ i → 0 ≤ a.trip ∧ a.trip ≤ 1073741824) ∧ (3 ≤ i → 0 ≤ a.permit.fuel ∧ a.permit.fuel ≤ 2000) ∧ (4 ≤ i → 0 ≤ a.permit.room ∧ a.permit.room ≤ 60) ∧ (5 ≤ i → 0 ≤ a.permit.hops ∧ a.permit.hops ≤ 12)) 5
    ⟨0, by omega, by omega, by simp, by rw [Heap.put_ne _ _ (by omega)]; exact hg, by simp, by simp [hK], by omega, by omega, by omega, by omega, by omega, by omega⟩ ?_
  rintro m xs H2 n2 ⟨i, hi, rfl, rfl, hg2, hr2, hK2, hn2, i1, i2, i3, i4, i5⟩
  have z1 : nx ≠ n2 := by omega
  have z2 : nx + 1 ≠ n2 := by omega
  have hKf : ∀ o, Keep nx (H2.put n2 o) H := fun o => by rw [Keep.put (by omega)]; exact hK2
  have hic : i = 5 ∨ i = 0 ∨ i = 1 ∨ i = 2 ∨ i = 3 ∨ i = 4 := by omega
  rcases hic with rfl | hic
  · have e0 : VM.agent a away = if a.frames.length < 1 ∨ 12 < a.frames.length then 5 else if 60 - a.permit.room < a.heap.length then 4 else if VM.framesErr a away ≠ 0 then VM.framesErr a away else VM.firstErr (VM.cellErr a.heap.length) a.heap := by
      unfold VM.agent; rw [if_neg (by simpa using hp), if_neg (by have := i1 (by omega); have := i2 (by omega); have := i3 (by omega); have := i4 (by omega); have := i5 (by omega); omega)]
    have i4' := i4 (by omega)
    have w1 : IntKind.i64.wrap ((a.heap.length : Int) + a.permit.room) = (a.heap.length : Int) + a.permit.room := i64w (by omega)
    simp [zbh, hg2, Agt.avs, w1]
    refine ⟨fun h => ⟨by rw [e0, if_pos (by rw [h]; simp)], hK2⟩, fun f1 => ?_⟩
    have hpos : 0 < a.frames.length := List.length_pos_iff.2 f1
    refine ⟨fun h => ⟨by rw [e0, if_pos (by omega)], hK2⟩, fun f2 => ⟨fun h => ⟨by rw [e0, if_neg (by omega), if_pos (by omega)], hK2⟩, fun f3 => ?_⟩⟩
    rw [if_neg (by omega), if_neg (by omega)] at e0
    refine LP.mk (fun m xs H' nx' => ∃ i : Nat, i ≤ a.frames.length ∧ m = a.frames.length - i ∧ xs = [.bool away, .ptr nx 0, .ro (a.frames.map Frm.avs), .int .i64 a.frames.length, .int .i64 i] ∧ H' nx = some (.row 9 a.avs) ∧ Keep nx H' H ∧ nx < nx' ∧ VM.framesErr a away = VM.firstErr (fun k => VM.frame a k away) ((List.range a.frames.length).drop i)) a.frames.length
      ⟨0, by omega, by omega, by simp, hg2, hK2, by omega, rfl⟩ ?_
    rintro m xs H3 n3 ⟨k, hk, rfl, rfl, hg3, hK3, hn3, hfe⟩
    by_cases hlt : k < a.frames.length
    · have hr : (List.range a.frames.length)[k]? = some k := by simp [hlt]
      rw [zbc _ _ _ _ hr] at hfe
      refine zagd a k away H3 H n3 nx nx _ _ hg3 hn3 (by omega) hK3 hlt (by omega) hp (fun hz => ?_) fun hz H' nx' q1 q2 q3 => ?_
      · rw [if_pos hz] at hfe
        rw [e0, hfe, if_pos hz]
      · rw [if_neg (by simpa using hz)] at hfe
        exact ⟨a.frames.length - (k + 1), by omega, k + 1, by omega, rfl, rfl, q1, q2, by omega, hfe⟩
    obtain rfl : k = a.frames.length := by omega
    have hz : VM.framesErr a away = 0 := by rw [hfe, List.drop_of_length_le (by simp)]; rfl
    rw [if_neg (by simpa using hz)] at e0
    simp [zak, hg3, Agt.avs]
    refine LP.mk (fun m xs H' nx' => ∃ i : Nat, i ≤ a.heap.length ∧ m = a.heap.length - i ∧ xs = [.ptr nx 0, .ro (a.heap.map Cl.avs), .int .i64 a.heap.length, .int .i64 i] ∧ H' nx = some (.row 9 a.avs) ∧ Keep nx H' H ∧ nx < nx' ∧ VM.agent a away = VM.firstErr (VM.cellErr a.heap.length) (a.heap.drop i)) a.heap.length
      ⟨0, by omega, by omega, by simp, hg3, hK3, by omega, e0⟩ ?_
    rintro m xs H4 n4 ⟨k, hk, rfl, rfl, hg4, hK4, hn4, hfe⟩
    by_cases hlt : k < a.heap.length
    case neg =>
      obtain rfl : k = a.heap.length := by omega
      simp [zja, hK4]
      rw [hfe]; simp [VM.firstErr]
    obtain ⟨c, hc⟩ : ∃ c, a.heap[k]? = some c := ⟨_, List.getElem?_eq_getElem hlt⟩
    obtain ⟨_, hc'⟩ := List.getElem?_eq_some_iff.1 hc
    rw [zbc _ _ _ _ hc] at hfe
    obtain ⟨l, r⟩ := c
    have m1 : nx ≠ n4 := by omega
    have hce : VM.cellErr a.heap.length ⟨l, r⟩ = if VM.wrong l a.heap.length ≠ 0 then VM.wrong l a.heap.length else VM.wrong r a.heap.length := rfl
    rw [hce] at hfe
    have hg5 : (H4.put n4 (some (.row 6 [.int .i64 l.kind, .int .i64 l.n, .str l.text, .int .i64 r.kind, .int .i64 r.n, .str r.text]))) nx = some (.row 9 a.avs) := by rw [Heap.put_ne _ _ m1]; exact hg4
    have hc5 : (H4.put n4 (some (.row 6 [.int .i64 l.kind, .int .i64 l.n, .str l.text, .int .i64 r.kind, .int .i64 r.n, .str r.text]))) n4 = some (.row 6 [.int .i64 l.kind, .int .i64 l.n, .str l.text, .int .i64 r.kind, .int .i64 r.n, .str r.text]) := Heap.put_at _ _ _
    have hK5 : Keep nx (H4.put n4 (some (.row 6 [.int .i64 l.kind, .int .i64 l.n, .str l.text, .int .i64 r.kind, .int .i64 r.n, .str r.text]))) H := by rw [Keep.put (by omega)]; exact hK4
    simp [zja, hlt, hc', Cl.avs, Val.avs, hg4, m1, Agt.avs]
    generalize (H4.put n4 (some (.row 6 [.int .i64 l.kind, .int .i64 l.n, .str l.text, .int .i64 r.kind, .int .i64 r.n, .str r.text]))) = H5 at *
    refine QC.call (zuq l _) ?_
    simp [zot, hc5, hg5, Agt.avs]
    refine ⟨fun hz => ⟨by rw [hfe, if_pos hz, if_pos hz], hK5⟩, fun hz => ?_⟩
    refine QC.call (zuq r _) ?_
    rw [hz] at hfe
    simp at hfe
    simp [zou]
    refine ⟨fun hz2 => ⟨by rw [hfe]; simp [hz2], hK5⟩, fun hz2 => ?_⟩
    rw [hz2] at hfe
    simp at hfe
    rw [i64w (by omega)]
    exact ⟨a.heap.length - (k + 1), by omega, k + 1, by omega, rfl, rfl, hg5, hK5, by omega, hfe⟩
  rcases hic with rfl | rfl | rfl | rfl | rfl
  · simp [zbh, hr2, hKf]
    refine ⟨fun h => e3 (by omega), fun h => ⟨fun h' => e3 (by omega), fun h' => ?_⟩⟩
    exact ⟨5 - 1, by omega, 1, by omega, rfl, by rw [i64w (by omega)]; rfl, by simp [z1, hg2], by simp [z2], by omega, by omega, by omega, by omega, by omega, by omega⟩
  · simp [zbh, hr2, hKf]
    refine ⟨fun h => e3 (by omega), fun h => ⟨fun h' => e3 (by omega), fun h' => ?_⟩⟩
    exact ⟨5 - 2, by omega, 2, by omega, rfl, by rw [i64w (by omega)]; rfl, by simp [z1, hg2], by simp [z2], by omega, by omega, by omega, by omega, by omega, by omega⟩
  · simp [zbh, hr2, hKf]
    refine ⟨fun h => e3 (by omega), fun h => ⟨fun h' => e3 (by omega), fun h' => ?_⟩⟩
    exact ⟨5 - 3, by omega, 3, by omega, rfl, by rw [i64w (by omega)]; rfl, by simp [z1, hg2], by simp [z2], by omega, by omega, by omega, by omega, by omega, by omega⟩
  · simp [zbh, hr2, hKf]
    refine ⟨fun h => e3 (by omega), fun h => ⟨fun h' => e3 (by omega), fun h' => ?_⟩⟩
    exact ⟨5 - 4, by omega, 4, by omega, rfl, by rw [i64w (by omega)]; rfl, by simp [z1, hg2], by simp [z2], by omega, by omega, by omega, by omega, by omega, by omega⟩
  · simp [zbh, hr2, hKf]
    refine ⟨fun h => e3 (by omega), fun h => ⟨fun h' => e3 (by omega), fun h' => ?_⟩⟩
    exact ⟨5, by omega, by omega, by rw [i64w (by omega)]; rfl, by simp [z1, hg2], by simp [z2], by omega, by omega, by omega, by omega, by omega, by omega⟩
end Go.Proofs.YtpbnaaoilgohkaaGreatDoor
