/- The laws of chapter 9: more is no less; who does not go sees its place alone. The library's laid variables, where a row lists five of them: three tables, two errors. -/
import Derived.Test.YtdmibdjokofclaaGreatDoorG14
import Derived.Test.YtdmibdjokofclaaGreatDoorG15
import Derived.Test.YtdmibdjokofclaaGreatDoorG1
import Derived.Stop.LaidErr
set_option linter.unusedSimpArgs false
set_option linter.unusedVariables false
set_option maxRecDepth 8000
namespace Go.Proofs.YtdmibdjokofclaaGreatDoor
open Go Go.RowKit
namespace VM
theorem goS_len (l : List Spt) : ∀ (k : Nat) (a : Agt) (i : Nat) (said : List Str), (goS l k a i said).1.length ≤ said.length + k
  | 0, _, _, said => Nat.le_refl _
  | k + 1, a, i, said => by
    rw [goS_succ]
    split
    · have := goS_len l k (step a (l.getD i spt0)).1 i said; omega
    · split
      · have := goS_len l k (step a (l.getD i spt0)).1 i (said ++ [(step a (l.getD i spt0)).2.text])
        simp only [List.length_append, List.length_singleton] at this
        omega
      · split
        · have := goS_len l k (landed l i (step a (l.getD i spt0)).1 (step a (l.getD i spt0)).2.text).1 (landed l i (step a (l.getD i spt0)).1 (step a (l.getD i spt0)).2.text).2 said; omega
        · simp only; omega
theorem alone_len (p : Prg) (m : Pmt) (l : List Spt) (at_ : Int) : (alone p m l at_).1.1.length ≤ 2001 := by
  unfold alone
  split
  · simp
  · split
    · simp
    · rename_i h
      split
      · simp
      · have := goS_len l (m.fuel.toNat + 1) (newAgt 0 p m) at_.toNat []
        unfold permitErr at h
        have hf : m.fuel ≤ 2000 := by
          split at h
          · exact absurd (by decide) h
          · omega
        show (goS l (m.fuel.toNat + 1) _ _ _).1.length ≤ 2001
        simp only [List.length_nil] at this
        omega
end VM
theorem zalc : eqsT 36 = true := by kernel_rfl
theorem zaey {ki kj : IntKind} {sz i j : Nat} {xs : List (List AV)} {H : Heap} {kt : Kt} (hs : ∀ x ∈ xs, x.length = sz) (h1 : i ≤ j) (h2 : j ≤ xs.length) (hk : kt (.ro ((xs.take j).drop i)) [] [] []) : zax sz (.ro xs) (some (.int ki (i : Int))) (some (.int kj (j : Int))) H kt := by
  simp only [zax, lohi, PURE, Int.toNat_natCast]
  exact ⟨by omega, by omega, by omega, hs, hk⟩
theorem zalk {A : Nat → Prop} (a : Int) (t : Str) (e : Int) : Bel A (.agg [.int .i64 a, .str t, .int .i64 e]) := .agg _ fun j v hv => by
  match j, hv with
  | 0, hv => cases hv; exact .int _ _
  | 1, hv => cases hv; exact .str _
  | 2, hv => cases hv; exact .int _ _
  | j + 3, hv => simp at hv
theorem zalh {A : Nat → Prop} (r : (List Str × Str × Int) × Int) : Bel A (runV r) := .tup _ fun j v hv => by
  match j, hv with
  | 0, hv => cases hv; exact zgn (zlq _)
  | 1, hv => cases hv; exact zalk _ _ _
  | 2, hv => cases hv; exact .int _ _
  | j + 3, hv => simp at hv
set_option maxRecDepth 20000 in
set_option maxHeartbeats 4000000 in
theorem zaae (l : List Spt) (p : Prg) (m : Pmt) (at_ : Int) (ha : p.ok) (hl : l.length ≤ 4611686018427387903) (hfl : ∀ s ∈ l, s.facts.length ≤ 4611686018427387903) :
    QC Tryz.prog 4 [.ro (Ply l), .agg p.avs, .agg m.avs, .int .i64 at_] (.bool true) := by
  refine QC.of' fun H nx => ?_
  suffices main : ∀ Q : AV → Heap → Nat → Prop, (∀ H' n', Keep nx H' H → Q (.bool true) H' n') → za Tryz.prog 4 [.ro (Ply l), .agg p.avs, .agg m.avs, .int .i64 at_] H nx Q from main _ fun H' n' h => ⟨zaij, h⟩
  intro Q hQ
  refine zmg _ _ _ _ H nx _ ?_
  have hsp : (AV.agg p.avs).sure = true := by simp [Prg.avs]
  have hsm : (AV.agg m.avs).sure = true := by simp [Pmt.avs]
  have pt : p.avs.take 2 = p.avs ∧ p.avs.length = 2 := ⟨rfl, rfl⟩
  have pav : p.avs = [.ro (p.codes.map Cod.avs), .ro (p.words.map fun w => [.str w])] := rfl
  have mt : m.avs.take 3 = m.avs ∧ m.avs.length = 3 := ⟨rfl, rfl⟩
  have hpl : (Ply l).length = l.length := by simp [Ply]
  simp only [zgw, puth]
  refine ⟨hsp, hsm, ?_⟩
  generalize hX : Heap.put _ (nx + 1) _ = X
  have x0 : X nx = some (.row 2 p.avs) := by rw [← hX, Heap.put_ne _ _ (by omega), Heap.put_at]; rfl
  have x1 : X (nx + 1) = some (.row 3 m.avs) := by rw [← hX, Heap.put_at]; rfl
  have xk : Keep nx X H := fun y hy => by rw [← hX]; repeat' first | rw [Heap.put_ne _ _ (by omega)] | rfl
  clear hX
  refine QC.call zagr ?_
  simp [zgx, x0, pt, hsp]
  refine QC.call (zaao p ha) ?_
  by_cases hp : VM.program p = 0
  case neg =>
    simp [zbe, hp]
    exact hQ _ _ xk
  by_cases h0 : at_ < 0
  · simp [zbe, hp, h0]
    exact hQ _ _ xk
  by_cases h1 : (l.length : Int) ≤ at_
  · simp [zbe, hp, h0, h1, hpl]
    exact hQ _ _ xk
  obtain ⟨i, rfl⟩ := Int.eq_ofNat_of_zero_le (show 0 ≤ at_ by omega)
  have hi : i < l.length := by omega
  have h0' : ¬ (i : Int) < 0 := by omega
  have po := VM.prg_ok hp
  simp [zbe, hp, h0', h1, hpl, x0, pav]
  -- behind the codes
  have fin : VM.Stays p → ∀ H' n', nx + 2 ≤ n' → (∀ y, y < nx + 2 → H' y = X y) → za Tryz.prog 7 [.agg p.avs, .agg m.avs, .ro (Ply l), .int .i64 i] H' n' (zci Q [.ro (Ply l), .int .i64 i, .ptr nx 0, .ptr (nx + 1) 0, .ro (p.codes.map Cod.avs), .int .i64 p.codes.length, .int .i64 p.codes.length]) := fun hst H' n' hn hk => by
    have z0 : H' nx = some (.row 2 p.avs) := (hk nx (by omega)).trans x0
    have z1 : H' (nx + 1) = some (.row 3 m.avs) := (hk (nx + 1) (by omega)).trans x1
    have zk : Keep nx H' H := fun y hy => (hk y (by omega)).trans (xk y hy)
    refine QC.call (zaby m l i hp (by omega) hfl) ?_
    have len := VM.alone_len p m l i
    have home := VM.alone_home (p := p) (m := m) (l := l) (i := i) hst hi
    have rq := zaby m [l.getD i VM.spt0] 0 hp (by simp) (fun s hs => by simp only [List.mem_singleton] at hs; subst hs; exact hfl _ (VM.getD_spot hi))
    generalize VM.alone p m l i = r at *
    have kp : ∀ o, Keep nx (H'.put n' o) H := fun o y hy => by rw [Heap.put_ne _ _ (by omega)]; exact zk y hy
    have m1 : ¬ nx + 1 = n' ∧ ¬ n' = nx + 1 ∧ ¬ nx = n' ∧ ¬ n' = nx := by omega
    by_cases he : r.2 = 0
    case neg =>
      simp [zci, runV, he]
      exact hQ _ _ (kp _)
    rw [home he] at rq
    have hw : IntKind.i64.wrap ((i : Int) + 1) = ((i + 1 : Nat) : Int) := by rw [i64w (by omega)]; rfl
    have hs : ((Ply l).take (i + 1)).drop i = Ply [l.getD i VM.spt0] := by
      have e1 : (l.take (i + 1)).drop i = [l[i]] := by rw [List.take_succ_eq_append_getElem hi, List.drop_left' (by rw [List.length_take]; omega)]
      have e2 : l.getD i VM.spt0 = l[i] := by simp [hi]
      rw [e2]
      simp only [Ply]
      rw [← List.map_take, ← List.map_drop, e1]
    simp [zci, runV, he, z0, z1, m1, pt, mt, hsp, hsm, hw]
    refine zaey (i := i) (j := i + 1) (zabm l) (by omega) (by rw [hpl]; omega) ?_
    rw [hs]
    refine zw.of_qc rq (zalh _) ?_
    have e0 : (r.1.1.map fun w => [AV.str w]) = Txt r.1.1 := rfl
    have m2 : ¬ n' = n' + 1 ∧ ¬ n' + 1 = n' := by omega
    unfold runV
    rw [e0]
    simp [zgy, he, m2, zalc]
    refine ⟨by omega, by omega, ?_⟩
    refine QC.call (zahr _ (by omega)) ?_
    simp [zgz]
    refine hQ _ _ fun y hy => ?_
    repeat' first | rw [Heap.put_ne _ _ (by omega)] | exact zk y hy
  refine LP.mk (fun k xs H' n' => ∃ c : Nat, k = p.codes.length - c ∧ c ≤ p.codes.length ∧ xs = [.ro (Ply l), .int .i64 i, .ptr nx 0, .ptr (nx + 1) 0, .ro (p.codes.map Cod.avs), .int .i64 p.codes.length, .int .i64 c] ∧ nx + 2 ≤ n' ∧ (∀ y, y < nx + 2 → H' y = X y) ∧ ∀ d ∈ p.codes.take c, ∀ x ∈ d.ins, x.op ≠ 13) p.codes.length ⟨0, by omega, by omega, rfl, Nat.le_refl _, fun _ _ => rfl, by simp⟩ ?_
  rintro k xs H' n' ⟨c, rfl, hc, rfl, hn, hk, hno⟩
  by_cases hlt : c < p.codes.length
  case neg =>
    obtain rfl : c = p.codes.length := by omega
    rw [List.take_length] at hno
    have z0 : H' nx = some (.row 2 p.avs) := (hk nx (by omega)).trans x0
    have z1 : H' (nx + 1) = some (.row 3 m.avs) := (hk (nx + 1) (by omega)).trans x1
    simp [zcg, z0, z1, pt, mt, hsp, hsm]
    exact fin hno H' n' hn hk
  suffices key : ∀ K17 : J3, (∀ H2 n2, nx + 2 ≤ n2 → (∀ y, y < nx + 2 → H2 y = X y) → (∀ d ∈ p.codes.take (c + 1), ∀ x ∈ d.ins, x.op ≠ 13) → K17 [.ro (Ply l), .int .i64 i, .ptr nx 0, .ptr (nx + 1) 0, .ro (p.codes.map Cod.avs), .int .i64 p.codes.length, .int .i64 ((c + 1 : Nat) : Int)] H2 n2) →
      zcg Q K17 [.ro (Ply l), .int .i64 i, .ptr nx 0, .ptr (nx + 1) 0, .ro (p.codes.map Cod.avs), .int .i64 p.codes.length, .int .i64 c] H' n' from
    key _ fun H2 n2 q1 q2 q3 => ⟨p.codes.length - (c + 1), by omega, c + 1, rfl, by omega, rfl, q1, q2, q3⟩
  intro K17 hK
  have hcc : (p.codes.map Cod.avs)[c]'(by simpa using hlt) = p.codes[c].avs := by simp
  have ht : p.codes.take (c + 1) = p.codes.take c ++ [p.codes[c]] := List.take_succ_eq_append_getElem hlt
  have hil := (po.code p.codes[c] (List.getElem_mem hlt)).1
  have pc := po.codes
  rw [ht] at hK
  have hadd : IntKind.i64.wrap ((c : Int) + 1) = ((c + 1 : Nat) : Int) := by rw [i64w (by omega)]; rfl
  have hgc : p.codes[c]? = some p.codes[c] := List.getElem?_eq_getElem hlt
  generalize hd : p.codes[c] = d at *
  have cl : (p.codes.map Cod.avs).length = p.codes.length := by simp
  simp [zcg, hlt, hd, Cod.avs]
  refine LP.mk (fun k xs H2 n2 => ∃ j : Nat, k = d.ins.length - j ∧ j ≤ d.ins.length ∧ xs = [.ro (Ply l), .int .i64 i, .ptr nx 0, .ptr (nx + 1) 0, .ro (p.codes.map Cod.avs), .int .i64 p.codes.length, .int .i64 c, .ro (d.ins.map Ins.avs), .int .i64 d.ins.length, .int .i64 j] ∧ nx + 2 ≤ n2 ∧ (∀ y, y < nx + 2 → H2 y = X y) ∧ ∀ x ∈ d.ins.take j, x.op ≠ 13) d.ins.length ⟨0, by omega, by omega, rfl, by omega, fun y hy => by rw [Heap.put_ne _ _ (by omega)]; exact hk y hy, by simp⟩ ?_
  rintro k xs H2 n2 ⟨j, rfl, hj, rfl, hn2, hk2, hno2⟩
  by_cases hjl : j < d.ins.length
  · have hadj : IntKind.i64.wrap ((j : Int) + 1) = ((j + 1 : Nat) : Int) := by rw [i64w (by omega)]; rfl
    have ht2 : d.ins.take (j + 1) = d.ins.take j ++ [d.ins[j]] := List.take_succ_eq_append_getElem hjl
    generalize hx : d.ins[j] = x at *
    by_cases h13 : x.op = 13
    · simp [zch, hjl, hx, Ins.avs, h13]
      exact hQ _ _ fun y hy => by rw [Heap.put_ne _ _ (by omega), hk2 y (by omega)]; exact xk y hy
    · simp [zch, hjl, hx, Ins.avs, h13, hadj]
      refine ⟨d.ins.length - (j + 1), by omega, j + 1, by omega, by omega, rfl, by omega, fun y hy => by rw [if_neg (by omega), if_neg (by omega)]; exact hk2 y hy, fun t ht' => ?_⟩
      rw [ht2] at ht'
      rcases List.mem_append.1 ht' with h | h
      · exact hno2 t h
      · simp at h; subst h; exact h13
  · obtain rfl : j = d.ins.length := by omega
    rw [List.take_length] at hno2
    simp [zch, hadd]
    exact hK _ _ hn2 hk2 fun e he => by
      rcases List.mem_append.1 he with h | h
      · exact hno e h
      · simp at h; subst h; exact hno2
end Go.Proofs.YtdmibdjokofclaaGreatDoor
set_option maxRecDepth 8000
namespace Go.Proofs.YtdmibdjokofclaaGreatDoor
open Go Go.RowKit
theorem LayE.of_var {n : String} {w : World} {t : TypeId} {p : Value} (h : w.var? Tryz.prog n = some #[.iface t p]) : LayE n (fun b => w.heap[b]?) := fun g hg => by
  unfold World.var? at h
  rw [hg, Option.bind_some] at h
  split at h
  · rename_i cs e m hc
    cases h
    exact ⟨_, _, e, m, hc⟩
  · cases h
theorem zzk : "*" ++ "errors.errorString" = "*errors.errorString" := by decide
theorem zabs (u : TypeId) (h : Tryz.prog.typeName? 3 u = some "*errors.errorString") : u = 186 :=
  typeName_ptr_named (nm := "errors.errorString") (by rw [zzk]; kernel_rfl) (by kernel_rfl) (by decide) u (by rw [zzk]; exact h)
theorem zadm {r : List (String × DataW Unit)} {text : List UInt8} {W : World} (h : laidMet Tryz.prog (("strconv.ErrRange", .iface "*errors.errorString" (.ptr (.agg [.lit (.string text)]))) :: r) W) : LayE "strconv.ErrRange" (fun b => W.heap[b]?) := by
  obtain ⟨a, s, h1, _⟩ := laid_sentinel (g := 2) (ti := 152) (tp := 186) (te := 188) (ts := 9) h (by kernel_rfl) (by kernel_rfl) Tryz.underlying152 zabs Tryz.underlying186 Tryz.underlying188 rfl rfl Tryz.underlying9 (by kernel_rfl) (by kernel_rfl)
  exact .of_var h1
theorem zaau {r : List (String × DataW Unit)} {text : List UInt8} {W : World} (h : laidMet Tryz.prog (("strconv.ErrSyntax", .iface "*errors.errorString" (.ptr (.agg [.lit (.string text)]))) :: r) W) : LayE "strconv.ErrSyntax" (fun b => W.heap[b]?) := by
  obtain ⟨a, s, h1, _⟩ := laid_sentinel (g := 1) (ti := 152) (tp := 186) (te := 188) (ts := 9) h (by kernel_rfl) (by kernel_rfl) Tryz.underlying152 zabs Tryz.underlying186 Tryz.underlying188 rfl rfl Tryz.underlying9 (by kernel_rfl) (by kernel_rfl)
  exact .of_var h1
end Go.Proofs.YtdmibdjokofclaaGreatDoor
